/-
  The reference's Steps.
-/
import Derived.Test.YtpbbohinhbboaaaDoorPt3
import Derived.Deep.RegionHeld3
namespace Go.Proofs.YtpbbohinhbboaaaDoor.Sx
open Go Go.RowKit Go.Proofs.YtpbbohinhbboaaaDoor.Pt

/-- Where the loop stands at place k: the list L so far. -/
def At (p : ByteArray) (r : List UInt8) (k : Nat) (L : List ByteArray) : Prop :=
  (k = 0 ∧ L = []) ∨ ∃ done cur, L = (done ++ [cur]).map mkB ∧ cur.length ≤ k ∧ scan (p.data.toList.drop k) done cur = scan r [] []
theorem scan_all (r : List UInt8) : scan r [] [] = unescAll (segs 47 r) := by
  rw [scan_segs _ _ _ _ (Nat.le_refl _)]
  cases h : unescAll (segs 47 r) with
  | none => rfl
  | some l =>
    have hl := unescAll_length h
    cases l with
    | nil => exact absurd (List.length_eq_zero_iff.1 hl.symm) (segs_ne 47 r)
    | cons a l => simp [joined]
theorem stepsR_scan {p : ByteArray} {r : List UInt8} (h : p.data.toList = 47 :: r) : stepsR p = match scan r [] [] with | none => ([], 16) | some l => if 10 < l.length then ([], 2) else (l.map mkB, 0) := by
  unfold stepsR
  rw [h, scan_all]
  simp only [if_true]
  cases unescAll (segs 47 r) <;> rfl
theorem at_end {p : ByteArray} {r : List UInt8} {k : Nat} {L : List ByteArray} (h : p.data.toList = 47 :: r) (hk : k = p.size) (ha : At p r k L) : stepsR p = if 10 < L.length then ([], 2) else (L, 0) := by
  have hs : p.data.toList.length = p.size := by simp
  rcases ha with ⟨h0, _⟩ | ⟨done, cur, hL, _, hsc⟩
  · rw [h] at hs; simp at hs; omega
  · rw [List.drop_of_length_le (by omega)] at hsc
    rw [stepsR_scan h, ← hsc]
    simp only [scan]
    rw [hL, List.length_map]
theorem at_slash {p : ByteArray} {r : List UInt8} {k : Nat} {L : List ByteArray} {q : List UInt8} (h : p.data.toList = 47 :: r) (hq : p.data.toList.drop k = 47 :: q) (ha : At p r k L) : At p r (k + 1) (L ++ [mkB []]) := by
  have hq' : p.data.toList.drop (k + 1) = q := by rw [← List.drop_drop, hq]; rfl
  refine .inr ?_
  rcases ha with ⟨h0, rfl⟩ | ⟨done, cur, hL, hc, hsc⟩
  · subst h0
    rw [h] at hq
    injection hq with _ hq
    exact ⟨[], [], rfl, by simp, by rw [hq', hq]⟩
  · refine ⟨done ++ [cur], [], by rw [hL]; simp, by simp, ?_⟩
    rw [hq', ← hsc, hq, scan_slash]
theorem at_ne {p : ByteArray} {r : List UInt8} {k : Nat} {L : List ByteArray} {c : UInt8} {q : List UInt8} (h : p.data.toList = 47 :: r) (hq : p.data.toList.drop k = c :: q) (hc : c ≠ 47) (ha : At p r k L) :
    ∃ done cur, L = done.map mkB ++ [mkB cur] ∧ cur.length ≤ k ∧ scan (c :: q) done cur = scan r [] [] := by
  rcases ha with ⟨h0, rfl⟩ | ⟨done, cur, hL, hl, hsc⟩
  · subst h0
    rw [h] at hq
    injection hq with hq _
    exact absurd hq.symm hc
  · exact ⟨done, cur, by rw [hL]; simp, hl, by rw [← hq]; exact hsc⟩
theorem at_next {p : ByteArray} {r : List UInt8} {k : Nat} {done : List (List UInt8)} {cur q : List UInt8} (hq : p.data.toList.drop k = q) (hl : cur.length ≤ k) (hsc : scan q done cur = scan r [] []) : At p r k (done.map mkB ++ [mkB cur]) :=
  .inr ⟨done, cur, by simp, hl, by rw [hq]; exact hsc⟩

theorem mkB_snoc (l : List UInt8) (c : UInt8) : mkB l ++ oneS c = mkB (l ++ [c]) := by
  apply ByteArray.ext
  simp [mkB]
theorem set_last {α : Type} (l : List α) (x y : α) {i : Nat} (h : i = l.length) : (l ++ [x]).set i y = l ++ [y] := by
  subst h
  rw [List.set_append_right _ _ (Nat.le_refl _), Nat.sub_self]
  rfl
set_option maxRecDepth 100000 in
set_option maxHeartbeats 4000000 in
theorem rsteps_main (p : ByteArray) (r : List UInt8) (w : World) (hs : p.size ≤ 1048576) (hp : p.data.toList = 47 :: r) :
    Calls Tryd.prog 16 #[.string p] w (StepsPost w p) := by
  have HP := Lib.hid hp
  obtain ⟨b1, h0, h1⟩ := cons_at hp
  clear hp
  go_enter Tryd.func16, Tryd.ntmps16
  go_wp2_with fail
  go_loopw [4, 5] (fun o q wr => ∃ (k : Nat) (L : List ByteArray) (A : Option Addr) (c n : Nat), k ≤ p.size ∧ n ≤ k ∧ q = .int .i64 (k : Int) ∧ o = .slice A n c ∧ Hid (n = L.length ∧ SRow w.heap.size wr (.slice A n c) L ∧ Ext w wr ∧ At p r k L)) (fun _ q _ => p.size - (intOf q).toNat)
  case atStart => exact ⟨0, [], none, 0, 0, Nat.zero_le _, Nat.zero_le _, rfl, rfl, rfl, SRow.nil, Below.refl _ _, .inl ⟨rfl, rfl⟩⟩
  case round =>
    obtain ⟨k, L, A, c0, n, hk, hnk, rfl, rfl, hI⟩ := hrel
    by_cases hlt : k < p.size
    · obtain ⟨c, hc⟩ : ∃ c, p[k] = c := ⟨_, rfl⟩
      have hq : p.data.toList.drop k = c :: p.data.toList.drop (k + 1) := by
        rw [List.drop_eq_getElem_cons (by simpa using hlt), ← hc]
        rfl
      have HQ := Lib.hid hq
      clear hq h1
      by_cases h47 : c = 47
      · subst h47
        have HAT := Lib.hid (at_slash HP.out HQ.out hI.out.2.2.2)
        have HE := Lib.hid (fun x => (Below.refl wr.heap.size wr).alloc (Nat.le_refl _) x)
        go_wp2_with (at_builtin; refine append_str (by rfl) _ _ (by rfl) w.heap.size wr.heap.size n ⟨#[]⟩ _ _ L (by rfl) (by rfl) (hI.out.2.1.ext (HE.out _)) (heap_new rfl) hI.out.1.symm (by omega) ?c1 ?_)
        case c1 => exact Nat.le_trans hI.out.2.2.1.size (HE.out _).size
        intro g c9 w4 ho hgr hat
        have hX4 : Ext w w4 := (hI.out.2.2.1.trans (HE.out _)).grown hgr (Nat.le_trans hI.out.2.2.1.size (HE.out _).size) (fun q e => (hI.out.2.1.block q e).1)
        have H4 : Hid (n + 1 = (L ++ [mkB []]).length ∧ SRow w.heap.size w4 (.slice (some ⟨g, 0, none⟩) (n + 1) c9) (L ++ [mkB []]) ∧ Ext w w4 ∧ At p r (k + 1) (L ++ [mkB []])) := ⟨by simp [hI.out.1], ho, hX4, HAT.out⟩
        clear ho hgr hat hX4
        go_wp2
        go_roundw
        case rel => exact ⟨k + 1, L ++ [mkB []], some ⟨g, 0, none⟩, c9, n + 1, by omega, by omega, by go_num, rfl, H4⟩
        case measure => simp [intOf]; omega
      · have hc47 : ((c.toNat : Int) == 47) = false := byte_ne h47
        obtain ⟨done, cur, hL, hcl, hsc⟩ := at_ne HP.out HQ.out h47 hI.out.2.2.2
        have HSC := Lib.hid hsc
        have HCL := Lib.hid hcl
        have hn1 : n = done.length + 1 := by rw [hI.out.1, hL]; simp
        rw [hL] at hI
        obtain ⟨nd, hnd⟩ : ∃ nd, nd = done.length := ⟨_, rfl⟩
        rw [← hnd] at hn1
        have HND := Lib.hid hnd
        subst hn1
        obtain ⟨g, rfl, q1, q2, q3, q4, hcells⟩ := hI.out.2.1.cells (by simp)
        clear q1 q2 q3 q4
        have hlast := hcells nd (by simp [HND.out])
        have hlast' : wr.cell? ⟨g, 0 + nd, none⟩ = some (.string (mkB cur)) := by rw [hlast]; simp [HND.out]
        have hfr := (hI.out.2.1.set (i := nd) (by simp [HND.out]) (mkB cur)).2.2.1
        clear hcells hlast hL hsc hnd
        obtain ⟨u, hu⟩ : ∃ u, u = mkB cur := ⟨_, rfl⟩
        rw [← hu] at hlast'
        have HU := Lib.hid hu
        have hus : u.size ≤ 1048576 := by rw [hu]; simp [mkB, ByteArray.size]; omega
        clear hu
        by_cases h126 : c = 126
        · subst h126
          by_cases hlt2 : k + 1 < p.size
          · have b2 : decide ((k : Int) + 1 < (p.size : Int)) = true := decide_eq_true (by omega)
            have b3 : decide (k + 1 < p.size) = true := decide_eq_true hlt2
            obtain ⟨d, hd⟩ : ∃ d, p[k + 1] = d := ⟨_, rfl⟩
            have hq2 : p.data.toList.drop (k + 1) = d :: p.data.toList.drop (k + 2) := by
              rw [List.drop_eq_getElem_cons (by simpa using hlt2), ← hd]
              rfl
            have HQ2 := Lib.hid hq2
            rw [hq2] at HSC
            clear hq2
            by_cases h48 : d = 48
            · subst h48
              clear h47
              go_upto_region 17 with fail
              have hgl : g < wr.heap.size := (hI.out.2.1.block g rfl).2
              have hlast : wr.cell? ⟨g, nd, none⟩ = some (.string u) := by rw [Nat.zero_add] at hlast'; exact hlast'
              have HAT : Hid (At p r (k + 2) (done.map mkB ++ [mkB (cur ++ [126])])) := at_next rfl (by simp; have := HCL.out; omega) (by rw [← scan_zero]; exact HSC.out)
              have CH : Hid (∀ wk, Ext wr wk → Calls Tryd.prog 40 #[.int .i64 (126 : Int)] wk fun e w' => e = .returned (.string (oneS 126)) ∧ Ext wr w' ∧ w'.cell? ⟨g, nd, none⟩ = some (.string u) ∧ w'.frozen? ⟨g, nd, none⟩ = false) := fun wk hk =>
                (chr_any 126 wk).mono fun e w' ⟨he, hx⟩ => ⟨he, hk.trans hx, ((hk.trans hx).cell (p := ⟨g, nd, none⟩) hgl).trans hlast, ((hk.trans hx).frozen (p := ⟨g, nd, none⟩) hgl).trans hfr⟩
              have hwc : IntKind.i64.wrap (126 : Int) = (126 : Int) := IntWalk.i64_in _ (by omega)
              have hwr : IntKind.i64.wrap (nd : Int) = (nd : Int) := IntWalk.i64_in _ (by omega)
              have hn0 : (0 : Int) ≤ (nd : Int) := by omega
              have hn1 : (nd : Int) < (nd : Int) + 1 := by omega
              have hsum : (9223372036854775807 < u.size + 1) = False := by simp; omega
              have hxx : Ext wr wr := Below.refl _ _
              clear hlast' hcl
              go_region_law (first
                | (go_simp; go_at_call 40; with_reducible refine (CH.out _ (by first | assumption | (apply Below.drew; assumption))).mono ?_; rintro e w5 ⟨rfl, x5, r5, s5⟩))
              all_goals
                obtain ⟨y, hy⟩ : ∃ y, y = u ++ oneS 126 := ⟨_, rfl⟩
                have e1 : (u ++ ({ data := #[126] } : ByteArray)) = y := hy.symm
                try rw [e1]
                clear e1
                obtain ⟨hr6, hg6, _, _⟩ := (hI.out.2.1.ext x5).set (i := nd) (by simp [HND.out]) y
                have H6 : Hid (nd + 1 = (done.map mkB ++ [mkB (cur ++ [126])]).length ∧ SRow w.heap.size (w5.setCell ⟨g, nd, none⟩ (.string y)) (.slice (some ⟨g, 0, none⟩) (nd + 1) c0) (done.map mkB ++ [mkB (cur ++ [126])]) ∧ Ext w (w5.setCell ⟨g, nd, none⟩ (.string y)) ∧ At p r (k + 2) (done.map mkB ++ [mkB (cur ++ [126])])) := by
                  refine ⟨by simp [HND.out], ?_, (hI.out.2.2.1.trans x5).grown hg6 (Nat.le_trans hI.out.2.2.1.size x5.size) (by intro q e; injection e with e; have := (hI.out.2.1.block g rfl).1; omega), HAT.out⟩
                  have e2 := set_last (done.map mkB) (mkB cur) y (i := nd) (by simp [HND.out])
                  rw [e2, hy, HU.out, mkB_snoc] at hr6
                  rw [hy, HU.out, mkB_snoc]
                  exact hr6
                clear hr6 hg6 hy x5 r5 s5 hwc hwr hn0 hn1 hsum hxx hlast hfr
                go_wp2
                go_roundw
                case rel => exact ⟨k + 2, done.map mkB ++ [mkB (cur ++ [126])], some ⟨g, 0, none⟩, c0, nd + 1, by omega, by omega, by go_num, rfl, H6⟩
                case measure => simp [intOf]; omega
            · by_cases h49 : d = 49
              · subst h49
                clear h47 h48
                go_upto_region 17 with fail
                have hgl : g < wr.heap.size := (hI.out.2.1.block g rfl).2
                have hlast : wr.cell? ⟨g, nd, none⟩ = some (.string u) := by rw [Nat.zero_add] at hlast'; exact hlast'
                have HAT : Hid (At p r (k + 2) (done.map mkB ++ [mkB (cur ++ [47])])) := at_next rfl (by simp; have := HCL.out; omega) (by rw [← scan_one]; exact HSC.out)
                have CH : Hid (∀ wk, Ext wr wk → Calls Tryd.prog 40 #[.int .i64 (47 : Int)] wk fun e w' => e = .returned (.string (oneS 47)) ∧ Ext wr w' ∧ w'.cell? ⟨g, nd, none⟩ = some (.string u) ∧ w'.frozen? ⟨g, nd, none⟩ = false) := fun wk hk =>
                  (chr_any 47 wk).mono fun e w' ⟨he, hx⟩ => ⟨he, hk.trans hx, ((hk.trans hx).cell (p := ⟨g, nd, none⟩) hgl).trans hlast, ((hk.trans hx).frozen (p := ⟨g, nd, none⟩) hgl).trans hfr⟩
                have hwc : IntKind.i64.wrap (47 : Int) = (47 : Int) := IntWalk.i64_in _ (by omega)
                have hwr : IntKind.i64.wrap (nd : Int) = (nd : Int) := IntWalk.i64_in _ (by omega)
                have hn0 : (0 : Int) ≤ (nd : Int) := by omega
                have hn1 : (nd : Int) < (nd : Int) + 1 := by omega
                have hsum : (9223372036854775807 < u.size + 1) = False := by simp; omega
                have hxx : Ext wr wr := Below.refl _ _
                clear hlast' hcl
                go_region_law (first
                  | (go_simp; go_at_call 40; with_reducible refine (CH.out _ (by first | assumption | (apply Below.drew; assumption))).mono ?_; rintro e w5 ⟨rfl, x5, r5, s5⟩))
                all_goals
                  obtain ⟨y, hy⟩ : ∃ y, y = u ++ oneS 47 := ⟨_, rfl⟩
                  have e1 : (u ++ ({ data := #[47] } : ByteArray)) = y := hy.symm
                  try rw [e1]
                  clear e1
                  obtain ⟨hr6, hg6, _, _⟩ := (hI.out.2.1.ext x5).set (i := nd) (by simp [HND.out]) y
                  have H6 : Hid (nd + 1 = (done.map mkB ++ [mkB (cur ++ [47])]).length ∧ SRow w.heap.size (w5.setCell ⟨g, nd, none⟩ (.string y)) (.slice (some ⟨g, 0, none⟩) (nd + 1) c0) (done.map mkB ++ [mkB (cur ++ [47])]) ∧ Ext w (w5.setCell ⟨g, nd, none⟩ (.string y)) ∧ At p r (k + 2) (done.map mkB ++ [mkB (cur ++ [47])])) := by
                    refine ⟨by simp [HND.out], ?_, (hI.out.2.2.1.trans x5).grown hg6 (Nat.le_trans hI.out.2.2.1.size x5.size) (by intro q e; injection e with e; have := (hI.out.2.1.block g rfl).1; omega), HAT.out⟩
                    have e2 := set_last (done.map mkB) (mkB cur) y (i := nd) (by simp [HND.out])
                    rw [e2, hy, HU.out, mkB_snoc] at hr6
                    rw [hy, HU.out, mkB_snoc]
                    exact hr6
                  clear hr6 hg6 hy x5 r5 s5 hwc hwr hn0 hn1 hsum hxx hlast hfr
                  go_wp2
                  go_roundw
                  case rel => exact ⟨k + 2, done.map mkB ++ [mkB (cur ++ [47])], some ⟨g, 0, none⟩, c0, nd + 1, by omega, by omega, by go_num, rfl, H6⟩
                  case measure => simp [intOf]; omega
              · have e48 : ((d.toNat : Int) == 48) = false := byte_ne h48
                have e49 : ((d.toNat : Int) == 49) = false := byte_ne h49
                have HF : Hid (stepsR p = ([], 16)) := by unfold Hid; rw [stepsR_scan HP.out, ← HSC.out, scan_bad h48 h49]
                clear h47 h48 h49
                go_wp2
                go_ret2
                exact steps_none HF.out hI.out.2.2.1
          · have b2 : decide ((k : Int) + 1 < (p.size : Int)) = false := decide_eq_false (by omega)
            have b3 : decide (k + 1 < p.size) = false := decide_eq_false hlt2
            have HF : Hid (stepsR p = ([], 16)) := by
              have := HSC.out
              rw [List.drop_of_length_le (by simp [← ByteArray.size_data] at *; omega)] at this
              unfold Hid
              rw [stepsR_scan HP.out, ← this, scan_end]
            clear h47 hlt2
            go_wp2
            go_ret2
            exact steps_none HF.out hI.out.2.2.1
        · have hc126 : ((c.toNat : Int) == 126) = false := byte_ne h126
          have HS2 := Lib.hid (And.intro h47 h126)
          clear h47 h126
          go_upto_region 17 with fail
          have hgl : g < wr.heap.size := (hI.out.2.1.block g rfl).2
          have hlast : wr.cell? ⟨g, nd, none⟩ = some (.string u) := by rw [Nat.zero_add] at hlast'; exact hlast'
          have HAT : Hid (At p r (k + 1) (done.map mkB ++ [mkB (cur ++ [c])])) := at_next rfl (by simp; have := HCL.out; omega) (by rw [← scan_other HS2.out.1 HS2.out.2]; exact HSC.out)
          have CH : Hid (∀ wk, Ext wr wk → Calls Tryd.prog 40 #[.int .i64 (c.toNat : Int)] wk fun e w' => e = .returned (.string (oneS c)) ∧ Ext wr w' ∧ w'.cell? ⟨g, nd, none⟩ = some (.string u) ∧ w'.frozen? ⟨g, nd, none⟩ = false) := fun wk hk =>
            (chr_any c wk).mono fun e w' ⟨he, hx⟩ => ⟨he, hk.trans hx, ((hk.trans hx).cell (p := ⟨g, nd, none⟩) hgl).trans hlast, ((hk.trans hx).frozen (p := ⟨g, nd, none⟩) hgl).trans hfr⟩
          have hwc : IntKind.i64.wrap (c.toNat : Int) = (c.toNat : Int) := IntWalk.i64_in _ (by have := c.toNat_lt; omega)
          have hwr : IntKind.i64.wrap (nd : Int) = (nd : Int) := IntWalk.i64_in _ (by omega)
          have hn0 : (0 : Int) ≤ (nd : Int) := by omega
          have hn1 : (nd : Int) < (nd : Int) + 1 := by omega
          have hsum : (9223372036854775807 < u.size + 1) = False := by simp; omega
          have hxx : Ext wr wr := Below.refl _ _
          clear hlast' hcl
          go_region_law (first
            | (go_simp; go_at_call 40; with_reducible refine (CH.out _ (by first | assumption | (apply Below.drew; assumption))).mono ?_; rintro e w5 ⟨rfl, x5, r5, s5⟩))
          all_goals
            obtain ⟨y, hy⟩ : ∃ y, y = u ++ oneS c := ⟨_, rfl⟩
            have e1 : (u ++ ({ data := #[c] } : ByteArray)) = y := hy.symm
            try rw [e1]
            clear e1
            obtain ⟨hr6, hg6, _, _⟩ := (hI.out.2.1.ext x5).set (i := nd) (by simp [HND.out]) y
            have H6 : Hid (nd + 1 = (done.map mkB ++ [mkB (cur ++ [c])]).length ∧ SRow w.heap.size (w5.setCell ⟨g, nd, none⟩ (.string y)) (.slice (some ⟨g, 0, none⟩) (nd + 1) c0) (done.map mkB ++ [mkB (cur ++ [c])]) ∧ Ext w (w5.setCell ⟨g, nd, none⟩ (.string y)) ∧ At p r (k + 1) (done.map mkB ++ [mkB (cur ++ [c])])) := by
              refine ⟨by simp [HND.out], ?_, (hI.out.2.2.1.trans x5).grown hg6 (Nat.le_trans hI.out.2.2.1.size x5.size) (by intro q e; injection e with e; have := (hI.out.2.1.block g rfl).1; omega), HAT.out⟩
              have e2 := set_last (done.map mkB) (mkB cur) y (i := nd) (by simp [HND.out])
              rw [e2, hy, HU.out, mkB_snoc] at hr6
              rw [hy, HU.out, mkB_snoc]
              exact hr6
            clear hr6 hg6 hy x5 r5 s5 hwc hwr hn0 hn1 hsum hxx hlast hfr
            go_wp2
            go_roundw
            case rel => exact ⟨k + 1, done.map mkB ++ [mkB (cur ++ [c])], some ⟨g, 0, none⟩, c0, nd + 1, by omega, by omega, by go_num, rfl, H6⟩
            case measure => simp [intOf]; omega
    · obtain rfl : k = p.size := by omega
      have HF := Lib.hid (at_end HP.out rfl hI.out.2.2.2)
      have HN := Lib.hid hI.out.1
      have HR := Lib.hid (And.intro hI.out.2.1 hI.out.2.2.1)
      clear hlt hk hI h1
      by_cases h10 : 10 < n
      · have b2 : decide (10 < (n : Int)) = true := decide_eq_true (by omega)
        have b3 : decide (10 < n) = true := decide_eq_true h10
        have HG : Hid (stepsR p = ([], 2)) := by unfold Hid; rw [HF.out, if_pos (by rw [← HN.out]; exact h10)]
        clear h10 hnk
        go_wp2
        go_ret2
        exact steps_none HG.out HR.out.2
      · have b2 : decide (10 < (n : Int)) = false := decide_eq_false (by omega)
        have b3 : decide (10 < n) = false := decide_eq_false h10
        have HG : Hid (stepsR p = (L, 0)) := by unfold Hid; rw [HF.out, if_neg (by rw [← HN.out]; exact h10)]
        clear h10 hnk
        go_wp2
        go_ret2
        exact ⟨A, c0, by rw [HG.out]; simp [← HN.out], by rw [HG.out]; simp only [← HN.out]; exact HR.out.1, HR.out.2⟩

set_option maxRecDepth 100000 in
theorem rsteps_any (p : ByteArray) (w : World) (hs : p.size ≤ 1048576) : Calls Tryd.prog 16 #[.string p] w (StepsPost w p) := by
  cases h : p.data.toList with
  | nil =>
    have HF : Hid (stepsR p = ([], 0)) := by unfold Hid stepsR; rw [h]
    have b1 := empty_iff h
    have hz : p.size = 0 := by
      have : p.data.toList.length = p.size := by simp
      rw [h] at this
      exact this.symm
    have HX : Hid (Ext w w) := Below.refl _ _
    clear h hs
    go_enter Tryd.func16, Tryd.ntmps16
    go_wp2_with fail
    go_loopw [4, 5] (fun o q wr => q = .int .i64 0 ∧ o = .slice none 0 0 ∧ wr = w) (fun _ _ _ => 0)
    case atStart => exact ⟨rfl, rfl, rfl⟩
    case round =>
      obtain ⟨rfl, rfl, rfl⟩ := hrel
      go_wp2
      go_ret2
      exact steps_none HF.out HX.out
  | cons c r =>
    by_cases hc : c = 47
    · subst hc
      exact rsteps_main p r w hs h
    · have HF : Hid (stepsR p = ([], 16)) := by unfold Hid stepsR; rw [h]; simp only [if_neg hc]
      obtain ⟨b1, h0, h1⟩ := cons_at h
      have b2 : ((c.toNat : Int) != 47) = true := by rw [bne_iff_ne]; intro e; exact hc (UInt8.toNat_inj.1 (by simpa using Int.ofNat_inj.1 e))
      have HX : Hid (Ext w w) := Below.refl _ _
      clear h hc
      go_enter Tryd.func16, Tryd.ntmps16
      go_wp2
      go_ret2
      exact steps_none HF.out HX.out
end Go.Proofs.YtpbbohinhbboaaaDoor.Sx
