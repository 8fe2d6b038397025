/-
  The reference's reader: list (printed by gen/jq8.py).
  The reference's reader: object (printed by gen/jq10.py).
  The reference's reader: value at every depth, Read (printed by gen/jq11.py).
-/
import Derived.Test.YtnccefeehkcneaaGreatDoorJqe
import Derived.Test.YtnccefeehkcneaaGreatDoorJst
import Derived.Test.YtnccefeehkcneaaGreatDoorJq9
namespace Go.Proofs.YtnccefeehkcneaaGreatDoor.Jm
open Go Go.RowKit Go.Proofs.YtnccefeehkcneaaGreatDoor.Sx Go.Proofs.YtnccefeehkcneaaGreatDoor.Js Go.Proofs.YtnccefeehkcneaaGreatDoor.Gr
theorem value_skip (d many : Nat) (s : Tx) : valueS d many (skipW s) = valueS d many s := by
  cases h : skipW s with
  | nil =>
    rw [valueS, valueS, h]
    rfl
  | cons c r => rw [value_eq d many s h, value_eq d many (c :: r) (by rw [← h, skipW_skipW])]
theorem list_skip (d fuel : Nat) (acc : List J) (many : Nat) (s : Tx) : listE (valueS d) fuel acc many (skipW s) = listE (valueS d) fuel acc many s := by
  cases fuel with
  | zero => rfl
  | succ f => rw [listE, listE, value_skip]
theorem bulk_pos (j : J) : 1 ≤ bulkJ j := by
  cases j <;> rw [bulkJ] <;> omega
theorem value_eats {d many m : Nat} {s : ByteArray} {p q : Nat} {j : J} (h : valueS d many (sfx s p) = .ok (j, m, sfx s q)) (hp : p ≤ s.size) (hq : q ≤ s.size) : p < q := by
  have h1 := (valueS_good d _ _ _ _ _ h).2
  have h2 := bulk_pos j
  rw [sfx_len, sfx_len] at h1
  omega
/-- What turns a block that is new is no turn of what was. -/
theorem grown_over {w w' w'' : World} {row row2 : Option Nat} (h : w.grownBy w' row) (h2 : w'.grownBy w'' row2) (hb : ∀ g, row2 = some g → w.heap.size ≤ g) : w.grownBy w'' row :=
  ⟨h2.os.trans h.os, h2.tape.trans h.tape, h2.output.trans h.output, Nat.le_trans h.size h2.size, fun k hk hne => (h2.block k (Nat.lt_of_lt_of_le hk h.size) (fun e => by have := hb k e.symm; omega)).trans (h.block k hk hne)⟩
/-- The list that is given back. -/
theorem list_done {w W : World} {g n c : Nat} {A : Option Addr} {acc : List J} (hv : VRow (g + 2) W (.slice A n c) acc) (hgw : w.heap.size = g) : RV (fun b => w.heap.size ≤ b) (putV W g 5 false 0 ⟨#[]⟩ nilS (.slice A n c)) (.list acc) (v6 5 false 0 ⟨#[]⟩ nilS (.slice A n c)) := by
  have h1 := hv.vals
  obtain ⟨L, hg, hl, _⟩ := hv
  obtain ⟨A', c', e, hc⟩ := hg.slice
  injection e with e1 e2 e3
  subst e3
  have hn : n = acc.length := e2.trans hl
  refine RV_list.2 ⟨A, c, by rw [hn]; rfl, by omega, ?_⟩
  exact h1.keep (fun b hb _ => put_heap W 5 false 0 ⟨#[]⟩ nilS (.slice A n c) b (fun e => by omega)) (fun b hb _ => by omega)
set_option maxRecDepth 100000 in
set_option maxHeartbeats 8000000 in
theorem rlist_any (k : Nat) (s : ByteArray) (i many d : Nat) (r : Tx) (deep : Int) (w : World) (h : QIn w k s i many) (hs : s.size ≤ 2000) (_hi : i ≤ s.size) (hr : sfx s i = 91 :: r) (hd : deep = 9 - (d : Int)) (hdI : d ≤ 9) (hm : many ≤ 200) (T : Res (J × Nat × Tx)) (hT : T = match skipW r with | 93 :: r2 => .ok (.list [], many, r2) | _ => listE (valueS d) fuelN [] many r)
    (hV : ∀ (i many : Nat) (w : World), QIn w k s i many → i ≤ s.size → many ≤ 200 → Calls Tryz.prog 78 #[.pointer (some ⟨k, 0, none⟩), .int .i64 (deep + 1)] w (RRes w k s (valueS d many (sfx s i)))) :
    Calls Tryz.prog 127 #[.pointer (some ⟨k, 0, none⟩), .int .i64 deep] w (RRes w k s T) := by
  have H := Lib.hid h
  have HV := Lib.hid hV
  have HT := Lib.hid hT
  have HDP := Lib.hid (And.intro hd hdI)
  obtain ⟨hil, hr1, _⟩ := sfx_step hr
  have HR := Lib.hid hr1
  clear h hV hd hdI hr hr1 hT
  obtain ⟨g, hg⟩ : ∃ g, g = w.heap.size := ⟨_, rfl⟩
  obtain ⟨w1, hw1⟩ : ∃ w1, w1 = w.alloc (.cells #[.int .i64 0, .bool false, .int .i64 0, .string ⟨#[]⟩, nilS, nilS] vT (0, 0)) := ⟨_, rfl⟩
  have HX1 : Hid (Ext w w1) := by rw [hw1]; exact new_ext _ _
  have HR1 : Hid (VIn w1 g 0 false 0 ⟨#[]⟩ nilS nilS) := by rw [hw1]; exact heap_new hg
  have HGW : Hid (w.heap.size = g) := by rw [hg]; rfl
  have HGS : Hid (w1.heap.size = g + 1) := by rw [hw1, hg]; simp [Hid]
  have H1 := Lib.hid (H.out.ext HX1.out)
  obtain ⟨z0, z1, z2⟩ := H1.out.cells
  have f1 := H1.out.free 1
  have hi0 : (0 : Int) ≤ (i : Int) := by omega
  have hiI : (i : Int) ≤ 2000 := by omega
  go_enter Tryz.func127, Tryz.ntmps127
  go_upto_region 1 with (fail)
  rw [← hw1, ← hg]
  clear hw1 hg
  go_upto_region 2 with (fail)
  generalize hW : World.setCell w1 _ _ = w2
  have HQ2 : Hid (QIn w2 k s (i + 1) many) := by rw [← hW]; exact H1.out.setAt _ _ (by omega)
  have HG2 : Hid (w1.grownBy w2 (some k)) := by rw [← hW]; exact grown_set _ k 1 _
  have HS2 : Hid (w2.heap.size = g + 1) := by rw [← hW]; show (World.setCell _ _ _).heap.size = _; rw [← HGS.out]; simp [World.setCell]
  have hsz : w2.heap.size = g + 1 := HS2.out
  clear hW z0 z1 z2 f1
  go_upto_region 3 with (fail)
  obtain ⟨w3, hw3⟩ : ∃ w3, w3 = w2.alloc (.cells #[.int .i64 5, .bool false, .int .i64 0, .string ⟨#[]⟩, nilS, nilS] vT (0, 0)) := ⟨_, rfl⟩
  have HX3 : Hid (Ext w2 w3) := by rw [hw3]; exact new_ext _ _
  have HB3 : Hid (VIn w3 (g + 1) 5 false 0 ⟨#[]⟩ nilS nilS) := by rw [hw3]; exact heap_new hsz.symm
  rw [← hw3]
  clear hw3
  have HQ3 := Lib.hid (HQ2.out.ext HX3.out)
  have HG3 : Hid (w1.grownBy w3 (some k)) := grown_trans HG2.out (grown_ext HX3.out)
  have HKG : Hid (k < g) := by have h1 := H.out.lt; have h2 := HGW.out; unfold Hid; omega
  have CE := Lib.hid (eat_any k s (i + 1) many 93 93 rfl w3 HQ3.out hs (by omega))
  clear hsz
  go_wp2_with fail
  refine Calls.mono CE.out ?_
  rintro e w4 ⟨j, hq4, hj4, hg4, ⟨rfl, hsk⟩ | ⟨rfl, hno, hsk⟩⟩
  · have HE : Hid (skipW r = 93 :: sfx s j) := by unfold Hid; rw [← HR.out]; exact hsk
    have HQ4 := Lib.hid (And.intro hq4 hj4)
    have HG4 := Lib.hid (grown_trans HG3.out hg4)
    have HB4 := Lib.hid (HB3.out.kept hg4 (fun e => by have h1 := HKG.out; injection e; omega))
    have HR4 := Lib.hid (HR1.out.kept HG4.out (fun e => by have h1 := HKG.out; injection e; omega))
    clear hq4 hj4 hg4 hsk
    obtain ⟨c0, c1, c2, c3, c4, c5⟩ := HB4.out.cells
    obtain ⟨d0, d1, d2, d3, d4, d5⟩ := HR4.out.cells
    have e0 := HR4.out.free 0
    have e1 := HR4.out.free 1
    have e2 := HR4.out.free 2
    have e3 := HR4.out.free 3
    have e4 := HR4.out.free 4
    have e5 := HR4.out.free 5
    go_wp2_with fail
    refine bodyPost_ret (results_v rfl _ _ g rfl (put_in 5 false 0 ⟨#[]⟩ nilS nilS HR4.out)) rfl ?_
    have hP := put_grown 5 false 0 ⟨#[]⟩ nilS nilS (grown_trans (grown_ext HX1.out) HG4.out) (g := g) (Nat.le_of_eq HGW.out)
    refine ⟨hP, _, _, _, _, _, _, _, _, _, _, _, rfl, .inl ⟨rfl, .list [], many, j, by rw [HT.out, HE.out]; rfl, (put_heap w4 5 false 0 ⟨#[]⟩ nilS nilS k (Nat.ne_of_lt HKG.out)).trans HQ4.out.1, HQ4.out.2, RV_list.2 ⟨none, 0, rfl, Nat.le_refl _, fun q hq => by cases hq⟩⟩⟩
  · have HE : Hid (T = listE (valueS d) fuelN [] many r) := by
      unfold Hid
      rw [HT.out]
      cases hx : skipW r with
      | nil => rfl
      | cons x q =>
        by_cases h93 : x = 93
        · subst h93
          exact absurd (by rw [HR.out]; exact hx) (hno q)
        · split
          · rename_i e; injection e with e _; exact absurd e h93
          · rfl
    have HSJ : Hid (sfx s j = skipW r) := by unfold Hid; rw [hsk, HR.out]
    have HQ4 := Lib.hid (And.intro hq4 hj4)
    have HG4 := Lib.hid (grown_trans HG3.out hg4)
    have HB4 := Lib.hid (HB3.out.kept hg4 (fun e => by have h1 := HKG.out; injection e; omega))
    clear hq4 hj4 hg4 hno hsk
    have HR4 := Lib.hid (HR1.out.kept HG4.out (fun e => by have h1 := HKG.out; injection e; omega))
    have HS4 : Hid (g + 2 ≤ w4.heap.size) := by have h1 := HB4.out.lt; unfold Hid; omega
    go_wp2_with fail
    go_loopw [8] (fun _ wr => ∃ (acc : List J) (m p fuel : Nat) (A : Option Addr) (c : Nat), p ≤ s.size ∧ m ≤ 200 ∧ acc.length ≤ p ∧ Hid (T = listE (valueS d) fuel acc m (sfx s p) ∧ s.size + 1 ≤ fuel + p ∧ QIn wr k s p m ∧ w1.grownBy wr (some k) ∧ VIn wr (g + 1) 5 false 0 ⟨#[]⟩ nilS (.slice A acc.length c) ∧ VRow (g + 2) wr (.slice A acc.length c) acc ∧ VIn wr g 0 false 0 ⟨#[]⟩ nilS nilS ∧ g + 2 ≤ wr.heap.size)) (fun _ wr => s.size + 5 - atOf wr k)
    case atStart => exact ⟨[], many, j, 2001, none, 0, HQ4.out.2, hm, Nat.zero_le _, by rw [HE.out, ← list_skip, ← HSJ.out]; rfl, by omega, HQ4.out.1, HG4.out, HB4.out, VRow.nil _ _, HR4.out, HS4.out⟩
    case round =>
      obtain ⟨acc, m, p, fuel, A, c, hp, hm2, hap, hI⟩ := hrel
      have hdw : IntKind.i64.wrap (deep + 1) = deep + 1 := IntWalk.i64_in _ (by have := HDP.out; omega)
      have CV := Lib.hid (HV.out p m wr hI.out.2.2.1 hp hm2)
      go_wp2_with fail
      refine Calls.mono CV.out ?_
      rintro e w5 ⟨hg5, K, B, n, sv, A1, n1, c1, A2, n2, c2, er, rfl, hres⟩
      have HG5 := Lib.hid hg5
      have HRES := Lib.hid hres
      clear hg5 hres
      have HG5B := Lib.hid (grown_trans hI.out.2.2.2.1 HG5.out)
      have HR5 := Lib.hid (hI.out.2.2.2.2.2.2.1.kept HG5.out (fun e => by have h1 := HKG.out; injection e; omega))
      have HB5 := Lib.hid (hI.out.2.2.2.2.1.kept HG5.out (fun e => by have h1 := HKG.out; injection e; omega))
      rcases Classical.em (er = 0) with her | her
      · subst her
        have HOK : Hid (∃ jj mm q, valueS d m (sfx s p) = .ok (jj, mm, sfx s q) ∧ QIn w5 k s q mm ∧ q ≤ s.size ∧ RV (fun b => wr.heap.size ≤ b) w5 jj (v6 K B n sv (.slice A1 n1 c1) (.slice A2 n2 c2))) := by
          rcases HRES.out with ⟨_, h⟩ | ⟨h1, _⟩
          · exact h
          · exact absurd rfl h1
        clear HRES
        obtain ⟨jj, mm, q, hok⟩ := HOK
        have HOK := Lib.hid hok
        clear hok
        unfold v6
        go_upto_region 6 with (fail)
        obtain ⟨t7, ht7⟩ : ∃ t7, t7 = w5.heap.size := ⟨_, rfl⟩
        rw [← ht7]
        generalize hW : World.alloc w5 _ = w6
        have HX6 : Hid (Ext w5 w6) := by rw [← hW]; exact new_ext _ _
        have HU6 : Hid (VIn w6 t7 K B n sv (.slice A1 n1 c1) (.slice A2 n2 c2)) := by rw [← hW]; exact heap_new ht7
        have HT7 : Hid (t7 = w5.heap.size) := ht7
        clear hW ht7
        have HB6 := Lib.hid (HB5.out.ext HX6.out)
        obtain ⟨b0, b1, b2, b3, b4, b5⟩ := HB6.out.cells
        obtain ⟨a0, a1, a2, a3, a4, a5⟩ := HU6.out.cells
        have f5 := HB6.out.free 5
        go_upto_region 8 with (fail)
        obtain ⟨L, hL1, hL2, hL3⟩ := hI.out.2.2.2.2.2.1
        have HLL := Lib.hid (And.intro hL2 hL3)
        have HRB : Hid (∀ gg, (Value.slice A acc.length c).ownBlock = some gg → gg < wr.heap.size) := fun gg e => (hL1.block gg e).2
        have hrow : GRow vT 6 (g + 2) w6 (.slice A acc.length c) L := (hL1.kept HG5.out (fun gg hv e => by
          have h1 := (hL1.block gg hv).1
          have h2 := HKG.out
          injection e
          omega)).ext HX6.out
        have HROW := Lib.hid hrow
        have HN : Hid (acc.length = L.length ∧ acc.length ≤ 2000) := ⟨hL2.symm, by omega⟩
        have HSZ : Hid (g + 2 ≤ w6.heap.size) := by have h1 := HU6.out.lt; have h2 := HT7.out; have h3 := HG5.out.size; have h4 := hI.out.2.2.2.2.2.2.2; unfold Hid; omega
        clear hL1 hL2 hL3 hrow
        go_upto_region 9 with (at_builtin; refine append_g ty_V rfl _ _ (by rfl) (g + 2) acc.length 1 _ (.slice A acc.length c) (.slice (some ⟨w6.heap.size, 0, none⟩) 1 1) L [[.int .i64 K, .bool B, .int .i64 n, .string sv, .slice A1 n1 c1, .slice A2 n2 c2]] (by rfl) (by rfl) (HROW.out.ext (new_ext _ _)) (GSrc.one rfl (by simp [Value.oneCell']) (heap_new rfl)) HN.out.1.symm rfl (by have := HN.out.2; omega) (Nat.le_trans HSZ.out (new_ext _ _).size) ?_; intro A9 c9 w9 h9 g9 o9; have hb9 := (HB6.out.ext (new_ext _ _)).kept g9 (fun e => by have h1 := (HROW.out.block (g + 1) e).1; omega); obtain ⟨-, -, -, -, -, y5⟩ := hb9.cells; have y6 := hb9.free 5; have HB9 := Lib.hid hb9; have H9 := Lib.hid (And.intro h9 (And.intro g9 o9)); clear hb9 h9 g9 o9)
        generalize hW : World.setCell w9 _ _ = w10
        have HG10 : Hid (w9.grownBy w10 (some (g + 1))) := by rw [← hW]; exact grown_set _ (g + 1) 5 _
        have HB10 : Hid (VIn w10 (g + 1) 5 false 0 ⟨#[]⟩ nilS (.slice A9 (acc.length + 1) c9)) := by rw [← hW]; exact heap_setCell_same w9 (g + 1) 5 _ vT _ HB9.out
        clear hW y5 y6 b0 b1 b2 b3 b4 b5 a0 a1 a2 a3 a4 a5 f5
        have HVR : Hid (VRow (g + 2) w10 (.slice A9 (acc.length + 1) c9) (acc ++ [jj])) := by
          obtain ⟨h9, g9, o9⟩ := H9.out
          have hx : Ext w5 (w6.alloc (.cells #[.int .i64 K, .bool B, .int .i64 n, .string sv, .slice A1 n1 c1, .slice A2 n2 c2] vT (0, 0))) := HX6.out.trans (new_ext _ _)
          have hwr := hI.out.2.2.2.2.2.2.2
          refine VRow.kept (VRow.snoc HLL.out.1 (fun q h1 h2 => RV.keep (fun b hb hlt => ?_) (fun b hb _ => hb) _ _ (HLL.out.2 q h1 h2)) (RV.keep (fun b hb hlt => hx.block b hlt) (fun b hb hlt => ⟨by omega, fun e => absurd (HRB.out b e) (Nat.not_lt_of_le hb)⟩) _ _ HOK.out.2.2.2) h9 g9 o9) HG10.out (Nat.lt_succ_self _)
          exact (hx.block b (Nat.lt_of_lt_of_le hlt HG5.out.size)).trans (HG5.out.block b hlt (fun e => by injection e with e; have h2 := HKG.out; have h3 := hb.1; omega))
        have HQ10 : Hid (QIn w10 k s q mm) := by
          obtain ⟨h9, g9, o9⟩ := H9.out
          have hk := HKG.out
          exact (((HOK.out.2.1.ext HX6.out).ext (new_ext _ _)).kept g9 (fun e => by have h1 := (HROW.out.block k e).1; omega)).kept HG10.out (fun e => by injection e; omega)
        have HGW10 : Hid (w1.grownBy w10 (some k)) := by
          obtain ⟨h9, g9, o9⟩ := H9.out
          have hk := HGS.out
          exact grown_over (grown_over (grown_trans HG5B.out (grown_ext (HX6.out.trans (new_ext _ _)))) g9 (fun b e => by have h1 := (HROW.out.block b e).1; omega)) HG10.out (fun b e => by injection e; omega)
        have hpq : p < q := value_eats HOK.out.1 hp HOK.out.2.2.1
        have HMM : Hid (mm ≤ 200) := value_few d _ _ _ _ _ HOK.out.1
        have CE93 := Lib.hid (eat_any k s q mm 93 93 rfl w10 HQ10.out hs HOK.out.2.2.1)
        go_wp2_with fail
        refine Calls.mono CE93.out ?_
        rintro e w11 ⟨j2, hq11, hj11, hg11, ⟨rfl, hsk⟩ | ⟨rfl, hno, hsk⟩⟩
        · have HTE : Hid (T = .ok (.list (acc ++ [jj]), mm, sfx s j2)) := by
            obtain ⟨f, rfl⟩ : ∃ f, fuel = f + 1 := ⟨fuel - 1, by have h1 := hI.out.2.1; omega⟩
            unfold Hid
            rw [hI.out.1, listE, HOK.out.1]
            show afterL _ _ _ _ = _
            rw [afterL, hsk]
            rfl
          have HQ11 := Lib.hid (And.intro hq11 hj11)
          have HG11 := Lib.hid (grown_trans HGW10.out hg11)
          have HB11 := Lib.hid (HB10.out.kept hg11 (fun e => by have h1 := HKG.out; injection e; omega))
          have HR11 := Lib.hid (HR1.out.kept HG11.out (fun e => by have h1 := HKG.out; injection e; omega))
          have HVR11 := Lib.hid (HVR.out.kept hg11 (by have h1 := HKG.out; omega))
          clear hq11 hj11 hg11 hsk
          obtain ⟨c0, c1', c2', c3, c4, c5⟩ := HB11.out.cells
          obtain ⟨d0, d1, d2, d3, d4, d5⟩ := HR11.out.cells
          have e0 := HR11.out.free 0
          have e1 := HR11.out.free 1
          have e2 := HR11.out.free 2
          have e3 := HR11.out.free 3
          have e4 := HR11.out.free 4
          have e5 := HR11.out.free 5
          go_wp2_with fail
          refine bodyPost_ret (results_v rfl _ _ g rfl (put_in 5 false 0 ⟨#[]⟩ nilS (.slice A9 (acc.length + 1) c9) HR11.out)) rfl ?_
          have hP := put_grown 5 false 0 ⟨#[]⟩ nilS (.slice A9 (acc.length + 1) c9) (grown_trans (grown_ext HX1.out) HG11.out) (g := g) (Nat.le_of_eq HGW.out)
          exact ⟨hP, _, _, _, _, _, _, _, _, _, _, _, rfl, .inl ⟨rfl, .list (acc ++ [jj]), mm, j2, HTE.out, (put_heap w11 5 false 0 ⟨#[]⟩ nilS (.slice A9 (acc.length + 1) c9) k (Nat.ne_of_lt HKG.out)).trans HQ11.out.1, HQ11.out.2, list_done HVR11.out HGW.out⟩⟩
        · have HTK : Hid (∃ f, fuel = f + 1 ∧ T = afterL (listE (valueS d) f) (acc ++ [jj]) mm (sfx s q)) := by
            obtain ⟨f, rfl⟩ : ∃ f, fuel = f + 1 := ⟨fuel - 1, by have h1 := hI.out.2.1; omega⟩
            refine ⟨f, rfl, ?_⟩
            rw [hI.out.1, listE, HOK.out.1]
          have HNO := Lib.hid hno
          have HSK := Lib.hid hsk
          have HQ11 := Lib.hid (And.intro hq11 hj11)
          have HG11 := Lib.hid (grown_trans HGW10.out hg11)
          have HB11 := Lib.hid (HB10.out.kept hg11 (fun e => by have h1 := HKG.out; injection e; omega))
          have HVR11 := Lib.hid (HVR.out.kept hg11 (by have h1 := HKG.out; omega))
          have CE44 := Lib.hid (eat_any k s j2 mm 44 44 rfl w11 hq11 hs hj11)
          clear hq11 hj11 hg11 hsk hno
          go_wp2_with fail
          refine Calls.mono CE44.out ?_
          rintro e w12 ⟨j3, hq12, hj12, hg12, ⟨rfl, hsk⟩ | ⟨rfl, hno, hsk⟩⟩
          · have HS44 : Hid (skipW (sfx s q) = 44 :: sfx s j3) := by unfold Hid; rw [← hsk, HSK.out, skipW_skipW]
            have hlen := congrArg List.length HS44.out
            have hle := skipW_len (sfx s q)
            rw [List.length_cons, sfx_len] at hlen
            rw [sfx_len] at hle
            have hqs : q ≤ s.size := HOK.out.2.2.1
            have hj3 : q < j3 := by omega
            have HQ12 := Lib.hid (And.intro hq12 hj12)
            have HG12 := Lib.hid (grown_trans HG11.out hg12)
            have HB12 := Lib.hid (HB11.out.kept hg12 (fun e => by have h1 := HKG.out; injection e; omega))
            have HVR12 := Lib.hid (HVR11.out.kept hg12 (by have h1 := HKG.out; omega))
            have HR12 := Lib.hid (HR1.out.kept HG12.out (fun e => by have h1 := HKG.out; injection e; omega))
            clear hq12 hj12 hg12 hsk hlen hle
            go_wp2_with fail
            go_roundw
            case rel =>
              obtain ⟨f, hf, hT⟩ := HTK.out
              have hl : (acc ++ [jj]).length = acc.length + 1 := by simp
              refine ⟨acc ++ [jj], mm, j3, f, A9, c9, HQ12.out.2, HMM.out, by rw [hl]; omega, ?_, ?_, HQ12.out.1, HG12.out, by rw [hl]; exact HB12.out, by rw [hl]; exact HVR12.out, HR12.out, ?_⟩
              · rw [hT, afterL, HS44.out]
                rfl
              · have h1 := hI.out.2.1
                omega
              · have h1 := HB12.out.lt
                omega
            case measure =>
              rw [hI.out.2.2.1.atOf, HQ12.out.1.atOf]
              omega
          · have HTE : Hid (T = .error 3) := by
              obtain ⟨f, hf, hT⟩ := HTK.out
              unfold Hid
              rw [hT, afterL]
              cases hx : skipW (sfx s q) with
              | nil => rfl
              | cons x z =>
                have h93 : x ≠ 93 := fun e => HNO.out z (by rw [hx, e])
                have h44 : x ≠ 44 := fun e => hno z (by rw [HSK.out, skipW_skipW, hx, e])
                simp only
                rw [if_neg h93, if_neg h44]
            have HR12 := Lib.hid ((HR1.out.kept HG11.out (fun e => by have h1 := HKG.out; injection e; omega)).kept hg12 (fun e => by have h1 := HKG.out; injection e; omega))
            have HG12 := Lib.hid (grown_trans HG11.out hg12)
            clear hq12 hj12 hg12 hsk hno
            obtain ⟨d0, d1, d2, d3, d4, d5⟩ := HR12.out.cells
            have e0 := HR12.out.free 0
            have e1 := HR12.out.free 1
            have e2 := HR12.out.free 2
            have e3 := HR12.out.free 3
            have e4 := HR12.out.free 4
            have e5 := HR12.out.free 5
            go_wp2_with fail
            refine bodyPost_ret (results_v rfl _ _ g rfl (put_in 0 false 0 ⟨#[]⟩ nilS nilS HR12.out)) rfl ?_
            have hP := put_grown 0 false 0 ⟨#[]⟩ nilS nilS (grown_trans (grown_ext HX1.out) HG12.out) (g := g) (Nat.le_of_eq HGW.out)
            exact ⟨hP, _, _, _, _, _, _, _, _, _, _, 3, rfl, .inr ⟨by decide, HTE.out⟩⟩
      · have HE5 : Hid (valueS d m (sfx s p) = .error er ∧ er ≠ 0) := by
          rcases HRES.out with ⟨h1, _⟩ | ⟨h1, h2⟩
          · exact absurd h1 her
          · exact ⟨h2, h1⟩
        have ber : (er != 0) = true := by rw [bne_iff_ne]; exact her
        clear her
        unfold v6
        go_upto_region 6 with (fail)
        generalize hW : World.alloc w5 _ = w6
        have HX6 : Hid (Ext w5 w6) := by rw [← hW]; exact new_ext _ _
        clear hW
        have HR6 := Lib.hid (HR5.out.ext HX6.out)
        have HG6 := Lib.hid (grown_trans HG5B.out (grown_ext HX6.out))
        have HTE : Hid (T = .error er) := by
          obtain ⟨f, rfl⟩ : ∃ f, fuel = f + 1 := ⟨fuel - 1, by have h1 := hI.out.2.1; omega⟩
          unfold Hid
          rw [hI.out.1, listE, HE5.out.1]
        have HER : Hid (er ≠ 0) := HE5.out.2
        obtain ⟨d0, d1, d2, d3, d4, d5⟩ := HR6.out.cells
        have e0 := HR6.out.free 0
        have e1 := HR6.out.free 1
        have e2 := HR6.out.free 2
        have e3 := HR6.out.free 3
        have e4 := HR6.out.free 4
        have e5 := HR6.out.free 5
        go_wp2_with fail
        refine bodyPost_ret (results_v rfl _ _ g rfl (put_in 0 false 0 ⟨#[]⟩ nilS nilS HR6.out)) rfl ?_
        have hP := put_grown 0 false 0 ⟨#[]⟩ nilS nilS (grown_trans (grown_ext HX1.out) HG6.out) (g := g) (Nat.le_of_eq HGW.out)
        exact ⟨hP, _, _, _, _, _, _, _, _, _, _, er, rfl, .inr ⟨HER.out, HTE.out⟩⟩
end Go.Proofs.YtnccefeehkcneaaGreatDoor.Jm
namespace Go.Proofs.YtnccefeehkcneaaGreatDoor.Jm
open Go Go.RowKit Go.Proofs.YtnccefeehkcneaaGreatDoor.Sx Go.Proofs.YtnccefeehkcneaaGreatDoor.Js Go.Proofs.YtnccefeehkcneaaGreatDoor.Gr
theorem name_odd {ns : List Tx} {s : Tx} (h : ∀ r, skipW s ≠ 34 :: r) : nameS ns s = .error 3 := by
  unfold nameS
  cases hs : skipW s with
  | nil => rfl
  | cons x r =>
    have hx : x ≠ 34 := fun e => h r (by rw [hs, e])
    simp only
    rw [if_neg hx]
theorem name_text {ns : List Tx} {s r : Tx} (h : skipW s = 34 :: r) (h2 : textS r = none) : nameS ns s = .error 3 := by
  unfold nameS
  rw [h]
  simp only
  rw [if_pos trivial, h2]
theorem name_twice {ns : List Tx} {s r t r2 : Tx} (h : skipW s = 34 :: r) (h2 : textS r = some (t, r2)) (h3 : t ∈ ns) : nameS ns s = .error 5 := by
  unfold nameS
  rw [h]
  simp only
  rw [if_pos trivial, h2]
  simp only
  rw [if_pos h3]
theorem name_colon {ns : List Tx} {s r t r2 : Tx} (h : skipW s = 34 :: r) (h2 : textS r = some (t, r2)) (h3 : t ∉ ns) (h4 : ∀ r3, skipW r2 ≠ 58 :: r3) : nameS ns s = .error 3 := by
  unfold nameS
  rw [h]
  simp only
  rw [if_pos trivial, h2]
  simp only
  rw [if_neg h3]
  cases hs : skipW r2 with
  | nil => rfl
  | cons x q =>
    have hx : x ≠ 58 := fun e => h4 q (by rw [hs, e])
    simp only
    rw [if_neg hx]
theorem name_ok {ns : List Tx} {s r t r2 r3 : Tx} (h : skipW s = 34 :: r) (h2 : textS r = some (t, r2)) (h3 : t ∉ ns) (h4 : skipW r2 = 58 :: r3) : nameS ns s = .ok (t, r3) := by
  unfold nameS
  rw [h]
  simp only
  rw [if_pos trivial, h2]
  simp only
  rw [if_neg h3, h4]
  simp only
  rw [if_pos trivial]
theorem fld_bad {val : Rdr} {f m : Nat} {ns : List Tx} {l : List J} {s : Tx} {e : Int} (h : nameS ns s = .error e) : fldE val (f + 1) ns l m s = .error e := by
  rw [fldE, h]
theorem fld_vbad {val : Rdr} {f m : Nat} {ns : List Tx} {l : List J} {s t r3 : Tx} {e : Int} (h : nameS ns s = .ok (t, r3)) (h2 : val m r3 = .error e) : fldE val (f + 1) ns l m s = .error e := by
  rw [fldE, h]
  simp only [h2]
theorem fld_ok {val : Rdr} {f m m' : Nat} {ns : List Tx} {l : List J} {s t r3 s' : Tx} {j : J} (h : nameS ns s = .ok (t, r3)) (h2 : val m r3 = .ok (j, m', s')) : fldE val (f + 1) ns l m s = afterO (fldE val f) (setJ ns l t j).1 (setJ ns l t j).2 m' s' := by
  rw [fldE, h]
  simp only [h2]
theorem afterO_end {k : List Tx → List J → Nat → Tx → Res (J × Nat × Tx)} {ns : List Tx} {l : List J} {m : Nat} {s r : Tx} (h : skipW s = 125 :: r) : afterO k ns l m s = .ok (.obj ns l, m, r) := by
  rw [afterO, h]
  rfl
theorem afterO_more {k : List Tx → List J → Nat → Tx → Res (J × Nat × Tx)} {ns : List Tx} {l : List J} {m : Nat} {s r : Tx} (h : skipW s = 44 :: r) : afterO k ns l m s = k ns l m r := by
  rw [afterO, h]
  rfl
theorem afterO_bad {k : List Tx → List J → Nat → Tx → Res (J × Nat × Tx)} {ns : List Tx} {l : List J} {m : Nat} {s : Tx} (h1 : ∀ r, skipW s ≠ 125 :: r) (h2 : ∀ r, skipW s ≠ 44 :: r) : afterO k ns l m s = .error 3 := by
  rw [afterO]
  cases hs : skipW s with
  | nil => rfl
  | cons x q =>
    have hx : x ≠ 125 := fun e => h1 q (by rw [hs, e])
    have hy : x ≠ 44 := fun e => h2 q (by rw [hs, e])
    simp only
    rw [if_neg hx, if_neg hy]
theorem fld_skip (d fuel : Nat) (ns : List Tx) (l : List J) (many : Nat) (s : Tx) : fldE (valueS d) fuel ns l many (skipW s) = fldE (valueS d) fuel ns l many s := by
  have h : nameS ns (skipW s) = nameS ns s := by unfold nameS; rw [skipW_skipW]
  cases fuel with
  | zero => rfl
  | succ f => rw [fldE, fldE, h]
theorem bx_data (t : Tx) : (bx t).data.toList = t := by simp [bx]
theorem RV_objs {F : Nat → Prop} {w : World} {ns : List Tx} {l : List J} {A B : Option Addr} {n m c d : Nat} (h : RV F w (.obj ns l) (v6 6 false 0 ⟨#[]⟩ (.slice A n c) (.slice B m d))) : n = ns.length ∧ m = l.length ∧ ns.length ≤ c ∧ l.length ≤ d ∧ NamesAt F w A ns ∧ RValsAt F w B l := by
  obtain ⟨A', c', B', d', e, h1, h2, h3, h4⟩ := RV_obj.1 h
  unfold v6 at e
  simp only [List.cons.injEq, Value.slice.injEq, and_true, true_and] at e
  obtain ⟨⟨rfl, rfl, rfl⟩, rfl, rfl, rfl⟩ := e
  exact ⟨rfl, rfl, h1, h2, h3, h4⟩
theorem RV_noobj (F : Nat → Prop) (w : World) : RV F w (.obj [] []) (v6 6 false 0 ⟨#[]⟩ nilS nilS) :=
  RV_obj.2 ⟨none, 0, none, 0, rfl, Nat.le_refl _, Nat.le_refl _, (fun q hq => by cases hq), (fun q hq => by cases hq)⟩
theorem setJ_len {ns : List Tx} {l : List J} {t : Tx} {j : J} (h : t ∉ ns) : (setJ ns l t j).1.length = ns.length + 1 := by
  rw [setJ_new h]
  exact List.length_insertIdx_of_le_length (place_le ns t) t
set_option maxRecDepth 100000 in
set_option maxHeartbeats 8000000 in
theorem robject_any (k : Nat) (s : ByteArray) (i many d : Nat) (r : Tx) (deep : Int) (w : World) (h : QIn w k s i many) (hs : s.size ≤ 2000) (_hi : i ≤ s.size) (hr : sfx s i = 123 :: r) (hd : deep = 9 - (d : Int)) (hdI : d ≤ 9) (hm : many ≤ 200) (T : Res (J × Nat × Tx)) (hT : T = match skipW r with | 125 :: r2 => .ok (.obj [] [], many, r2) | _ => fldE (valueS d) fuelN [] [] many r)
    (hV : ∀ (i many : Nat) (w : World), QIn w k s i many → i ≤ s.size → many ≤ 200 → Calls Tryz.prog 78 #[.pointer (some ⟨k, 0, none⟩), .int .i64 (deep + 1)] w (RRes w k s (valueS d many (sfx s i)))) :
    Calls Tryz.prog 128 #[.pointer (some ⟨k, 0, none⟩), .int .i64 deep] w (RRes w k s T) := by
  have H := Lib.hid h
  have HV := Lib.hid hV
  have HT := Lib.hid hT
  have HDP := Lib.hid (And.intro hd hdI)
  obtain ⟨hil, hr1, _⟩ := sfx_step hr
  have HR := Lib.hid hr1
  clear h hV hd hdI hr hr1 hT
  obtain ⟨g, hg⟩ : ∃ g, g = w.heap.size := ⟨_, rfl⟩
  obtain ⟨w1, hw1⟩ : ∃ w1, w1 = w.alloc (.cells #[.int .i64 0, .bool false, .int .i64 0, .string ⟨#[]⟩, nilS, nilS] vT (0, 0)) := ⟨_, rfl⟩
  have HX1 : Hid (Ext w w1) := by rw [hw1]; exact new_ext _ _
  have HR1 : Hid (VIn w1 g 0 false 0 ⟨#[]⟩ nilS nilS) := by rw [hw1]; exact heap_new hg
  have HGW : Hid (w.heap.size = g) := by rw [hg]; rfl
  have HGS : Hid (w1.heap.size = g + 1) := by rw [hw1, hg]; simp [Hid]
  have HKG : Hid (k < g) := by have h1 := H.out.lt; have h2 := HGW.out; unfold Hid; omega
  have HC : Hid (∀ W, w1.grownBy W (some k) → VIn W g 0 false 0 ⟨#[]⟩ nilS nilS ∧ ∀ K B n t a l, VIn (putV W g K B n t a l) g K B n t a l ∧ w.grownBy (putV W g K B n t a l) (some k) ∧ ∀ j m, QIn W k s j m → QIn (putV W g K B n t a l) k s j m) := fun W hW => by
    have hkg : k ≠ g := Nat.ne_of_lt HKG.out
    have hv := HR1.out.kept hW (fun e => hkg (by injection e))
    exact ⟨hv, fun K B n t a l => ⟨put_in K B n t a l hv, put_grown K B n t a l (grown_trans (grown_ext HX1.out) hW) (Nat.le_of_eq HGW.out), fun j m hQ => (put_heap W K B n t a l k hkg).trans hQ⟩⟩
  have H1 := Lib.hid (H.out.ext HX1.out)
  obtain ⟨z0, z1, z2⟩ := H1.out.cells
  have f1 := H1.out.free 1
  have hi0 : (0 : Int) ≤ (i : Int) := by omega
  have hiI : (i : Int) ≤ 2000 := by omega
  go_enter Tryz.func128, Tryz.ntmps128
  go_upto_region 1 with (fail)
  rw [← hw1, ← hg]
  clear hw1 hg
  go_upto_region 2 with (fail)
  generalize hW : World.setCell w1 _ _ = w2
  have HQ2 : Hid (QIn w2 k s (i + 1) many) := by rw [← hW]; exact H1.out.setAt _ _ (by omega)
  have HG2 : Hid (w1.grownBy w2 (some k)) := by rw [← hW]; exact grown_set _ k 1 _
  have HS2 : Hid (w2.heap.size = g + 1) := by rw [← hW]; show (World.setCell _ _ _).heap.size = _; rw [← HGS.out]; simp [World.setCell]
  have hsz : w2.heap.size = g + 1 := HS2.out
  clear hW z0 z1 z2 f1
  go_upto_region 3 with (fail)
  obtain ⟨w3, hw3⟩ : ∃ w3, w3 = w2.alloc (.cells #[.int .i64 6, .bool false, .int .i64 0, .string ⟨#[]⟩, nilS, nilS] vT (0, 0)) := ⟨_, rfl⟩
  have HX3 : Hid (Ext w2 w3) := by rw [hw3]; exact new_ext _ _
  have HB3 : Hid (VIn w3 (g + 1) 6 false 0 ⟨#[]⟩ nilS nilS) := by rw [hw3]; exact heap_new hsz.symm
  rw [← hw3]
  clear hw3
  have HQ3 := Lib.hid (HQ2.out.ext HX3.out)
  have HG3 : Hid (w1.grownBy w3 (some k)) := grown_trans HG2.out (grown_ext HX3.out)
  have CE := Lib.hid (eat_any k s (i + 1) many 125 125 rfl w3 HQ3.out hs (by omega))
  clear hsz
  go_wp2_with fail
  refine Calls.mono CE.out ?_
  rintro e w4 ⟨j, hq4, hj4, hg4, ⟨rfl, hsk⟩ | ⟨rfl, hno, hsk⟩⟩
  · have HE : Hid (skipW r = 125 :: sfx s j) := by unfold Hid; rw [← HR.out]; exact hsk
    have HQ4 := Lib.hid (And.intro hq4 hj4)
    have HG4 := Lib.hid (grown_trans HG3.out hg4)
    have HB4 := Lib.hid (HB3.out.kept hg4 (fun e => by have h1 := HKG.out; injection e; omega))
    have HC4 := Lib.hid (HC.out w4 HG4.out)
    clear hq4 hj4 hg4 hsk
    obtain ⟨c0, c1, c2, c3, c4, c5⟩ := HB4.out.cells
    obtain ⟨d0, d1, d2, d3, d4, d5⟩ := HC4.out.1.cells
    have e0 := HC4.out.1.free 0
    have e1 := HC4.out.1.free 1
    have e2 := HC4.out.1.free 2
    have e3 := HC4.out.1.free 3
    have e4 := HC4.out.1.free 4
    have e5 := HC4.out.1.free 5
    go_wp2_with fail
    refine bodyPost_ret (results_v rfl _ _ g rfl (HC4.out.2 6 false 0 ⟨#[]⟩ nilS nilS).1) rfl ?_
    have hP := (HC4.out.2 6 false 0 ⟨#[]⟩ nilS nilS).2
    exact ⟨hP.1, _, _, _, _, _, _, _, _, _, _, _, rfl, .inl ⟨rfl, .obj [] [], many, j, by rw [HT.out, HE.out]; rfl, hP.2 _ _ HQ4.out.1, HQ4.out.2, RV_noobj _ _⟩⟩
  · have HE : Hid (T = fldE (valueS d) fuelN [] [] many r) := by
      unfold Hid
      rw [HT.out]
      cases hx : skipW r with
      | nil => rfl
      | cons x q =>
        by_cases h93 : x = 125
        · subst h93
          exact absurd (by rw [HR.out]; exact hx) (hno q)
        · split
          · rename_i e; injection e with e _; exact absurd e h93
          · rfl
    have HSJ : Hid (sfx s j = skipW r) := by unfold Hid; rw [hsk, HR.out]
    have HQ4 := Lib.hid (And.intro hq4 hj4)
    have HG4 := Lib.hid (grown_trans HG3.out hg4)
    have HB4 := Lib.hid (HB3.out.kept hg4 (fun e => by have h1 := HKG.out; injection e; omega))
    clear hq4 hj4 hg4 hno hsk
    have HS4 : Hid (g + 2 ≤ w4.heap.size) := by have h1 := HB4.out.lt; unfold Hid; omega
    go_wp2_with fail
    go_loopw [8] (fun _ wr => ∃ (ns : List Tx) (l : List J) (m p fuel : Nat) (A : Option Addr) (c : Nat) (B : Option Addr) (dd : Nat), p ≤ s.size ∧ m ≤ 200 ∧ ns.length ≤ p ∧ Hid (T = fldE (valueS d) fuel ns l m (sfx s p) ∧ s.size + 1 ≤ fuel + p ∧ QIn wr k s p m ∧ w1.grownBy wr (some k) ∧ VIn wr (g + 1) 6 false 0 ⟨#[]⟩ (.slice A ns.length c) (.slice B l.length dd) ∧ RV (fun b => g + 2 ≤ b) wr (.obj ns l) (v6 6 false 0 ⟨#[]⟩ (.slice A ns.length c) (.slice B l.length dd)) ∧ g + 2 ≤ wr.heap.size ∧ WJ (.obj ns l))) (fun _ wr => s.size + 5 - atOf wr k)
    case atStart => exact ⟨[], [], many, j, 2001, none, 0, none, 0, HQ4.out.2, hm, Nat.zero_le _, by rw [HE.out, ← fld_skip, ← HSJ.out]; rfl, by omega, HQ4.out.1, HG4.out, HB4.out, RV_noobj _ _, HS4.out, WJ_obj.2 ⟨⟨rfl, List.Pairwise.nil⟩, fun x hx => by cases hx⟩⟩
    case round =>
      obtain ⟨ns, l, m, p, fuel, A, c, B, dd, hp, hm2, hnp, hI⟩ := hrel
      have HO : Hid (∀ W, wr.grownBy W (some k) → w1.grownBy W (some k) ∧ VIn W (g + 1) 6 false 0 ⟨#[]⟩ (.slice A ns.length c) (.slice B l.length dd) ∧ RV (fun b => g + 2 ≤ b) W (.obj ns l) (v6 6 false 0 ⟨#[]⟩ (.slice A ns.length c) (.slice B l.length dd)) ∧ g + 2 ≤ W.heap.size) := fun W hW =>
        ⟨grown_trans hI.out.2.2.2.1 hW, hI.out.2.2.2.2.1.kept hW (fun e => by have h1 := HKG.out; injection e; omega), RV.keep (fun b hb hlt => hW.block b hlt (fun e => by have h1 := HKG.out; injection e; omega)) (fun b hb _ => hb) _ _ hI.out.2.2.2.2.2.1, Nat.le_trans hI.out.2.2.2.2.2.2.1 hW.size⟩
      have HTF : Hid (∃ f, fuel = f + 1 ∧ T = fldE (valueS d) (f + 1) ns l m (sfx s p)) := by
        obtain ⟨f, rfl⟩ : ∃ f, fuel = f + 1 := ⟨fuel - 1, by have h1 := hI.out.2.1; omega⟩
        exact ⟨f, rfl, hI.out.1⟩
      have hdw : IntKind.i64.wrap (deep + 1) = deep + 1 := IntWalk.i64_in _ (by have := HDP.out; omega)
      have CL := Lib.hid (look_any k s p m wr hI.out.2.2.1 hs hp)
      go_wp2_with fail
      refine Calls.mono CL.out ?_
      rintro e w5 ⟨j5, rfl, hq5, hpj, hjs, hsk, hg5⟩
      have HQ5 := Lib.hid hq5
      have HG5 := Lib.hid hg5
      have HSK := Lib.hid hsk
      clear hq5 hg5 hsk CL
      obtain ⟨x, hx⟩ : ∃ x, x = headI (skipW (sfx s p)) := ⟨_, rfl⟩
      rw [← hx]
      by_cases h34 : x = 34
      · have HX : Hid (∃ r1, skipW (sfx s p) = 34 :: r1 ∧ j5 < s.size ∧ sfx s (j5 + 1) = r1) := by
          rw [h34] at hx
          cases hs2 : skipW (sfx s p) with
          | nil => rw [hs2] at hx; simp only [headI] at hx; omega
          | cons y r1 =>
            rw [hs2] at hx
            have hy : y = 34 := UInt8.toNat_inj.1 (by simp only [headI] at hx; show _ = 34; omega)
            obtain ⟨a, b, _⟩ := sfx_step (HSK.out.trans hs2)
            exact ⟨r1, by rw [hy], a, b⟩
        obtain ⟨r1, hr1, hj5, hr2⟩ := HX
        have HX := Lib.hid (And.intro hr1 hr2)
        have b34 : (x != 34) = false := by rw [h34]; rfl
        clear h34 hx hr1 hr2
        have CT := Lib.hid (rtext_any k s j5 m w5 HQ5.out hs hj5)
        go_wp2_with fail
        refine Calls.mono CT.out ?_
        rintro e w6 ⟨j6, hg6, hq6, hj6, ⟨t, htx, rfl⟩ | ⟨htx, rfl⟩⟩
        · have HQ6 := Lib.hid hq6
          have HG6 := Lib.hid (grown_trans HG5.out hg6)
          have HTX : Hid (textS r1 = some (t, sfx s j6)) := by unfold Hid; rw [← HX.out.2]; exact htx
          have HJ6 := Lib.hid hj6
          clear hq6 hg6 htx hj6 CT
          have HO6 := Lib.hid (HO.out w6 HG6.out)
          have CF : Hid (Calls Tryz.prog 101 #[.agg (v6 6 false 0 ⟨#[]⟩ (.slice A ns.length c) (.slice B l.length dd)).toArray, .string (bx t)] w6 (RFindPost w6 (fun b => g + 2 ≤ b) ns l (bx t))) := by
            obtain ⟨_, _, h3, h4, h5, h6⟩ := RV_objs HO6.out.2.2.1
            exact rfind_any _ A B c dd ns l (bx t) w6 h5 h6 (WJ_obj.1 hI.out.2.2.2.2.2.2.2).1.1 h4 (by omega)
          obtain ⟨c0, c1, c2, c3, c4, c5⟩ := HO6.out.2.1.cells
          unfold v6 at CF
          go_wp2_with fail
          refine Calls.mono CF.out ?_
          rintro e w7 ⟨hx7, ⟨i7, hn7, hl7, u7, hi7, hv7, rfl⟩ | ⟨hno7, rfl⟩⟩
          · have HX7 := Lib.hid hx7
            have HIN : Hid (t ∈ ns) := by have h1 := List.getElem_mem hn7; rw [hi7, bx_data] at h1; exact h1
            obtain ⟨K7, B7, n7, s7, A7, m7, k7, A8, m8, k8, rfl⟩ := RV.shape hv7
            clear hx7 hi7 hv7 hn7 hl7 c0 c1 c2 c3 c4 c5
            unfold v6
            go_upto_region 11 with (fail)
            generalize hW : World.alloc w7 _ = w8
            have HG8 : Hid (wr.grownBy w8 (some k)) := by rw [← hW]; exact grown_trans HG6.out (grown_ext (HX7.out.trans (new_ext _ _)))
            clear hW
            have HTE : Hid (T = .error 5) := by
              obtain ⟨f, _, hT⟩ := HTF.out
              unfold Hid
              rw [hT, fld_bad (name_twice HX.out.1 HTX.out HIN.out)]
            have HCE := Lib.hid (HC.out w8 (HO.out w8 HG8.out).1)
            obtain ⟨d0, d1, d2, d3, d4, d5⟩ := HCE.out.1.cells
            have e0 := HCE.out.1.free 0
            have e1 := HCE.out.1.free 1
            have e2 := HCE.out.1.free 2
            have e3 := HCE.out.1.free 3
            have e4 := HCE.out.1.free 4
            have e5 := HCE.out.1.free 5
            go_wp2_with fail
            refine bodyPost_ret (results_v rfl _ _ g rfl (HCE.out.2 0 false 0 ⟨#[]⟩ nilS nilS).1) rfl ?_
            exact ⟨(HCE.out.2 0 false 0 ⟨#[]⟩ nilS nilS).2.1, _, _, _, _, _, _, _, _, _, _, 5, rfl, .inr ⟨by decide, HTE.out⟩⟩
          · have HX7 := Lib.hid hx7
            have HNI : Hid (t ∉ ns) := by have h1 := hno7; rw [bx_data] at h1; exact h1
            clear hx7 hno7 c0 c1 c2 c3 c4 c5
            unfold noV v6
            go_upto_region 11 with (fail)
            generalize hW : World.alloc w7 _ = w8
            have HX8 : Hid (Ext w6 w8) := by rw [← hW]; exact HX7.out.trans (new_ext _ _)
            have HG8 : Hid (wr.grownBy w8 (some k)) := grown_trans HG6.out (grown_ext HX8.out)
            clear hW
            have HQ8 := Lib.hid (HQ6.out.ext HX8.out)
            have CE58 := Lib.hid (eat_any k s j6 m 58 58 rfl w8 HQ8.out hs HJ6.out)
            go_wp2_with fail
            refine Calls.mono CE58.out ?_
            rintro e w9 ⟨j9, hq9, hj9, hg9, ⟨rfl, hsk9⟩ | ⟨rfl, hno9, hsk9⟩⟩
            · have HQ9 := Lib.hid (And.intro hq9 hj9)
              have HG9 := Lib.hid (grown_trans HG8.out hg9)
              have HNM : Hid (nameS ns (sfx s p) = .ok (t, sfx s j9)) := name_ok HX.out.1 HTX.out HNI.out hsk9
              have hlen9 := congrArg List.length hsk9
              have hle9 := skipW_len (sfx s j6)
              have hle5 := skipW_len (sfx s p)
              have hle6 := textS_len _ (Nat.le_refl _) HTX.out
              have hlen5 := congrArg List.length HX.out.1
              rw [List.length_cons, sfx_len] at hlen9
              rw [sfx_len] at hle9 hle5
              rw [List.length_cons] at hlen5
              rw [sfx_len] at hle6
              have hj69 := HJ6.out
              have hpj9 : p + 2 ≤ j9 := by omega
              clear hq9 hj9 hg9 hsk9 hlen9 hle9 hle5 hle6 hlen5 hj69 CE58
              have CV := Lib.hid (HV.out j9 m w9 HQ9.out.1 HQ9.out.2 hm2)
              go_wp2_with fail
              refine Calls.mono CV.out ?_
              rintro e w10 ⟨hg10, K, Bb, n, sv, A1, n1, c1, A2, n2, c2, er, rfl, hres⟩
              have HG10 := Lib.hid (grown_trans HG9.out hg10)
              have HRES := Lib.hid hres
              have HS9 : Hid (g + 2 ≤ w9.heap.size) := (HO.out w9 HG9.out).2.2.2
              clear hg10 hres
              unfold v6
              go_upto_region 16 with (fail)
              obtain ⟨t11, ht11⟩ : ∃ t11, t11 = w10.heap.size := ⟨_, rfl⟩
              rw [← ht11]
              generalize hW : World.alloc w10 _ = w11
              have HX11 : Hid (Ext w10 w11) := by rw [← hW]; exact new_ext _ _
              have HU11 : Hid (VIn w11 t11 K Bb n sv (.slice A1 n1 c1) (.slice A2 n2 c2)) := by rw [← hW]; exact heap_new ht11
              have HG11 : Hid (wr.grownBy w11 (some k)) := grown_trans HG10.out (grown_ext HX11.out)
              clear hW ht11
              rcases Classical.em (er = 0) with her | her
              · subst her
                have HOK : Hid (∃ jj mm q, valueS d m (sfx s j9) = .ok (jj, mm, sfx s q) ∧ QIn w10 k s q mm ∧ q ≤ s.size ∧ RV (fun b => w9.heap.size ≤ b) w10 jj (v6 K Bb n sv (.slice A1 n1 c1) (.slice A2 n2 c2))) := by
                  rcases HRES.out with ⟨_, h⟩ | ⟨h1, _⟩
                  · exact h
                  · exact absurd rfl h1
                clear HRES
                obtain ⟨jj, mm, q, hok⟩ := HOK
                have HOK := Lib.hid hok
                clear hok
                have HO11 := Lib.hid (HO.out w11 HG11.out)
                have CS : Hid (Calls Tryz.prog 93 #[.agg (v6 6 false 0 ⟨#[]⟩ (.slice A ns.length c) (.slice B l.length dd)).toArray, .string (bx t), .agg (v6 K Bb n sv (.slice A1 n1 c1) (.slice A2 n2 c2)).toArray] w11 (RSetPost (fun b => g + 2 ≤ b) w11 (setJ ns l t jj).1 (setJ ns l t jj).2)) := by
                  obtain ⟨_, _, h3, h4, h5, h6⟩ := RV_objs HO11.out.2.2.1
                  have hw := (WJ_obj.1 hI.out.2.2.2.2.2.2.2).1
                  exact rset_any _ A B c dd ns l t jj K Bb n sv A1 n1 c1 A2 n2 c2 w11 h5 h6 hw.1 hw.2 h4 (by omega) (RV.keep (fun b _ hlt => HX11.out.block b hlt) (fun b hb _ => Nat.le_trans HS9.out hb) _ _ HOK.out.2.2.2) (fun b hb => Nat.le_trans HO11.out.2.2.2 hb)
                obtain ⟨c0, c1', c2', c3, c4, c5⟩ := HO11.out.2.1.cells
                obtain ⟨a0, a1, a2, a3, a4, a5⟩ := HU11.out.cells
                unfold v6 at CS
                go_upto_region 19 with (go_at_call 93; refine Calls.mono CS.out ?_; rintro e w12 ⟨hx12, A3, c3', B3, d3, rfl, hrv12⟩; have HX12 := Lib.hid hx12; have HRV12 := Lib.hid hrv12; have hb12 := HO11.out.2.1.ext hx12; have y0 := hb12.free 0; have y1 := hb12.free 1; have y2 := hb12.free 2; have y3 := hb12.free 3; have y4 := hb12.free 4; have y5 := hb12.free 5; obtain ⟨x0, x1, x2, x3, x4, x5⟩ := hb12.cells; have HB12 := Lib.hid hb12; clear hx12 hrv12 hb12; unfold v6)
                generalize hW : World.setCell _ _ _ = w13
                have hpj := value_eats HOK.out.1 HQ9.out.2 HOK.out.2.2.1
                obtain ⟨ns', hns'⟩ : ∃ ns', ns' = (setJ ns l t jj).1 := ⟨_, rfl⟩
                obtain ⟨l', hl'⟩ : ∃ l', l' = (setJ ns l t jj).2 := ⟨_, rfl⟩
                rw [← hns', ← hl'] at HRV12 hW
                have HSET : Hid (ns' = (setJ ns l t jj).1 ∧ l' = (setJ ns l t jj).2 ∧ ns'.length = ns.length + 1) := ⟨hns', hl', by rw [hns']; exact setJ_len HNI.out⟩
                clear hns' hl'
                have HB13 : Hid (VIn w13 (g + 1) 6 false 0 ⟨#[]⟩ (.slice A3 ns'.length c3') (.slice B3 l'.length d3)) := by rw [← hW]; exact put_in 6 false 0 ⟨#[]⟩ _ _ HB12.out
                have HP13 : Hid (∀ b, b ≠ g + 1 → w13.heap[b]? = w12.heap[b]?) := fun b hb => by rw [← hW]; exact put_heap w12 6 false 0 ⟨#[]⟩ _ _ b hb
                have HG13 : Hid (w1.grownBy w13 (some k)) := by rw [← hW]; exact put_grown 6 false 0 ⟨#[]⟩ _ _ (grown_trans HO11.out.1 (grown_ext HX12.out)) (Nat.le_of_eq HGS.out)
                have HZ13 : Hid (g + 2 ≤ w13.heap.size) := by have h1 := HB13.out.lt; unfold Hid; omega
                clear hW c0 c1' c2' c3 c4 c5 a0 a1 a2 a3 a4 a5 y0 y1 y2 y3 y4 y5 x0 x1 x2 x3 x4 x5
                have HQ13 : Hid (QIn w13 k s q mm) := (HP13.out k (by have := HKG.out; omega)).trans ((HOK.out.2.1.ext HX11.out).ext HX12.out)
                have HRV13 : Hid (RV (fun b => g + 2 ≤ b) w13 (.obj ns' l') (v6 6 false 0 ⟨#[]⟩ (.slice A3 ns'.length c3') (.slice B3 l'.length d3))) := RV.keep (fun b hb _ => HP13.out b (by omega)) (fun b hb _ => hb) _ _ HRV12.out
                have HWJ : Hid (WJ (.obj ns' l')) := by unfold Hid; rw [HSET.out.1, HSET.out.2.1]; exact setJ_wj hI.out.2.2.2.2.2.2.2 (valueS_good d _ _ _ _ _ HOK.out.1).1
                have HTA : Hid (∃ f, fuel = f + 1 ∧ T = afterO (fldE (valueS d) f) ns' l' mm (sfx s q)) := by
                  obtain ⟨f, hf, hT⟩ := HTF.out
                  exact ⟨f, hf, by rw [hT, fld_ok HNM.out HOK.out.1, HSET.out.1, HSET.out.2.1]⟩
                have HMM : Hid (mm ≤ 200) := value_few d _ _ _ _ _ HOK.out.1
                have CE125 := Lib.hid (eat_any k s q mm 125 125 rfl w13 HQ13.out hs HOK.out.2.2.1)
                go_wp2_with fail
                refine Calls.mono CE125.out ?_
                rintro e w14 ⟨j14, hq14, hj14, hg14, ⟨rfl, hsk⟩ | ⟨rfl, hno, hsk⟩⟩
                · have HTE : Hid (T = .ok (.obj ns' l', mm, sfx s j14)) := by
                    obtain ⟨f, hf, hT⟩ := HTA.out
                    unfold Hid
                    rw [hT, afterO_end hsk]
                  have HQ14 := Lib.hid (And.intro hq14 hj14)
                  have HRV14 : Hid (RV (fun b => g + 2 ≤ b) w14 (.obj ns' l') (v6 6 false 0 ⟨#[]⟩ (.slice A3 ns'.length c3') (.slice B3 l'.length d3))) := RV.keep (fun b hb hlt => hg14.block b hlt (fun e => by have h1 := HKG.out; injection e; omega)) (fun b hb _ => hb) _ _ HRV13.out
                  have HB14 := Lib.hid (HB13.out.kept hg14 (fun e => by have h1 := HKG.out; injection e; omega))
                  have HC14 := Lib.hid (HC.out w14 (grown_trans HG13.out hg14))
                  clear hq14 hj14 hg14 hsk CE125
                  obtain ⟨c0, c1', c2', c3, c4, c5⟩ := HB14.out.cells
                  obtain ⟨d0, d1, d2, d3', d4, d5⟩ := HC14.out.1.cells
                  have e0 := HC14.out.1.free 0
                  have e1 := HC14.out.1.free 1
                  have e2 := HC14.out.1.free 2
                  have e3 := HC14.out.1.free 3
                  have e4 := HC14.out.1.free 4
                  have e5 := HC14.out.1.free 5
                  go_wp2_with fail
                  refine bodyPost_ret (results_v rfl _ _ g rfl (HC14.out.2 6 false 0 ⟨#[]⟩ (.slice A3 ns'.length c3') (.slice B3 l'.length d3)).1) rfl ?_
                  have hP := (HC14.out.2 6 false 0 ⟨#[]⟩ (.slice A3 ns'.length c3') (.slice B3 l'.length d3)).2
                  exact ⟨hP.1, _, _, _, _, _, _, _, _, _, _, _, rfl, .inl ⟨rfl, .obj ns' l', mm, j14, HTE.out, hP.2 _ _ HQ14.out.1, HQ14.out.2, RV.keep (fun b hb _ => put_heap w14 6 false 0 ⟨#[]⟩ _ _ b (by omega)) (fun b hb _ => by have := HGW.out; omega) _ _ HRV14.out⟩⟩
                · have HNO := Lib.hid hno
                  have HSK2 := Lib.hid hsk
                  have HG14 := Lib.hid (grown_trans HG13.out hg14)
                  have HRV14 : Hid (RV (fun b => g + 2 ≤ b) w14 (.obj ns' l') (v6 6 false 0 ⟨#[]⟩ (.slice A3 ns'.length c3') (.slice B3 l'.length d3))) := RV.keep (fun b hb hlt => hg14.block b hlt (fun e => by have h1 := HKG.out; injection e; omega)) (fun b hb _ => hb) _ _ HRV13.out
                  have HB14 := Lib.hid (HB13.out.kept hg14 (fun e => by have h1 := HKG.out; injection e; omega))
                  have CE44 := Lib.hid (eat_any k s j14 mm 44 44 rfl w14 hq14 hs hj14)
                  clear hq14 hj14 hg14 hsk hno CE125
                  go_wp2_with fail
                  refine Calls.mono CE44.out ?_
                  rintro e w15 ⟨j15, hq15, hj15, hg15, ⟨rfl, hsk⟩ | ⟨rfl, hno, hsk⟩⟩
                  · have HS44 : Hid (skipW (sfx s q) = 44 :: sfx s j15) := by unfold Hid; rw [← hsk, HSK2.out, skipW_skipW]
                    have hlen := congrArg List.length HS44.out
                    have hle := skipW_len (sfx s q)
                    rw [List.length_cons, sfx_len] at hlen
                    rw [sfx_len] at hle
                    have hqs : q ≤ s.size := HOK.out.2.2.1
                    have hj3 : q < j15 := by omega
                    have HQ15 := Lib.hid (And.intro hq15 hj15)
                    have HG15 := Lib.hid (grown_trans HG14.out hg15)
                    have HB15 := Lib.hid (HB14.out.kept hg15 (fun e => by have h1 := HKG.out; injection e; omega))
                    have HRV15 : Hid (RV (fun b => g + 2 ≤ b) w15 (.obj ns' l') (v6 6 false 0 ⟨#[]⟩ (.slice A3 ns'.length c3') (.slice B3 l'.length d3))) := RV.keep (fun b hb hlt => hg15.block b hlt (fun e => by have h1 := HKG.out; injection e; omega)) (fun b hb _ => hb) _ _ HRV14.out
                    clear hq15 hj15 hg15 hsk hlen hle
                    go_wp2_with fail
                    go_roundw
                    case rel =>
                      obtain ⟨f, hf, hT⟩ := HTA.out
                      refine ⟨ns', l', mm, j15, f, A3, c3', B3, d3, HQ15.out.2, HMM.out, ?_, ?_, ?_, HQ15.out.1, HG15.out, HB15.out, HRV15.out, ?_, HWJ.out⟩
                      · have := HSET.out.2.2; omega
                      · rw [hT, afterO_more HS44.out]
                      · have h1 := hI.out.2.1
                        omega
                      · have h1 := HB15.out.lt
                        omega
                    case measure =>
                      rw [hI.out.2.2.1.atOf, HQ15.out.1.atOf]
                      omega
                  · have HTE : Hid (T = .error 3) := by
                      obtain ⟨f, hf, hT⟩ := HTA.out
                      unfold Hid
                      rw [hT, afterO_bad HNO.out (fun r e => hno r (by rw [HSK2.out, skipW_skipW, e]))]
                    have HG15 := Lib.hid (grown_trans HG14.out hg15)
                    clear hq15 hj15 hg15 hsk hno
                    have HCE := Lib.hid (HC.out w15 HG15.out)
                    obtain ⟨d0, d1, d2, d3, d4, d5⟩ := HCE.out.1.cells
                    have e0 := HCE.out.1.free 0
                    have e1 := HCE.out.1.free 1
                    have e2 := HCE.out.1.free 2
                    have e3 := HCE.out.1.free 3
                    have e4 := HCE.out.1.free 4
                    have e5 := HCE.out.1.free 5
                    go_wp2_with fail
                    refine bodyPost_ret (results_v rfl _ _ g rfl (HCE.out.2 0 false 0 ⟨#[]⟩ nilS nilS).1) rfl ?_
                    exact ⟨(HCE.out.2 0 false 0 ⟨#[]⟩ nilS nilS).2.1, _, _, _, _, _, _, _, _, _, _, 3, rfl, .inr ⟨by decide, HTE.out⟩⟩
              · have HE10 : Hid (valueS d m (sfx s j9) = .error er ∧ er ≠ 0) := by
                  rcases HRES.out with ⟨h1, _⟩ | ⟨h1, h2⟩
                  · exact absurd h1 her
                  · exact ⟨h2, h1⟩
                have ber : (er != 0) = true := by rw [bne_iff_ne]; exact her
                clear her
                have HTE : Hid (T = .error er) := by
                  obtain ⟨f, _, hT⟩ := HTF.out
                  unfold Hid
                  rw [hT, fld_vbad HNM.out HE10.out.1]
                have HER : Hid (er ≠ 0) := HE10.out.2
                have HCE := Lib.hid (HC.out w11 (HO.out w11 HG11.out).1)
                obtain ⟨d0, d1, d2, d3, d4, d5⟩ := HCE.out.1.cells
                have e0 := HCE.out.1.free 0
                have e1 := HCE.out.1.free 1
                have e2 := HCE.out.1.free 2
                have e3 := HCE.out.1.free 3
                have e4 := HCE.out.1.free 4
                have e5 := HCE.out.1.free 5
                go_wp2_with fail
                refine bodyPost_ret (results_v rfl _ _ g rfl (HCE.out.2 0 false 0 ⟨#[]⟩ nilS nilS).1) rfl ?_
                exact ⟨(HCE.out.2 0 false 0 ⟨#[]⟩ nilS nilS).2.1, _, _, _, _, _, _, _, _, _, _, er, rfl, .inr ⟨HER.out, HTE.out⟩⟩
            · have HG9 := Lib.hid (grown_trans HG8.out hg9)
              have HTE : Hid (T = .error 3) := by
                obtain ⟨f, _, hT⟩ := HTF.out
                unfold Hid
                rw [hT, fld_bad (name_colon HX.out.1 HTX.out HNI.out hno9)]
              clear hq9 hj9 hg9 hno9 hsk9
              have HCE := Lib.hid (HC.out w9 (HO.out w9 HG9.out).1)
              obtain ⟨d0, d1, d2, d3, d4, d5⟩ := HCE.out.1.cells
              have e0 := HCE.out.1.free 0
              have e1 := HCE.out.1.free 1
              have e2 := HCE.out.1.free 2
              have e3 := HCE.out.1.free 3
              have e4 := HCE.out.1.free 4
              have e5 := HCE.out.1.free 5
              go_wp2_with fail
              refine bodyPost_ret (results_v rfl _ _ g rfl (HCE.out.2 0 false 0 ⟨#[]⟩ nilS nilS).1) rfl ?_
              exact ⟨(HCE.out.2 0 false 0 ⟨#[]⟩ nilS nilS).2.1, _, _, _, _, _, _, _, _, _, _, 3, rfl, .inr ⟨by decide, HTE.out⟩⟩
        · have HG6 := Lib.hid (grown_trans HG5.out hg6)
          have HTE : Hid (T = .error 3) := by
            obtain ⟨f, _, hT⟩ := HTF.out
            unfold Hid
            rw [hT, fld_bad (name_text HX.out.1 (by rw [← HX.out.2]; exact htx))]
          clear hq6 hg6 htx hj6 CT
          have HCE := Lib.hid (HC.out w6 (HO.out w6 HG6.out).1)
          obtain ⟨d0, d1, d2, d3, d4, d5⟩ := HCE.out.1.cells
          have e0 := HCE.out.1.free 0
          have e1 := HCE.out.1.free 1
          have e2 := HCE.out.1.free 2
          have e3 := HCE.out.1.free 3
          have e4 := HCE.out.1.free 4
          have e5 := HCE.out.1.free 5
          go_wp2_with fail
          refine bodyPost_ret (results_v rfl _ _ g rfl (HCE.out.2 0 false 0 ⟨#[]⟩ nilS nilS).1) rfl ?_
          exact ⟨(HCE.out.2 0 false 0 ⟨#[]⟩ nilS nilS).2.1, _, _, _, _, _, _, _, _, _, _, 3, rfl, .inr ⟨by decide, HTE.out⟩⟩
      · have HTE : Hid (T = .error 3) := by
          obtain ⟨f, _, hT⟩ := HTF.out
          unfold Hid
          rw [hT, fld_bad (name_odd (fun r1 e => h34 (by rw [hx, e]; rfl)))]
        have b34 : (x != 34) = true := by rw [bne_iff_ne]; exact h34
        clear h34 hx
        have HCE := Lib.hid (HC.out w5 (HO.out w5 HG5.out).1)
        obtain ⟨d0, d1, d2, d3, d4, d5⟩ := HCE.out.1.cells
        have e0 := HCE.out.1.free 0
        have e1 := HCE.out.1.free 1
        have e2 := HCE.out.1.free 2
        have e3 := HCE.out.1.free 3
        have e4 := HCE.out.1.free 4
        have e5 := HCE.out.1.free 5
        go_wp2_with fail
        refine bodyPost_ret (results_v rfl _ _ g rfl (HCE.out.2 0 false 0 ⟨#[]⟩ nilS nilS).1) rfl ?_
        exact ⟨(HCE.out.2 0 false 0 ⟨#[]⟩ nilS nilS).2.1, _, _, _, _, _, _, _, _, _, _, 3, rfl, .inr ⟨by decide, HTE.out⟩⟩
end Go.Proofs.YtnccefeehkcneaaGreatDoor.Jm
namespace Go.Proofs.YtnccefeehkcneaaGreatDoor.Jm
open Go Go.RowKit Go.Proofs.YtnccefeehkcneaaGreatDoor.Sx Go.Proofs.YtnccefeehkcneaaGreatDoor.Js Go.Proofs.YtnccefeehkcneaaGreatDoor.Gr
theorem value_list {d many : Nat} {s r : Tx} (h : skipW s = 91 :: r) (hm : many + 1 ≤ 200) : valueS (d + 1) many s = match skipW r with | 93 :: r2 => .ok (.list [], many + 1, r2) | _ => listE (valueS d) fuelN [] (many + 1) r := by
  rw [value_eq (d + 1) many s h, if_neg (by decide), if_neg (by omega), if_pos rfl]
  rfl
theorem value_obj {d many : Nat} {s r : Tx} (h : skipW s = 123 :: r) (hm : many + 1 ≤ 200) : valueS (d + 1) many s = match skipW r with | 125 :: r2 => .ok (.obj [] [], many + 1, r2) | _ => fldE (valueS d) fuelN [] [] (many + 1) r := by
  rw [value_eq (d + 1) many s h, if_neg (by decide), if_neg (by omega), if_neg (by decide), if_pos rfl]
  rfl
theorem rvalue_all (k : Nat) (s : ByteArray) (hs : s.size ≤ 2000) : ∀ (d : Nat), d ≤ 10 → ∀ (i many : Nat) (deep : Int) (w : World), QIn w k s i many → i ≤ s.size → many ≤ 200 → deep = 10 - (d : Int) →
    Calls Tryz.prog 78 #[.pointer (some ⟨k, 0, none⟩), .int .i64 deep] w (RRes w k s (valueS d many (sfx s i)))
  | 0, _, i, many, deep, w, h, hi, hm, hd => rvalue_any k s i many 0 deep w h hs hi hd hm (by omega) (fun d' W j r e => by omega) (fun d' W j r e => by omega)
  | d + 1, hdd, i, many, deep, w, h, hi, hm, hd => by
    have ih : ∀ (i many : Nat) (w : World), QIn w k s i many → i ≤ s.size → many ≤ 200 → Calls Tryz.prog 78 #[.pointer (some ⟨k, 0, none⟩), .int .i64 (deep + 1)] w (RRes w k s (valueS d many (sfx s i))) :=
      fun i many w h hi hm => rvalue_all k s hs d (by omega) i many (deep + 1) w h hi hm (by omega)
    refine rvalue_any k s i many (d + 1) deep w h hs hi hd hm hdd (fun d' W j r e hm1 hq hj hsj hsk => ?_) (fun d' W j r e hm1 hq hj hsj hsk => ?_)
    · exact rlist_any k s j (many + 1) d r deep W hq hs hj hsj (by omega) (by omega) hm1 _ (value_list hsk hm1) ih
    · exact robject_any k s j (many + 1) d r deep W hq hs hj hsj (by omega) (by omega) hm1 _ (value_obj hsk hm1) ih
/-- What Read of the reference gives where the plain law gives T. -/
def RRead (w : World) (T : Res J) (e : Ending) (w' : World) : Prop :=
  Ext w w' ∧ ∃ K B n sv A1 n1 c1 A2 n2 c2 er, e = .returned (.tuple #[.agg (v6 K B n sv (.slice A1 n1 c1) (.slice A2 n2 c2)).toArray, .int .i64 er]) ∧
    ((er = 0 ∧ ∃ j, T = .ok j ∧ RV (fun b => w.heap.size ≤ b) w' j (v6 K B n sv (.slice A1 n1 c1) (.slice A2 n2 c2))) ∨ (er ≠ 0 ∧ T = .error er ∧ v6 K B n sv (.slice A1 n1 c1) (.slice A2 n2 c2) = noV))
set_option maxRecDepth 100000 in
set_option maxHeartbeats 8000000 in
theorem rread_any (s : ByteArray) (w : World) : Calls Tryz.prog 29 #[.string s] w (RRead w (readS s.data.toList)) := by
  obtain ⟨T, hT⟩ : ∃ T, T = readS s.data.toList := ⟨_, rfl⟩
  rw [← hT]
  have HT : Hid (T = if 2000 < s.size then .error 2 else match valueS 10 0 (sfx s 0) with | .error e => .error e | .ok (j, _, r) => if skipW r = [] then .ok j else .error 3) := by
    unfold Hid
    rw [hT, readS, size_list]
    rfl
  clear hT
  obtain ⟨g, hg⟩ : ∃ g, g = w.heap.size := ⟨_, rfl⟩
  obtain ⟨w1, hw1⟩ : ∃ w1, w1 = w.alloc (.cells #[.int .i64 0, .bool false, .int .i64 0, .string ⟨#[]⟩, nilS, nilS] vT (0, 0)) := ⟨_, rfl⟩
  have HX1 : Hid (Ext w w1) := by rw [hw1]; exact new_ext _ _
  have HR1 : Hid (VIn w1 g 0 false 0 ⟨#[]⟩ nilS nilS) := by rw [hw1]; exact heap_new hg
  have HGW : Hid (w.heap.size = g) := by rw [hg]; rfl
  have HGS : Hid (w1.heap.size = g + 1) := by rw [hw1, hg]; simp [Hid]
  have HC : Hid (∀ W, w1.grownBy W (some (g + 1)) → VIn W g 0 false 0 ⟨#[]⟩ nilS nilS ∧ ∀ K B n t a l, VIn (putV W g K B n t a l) g K B n t a l ∧ Ext w (putV W g K B n t a l)) := fun W hW => by
    have hv := HR1.out.kept hW (fun e => by injection e; omega)
    have hx : Ext w W := ext_row HX1.out hW (fun b e => by injection e; have := HGW.out; omega)
    exact ⟨hv, fun K B n t a l => ⟨put_in K B n t a l hv, put_ext K B n t a l hx (Nat.le_of_eq HGW.out)⟩⟩
  by_cases hbig : 2000 < s.size
  · have HTE : Hid (T = .error 2) := by unfold Hid; rw [HT.out, if_pos hbig]
    have b1 : decide (2000 < (s.size : Int)) = true := decide_eq_true (by omega)
    have b2 : decide (2000 < s.size) = true := decide_eq_true hbig
    clear hbig
    go_enter Tryz.func29, Tryz.ntmps29
    go_upto_region 1 with (fail)
    rw [← hw1, ← hg]
    clear hw1 hg
    have hrefl := grown_refl w1 (some (g + 1))
    have HCE := Lib.hid (HC.out w1 hrefl)
    clear hrefl
    obtain ⟨d0, d1, d2, d3, d4, d5⟩ := HCE.out.1.cells
    have e0 := HCE.out.1.free 0
    have e1 := HCE.out.1.free 1
    have e2 := HCE.out.1.free 2
    have e3 := HCE.out.1.free 3
    have e4 := HCE.out.1.free 4
    have e5 := HCE.out.1.free 5
    go_wp2_with fail
    refine bodyPost_ret (results_v rfl _ _ g rfl (HCE.out.2 0 false 0 ⟨#[]⟩ nilS nilS).1) rfl ?_
    exact ⟨(HCE.out.2 0 false 0 ⟨#[]⟩ nilS nilS).2, _, _, _, _, _, _, _, _, _, _, 2, rfl, .inr ⟨by decide, HTE.out, rfl⟩⟩
  · have HT2 : Hid (T = match valueS 10 0 (sfx s 0) with | .error e => .error e | .ok (j, _, r) => if skipW r = [] then .ok j else .error 3) := by unfold Hid; rw [HT.out, if_neg hbig]
    have hs : s.size ≤ 2000 := by omega
    have b1 : decide (2000 < (s.size : Int)) = false := decide_eq_false (by omega)
    have b2 : decide (2000 < s.size) = false := decide_eq_false hbig
    clear hbig HT
    go_enter Tryz.func29, Tryz.ntmps29
    go_upto_region 1 with (fail)
    rw [← hw1, ← hg]
    clear hw1 hg
    go_upto_region 4 with (fail)
    obtain ⟨w2, hw2⟩ : ∃ w2, w2 = w1.alloc (.cells #[.string s, .int .i64 0, .int .i64 0] inT (0, 0)) := ⟨_, rfl⟩
    have HX2 : Hid (Ext w1 w2) := by rw [hw2]; exact new_ext _ _
    have HQ2 : Hid (QIn w2 (g + 1) s 0 0) := by rw [hw2]; exact heap_new HGS.out.symm
    have HS2 : Hid (w2.heap.size = g + 2) := by
      unfold Hid
      rw [hw2]
      show (w1.heap.push _).size = _
      rw [Array.size_push, HGS.out]
    have hsz : w1.heap.size = g + 1 := HGS.out
    rw [← hw2, hsz]
    clear hw2 hsz
    have CV := Lib.hid (rvalue_all (g + 1) s hs 10 (Nat.le_refl _) 0 0 0 w2 HQ2.out (Nat.zero_le _) (by omega) (by omega))
    go_wp2_with fail
    refine Calls.mono CV.out ?_
    rintro e w3 ⟨hg3, K, B, n, sv, A1, n1, c1, A2, n2, c2, er, rfl, hres⟩
    have HG3 := Lib.hid hg3
    have HRES := Lib.hid hres
    clear hg3 hres
    unfold v6
    go_upto_region 5 with (fail)
    obtain ⟨t5, ht5⟩ : ∃ t5, t5 = w3.heap.size := ⟨_, rfl⟩
    rw [← ht5]
    generalize hW : World.alloc w3 _ = w4
    have HX4 : Hid (Ext w3 w4) := by rw [← hW]; exact new_ext _ _
    have HU4 : Hid (VIn w4 t5 K B n sv (.slice A1 n1 c1) (.slice A2 n2 c2)) := by rw [← hW]; exact heap_new ht5
    have HT5 : Hid (g + 2 ≤ t5) := by have h1 := HG3.out.size; have h2 := HS2.out; unfold Hid; omega
    have HG4 : Hid (w1.grownBy w4 (some (g + 1))) := grown_trans (grown_ext HX2.out) (grown_trans HG3.out (grown_ext HX4.out))
    clear hW ht5
    rcases Classical.em (er = 0) with her | her
    · subst her
      have HOK : Hid (∃ jj mm q, valueS 10 0 (sfx s 0) = .ok (jj, mm, sfx s q) ∧ QIn w3 (g + 1) s q mm ∧ q ≤ s.size ∧ RV (fun b => w2.heap.size ≤ b) w3 jj (v6 K B n sv (.slice A1 n1 c1) (.slice A2 n2 c2))) := by
        rcases HRES.out with ⟨_, h⟩ | ⟨h1, _⟩
        · exact h
        · exact absurd rfl h1
      clear HRES
      obtain ⟨jj, mm, q, hok⟩ := HOK
      have HOK := Lib.hid hok
      clear hok
      have CL := Lib.hid (look_any (g + 1) s q mm w4 (HOK.out.2.1.ext HX4.out) hs HOK.out.2.2.1)
      go_wp2_with fail
      refine Calls.mono CL.out ?_
      rintro e w5 ⟨j5, rfl, hq5, hpj, hjs, hsk, hg5⟩
      have HG5 := Lib.hid hg5
      have HGA := Lib.hid (grown_trans HG4.out hg5)
      have HU5 := Lib.hid (HU4.out.kept hg5 (fun e => by injection e; have := HT5.out; omega))
      clear hq5 hpj hjs hsk hg5 CL
      cases hskw : skipW (sfx s q) with
      | nil =>
        have HTE : Hid (T = .ok jj) := by
          unfold Hid
          rw [HT2.out, HOK.out.1]
          simp only
          rw [if_pos hskw]
        have hh : headI ([] : Tx) = -1 := rfl
        rw [hh]
        have HCE := Lib.hid (HC.out w5 HGA.out)
        clear hskw hh
        obtain ⟨a0, a1, a2, a3, a4, a5⟩ := HU5.out.cells
        obtain ⟨d0, d1, d2, d3, d4, d5⟩ := HCE.out.1.cells
        have e0 := HCE.out.1.free 0
        have e1 := HCE.out.1.free 1
        have e2 := HCE.out.1.free 2
        have e3 := HCE.out.1.free 3
        have e4 := HCE.out.1.free 4
        have e5 := HCE.out.1.free 5
        go_wp2_with fail
        refine bodyPost_ret (results_v rfl _ _ g rfl (HCE.out.2 K B n sv (.slice A1 n1 c1) (.slice A2 n2 c2)).1) rfl ?_
        refine ⟨(HCE.out.2 K B n sv (.slice A1 n1 c1) (.slice A2 n2 c2)).2, K, B, n, sv, A1, n1, c1, A2, n2, c2, 0, rfl, .inl ⟨rfl, jj, HTE.out, ?_⟩⟩
        have hgw := HGW.out
        have hs2 := HS2.out
        refine RV.keep (w := w3) (F := fun b => w2.heap.size ≤ b) (fun b hb hlt => ?_) (fun b hb _ => by omega) _ _ HOK.out.2.2.2
        exact (put_heap w5 K B n sv _ _ b (by omega)).trans ((HG5.out.block b (Nat.lt_of_lt_of_le hlt HX4.out.size) (fun e => by injection e; omega)).trans (HX4.out.block b hlt))
      | cons c r =>
        have HTE : Hid (T = .error 3) := by
          unfold Hid
          rw [HT2.out, HOK.out.1]
          simp only
          rw [if_neg (by rw [hskw]; exact List.cons_ne_nil _ _)]
        have hh : headI (c :: r) = (c.toNat : Int) := rfl
        rw [hh]
        have HCE := Lib.hid (HC.out w5 HGA.out)
        clear hskw hh
        obtain ⟨d0, d1, d2, d3, d4, d5⟩ := HCE.out.1.cells
        have e0 := HCE.out.1.free 0
        have e1 := HCE.out.1.free 1
        have e2 := HCE.out.1.free 2
        have e3 := HCE.out.1.free 3
        have e4 := HCE.out.1.free 4
        have e5 := HCE.out.1.free 5
        go_wp2_with fail
        refine bodyPost_ret (results_v rfl _ _ g rfl (HCE.out.2 0 false 0 ⟨#[]⟩ nilS nilS).1) rfl ?_
        exact ⟨(HCE.out.2 0 false 0 ⟨#[]⟩ nilS nilS).2, _, _, _, _, _, _, _, _, _, _, 3, rfl, .inr ⟨by decide, HTE.out, rfl⟩⟩
    · have HE : Hid (T = .error er ∧ er ≠ 0) := by
        rcases HRES.out with ⟨h1, _⟩ | ⟨h1, h2⟩
        · exact absurd h1 her
        · exact ⟨by rw [HT2.out, h2], h1⟩
      have ber : (er == 0) = false := by rw [beq_eq_false_iff_ne]; exact her
      have ber2 : (er != 0) = true := by rw [bne_iff_ne]; exact her
      have HCE := Lib.hid (HC.out w4 HG4.out)
      clear her
      obtain ⟨d0, d1, d2, d3, d4, d5⟩ := HCE.out.1.cells
      have e0 := HCE.out.1.free 0
      have e1 := HCE.out.1.free 1
      have e2 := HCE.out.1.free 2
      have e3 := HCE.out.1.free 3
      have e4 := HCE.out.1.free 4
      have e5 := HCE.out.1.free 5
      go_wp2_with fail
      refine bodyPost_ret (results_v rfl _ _ g rfl (HCE.out.2 0 false 0 ⟨#[]⟩ nilS nilS).1) rfl ?_
      exact ⟨(HCE.out.2 0 false 0 ⟨#[]⟩ nilS nilS).2, _, _, _, _, _, _, _, _, _, _, er, rfl, .inr ⟨HE.out.2, HE.out.1, rfl⟩⟩
end Go.Proofs.YtnccefeehkcneaaGreatDoor.Jm
