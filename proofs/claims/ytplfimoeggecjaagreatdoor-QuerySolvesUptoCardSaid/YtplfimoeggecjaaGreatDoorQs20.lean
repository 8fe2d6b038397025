/-
  The reference's solve: the walk.
-/
import Derived.Test.YtplfimoeggecjaaGreatDoorQs19
import Derived.Test.YtplfimoeggecjaaGreatDoorQsC
import Derived.Test.YtplfimoeggecjaaGreatDoorQr2
import Derived.Test.YtplfimoeggecjaaGreatDoorHas
namespace Go.Proofs.YtplfimoeggecjaaGreatDoor.Qs
open Go Go.RowKit Go.Lib Go.Proofs.YtplfimoeggecjaaGreatDoor.Sx Go.Proofs.YtplfimoeggecjaaGreatDoor.Dc

/-- The list that the reference tries, if a set stands in the parts. -/
def ValsIn (base : Nat) (w : World) (A : Option Addr) (n c : Nat) : Option Req → Prop
  | none => A = none ∧ n = 0 ∧ c = 0
  | some r => n = r.vals.length ∧ SRow base w (.slice A n c) (sortB r.vals)
theorem ValsIn.ext {base : Nat} {w w' : World} {A : Option Addr} {n c : Nat} {o : Option Req} (h : ValsIn base w A n c o) (hx : Ext w w') : ValsIn base w' A n c o := by
  cases o with
  | none => exact h
  | some r => exact ⟨h.1, h.2.ext hx⟩
theorem OwnS.kept {base c : Nat} {w w' : World} {A : Option Addr} {xs : List ByteArray} {row : Option Nat} (h : OwnS base w A c xs) (hg : w.grownBy w' row) (hne : ∀ g, row = some g → g < base ∨ w.heap.size ≤ g) : OwnS base w' A c xs := by
  refine ⟨h.1, ?_⟩
  rcases h.2 with h | ⟨g, hA, hb, hgs, hc⟩
  · exact .inl h
  · have hk := hg.block g hgs (fun e => by have := hne g e.symm; omega)
    exact .inr ⟨g, hA, hb, Nat.lt_of_lt_of_le hgs hg.size, fun i hi => ⟨by rw [World.cell?_of_block (w := w) (a := ⟨g, i, none⟩) hk]; exact (hc i hi).1, by rw [World.frozen?_of_block hk]; exact (hc i hi).2⟩⟩

set_option maxRecDepth 100000 in
set_option maxHeartbeats 8000000 in
theorem rsolve_any (B : Nat) (v : Value) (l : List Req) (w : World) (hB : B ≤ w.heap.size) (hv : ReqsR B w v l) (hg : Good l) :
    Calls Tryz.prog 27 #[v] w (SolPost w l) := by
  have HV := Lib.hid hv
  have HB := Lib.hid hB
  have HG := Lib.hid hg
  have hn : l.length ≤ 9 := hg.few
  have HSZ := Lib.hid (reqs_size hv)
  have q37 : ∀ (w : World) (a : Option Addr) (n c n' c' : Nat), (Go.binOp .eql 37 (.slice a n c) (.slice none n' c')).run Tryz.prog w = .ok (.bool a.isNone) w := fun w a n c n' c' => Lib.run_eql_slice_nil w _ _ a n c n' c' Tryz.underlying37
  obtain ⟨_, A, c, rfl, _⟩ := hv
  clear hB hg
  go_enter Tryz.func27, Tryz.ntmps27
  go_wp2_with fail
  go_loopw [4, 22] (fun o k wr => ∃ (j : Nat) (n : Nat) (A1 : Option Addr) (c1 : Nat), j ≤ l.length ∧ k = .int .i64 (j : Int) ∧ o = .slice A1 n c1 ∧ n ≤ j ∧ Hid (n = (keysRB (l.take j)).length ∧ SRow w.heap.size wr (.slice A1 n c1) (keysRB (l.take j)) ∧ Ext w wr)) (fun _ k _ => l.length - (intOf k).toNat)
  case atStart => exact ⟨0, 0, none, 0, Nat.zero_le _, rfl, rfl, Nat.le_refl _, rfl, SRow.nil, Below.refl _ _⟩
  case round =>
    obtain ⟨j, n, A1, c1, hj, rfl, rfl, hnj, hR⟩ := hrel
    by_cases hlt : j < l.length
    · obtain ⟨b, off, A2, c2, rfl, _, x0, x1, x2, _, _⟩ := (HV.out.below (hR.out.2.2.mono HB.out) (Nat.le_refl _)).at_ hlt
      have HY : Hid (wants l[j] = true → hasS (keysRB (l.take j)) l[j].key = false → keysRB (l.take (j + 1)) = keysRB (l.take j) ++ [l[j].key]) := keysRB_yes hlt
      have HHS : Hid (hasS (keysRB (l.take j)) l[j].key = true → keysRB (l.take (j + 1)) = keysRB (l.take j)) := keysRB_has hlt
      have HNO : Hid (wants l[j] = false → keysRB (l.take (j + 1)) = keysRB (l.take j)) := keysRB_no hlt
      obtain ⟨r, hr⟩ : ∃ r, r = l[j] := ⟨_, rfl⟩
      rw [← hr] at x0 x1 x2 HY HNO HHS
      obtain ⟨W1, hW⟩ : ∃ W, W = wr.alloc (.cells #[.string r.key, .int .i64 r.kind, .slice A2 r.vals.length c2] reqT) := ⟨_, rfl⟩
      obtain ⟨kb, hkb⟩ : ∃ kb, kb = wr.heap.size := ⟨_, rfl⟩
      have HW := Lib.hid (And.intro hW hkb)
      have hx1 : Ext wr W1 := by rw [hW]; exact new_ext _ _
      have HX1 := Lib.hid hx1
      have hh : W1.heap[kb]? = some (.cells #[.string r.key, .int .i64 r.kind, .slice A2 r.vals.length c2] reqT (0, 0)) := by rw [hW]; exact heap_new hkb
      have CH : Hid (Calls Tryz.prog 59 #[.slice A1 n c1, .string r.key] W1 fun e w' => e = .returned (.bool (hasS (keysRB (l.take j)) r.key)) ∧ W1 = w') :=
        rhas_any r.key ((hR.out.2.1.ext hx1).strs (by rw [← hR.out.1]; omega) (keysRB_size (fun r hr => (HSZ.out r hr).1) j))
      clear hr hW hkb hx1
      go_upto_region 5 with fail
      rw [← HW.out.1, ← HW.out.2]
      clear x0 x1 x2
      obtain ⟨z0, z1, z2⟩ := cells3' hh
      clear hh
      by_cases k1 : r.kind = 1
      · have b1 : (r.kind == 1) = true := by simp [k1]
        go_wp2_with fail
        refine Calls.mono CH.out ?_
        rintro e w2 ⟨rfl, rfl⟩
        cases hh : hasS (keysRB (l.take j)) r.key with
        | true =>
          have HY2 := Lib.hid (HHS.out hh)
          clear hh HY HNO HHS CH
          go_wp2_with fail
          go_roundw
          case rel => exact ⟨j + 1, n, A1, c1, hlt, by go_num, rfl, by omega, by rw [HY2.out]; exact hR.out.1, by rw [HY2.out]; exact hR.out.2.1.ext HX1.out, hR.out.2.2.trans HX1.out⟩
          case measure => simp [intOf]; omega
        | false =>
          have HY2 := Lib.hid (HY.out (wants_1 k1) hh)
          have HXA : Hid (Ext wr (W1.alloc (.cells #[.string r.key] strT)) ∧ Ext w (W1.alloc (.cells #[.string r.key] strT))) := ⟨HX1.out.trans (new_ext _ _), hR.out.2.2.trans (HX1.out.trans (new_ext _ _))⟩
          clear hh HY HNO HHS CH
          go_wp2_with (at_builtin; refine append_str rfl _ _ (by rfl) w.heap.size W1.heap.size n r.key _ (.slice A1 n c1) (keysRB (l.take j)) (by rfl) (by rfl) (hR.out.2.1.ext HXA.out.1) (heap_new rfl) hR.out.1.symm (by omega) HXA.out.2.size ?_; intro g9 c9 w9 h9 g9' _)
          have HX9 : Hid (Ext w w9) := Below.trans HXA.out.2 (srow_below (hR.out.2.1.ext HXA.out.1) g9' HXA.out.2.size)
          have H9 := Lib.hid h9
          clear h9 g9'
          go_wp2
          go_roundw
          case rel => exact ⟨j + 1, n + 1, some ⟨g9, 0, none⟩, c9, hlt, by go_num, rfl, by omega, by rw [HY2.out, List.length_append, ← hR.out.1]; rfl, by rw [HY2.out]; exact H9.out, HX9.out⟩
          case measure => simp [intOf]; omega
      · by_cases k3 : r.kind = 3
        · have b1 : (r.kind == 1) = false := by simp [k1]
          have b3 : (r.kind == 3) = true := by simp [k3]
          go_wp2_with fail
          refine Calls.mono CH.out ?_
          rintro e w2 ⟨rfl, rfl⟩
          cases hh : hasS (keysRB (l.take j)) r.key with
          | true =>
            have HY2 := Lib.hid (HHS.out hh)
            clear hh HY HNO HHS CH
            go_wp2_with fail
            go_roundw
            case rel => exact ⟨j + 1, n, A1, c1, hlt, by go_num, rfl, by omega, by rw [HY2.out]; exact hR.out.1, by rw [HY2.out]; exact hR.out.2.1.ext HX1.out, hR.out.2.2.trans HX1.out⟩
            case measure => simp [intOf]; omega
          | false =>
            have HY2 := Lib.hid (HY.out (wants_3 k3) hh)
            have HXA : Hid (Ext wr (W1.alloc (.cells #[.string r.key] strT)) ∧ Ext w (W1.alloc (.cells #[.string r.key] strT))) := ⟨HX1.out.trans (new_ext _ _), hR.out.2.2.trans (HX1.out.trans (new_ext _ _))⟩
            clear hh HY HNO HHS CH
            go_wp2_with (at_builtin; refine append_str rfl _ _ (by rfl) w.heap.size W1.heap.size n r.key _ (.slice A1 n c1) (keysRB (l.take j)) (by rfl) (by rfl) (hR.out.2.1.ext HXA.out.1) (heap_new rfl) hR.out.1.symm (by omega) HXA.out.2.size ?_; intro g9 c9 w9 h9 g9' _)
            have HX9 : Hid (Ext w w9) := Below.trans HXA.out.2 (srow_below (hR.out.2.1.ext HXA.out.1) g9' HXA.out.2.size)
            have H9 := Lib.hid h9
            clear h9 g9'
            go_wp2
            go_roundw
            case rel => exact ⟨j + 1, n + 1, some ⟨g9, 0, none⟩, c9, hlt, by go_num, rfl, by omega, by rw [HY2.out, List.length_append, ← hR.out.1]; rfl, by rw [HY2.out]; exact H9.out, HX9.out⟩
            case measure => simp [intOf]; omega
        · have HN2 := Lib.hid (HNO.out (wants_no k1 k3))
          have b1 : (r.kind == 1) = false := by simp [k1]
          have b3 : (r.kind == 3) = false := by simp [k3]
          clear HY HNO HHS CH k1 k3
          go_wp2_with fail
          go_roundw
          case rel => exact ⟨j + 1, n, A1, c1, hlt, by go_num, rfl, by omega, by rw [HN2.out]; exact hR.out.1, by rw [HN2.out]; exact hR.out.2.1.ext HX1.out, hR.out.2.2.trans HX1.out⟩
          case measure => simp [intOf]; omega
    · obtain rfl : j = l.length := by omega
      rw [List.take_length] at hR
      obtain ⟨W2, rfl⟩ : ∃ W2, W2 = wr := ⟨_, rfl⟩
      have HST : Hid (StrsR W2.heap.size W2 (.slice A1 (keysRB l).length c1) (keysRB l)) := by
        have h := hR.out.2.1.strs (by rw [← hR.out.1]; omega) (by have h := keysRB_size (l := l) (fun r hr => (HSZ.out r hr).1) l.length; rw [List.take_length] at h; exact h)
        rw [hR.out.1] at h
        exact h
      have CS := Lib.hid (rsort_any W2.heap.size (.slice A1 (keysRB l).length c1) (keysRB l) W2 (Nat.le_refl _) HST.out)
      rw [← hR.out.1, sort_keysRB] at CS
      have HX2 : Hid (Ext w W2) := hR.out.2.2
      have HKL : Hid (n = ((keysS l).map bx).length) := by
        unfold Hid
        rw [← sort_keysRB, sortB_len]
        exact hR.out.1
      clear HST hR hj
      go_wp2_with fail
      refine Calls.mono CS.out ?_
      rintro e w3 ⟨A3, c3, rfl, hrow, hx3⟩
      have HX3 : Hid (Ext w w3) := HX2.out.trans hx3
      have HO := Lib.hid (OwnS.of_row hrow)
      clear hrow hx3 CS
      go_wp2_with fail
      go_loopw [7, 50] (fun o k wr => ∃ (j : Nat) (A5 : Option Addr) (c5 : Nat) (acc : List Lab), j ≤ n ∧ k = .int .i64 (j : Int) ∧ o = .slice A5 j c5 ∧ Hid (acc.length = j ∧ labsFor l 73 ((keysS l).take j) = some acc ∧ LRow w3.heap.size wr (.slice A5 j c5) acc ∧ Ext w3 wr)) (fun _ k _ => n - (intOf k).toNat)
      case atStart => exact ⟨0, none, 0, [], Nat.zero_le _, rfl, rfl, rfl, rfl, LRow.nil, Below.refl _ _⟩
      case round =>
        obtain ⟨j, A5, c5, acc, hj, rfl, rfl, hR⟩ := hrel
        by_cases hlt : j < n
        · have hjk : j < (keysS l).length := by have := HKL.out; rw [List.length_map] at this; omega
          have hjx : j < ((keysS l).map bx).length := by rw [List.length_map]; exact hjk
          obtain ⟨g, rfl, _, y0⟩ := (HO.out.ext hR.out.2.2.2).cell hjx
          have HTK : Hid ((keysS l).take (j + 1) = (keysS l).take j ++ [tx ((keysS l).map bx)[j]]) := by
            unfold Hid
            rw [← List.take_append_getElem hjk, List.getElem_map, tx_bx]
          have HKZ : Hid (((keysS l).map bx)[j].size ≤ 1048576) := by
            unfold Hid
            rw [List.getElem_map]
            exact keysS_size (fun r hr => (HSZ.out r hr).1) _ (List.getElem_mem hjk)
          obtain ⟨key, hkey⟩ : ∃ key, key = ((keysS l).map bx)[j] := ⟨_, rfl⟩
          rw [← hkey] at y0 HTK HKZ
          obtain ⟨W0, rfl⟩ : ∃ W0, W0 = wr := ⟨_, rfl⟩
          have HXW : Hid (Ext w W0) := HX3.out.trans hR.out.2.2.2
          clear hkey hjx
          go_wp2_with fail
          go_loopw [10, 56] (fun o k wr => ∃ (i : Nat) (A6 : Option Addr) (n6 c6 : Nat) (L6 : List Rw), i ≤ l.length ∧ k = .int .i64 (i : Int) ∧ o = .slice A6 n6 c6 ∧ n6 ≤ i ∧ Hid (L6.length = n6 ∧ RRow reqT W0.heap.size wr (.slice A6 n6 c6) L6 ∧ RepL B wr L6 (aboutL (l.take i) (tx key)) ∧ Ext W0 wr)) (fun _ k _ => l.length - (intOf k).toNat)
          case atStart => exact ⟨0, none, 0, 0, [], Nat.zero_le _, rfl, rfl, Nat.le_refl _, rfl, RRow.nil, ⟨rfl, fun i hi => by simp [aboutL] at hi⟩, Below.refl _ _⟩
          case round =>
            obtain ⟨i, A6, n6, c6, L6, hi, rfl, rfl, hni, hQ⟩ := hrel
            clear y0
            by_cases hil : i < l.length
            · have hbw : B ≤ wr.heap.size := Nat.le_trans HB.out (HXW.out.trans hQ.out.2.2.2).size
              have HVW := HV.out.below ((HXW.out.trans hQ.out.2.2.2).mono HB.out) (Nat.le_refl _)
              obtain ⟨b, off, A2, c2, rfl, _, x0, x1, x2, hkz, hst⟩ := HVW.at_ hil
              have hcap := HVW.cap hil x2
              have HYA : Hid (eqS l[i].key key = true → aboutL (l.take (i + 1)) (tx key) = aboutL (l.take i) (tx key) ++ [l[i]]) := about_yes hil
              have HNA : Hid (eqS l[i].key key = false → aboutL (l.take (i + 1)) (tx key) = aboutL (l.take i) (tx key)) := about_no hil
              obtain ⟨r, hr⟩ : ∃ r, r = l[i] := ⟨_, rfl⟩
              rw [← hr] at x0 x1 x2 HYA HNA hst hcap hkz
              obtain ⟨W1, hW⟩ : ∃ W, W = wr.alloc (.cells #[.string r.key, .int .i64 r.kind, .slice A2 r.vals.length c2] reqT) := ⟨_, rfl⟩
              obtain ⟨kb, hkb⟩ : ∃ kb, kb = wr.heap.size := ⟨_, rfl⟩
              have HW := Lib.hid (And.intro hW hkb)
              have HX1 : Hid (Ext wr W1) := by rw [hW]; exact new_ext _ _
              have hh : W1.heap[kb]? = some (.cells #[.string r.key, .int .i64 r.kind, .slice A2 r.vals.length c2] reqT (0, 0)) := by rw [hW]; exact heap_new hkb
              have HT : Hid (repR B wr ⟨r.key, r.kind, A2, r.vals.length, c2⟩ r) := ⟨rfl, rfl, rfl, A2, c2, rfl, hkz, hst, hcap⟩
              have HBW := Lib.hid hbw
              clear hr hW hkb hkz hst hcap HVW hbw
              go_upto_region 16 with fail
              rw [← HW.out.1, ← HW.out.2]
              clear x0 x1 x2
              obtain ⟨z0, z1, z2⟩ := cells3' hh
              clear hh
              cases hk : eqS r.key key with
              | true =>
                have HYA2 := Lib.hid (HYA.out hk)
                have b1 : (r.key.toList == key.toList) = true := hk
                clear hk HYA HNA
                obtain ⟨t, ht⟩ : ∃ t : Rw, t = ⟨r.key, r.kind, A2, r.vals.length, c2⟩ := ⟨_, rfl⟩
                have HXA : Hid (Ext wr (W1.alloc (.cells #[.string r.key, .int .i64 r.kind, .slice A2 r.vals.length c2] reqT)) ∧ Ext W0 (W1.alloc (.cells #[.string r.key, .int .i64 r.kind, .slice A2 r.vals.length c2] reqT)) ∧ RSrc (W1.alloc (.cells #[.string r.key, .int .i64 r.kind, .slice A2 r.vals.length c2] reqT)) (.slice (some ⟨W1.heap.size, 0, none⟩) 1 1) [t]) := by
                  have h : Ext wr (W1.alloc (.cells #[.string r.key, .int .i64 r.kind, .slice A2 r.vals.length c2] reqT)) := HX1.out.trans (new_ext _ _)
                  refine ⟨h, hQ.out.2.2.2.trans h, ?_⟩
                  rw [ht]
                  exact RSrc.of_block (L := [⟨r.key, r.kind, A2, r.vals.length, c2⟩]) (et := reqT) (c := 1) (heap_new rfl)
                rw [← ht] at HT
                clear ht
                go_wp2_with (at_builtin; refine append_parts qTyOk rfl _ _ (by rfl) W0.heap.size n6 1 _ (.slice A6 n6 c6) (.slice (some ⟨W1.heap.size, 0, none⟩) 1 1) L6 [t] (by rfl) (by rfl) (hQ.out.2.1.ext HXA.out.1) HXA.out.2.2 hQ.out.1 rfl (by omega) HXA.out.2.1.size ?_; intro A9 c9 w9 h9 g9 _)
                have HX9 : Hid (Ext W0 w9 ∧ RepL B w9 (L6 ++ [t]) (aboutL (l.take i) (tx key) ++ [r])) := by
                  have hb := rrow_below (hQ.out.2.1.ext HXA.out.1) g9 HXA.out.2.1.size
                  refine ⟨Below.trans HXA.out.2.1 hb, ?_⟩
                  have hB9 : Below B wr w9 := Below.trans (HXA.out.1.mono HBW.out) (hb.mono (Nat.le_trans HB.out HXW.out.size))
                  exact (hQ.out.2.2.1.below hB9 (Nat.le_refl _)).more (HT.out.below hB9 (Nat.le_refl _))
                have H9 := Lib.hid h9
                clear h9 g9
                go_wp2
                go_roundw
                case rel => exact ⟨i + 1, A9, n6 + 1, c9, L6 ++ [t], hil, by go_num, rfl, by omega, by rw [List.length_append, hQ.out.1]; rfl, H9.out, by rw [HYA2.out]; exact HX9.out.2, HX9.out.1⟩
                case measure => simp [intOf]; omega
              | false =>
                have HNA2 := Lib.hid (HNA.out hk)
                have b1 : (r.key.toList == key.toList) = false := hk
                clear hk HYA HNA
                go_wp2_with fail
                go_roundw
                case rel => exact ⟨i + 1, A6, n6, c6, L6, hil, by go_num, rfl, by omega, hQ.out.1, hQ.out.2.1.ext HX1.out, by rw [HNA2.out]; exact hQ.out.2.2.1.below (HX1.out.mono HBW.out) (Nat.le_refl _), hQ.out.2.2.2.trans HX1.out⟩
                case measure => simp [intOf]; omega
            · obtain rfl : i = l.length := by omega
              rw [List.take_length] at hQ
              obtain ⟨W5, rfl⟩ : ∃ W5, W5 = wr := ⟨_, rfl⟩
              obtain ⟨ab, hab⟩ : ∃ ab, ab = aboutL l (tx key) := ⟨_, rfl⟩
              rw [← hab] at hQ
              obtain rfl : n6 = ab.length := by rw [← hQ.out.1, hQ.out.2.2.1.1]
              have HXW5 : Hid (Ext w W5) := HXW.out.trans hQ.out.2.2.2
              have HAB := Lib.hid hab
              have hal : ab.length ≤ 9 := by omega
              have HSUB : Hid (∀ r ∈ ab, r ∈ l) := fun r hr => by rw [hab] at hr; exact (about_key hr).2
              have HZ : Hid (ReqsR W5.heap.size W5 (.slice A6 ab.length c6) ab) := reqs_of_row hQ.out.2.1 hQ.out.2.2.1 (Nat.le_trans HB.out HXW5.out.size) (by omega)
              clear hab hi hni hil
              go_wp2_with fail
              go_loopw [13, 14] (fun o k wr => ∃ (q : Nat) (z : Int) (A7 : Option Addr) (n7 c7 : Nat), q ≤ ab.length ∧ z + 1 = (q : Int) ∧ k = .int .i64 z ∧ o = .slice A7 n7 c7 ∧ Hid (ValsIn W5.heap.size wr A7 n7 c7 (setAt ab q) ∧ Ext W5 wr)) (fun _ k _ => (intOf k + 1).toNat)
              case atStart => exact ⟨ab.length, (ab.length : Int) - 1, none, 0, 0, Nat.le_refl _, by omega, rfl, rfl, by rw [setAt_end]; exact ⟨rfl, rfl, rfl⟩, Below.refl _ _⟩
              case round =>
                obtain ⟨q, z, A7, n7, c7, hq, hz, rfl, rfl, hS⟩ := hrel
                by_cases hq0 : 0 < q
                · obtain ⟨p, rfl⟩ : ∃ p, q = p + 1 := ⟨q - 1, by omega⟩
                  obtain rfl : z = (p : Int) := by omega
                  have hpl : p < ab.length := by omega
                  obtain ⟨b, off, A2, c2, rfl, _, _, x1, x2, _, hst⟩ := (HZ.out.below hS.out.2 (Nat.le_refl _)).at_ hpl
                  have HYS : Hid (isIn ab[p] = true → setAt ab p = some ab[p]) := setAt_yes hpl
                  have HNS : Hid (isIn ab[p] = false → setAt ab p = setAt ab (p + 1)) := setAt_no hpl
                  obtain ⟨r, hr⟩ : ∃ r, r = ab[p] := ⟨_, rfl⟩
                  rw [← hr] at x1 x2 hst HYS HNS
                  have HST := Lib.hid hst
                  have hp0 : (0 : Int) ≤ (p : Int) := by omega
                  have hpI : (p : Int) < (ab.length : Int) := by omega
                  clear hr hst hz hq0
                  by_cases k1 : r.kind = 1
                  · have b1 : (r.kind == 1) = true := by simp [k1]
                    have HYS2 := Lib.hid (HYS.out (by unfold isIn; simp [k1]))
                    have CS := Lib.hid (rsort_any W5.heap.size (.slice A2 r.vals.length c2) r.vals wr hS.out.2.size HST.out)
                    clear HYS HNS k1
                    go_wp2_with fail
                    refine Calls.mono CS.out ?_
                    rintro e w7 ⟨A9, c9, rfl, hrow, hx7⟩
                    have H7 := Lib.hid (And.intro hrow hx7)
                    clear hrow hx7 CS
                    go_wp2_with fail
                    go_roundw
                    case rel => exact ⟨p, (p : Int) - 1, A9, r.vals.length, c9, by omega, by omega, by go_num, rfl, by rw [HYS2.out]; exact ⟨rfl, H7.out.1.low hS.out.2.size⟩, hS.out.2.trans H7.out.2⟩
                    case measure => simp [intOf] <;> omega
                  · have b1 : (r.kind == 1) = false := by simp [k1]
                    have HNS2 := Lib.hid (HNS.out (by unfold isIn; simp [k1]))
                    clear HYS HNS k1
                    go_wp2_with fail
                    go_roundw
                    case rel => exact ⟨p, (p : Int) - 1, A7, n7, c7, by omega, by omega, by go_num, rfl, by rw [HNS2.out]; exact hS.out.1, hS.out.2⟩
                    case measure => simp [intOf] <;> omega
                · obtain rfl : q = 0 := by omega
                  obtain rfl : z = -1 := by omega
                  rw [setAt_zero] at hS
                  cases hf : ab.find? isIn with
                  | none =>
                    have HC : Hid ((candL ab 80).map bx = numL 80) := candR_num hf
                    rw [hf] at hS
                    obtain ⟨rfl, rfl, rfl⟩ := hS.out.1
                    have HX6 := Lib.hid hS.out.2
                    obtain ⟨W6, rfl⟩ : ∃ W6, W6 = wr := ⟨_, rfl⟩
                    clear hf hz hq0 hS
                    go_wp2_with fail
                    go_loopw [13, 91] (fun o k wr => ∃ (i : Nat) (n8 : Nat) (A8 : Option Addr) (c8 : Nat), i ≤ 80 ∧ k = .int .i64 (i : Int) ∧ i + 1 = n8 ∧ o = .slice A8 n8 c8 ∧ Hid (SRow W6.heap.size wr (.slice A8 n8 c8) (numL i) ∧ Ext W6 wr)) (fun _ k _ => 80 - (intOf k).toNat)
                    case atStart => exact ⟨0, 1, some ⟨W6.heap.size, 0, none⟩, 1, by omega, rfl, rfl, rfl, row_one (Nat.le_refl _) (heap_new rfl), new_ext _ _⟩
                    case round =>
                      obtain ⟨i, n8, A8, c8, hi8, rfl, hin, rfl, hD⟩ := hrel
                      by_cases hil : i < 80
                      · have CD := Lib.hid (digits_any i wr (by omega))
                        have hiI : (i : Int) < 80 := by omega
                        go_wp2_with fail
                        refine Calls.mono CD.out ?_
                        rintro e w8 ⟨rfl, hx8⟩
                        have HXA : Hid (Ext wr (w8.alloc (.cells #[.string (decS i)] strT)) ∧ Ext W6 (w8.alloc (.cells #[.string (decS i)] strT))) := ⟨hx8.trans (new_ext _ _), hD.out.2.trans (hx8.trans (new_ext _ _))⟩
                        have HNL : Hid ((numL i).length = n8) := by unfold Hid; rw [numL_len]; exact hin
                        clear hx8 CD
                        go_wp2_with (at_builtin; refine append_str rfl _ _ (by rfl) W6.heap.size w8.heap.size n8 (decS i) _ (.slice A8 n8 c8) (numL i) (by rfl) (by rfl) (hD.out.1.ext HXA.out.1) (heap_new rfl) HNL.out (by omega) HXA.out.2.size ?_; intro g9 c9 w9 h9 g9' _)
                        have HX9 : Hid (Ext W6 w9) := Below.trans HXA.out.2 (srow_below (hD.out.1.ext HXA.out.1) g9' HXA.out.2.size)
                        have H9 := Lib.hid h9
                        clear h9 g9'
                        go_wp2
                        go_roundw
                        case rel => exact ⟨i + 1, n8 + 1, some ⟨g9, 0, none⟩, c9, hil, by go_num, by omega, rfl, by rw [numL_succ]; exact H9.out, HX9.out⟩
                        case measure => simp [intOf]; omega
                      · obtain rfl : i = 80 := by omega
                        obtain ⟨W7, rfl⟩ : ∃ W7, W7 = wr := ⟨_, rfl⟩
                        obtain ⟨cs, hcs⟩ : ∃ cs, cs = numL 80 := ⟨_, rfl⟩
                        rw [← hcs] at hD HC
                        have H8 : Hid (SRow W5.heap.size W7 (.slice A8 n8 c8) cs ∧ Ext W5 W7 ∧ cs.length = n8 ∧ (∀ x ∈ cs, x.size ≤ 1048576) ∧ n8 ≤ 100) := ⟨hD.out.1.low HX6.out.size, HX6.out.trans hD.out.2, by rw [hcs, numL_len]; omega, by rw [hcs]; exact numL_size (by omega), by omega⟩
                        clear hcs hD hin hi8 hil HX6
                        go_wp2_with fail
                        have HX7 : Hid (Ext W5 W7 ∧ Ext w W7 ∧ Ext W0 W7 ∧ Ext w3 W7) := by
                          have h0 : Ext W0 W7 := hQ.out.2.2.2.trans H8.out.2.1
                          exact ⟨H8.out.2.1, HXW5.out.trans H8.out.2.1, h0, hR.out.2.2.2.trans h0⟩
                        have hb8 : n8 ≤ 100 := H8.out.2.2.2.2
                        have HO8 : Hid (OwnS W5.heap.size W7 A8 c8 cs) := OwnS.of_row H8.out.1
                        have HN8 : Hid (cs.length = n8 ∧ ∀ x ∈ cs, x.size ≤ 1048576) := ⟨H8.out.2.2.1, H8.out.2.2.2.1⟩
                        have HVAL : Hid ((valueL l (tx key) 73).map bx = foundTo ab key cs cs.length) := found_value HG.out HAB.out HC.out
                        clear H8 HC
                        go_loopw [7, 16, 102] (fun o f k wr => ∃ (i : Nat) (A9 : Option Addr) (n9 c9 : Nat) (bf : Bool), i ≤ n8 ∧ k = .int .i64 (i : Int) ∧ o = .slice A9 n9 c9 ∧ f = .bool bf ∧ Hid ((foundTo ab key cs i = none ∧ false = bf ∧ A5 = A9 ∧ j = n9 ∧ c5 = c9 ∧ Ext W7 wr) ∨ (∃ x, foundTo ab key cs i = some x ∧ true = bf ∧ j + 1 = n9 ∧ LRow w3.heap.size wr (.slice A9 (j + 1) c9) (acc ++ [⟨key, x⟩]) ∧ Ext w3 wr ∧ OwnS W5.heap.size wr A8 c8 cs))) (fun _ _ k _ => n8 - (intOf k).toNat)
                        case atStart => exact ⟨0, A5, j, c5, false, Nat.zero_le _, rfl, rfl, rfl, .inl ⟨found_zero _ _ _, rfl, rfl, rfl, rfl, Below.refl _ _⟩⟩
                        case round =>
                          obtain ⟨i, A9, n9, c9, bf, hi8, rfl, rfl, rfl, hF⟩ := hrel
                          rcases hF.out with ⟨f0, rfl, rfl, rfl, rfl, hxr⟩ | ⟨x0, f0, rfl, rfl, hlr, hxr, ho⟩
                          · have HXR := Lib.hid hxr
                            have HF0 := Lib.hid f0
                            clear hF f0 hxr
                            by_cases hil : i < n8
                            · have hic : i < cs.length := by rw [HN8.out.1]; exact hil
                              obtain ⟨g8, rfl, _, y8⟩ := (HO8.out.ext HXR.out).cell hic
                              have HFY : Hid (fitP ab key cs[i] = true → foundTo ab key cs (i + 1) = some cs[i]) := found_yes hic HF0.out
                              have HFN : Hid (fitP ab key cs[i] = false → foundTo ab key cs (i + 1) = none) := found_no hic HF0.out
                              have HXZ : Hid (cs[i].size ≤ 1048576) := HN8.out.2 _ (List.getElem_mem hic)
                              obtain ⟨x, hx⟩ : ∃ x, x = cs[i] := ⟨_, rfl⟩
                              rw [← hx] at y8 HFY HFN HXZ
                              obtain ⟨W8, hW⟩ : ∃ W, W = wr.alloc (.cells #[.string key, .string x] lbT) := ⟨_, rfl⟩
                              obtain ⟨kb, hkb⟩ : ∃ kb, kb = wr.heap.size := ⟨_, rfl⟩
                              have HW := Lib.hid (And.intro hW hkb)
                              have HX8 : Hid (Ext wr W8 ∧ Ext W5 W8 ∧ Ext w3 W8) := by
                                have h : Ext wr W8 := by rw [hW]; exact new_ext _ _
                                exact ⟨h, HX7.out.1.trans (HXR.out.trans h), HX7.out.2.2.2.trans (HXR.out.trans h)⟩
                              have hh : W8.heap[kb]? = some (.cells #[.string key, .string x] lbT (0, 0)) := by rw [hW]; exact heap_new hkb
                              have HH := Lib.hid hh
                              have CFT : Hid (Calls Tryz.prog 68 #[.slice A6 ab.length c6, .slice (some ⟨W8.heap.size, 0, none⟩) 1 1] (W8.alloc (.cells #[.string key, .string x] lbT)) fun e w' => e = .returned (.bool (fitP ab key x)) ∧ Ext W8 w') := by
                                have hz : Ext W5 (W8.alloc (.cells #[.string key, .string x] lbT)) := HX8.out.2.1.trans (new_ext _ _)
                                exact (fits_any _ _ _ ab [⟨key, x⟩] _ (Nat.le_refl _) (HZ.out.below hz hz.size) (lab_one (x := ⟨key, x⟩) (heap_new rfl) HKZ.out HXZ.out) (fun r hr => HG.out.kinds r (HSUB.out r hr)) (rising_one _)).mono fun e w' ⟨h1, h2⟩ => ⟨h1, (new_ext _ _).trans h2⟩
                              clear hx hic hW hkb
                              go_upto_region 37 with fail
                              rw [← HW.out.1, ← HW.out.2]
                              clear y8
                              obtain ⟨z0, z1⟩ := cells2' hh
                              clear hh
                              go_wp2_with fail
                              refine Calls.mono CFT.out ?_
                              rintro e w9 ⟨rfl, hx9⟩
                              have HX9 := Lib.hid hx9
                              clear CFT z0 z1
                              cases hp : fitP ab key x with
                              | true =>
                                have HFY2 := Lib.hid (HFY.out hp)
                                obtain ⟨z0, z1⟩ := cells2' ((hx9.block _ (heap_lt HH.out)).trans HH.out)
                                have HXA : Hid (Ext W7 (w9.alloc (.cells #[.string key, .string x] lbT)) ∧ Ext W0 (w9.alloc (.cells #[.string key, .string x] lbT)) ∧ Ext w3 (w9.alloc (.cells #[.string key, .string x] lbT))) := by
                                  have h : Ext W7 (w9.alloc (.cells #[.string key, .string x] lbT)) := HXR.out.trans (HX8.out.1.trans (hx9.trans (new_ext _ _)))
                                  exact ⟨h, HX7.out.2.2.1.trans h, HX7.out.2.2.2.trans h⟩
                                have HLR : Hid (LRow w3.heap.size (w9.alloc (.cells #[.string key, .string x] lbT)) (.slice A5 j c5) acc) := hR.out.2.2.1.ext HXA.out.2.1
                                clear hp HFY HFN hx9
                                go_wp2_with (at_builtin; refine append_lab rfl _ _ (by rfl) w3.heap.size j w9.heap.size ⟨key, x⟩ _ (.slice A5 j c5) acc (by rfl) (by rfl) HLR.out (heap_new rfl) hR.out.1 (by omega) HXA.out.2.2.size ?_; intro A10 c10 w10 h10 g10 _)
                                have HX10 : Hid (Ext w3 w10 ∧ OwnS W5.heap.size w10 (some ⟨g8, 0, none⟩) c8 cs) := by
                                  refine ⟨Below.trans HXA.out.2.2 (lrow_below HLR.out g10 HXA.out.2.2.size), (HO8.out.ext HXA.out.1).kept g10 fun g hg => .inl ?_⟩
                                  have h := (hR.out.2.2.1.block g hg).2
                                  exact Nat.lt_of_lt_of_le h hQ.out.2.2.2.size
                                have H10 := Lib.hid h10
                                clear h10 g10 z0 z1
                                go_wp2
                                refine ⟨?_, ?measure⟩
                                (repeat apply Exists.intro)
                                refine ⟨?rel, rfl⟩
                                case rel => exact ⟨i + 1, A10, j + 1, c10, true, hil, by go_num, rfl, rfl, .inr ⟨x, HFY2.out, rfl, rfl, H10.out, HX10.out.1, HX10.out.2⟩⟩
                                case measure => simp [intOf]; omega
                              | false =>
                                have HFN2 := Lib.hid (HFN.out hp)
                                clear hp HFY HFN hx9
                                go_wp2_with fail
                                refine ⟨?_, ?measure⟩
                                (repeat apply Exists.intro)
                                refine ⟨?rel, rfl⟩
                                case rel => exact ⟨i + 1, A5, j, c5, false, hil, by go_num, rfl, rfl, .inl ⟨HFN2.out, rfl, rfl, rfl, rfl, HXR.out.trans (HX8.out.1.trans HX9.out)⟩⟩
                                case measure => simp [intOf]; omega
                            · have HNN : Hid (solveL l = none) := by
                                have e : i = cs.length := by rw [HN8.out.1]; omega
                                have hvn := value_none HVAL.out (by rw [← e]; exact HF0.out)
                                have h := labs_none hR.out.2.1 hvn ((keysS l).drop (j + 1))
                                rw [← HTK.out, List.take_append_drop] at h
                                exact h
                              go_wp2
                              go_ret2
                              exact sol_none HNN.out (HX7.out.2.1.trans HXR.out)
                          · have HLR := Lib.hid (And.intro hlr (And.intro hxr ho))
                            have HF0 := Lib.hid f0
                            clear hF f0 hlr hxr ho
                            by_cases hil : i < n8
                            · have hic : i < cs.length := by rw [HN8.out.1]; exact hil
                              obtain ⟨g8, rfl, _, y8⟩ := HLR.out.2.2.cell hic
                              have HFS := Lib.hid (found_some hic HF0.out)
                              obtain ⟨x, hx⟩ : ∃ x, x = cs[i] := ⟨_, rfl⟩
                              rw [← hx] at y8
                              have HNEW : Hid (∀ o, Ext wr (wr.alloc o)) := fun o => new_ext _ _
                              clear hx hic
                              go_wp2_with fail
                              go_roundw
                              case rel => exact ⟨i + 1, A9, j + 1, c9, true, hil, by go_num, rfl, rfl, .inr ⟨x0, HFS.out, rfl, rfl, HLR.out.1.ext (HNEW.out _), HLR.out.2.1.trans (HNEW.out _), HLR.out.2.2.ext (HNEW.out _)⟩⟩
                              case measure => simp [intOf]; omega
                            · have HS : Hid (labsFor l 73 ((keysS l).take (j + 1)) = some (acc ++ [⟨key, x0⟩])) := by
                                have e : i = cs.length := by rw [HN8.out.1]; omega
                                have hvs := value_some HVAL.out (by rw [← e]; exact HF0.out)
                                have h := labs_some hR.out.2.1 hvs
                                rw [← HTK.out] at h
                                exact h
                              go_wp2
                              go_roundw
                              case rel => exact ⟨j + 1, A9, c9, acc ++ [⟨key, x0⟩], hlt, by go_num, rfl, by rw [List.length_append, hR.out.1]; rfl, HS.out, HLR.out.1, HLR.out.2.1⟩
                              case measure => simp [intOf]; omega
                  | some r =>
                    have hrab := setAt_mem (q := 0) (r := r) (ab := ab) (by rw [setAt_zero]; exact hf)
                    have HC : Hid ((candL ab 80).map bx = sortB r.vals) := candR_set hf
                    have HRV : Hid (r.vals.length ≠ 0 ∧ r.vals.length ≤ 8) := ⟨HG.out.some_ r (HSUB.out r hrab.1) (.inl hrab.2), HG.out.vals r (HSUB.out r hrab.1)⟩
                    have HVS : Hid (∀ x ∈ sortB r.vals, x.size ≤ 1048576) := fun x hx => (HSZ.out r (HSUB.out r hrab.1)).2 x ((sortB_mem _ _).1 hx)
                    rw [hf] at hS
                    obtain ⟨cs, hcs⟩ : ∃ cs, cs = sortB r.vals := ⟨_, rfl⟩
                    have HCL : Hid (cs.length = r.vals.length) := by rw [hcs]; exact sortB_len _
                    have hS2 := hS.out
                    unfold ValsIn at hS2
                    simp only at hS2
                    rw [← hcs] at HC HVS hS2
                    obtain ⟨W7, rfl⟩ : ∃ W7, W7 = wr := ⟨_, rfl⟩
                    obtain ⟨g8, hA8, u1, u2⟩ := (OwnS.of_row hS2.1.2).cell (i := 0) (by have h1 := HCL.out; have h2 := HRV.out; omega)
                    have H8 : Hid (SRow W5.heap.size W7 (.slice A7 n7 c7) cs ∧ Ext W5 W7 ∧ cs.length = n7 ∧ (∀ x ∈ cs, x.size ≤ 1048576) ∧ n7 ≤ 100) := ⟨hS2.1.2, hS2.2, by rw [HCL.out]; exact hS2.1.1.symm, HVS.out, by have h1 := hS2.1.1; have h2 := HRV.out; omega⟩
                    have HA8 := Lib.hid hA8
                    rw [hA8]
                    clear u1 u2
                    clear hf hz hq0 hS hS2 hcs hrab hA8
                    obtain ⟨n8, rfl⟩ : ∃ n8, n8 = n7 := ⟨_, rfl⟩
                    obtain ⟨c8, rfl⟩ : ∃ c8, c8 = c7 := ⟨_, rfl⟩
                    go_wp2_with fail
                    rw [← HA8.out]
                    obtain ⟨A8, rfl⟩ : ∃ A8, A8 = A7 := ⟨_, rfl⟩
                    clear HA8
                    have HX7 : Hid (Ext W5 W7 ∧ Ext w W7 ∧ Ext W0 W7 ∧ Ext w3 W7) := by
                      have h0 : Ext W0 W7 := hQ.out.2.2.2.trans H8.out.2.1
                      exact ⟨H8.out.2.1, HXW5.out.trans H8.out.2.1, h0, hR.out.2.2.2.trans h0⟩
                    have hb8 : n8 ≤ 100 := H8.out.2.2.2.2
                    have HO8 : Hid (OwnS W5.heap.size W7 A8 c8 cs) := OwnS.of_row H8.out.1
                    have HN8 : Hid (cs.length = n8 ∧ ∀ x ∈ cs, x.size ≤ 1048576) := ⟨H8.out.2.2.1, H8.out.2.2.2.1⟩
                    have HVAL : Hid ((valueL l (tx key) 73).map bx = foundTo ab key cs cs.length) := found_value HG.out HAB.out HC.out
                    clear H8 HC
                    go_loopw [7, 16, 102] (fun o f k wr => ∃ (i : Nat) (A9 : Option Addr) (n9 c9 : Nat) (bf : Bool), i ≤ n8 ∧ k = .int .i64 (i : Int) ∧ o = .slice A9 n9 c9 ∧ f = .bool bf ∧ Hid ((foundTo ab key cs i = none ∧ false = bf ∧ A5 = A9 ∧ j = n9 ∧ c5 = c9 ∧ Ext W7 wr) ∨ (∃ x, foundTo ab key cs i = some x ∧ true = bf ∧ j + 1 = n9 ∧ LRow w3.heap.size wr (.slice A9 (j + 1) c9) (acc ++ [⟨key, x⟩]) ∧ Ext w3 wr ∧ OwnS W5.heap.size wr A8 c8 cs))) (fun _ _ k _ => n8 - (intOf k).toNat)
                    case atStart => exact ⟨0, A5, j, c5, false, Nat.zero_le _, rfl, rfl, rfl, .inl ⟨found_zero _ _ _, rfl, rfl, rfl, rfl, Below.refl _ _⟩⟩
                    case round =>
                      obtain ⟨i, A9, n9, c9, bf, hi8, rfl, rfl, rfl, hF⟩ := hrel
                      rcases hF.out with ⟨f0, rfl, rfl, rfl, rfl, hxr⟩ | ⟨x0, f0, rfl, rfl, hlr, hxr, ho⟩
                      · have HXR := Lib.hid hxr
                        have HF0 := Lib.hid f0
                        clear hF f0 hxr
                        by_cases hil : i < n8
                        · have hic : i < cs.length := by rw [HN8.out.1]; exact hil
                          obtain ⟨g8, rfl, _, y8⟩ := (HO8.out.ext HXR.out).cell hic
                          have HFY : Hid (fitP ab key cs[i] = true → foundTo ab key cs (i + 1) = some cs[i]) := found_yes hic HF0.out
                          have HFN : Hid (fitP ab key cs[i] = false → foundTo ab key cs (i + 1) = none) := found_no hic HF0.out
                          have HXZ : Hid (cs[i].size ≤ 1048576) := HN8.out.2 _ (List.getElem_mem hic)
                          obtain ⟨x, hx⟩ : ∃ x, x = cs[i] := ⟨_, rfl⟩
                          rw [← hx] at y8 HFY HFN HXZ
                          obtain ⟨W8, hW⟩ : ∃ W, W = wr.alloc (.cells #[.string key, .string x] lbT) := ⟨_, rfl⟩
                          obtain ⟨kb, hkb⟩ : ∃ kb, kb = wr.heap.size := ⟨_, rfl⟩
                          have HW := Lib.hid (And.intro hW hkb)
                          have HX8 : Hid (Ext wr W8 ∧ Ext W5 W8 ∧ Ext w3 W8) := by
                            have h : Ext wr W8 := by rw [hW]; exact new_ext _ _
                            exact ⟨h, HX7.out.1.trans (HXR.out.trans h), HX7.out.2.2.2.trans (HXR.out.trans h)⟩
                          have hh : W8.heap[kb]? = some (.cells #[.string key, .string x] lbT (0, 0)) := by rw [hW]; exact heap_new hkb
                          have HH := Lib.hid hh
                          have CFT : Hid (Calls Tryz.prog 68 #[.slice A6 ab.length c6, .slice (some ⟨W8.heap.size, 0, none⟩) 1 1] (W8.alloc (.cells #[.string key, .string x] lbT)) fun e w' => e = .returned (.bool (fitP ab key x)) ∧ Ext W8 w') := by
                            have hz : Ext W5 (W8.alloc (.cells #[.string key, .string x] lbT)) := HX8.out.2.1.trans (new_ext _ _)
                            exact (fits_any _ _ _ ab [⟨key, x⟩] _ (Nat.le_refl _) (HZ.out.below hz hz.size) (lab_one (x := ⟨key, x⟩) (heap_new rfl) HKZ.out HXZ.out) (fun r hr => HG.out.kinds r (HSUB.out r hr)) (rising_one _)).mono fun e w' ⟨h1, h2⟩ => ⟨h1, (new_ext _ _).trans h2⟩
                          clear hx hic hW hkb
                          go_upto_region 37 with fail
                          rw [← HW.out.1, ← HW.out.2]
                          clear y8
                          obtain ⟨z0, z1⟩ := cells2' hh
                          clear hh
                          go_wp2_with fail
                          refine Calls.mono CFT.out ?_
                          rintro e w9 ⟨rfl, hx9⟩
                          have HX9 := Lib.hid hx9
                          clear CFT z0 z1
                          cases hp : fitP ab key x with
                          | true =>
                            have HFY2 := Lib.hid (HFY.out hp)
                            obtain ⟨z0, z1⟩ := cells2' ((hx9.block _ (heap_lt HH.out)).trans HH.out)
                            have HXA : Hid (Ext W7 (w9.alloc (.cells #[.string key, .string x] lbT)) ∧ Ext W0 (w9.alloc (.cells #[.string key, .string x] lbT)) ∧ Ext w3 (w9.alloc (.cells #[.string key, .string x] lbT))) := by
                              have h : Ext W7 (w9.alloc (.cells #[.string key, .string x] lbT)) := HXR.out.trans (HX8.out.1.trans (hx9.trans (new_ext _ _)))
                              exact ⟨h, HX7.out.2.2.1.trans h, HX7.out.2.2.2.trans h⟩
                            have HLR : Hid (LRow w3.heap.size (w9.alloc (.cells #[.string key, .string x] lbT)) (.slice A5 j c5) acc) := hR.out.2.2.1.ext HXA.out.2.1
                            clear hp HFY HFN hx9
                            go_wp2_with (at_builtin; refine append_lab rfl _ _ (by rfl) w3.heap.size j w9.heap.size ⟨key, x⟩ _ (.slice A5 j c5) acc (by rfl) (by rfl) HLR.out (heap_new rfl) hR.out.1 (by omega) HXA.out.2.2.size ?_; intro A10 c10 w10 h10 g10 _)
                            have HX10 : Hid (Ext w3 w10 ∧ OwnS W5.heap.size w10 (some ⟨g8, 0, none⟩) c8 cs) := by
                              refine ⟨Below.trans HXA.out.2.2 (lrow_below HLR.out g10 HXA.out.2.2.size), (HO8.out.ext HXA.out.1).kept g10 fun g hg => .inl ?_⟩
                              have h := (hR.out.2.2.1.block g hg).2
                              exact Nat.lt_of_lt_of_le h hQ.out.2.2.2.size
                            have H10 := Lib.hid h10
                            clear h10 g10 z0 z1
                            go_wp2
                            go_roundw
                            case rel => exact ⟨i + 1, A10, j + 1, c10, true, hil, by go_num, rfl, rfl, .inr ⟨x, HFY2.out, rfl, rfl, H10.out, HX10.out.1, HX10.out.2⟩⟩
                            case measure => simp [intOf]; omega
                          | false =>
                            have HFN2 := Lib.hid (HFN.out hp)
                            clear hp HFY HFN hx9
                            go_wp2_with fail
                            go_roundw
                            case rel => exact ⟨i + 1, A5, j, c5, false, hil, by go_num, rfl, rfl, .inl ⟨HFN2.out, rfl, rfl, rfl, rfl, HXR.out.trans (HX8.out.1.trans HX9.out)⟩⟩
                            case measure => simp [intOf]; omega
                        · have HNN : Hid (solveL l = none) := by
                            have e : i = cs.length := by rw [HN8.out.1]; omega
                            have hvn := value_none HVAL.out (by rw [← e]; exact HF0.out)
                            have h := labs_none hR.out.2.1 hvn ((keysS l).drop (j + 1))
                            rw [← HTK.out, List.take_append_drop] at h
                            exact h
                          go_wp2
                          go_ret2
                          exact sol_none HNN.out (HX7.out.2.1.trans HXR.out)
                      · have HLR := Lib.hid (And.intro hlr (And.intro hxr ho))
                        have HF0 := Lib.hid f0
                        clear hF f0 hlr hxr ho
                        by_cases hil : i < n8
                        · have hic : i < cs.length := by rw [HN8.out.1]; exact hil
                          obtain ⟨g8, rfl, _, y8⟩ := HLR.out.2.2.cell hic
                          have HFS := Lib.hid (found_some hic HF0.out)
                          obtain ⟨x, hx⟩ : ∃ x, x = cs[i] := ⟨_, rfl⟩
                          rw [← hx] at y8
                          have HNEW : Hid (∀ o, Ext wr (wr.alloc o)) := fun o => new_ext _ _
                          clear hx hic
                          go_wp2_with fail
                          go_roundw
                          case rel => exact ⟨i + 1, A9, j + 1, c9, true, hil, by go_num, rfl, rfl, .inr ⟨x0, HFS.out, rfl, rfl, HLR.out.1.ext (HNEW.out _), HLR.out.2.1.trans (HNEW.out _), HLR.out.2.2.ext (HNEW.out _)⟩⟩
                          case measure => simp [intOf]; omega
                        · have HS : Hid (labsFor l 73 ((keysS l).take (j + 1)) = some (acc ++ [⟨key, x0⟩])) := by
                            have e : i = cs.length := by rw [HN8.out.1]; omega
                            have hvs := value_some HVAL.out (by rw [← e]; exact HF0.out)
                            have h := labs_some hR.out.2.1 hvs
                            rw [← HTK.out] at h
                            exact h
                          go_wp2
                          go_roundw
                          case rel => exact ⟨j + 1, A9, c9, acc ++ [⟨key, x0⟩], hlt, by go_num, rfl, by rw [List.length_append, hR.out.1]; rfl, HS.out, HLR.out.1, HLR.out.2.1⟩
                          case measure => simp [intOf]; omega
        · obtain rfl : j = n := by omega
          have HS : Hid (solveL l = some acc) := by
            have h := hR.out.2.1
            rw [List.take_of_length_le (by have := HKL.out; rw [List.length_map] at this; omega)] at h
            exact h
          go_wp2
          go_ret2
          exact sol_some HSZ.out hn HS.out (hR.out.2.2.1.low HX3.out.size) (HX3.out.trans hR.out.2.2.2)
end Go.Proofs.YtplfimoeggecjaaGreatDoor.Qs
