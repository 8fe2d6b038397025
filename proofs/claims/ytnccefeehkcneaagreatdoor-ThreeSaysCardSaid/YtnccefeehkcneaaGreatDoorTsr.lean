/-
  The reference's Sort of strings: the walk; the strings are of any length (XQr2 with another look at the cells).
-/
import Derived.Test.YtnccefeehkcneaaGreatDoorQrs
import Derived.Test.YtnccefeehkcneaaGreatDoorJm0
import Derived.Deep.QuietTactic
import Derived.BigQuiet
import Derived.Deep.RegionLaw
import Derived.Laws.Cover1
namespace Go.Proofs.YtnccefeehkcneaaGreatDoor.Qs
open Go Go.RowKit Go.Lib Go.Proofs.YtnccefeehkcneaaGreatDoor.Sx
set_option maxRecDepth 100000 in
set_option maxHeartbeats 4000000 in
theorem rsortC_any (A0 : Option Addr) (c0 : Nat) (xs : List ByteArray) (w : World) (hn : xs.length ≤ 1099511627776) (hv : ∀ i (hi : i < xs.length), ∃ g off, A0 = some ⟨g, off, none⟩ ∧ w.cell? ⟨g, off + i, none⟩ = some (.string xs[i])) :
    Calls Tryz.prog 52 #[.slice A0 xs.length c0] w fun e w' => ∃ A c, e = .returned (.slice A xs.length c) ∧ SRow w.heap.size w' (.slice A xs.length c) (sortB xs) ∧ Ext w w' := by
  have HV := Lib.hid hv
  go_enter Tryz.func52, Tryz.ntmps52
  go_wp2
  go_loopw [3, 9] (fun o k wr => ∃ (j : Nat) (A : Option Addr) (c : Nat), j ≤ xs.length ∧ k = .int .i64 (j : Int) ∧ o = .slice A j c ∧ Hid (SRow w.heap.size wr (.slice A j c) (sortB (xs.take j)) ∧ Ext w wr)) (fun _ k _ => xs.length - (intOf k).toNat)
  case atStart => exact ⟨0, none, 0, Nat.zero_le _, rfl, rfl, SRow.nil, Below.refl _ _⟩
  case round =>
    obtain ⟨j, A1, c1, hj, rfl, rfl, hR⟩ := hrel
    by_cases hlt : j < xs.length
    · obtain ⟨b, off, hA0, hc0⟩ := HV.out j hlt
      have x0 := (Jm.cell_keep (hR.out.2.block b (Jm.cell_lt hc0))).trans hc0
      obtain ⟨s, hs⟩ : ∃ s, s = xs[j] := ⟨_, rfl⟩
      rw [← hs] at x0
      obtain ⟨out, hout⟩ : ∃ out, out = sortB (xs.take j) := ⟨_, rfl⟩
      have hol : out.length = j := by rw [hout, sortB_len, List.length_take]; omega
      have HNX : Hid (∀ k, k ≤ j → (∀ i (hi : i < out.length), i < k → leB out[i] s = true) → (∀ h : k < out.length, leB out[k] s = false) → sortB (xs.take (j + 1)) = out.take k ++ ([s] ++ out.drop k)) := fun k hk h1 h2 => by
        subst hout hs
        exact sortB_next hlt hk h1 h2
      rw [← hout] at hR
      have HOL := Lib.hid hol
      clear hs hout hc0 hol
      subst hA0
      go_wp2_with fail
      go_loopw [6] (fun k wr => ∃ q : Nat, q ≤ j ∧ k = .int .i64 (q : Int) ∧ Hid (∀ i (hi : i < out.length), i < q → leB out[i] s = true) ∧ Hid (SRow w.heap.size wr (.slice A1 j c1) out ∧ Ext w wr)) (fun k _ => j - (intOf k).toNat)
      case atStart => exact ⟨0, Nat.zero_le _, rfl, fun i hi h => by omega, hR⟩
      case round =>
        obtain ⟨q, hq, rfl, hQ, hR2⟩ := hrel
        clear x0
        by_cases hql : q < j
        · obtain ⟨g, rfl, u1, u2, u3, u4, hcl⟩ := hR2.out.1.cells (by have := HOL.out; omega)
          have hqo : q < out.length := by have := HOL.out; omega
          have y0 := hcl q hqo
          rw [Nat.zero_add] at y0
          clear u1 u2 u3 u4
          have HT : Hid (leB out[q] s = true → ∀ i (hi : i < out.length), i < q + 1 → leB out[i] s = true) := fun h i hi hlt => by
            rcases Nat.lt_or_ge i q with h1 | h1
            · exact hQ.out i hi h1
            · obtain rfl : i = q := by omega
              exact h
          have HF : Hid (leB out[q] s = false → ∃ h : q < out.length, leB out[q] s = false) := fun h => ⟨hqo, h⟩
          obtain ⟨y, hy⟩ : ∃ y, y = out[q] := ⟨_, rfl⟩
          rw [← hy] at y0 HT HF
          clear hy hcl
          cases hb : leB y s with
          | true =>
            have HT2 := Lib.hid (HT.out hb)
            have b1 : (Op.bytesLess y.toList s.toList || y.toList == s.toList) = true := hb
            clear hb HT HF
            go_wp2_with fail
            go_roundw
            case rel => exact ⟨q + 1, by omega, by go_num, HT2, hR2⟩
            case measure => simp [intOf]; omega
          | false =>
            have HF2 := Lib.hid (HF.out hb)
            have b1 : (Op.bytesLess y.toList s.toList || y.toList == s.toList) = false := hb
            clear hb HT HF
            go_wp2_with fail
            clear b1 y0 hqo
            have HS : Hid (sortB (xs.take (j + 1)) = out.take q ++ ([s] ++ out.drop q)) := HNX.out q hq (fun i hi h => hQ.out i hi h) (fun _ => HF2.out.2)
            obtain ⟨hA, hnc, hno⟩ := row_addr hR2.out.1
            have s1 := run_head_s (some ⟨g, 0, none⟩) j c1 q hA (by omega)
            obtain ⟨A', s2, hsrc⟩ := row_tail hR2.out.1 HOL.out q hq hnc
            have hll : (out.take q).length = q ∧ (out.drop q).length = j - q := ⟨by rw [List.length_take]; have := HOL.out; omega, by rw [List.length_drop, HOL.out]⟩
            obtain ⟨m, hm⟩ : ∃ m, m = j - q := ⟨_, rfl⟩
            rw [← hm] at s2 hsrc hll
            have hmb : m + 1 ≤ 1099511627776 := by omega
            have HLL := Lib.hid hll
            have HM : Hid (q + (1 + m) = j + 1) := by unfold Hid; omega
            clear hll hm
            have HSRC := Lib.hid hsrc
            have CC : Hid (∀ wk, Ext wr wk → Calls Tryz.prog 83 #[.slice (some ⟨g, 0, none⟩) q c1] wk fun e w' => ∃ A c, e = .returned (.slice A q c) ∧ SRow wr.heap.size w' (.slice A q c) (out.take q) ∧ Ext wr w' ∧ Ext wk w' ∧ (∀ z, (Value.slice A q c).ownBlock = some z → wk.heap.size ≤ z)) := fun wk hk => by
              refine (copyS_any wk.heap.size _ _ wk ((hR2.out.1.prefix_ (by have := HOL.out; omega)).ext hk) (by rw [HLL.out.1]; omega) (Nat.le_refl _)).mono fun e w' ⟨A, c, he, hrow, hx, _⟩ => ?_
              rw [HLL.out.1] at he hrow
              exact ⟨A, c, he, hrow.low hk.size, hk.trans hx, hx, fun z hz => (hrow.block z hz).1⟩
            have HROW : Hid (∀ w5, Ext wr w5 → SRow wr.heap.size (w5.alloc (.cells #[.string s] strT)) (.slice (some ⟨w5.heap.size, 0, none⟩) 1 1) [s] ∧ Ext wr (w5.alloc (.cells #[.string s] strT)) ∧ wr.heap.size ≤ (w5.alloc (.cells #[.string s] strT)).heap.size) := fun w5 x5 => ⟨row_one x5.size (heap_new rfl), x5.trans (new_ext _ _), (x5.trans (new_ext _ _)).size⟩
            have HSR : Hid (∀ wk, Ext wr wk → SrcS wk (.slice A' m (c1 - q)) (out.drop q)) := fun wk hk => HSRC.out.ext hk
            have HR5 : Hid (∀ (w5 w7 : World) (v5 : Value), Ext wr w5 → SRow wr.heap.size w5 v5 (out.take q) → (w5.alloc (.cells #[.string s] strT)).grownBy w7 (some w5.heap.size) → SRow wr.heap.size w7 v5 (out.take q)) := fun w5 w7 v5 x5 r5 g7 => (r5.ext (new_ext _ _)).kept g7 (fun z hz e => by have h := r5.block z hz; injection e with e; omega)
            have HR6 : Hid (∀ (w5 w7 : World) (v5 : Value), SRow wr.heap.size w5 v5 (out.take q) → w5.grownBy w7 (some wr.heap.size) → (∀ z, v5.ownBlock = some z → wr.heap.size + 1 ≤ z) → SRow wr.heap.size w7 v5 (out.take q)) := fun w5 w7 v5 r5 g7 p5 => r5.kept g7 (fun z hz e => by have h := p5 z hz; injection e with e; omega)
            have hxx : Ext wr wr := Below.refl _ _
            have hqc : q ≤ c1 := by omega
            clear hA hnc hno hsrc
            go_region_law (first
              | (go_simp; go_at_call 83; with_reducible refine (CC.out _ (by first | assumption | exact (Below.refl _ _).drew | exact new_ext _ _ | exact (new_ext _ _).drew | exact Below.trans x5 (new_ext _ _) | exact x5.drew | exact Below.trans x5.drew (new_ext _ _) | exact (Below.trans x5 (new_ext _ _)).drew | exact X7.out | exact X7.out.drew | exact Below.trans (Below.refl _ _).drew (new_ext _ _))).mono ?_; rintro e w5 ⟨A5, c5, rfl, r5, x5, y5, p5⟩)
              | (refine step_append_srs rfl _ _ (by rfl) wr.heap.size 1 m _ (.slice (some ⟨w5.heap.size, 0, none⟩) 1 1) (.slice A' m (c1 - q)) [s] (out.drop q) (by rfl) (by rfl) (HROW.out _ x5).1 (HSR.out _ (HROW.out _ x5).2.1) rfl HLL.out.2 (by omega) (by omega) (HROW.out _ x5).2.2 ?_; intro A7 c7 w7 r7 g7 o7; have X7 := Lib.hid (Below.trans (HROW.out _ x5).2.1 (row_below (HROW.out _ x5).1 g7 (HROW.out _ x5).2.2)); have R5 := Lib.hid (HR5.out _ _ _ x5 r5 g7); have R7 := Lib.hid r7; clear r7)
              | (refine step_append_srs rfl _ _ (by rfl) wr.heap.size 1 m _ (.slice (some ⟨wr.heap.size, 0, none⟩) 1 1) (.slice A' m (c1 - q)) [s] (out.drop q) (by rfl) (by rfl) ((HROW.out wr.drew hxx.drew).1.ext y5) (HSR.out _ x5) rfl HLL.out.2 (by omega) (by omega) x5.size ?_; intro A7 c7 w7 r7 g7 o7; have X7 := Lib.hid (Below.trans x5 (row_below ((HROW.out wr.drew hxx.drew).1.ext y5) g7 x5.size)); have R5 := Lib.hid (HR6.out _ _ _ r5 g7 (fun z hz => by have := p5 z hz; simpa using this)); have R7 := Lib.hid r7; clear r7)
              | (refine step_append_srs rfl _ _ (by rfl) wr.heap.size 1 m _ (.slice (some ⟨wr.heap.size, 0, none⟩) 1 1) (.slice A' m (c1 - q)) [s] (out.drop q) (by rfl) (by rfl) (HROW.out wr.drew hxx.drew).1 (HSR.out _ (HROW.out wr.drew hxx.drew).2.1) rfl HLL.out.2 (by omega) (by omega) (HROW.out wr.drew hxx.drew).2.2 ?_; intro A7 c7 w7 r7 g7 o7; have X7 := Lib.hid (Below.trans (HROW.out wr.drew hxx.drew).2.1 (row_below (HROW.out wr.drew hxx.drew).1 g7 (HROW.out wr.drew hxx.drew).2.2)); have R7 := Lib.hid r7; clear r7)
              | (refine step_append_srs rfl _ _ (by rfl) wr.heap.size q (1 + m) _ (.slice A5 q c5) (.slice A7 (1 + m) c7) (out.take q) ([s] ++ out.drop q) (by rfl) (by rfl) R5.out R7.out.src HLL.out.1 (by rw [List.length_append, HLL.out.2]; rfl) (by omega) (by omega) X7.out.size ?_; intro A9 c9 w9 r9 g9 o9; have X9 := Lib.hid (X7.out.trans (row_below R5.out g9 X7.out.size)); have R9 := Lib.hid r9; clear r9)
              | (refine step_append_srs rfl _ _ (by rfl) wr.heap.size q (1 + m) _ (.slice A5 q c5) (.slice A7 (1 + m) c7) (out.take q) ([s] ++ out.drop q) (by rfl) (by rfl) r5 (R7.out.src.ext y5) HLL.out.1 (by rw [List.length_append, HLL.out.2]; rfl) (by omega) (by omega) x5.size ?_; intro A9 c9 w9 r9 g9 o9; have X9 := Lib.hid (x5.trans (row_below r5 g9 x5.size)); have R9 := Lib.hid r9; clear r9))
            all_goals
              go_wp2_with fail
              go_roundw
              case rel => exact ⟨j + 1, A9, c9, by omega, by go_num, (by rw [HM.out]), by have h := R9.out; rw [← HS.out, HM.out] at h; exact ⟨h.low hR2.out.2.size, hR2.out.2.trans (X9.out.mono (Nat.le_refl _))⟩⟩
              case measure => simp [intOf]; omega
        · obtain rfl : q = j := by omega
          go_wp2_with fail
          have HS : Hid (sortB (xs.take (q + 1)) = out.take q ++ ([s] ++ out.drop q)) := HNX.out q hq (fun i hi h => hQ.out i hi h) (fun h => by have := HOL.out; omega)
          obtain ⟨hA, hnc, hno⟩ := row_addr hR2.out.1
          have s1 := run_head_s A1 q c1 q hA (by omega)
          obtain ⟨A', s2, hsrc⟩ := row_tail hR2.out.1 HOL.out q hq hnc
          have hll : (out.take q).length = q ∧ (out.drop q).length = q - q := ⟨by rw [List.length_take]; have := HOL.out; omega, by rw [List.length_drop, HOL.out]⟩
          obtain ⟨m, hm⟩ : ∃ m, m = q - q := ⟨_, rfl⟩
          rw [← hm] at s2 hsrc hll
          have hmb : m + 1 ≤ 1099511627776 := by omega
          have HLL := Lib.hid hll
          have HM : Hid (q + (1 + m) = q + 1) := by unfold Hid; omega
          clear hll hm
          have HSRC := Lib.hid hsrc
          have CC : Hid (∀ wk, Ext wr wk → Calls Tryz.prog 83 #[.slice A1 q c1] wk fun e w' => ∃ A c, e = .returned (.slice A q c) ∧ SRow wr.heap.size w' (.slice A q c) (out.take q) ∧ Ext wr w' ∧ Ext wk w' ∧ (∀ z, (Value.slice A q c).ownBlock = some z → wk.heap.size ≤ z)) := fun wk hk => by
            refine (copyS_any wk.heap.size _ _ wk ((hR2.out.1.prefix_ (by have := HOL.out; omega)).ext hk) (by rw [HLL.out.1]; omega) (Nat.le_refl _)).mono fun e w' ⟨A, c, he, hrow, hx, _⟩ => ?_
            rw [HLL.out.1] at he hrow
            exact ⟨A, c, he, hrow.low hk.size, hk.trans hx, hx, fun z hz => (hrow.block z hz).1⟩
          have HROW : Hid (∀ w5, Ext wr w5 → SRow wr.heap.size (w5.alloc (.cells #[.string s] strT)) (.slice (some ⟨w5.heap.size, 0, none⟩) 1 1) [s] ∧ Ext wr (w5.alloc (.cells #[.string s] strT)) ∧ wr.heap.size ≤ (w5.alloc (.cells #[.string s] strT)).heap.size) := fun w5 x5 => ⟨row_one x5.size (heap_new rfl), x5.trans (new_ext _ _), (x5.trans (new_ext _ _)).size⟩
          have HSR : Hid (∀ wk, Ext wr wk → SrcS wk (.slice A' m (c1 - q)) (out.drop q)) := fun wk hk => HSRC.out.ext hk
          have HR5 : Hid (∀ (w5 w7 : World) (v5 : Value), Ext wr w5 → SRow wr.heap.size w5 v5 (out.take q) → (w5.alloc (.cells #[.string s] strT)).grownBy w7 (some w5.heap.size) → SRow wr.heap.size w7 v5 (out.take q)) := fun w5 w7 v5 x5 r5 g7 => (r5.ext (new_ext _ _)).kept g7 (fun z hz e => by have h := r5.block z hz; injection e with e; omega)
          have HR6 : Hid (∀ (w5 w7 : World) (v5 : Value), SRow wr.heap.size w5 v5 (out.take q) → w5.grownBy w7 (some wr.heap.size) → (∀ z, v5.ownBlock = some z → wr.heap.size + 1 ≤ z) → SRow wr.heap.size w7 v5 (out.take q)) := fun w5 w7 v5 r5 g7 p5 => r5.kept g7 (fun z hz e => by have h := p5 z hz; injection e with e; omega)
          have hxx : Ext wr wr := Below.refl _ _
          have hqc : q ≤ c1 := by omega
          clear hA hnc hno hsrc
          go_region_law (first
            | (go_simp; go_at_call 83; with_reducible refine (CC.out _ (by first | assumption | exact (Below.refl _ _).drew | exact new_ext _ _ | exact (new_ext _ _).drew | exact Below.trans x5 (new_ext _ _) | exact x5.drew | exact Below.trans x5.drew (new_ext _ _) | exact (Below.trans x5 (new_ext _ _)).drew | exact X7.out | exact X7.out.drew | exact Below.trans (Below.refl _ _).drew (new_ext _ _))).mono ?_; rintro e w5 ⟨A5, c5, rfl, r5, x5, y5, p5⟩)
            | (refine step_append_srs rfl _ _ (by rfl) wr.heap.size 1 m _ (.slice (some ⟨w5.heap.size, 0, none⟩) 1 1) (.slice A' m (c1 - q)) [s] (out.drop q) (by rfl) (by rfl) (HROW.out _ x5).1 (HSR.out _ (HROW.out _ x5).2.1) rfl HLL.out.2 (by omega) (by omega) (HROW.out _ x5).2.2 ?_; intro A7 c7 w7 r7 g7 o7; have X7 := Lib.hid (Below.trans (HROW.out _ x5).2.1 (row_below (HROW.out _ x5).1 g7 (HROW.out _ x5).2.2)); have R5 := Lib.hid (HR5.out _ _ _ x5 r5 g7); have R7 := Lib.hid r7; clear r7)
            | (refine step_append_srs rfl _ _ (by rfl) wr.heap.size 1 m _ (.slice (some ⟨wr.heap.size, 0, none⟩) 1 1) (.slice A' m (c1 - q)) [s] (out.drop q) (by rfl) (by rfl) ((HROW.out wr.drew hxx.drew).1.ext y5) (HSR.out _ x5) rfl HLL.out.2 (by omega) (by omega) x5.size ?_; intro A7 c7 w7 r7 g7 o7; have X7 := Lib.hid (Below.trans x5 (row_below ((HROW.out wr.drew hxx.drew).1.ext y5) g7 x5.size)); have R5 := Lib.hid (HR6.out _ _ _ r5 g7 (fun z hz => by have := p5 z hz; simpa using this)); have R7 := Lib.hid r7; clear r7)
            | (refine step_append_srs rfl _ _ (by rfl) wr.heap.size 1 m _ (.slice (some ⟨wr.heap.size, 0, none⟩) 1 1) (.slice A' m (c1 - q)) [s] (out.drop q) (by rfl) (by rfl) (HROW.out wr.drew hxx.drew).1 (HSR.out _ (HROW.out wr.drew hxx.drew).2.1) rfl HLL.out.2 (by omega) (by omega) (HROW.out wr.drew hxx.drew).2.2 ?_; intro A7 c7 w7 r7 g7 o7; have X7 := Lib.hid (Below.trans (HROW.out wr.drew hxx.drew).2.1 (row_below (HROW.out wr.drew hxx.drew).1 g7 (HROW.out wr.drew hxx.drew).2.2)); have R7 := Lib.hid r7; clear r7)
            | (refine step_append_srs rfl _ _ (by rfl) wr.heap.size q (1 + m) _ (.slice A5 q c5) (.slice A7 (1 + m) c7) (out.take q) ([s] ++ out.drop q) (by rfl) (by rfl) R5.out R7.out.src HLL.out.1 (by rw [List.length_append, HLL.out.2]; rfl) (by omega) (by omega) X7.out.size ?_; intro A9 c9 w9 r9 g9 o9; have X9 := Lib.hid (X7.out.trans (row_below R5.out g9 X7.out.size)); have R9 := Lib.hid r9; clear r9)
            | (refine step_append_srs rfl _ _ (by rfl) wr.heap.size q (1 + m) _ (.slice A5 q c5) (.slice A7 (1 + m) c7) (out.take q) ([s] ++ out.drop q) (by rfl) (by rfl) r5 (R7.out.src.ext y5) HLL.out.1 (by rw [List.length_append, HLL.out.2]; rfl) (by omega) (by omega) x5.size ?_; intro A9 c9 w9 r9 g9 o9; have X9 := Lib.hid (x5.trans (row_below r5 g9 x5.size)); have R9 := Lib.hid r9; clear r9))
          all_goals
            go_wp2_with fail
            go_roundw
            case rel => exact ⟨q + 1, A9, c9, by omega, by go_num, (by rw [HM.out]), by have h := R9.out; rw [← HS.out, HM.out] at h; exact ⟨h.low hR2.out.2.size, hR2.out.2.trans (X9.out.mono (Nat.le_refl _))⟩⟩
            case measure => simp [intOf]; omega
    · obtain rfl : j = xs.length := by omega
      go_wp2
      go_ret
      refine ⟨A1, c1, rfl, ?_, hR.out.2⟩
      have := hR.out.1
      rw [List.take_length] at this
      exact this
end Go.Proofs.YtnccefeehkcneaaGreatDoor.Qs
