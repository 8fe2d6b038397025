/-
  The program's list: values in brackets.
-/
import Derived.Test.YtfggodnfliciiaaDoorRd2
import Derived.Test.YtfggodnfliciiaaDoorSrow
import Derived.Test.YtfggodnfliciiaaDoorBgn
namespace Go.Proofs.YtfggodnfliciiaaDoor.Rd
open Go Go.RowKit Go.Proofs.YtfggodnfliciiaaDoor.Sx

theorem pre_nil {c : UInt8} : pre ⟨#[c]⟩ [] = false := by unfold pre Lib.hasPrefix; rfl
theorem pre_one {c d : UInt8} {r : Tx} : pre ⟨#[c]⟩ (d :: r) = (c == d) := by
  unfold pre Lib.hasPrefix
  simp [List.isPrefixOf]
theorem sfx_step {s : ByteArray} {i : Nat} {c : UInt8} {r : Tx} (h : sfx s i = c :: r) : i < s.size ∧ sfx s (i + 1) = r := by
  have hl : i < s.size := by
    have := sfx_len s i
    rw [h] at this
    simp at this
    omega
  rw [sfx_cons hl] at h
  injection h with h1 h2
  exact ⟨hl, h2⟩
theorem listS_comma {s r : Tx} {acc : List Tx} (h : wordRest s = 44 :: r) : listS s acc = listS r (acc ++ [wordOf s]) := by
  rw [listS]
  split
  · rename_i h2; rw [h] at h2; cases h2
  · rename_i c r2 h2
    rw [h] at h2
    injection h2 with e1 e2
    subst e1 e2
    simp
theorem listS_close {s r : Tx} {acc : List Tx} (h : wordRest s = 41 :: r) : listS s acc = some (acc ++ [wordOf s], skip r) := by
  rw [listS]
  split
  · rename_i h2; rw [h] at h2; cases h2
  · rename_i c r2 h2
    rw [h] at h2
    injection h2 with e1 e2
    subst e1 e2
    rfl
theorem listS_end {s : Tx} {acc : List Tx} (h : wordRest s = []) : listS s acc = none := by
  rw [listS]
  split
  · rfl
  · rename_i c r2 h2; rw [h] at h2; cases h2
theorem listS_bad {s r : Tx} {c : UInt8} {acc : List Tx} (h : wordRest s = c :: r) (h1 : c ≠ 44) (h2 : c ≠ 41) : listS s acc = none := by
  rw [listS]
  split
  · rfl
  · rename_i c2 r2 h3
    rw [h] at h3
    injection h3 with e1 e2
    subst e1 e2
    rw [if_neg h1, if_neg h2]
def listAll (s : Tx) : Option (List Tx × Tx) :=
  match skip s with
  | [] => none
  | c :: r => if c = 40 then listS r [] else none
/-- What list hands back. -/
def ListPost (w : World) (kp : Nat) (s : ByteArray) (o : Option (List Tx × Tx)) (e : Ending) (w' : World) : Prop :=
  ∃ j, j ≤ s.size ∧ w.grownBy w' (some kp) ∧ ((∃ vs A c, o = some (vs, sfx s j) ∧ e = .returned (.slice A vs.length c) ∧ SRow w.heap.size w' (.slice A vs.length c) (vs.map bx) ∧ PIn w' kp s j false) ∨ (o = none ∧ e = .returned (.slice none 0 0) ∧ PIn w' kp s j true))
theorem row_kp {base kp : Nat} {w w' : World} {v : Value} {xs : List ByteArray} (h : SRow base w v xs) (hk : kp < base) (hg : w.grownBy w' (some kp)) : SRow base w' v xs :=
  h.kept hg fun g hg2 e => by
    have := (h.block g hg2).1
    injection e with e
    omega

theorem PIn.kept {w w' : World} {kp : Nat} {s : ByteArray} {i : Nat} {bad : Bool} {row : Option Nat} (h : PIn w kp s i bad) (hg : w.grownBy w' row) (hne : row ≠ some kp) : PIn w' kp s i bad := (hg.block _ (heap_lt h) (fun e => hne e.symm)).trans h
theorem grown_own {w w1 w2 : World} {kp : Nat} {v : Value} {xs : List ByteArray} (h : w.grownBy w1 (some kp)) (hr : SRow w.heap.size w1 v xs) (hg : w1.grownBy w2 v.ownBlock) : w.grownBy w2 (some kp) :=
  ⟨hg.os.trans h.os, hg.tape.trans h.tape, hg.output.trans h.output, Nat.le_trans h.size hg.size, fun k hk hne => (hg.block k (Nat.lt_of_lt_of_le hk h.size) (fun e => by have := (hr.block k e.symm).1; omega)).trans (h.block k hk hne)⟩

set_option maxRecDepth 100000 in
set_option maxHeartbeats 4000000 in
theorem list_any (kp : Nat) (s : ByteArray) (i : Nat) (w : World) (h : PIn w kp s i false) (hs : s.size ≤ 300) (hi : i ≤ s.size) :
    Calls Tryd.prog 28 #[.pointer (some ⟨kp, 0, none⟩)] w (ListPost w kp s (listAll (sfx s i))) := by
  have H := Lib.hid h
  have HK := Lib.hid (heap_lt h)
  clear h
  go_enter Tryd.func28, Tryd.ntmps28
  go_wp2_with fail
  refine Calls.mono (blanks_any kp s i false w H.out hs hi) ?_
  rintro e w1 ⟨a, rfl, hp1, hia, has, hsk, hg1⟩
  have H1 := Lib.hid (And.intro hp1 (And.intro hsk hg1))
  clear hp1 hsk hg1
  have HH := Lib.hid (has_any kp s a false ⟨#[40]⟩ w1 H1.out.1 has hs (by decide))
  rcases hS : sfx s a with _ | ⟨c, r⟩
  · have HL : Hid (listAll (sfx s i) = none) := by unfold Hid listAll; rw [← H1.out.2.1, hS]
    rw [hS, pre_nil] at HH
    clear hS
    go_wp2_with fail
    refine Calls.mono HH.out ?_
    rintro e w2 ⟨rfl, hp2, hg2⟩
    have H2 : Hid (PIn w2 kp s a false ∧ w.grownBy w2 (some kp)) := ⟨hp2, grown_trans H1.out.2.2 hg2⟩
    have f2 := H2.out.1.free 2
    have z2 := H2.out.1.cells.2.2
    clear hp2 hg2
    go_wp2
    go_ret
    exact ⟨a, has, grown_trans H2.out.2 (grown_set _ kp 2 _), .inr ⟨HL.out, rfl, H2.out.1.setBad true⟩⟩
  · by_cases hc : c = 40
    · have HL : Hid (listAll (sfx s i) = listS r []) := by unfold Hid listAll; rw [← H1.out.2.1, hS, hc]; rfl
      have HT := Lib.hid (sfx_step hS)
      rw [hS, pre_one, hc] at HH
      clear hS hc
      go_wp2_with fail
      refine Calls.mono HH.out ?_
      rintro e w2 ⟨rfl, hp2, hg2⟩
      have H2 : Hid (PIn w2 kp s (a + 1) false ∧ w.grownBy w2 (some kp)) := ⟨hp2, grown_trans H1.out.2.2 hg2⟩
      clear hp2 hg2
      have ha1 : a + 1 ≤ s.size := HT.out.1
      go_wp2_with fail
      go_loopw [3] (fun o wr => ∃ (acc : List Tx) (n : Nat) (A : Option Addr) (c2 j : Nat), j ≤ s.size ∧ n ≤ j ∧ o = .slice A n c2 ∧ Hid (acc.length = n ∧ listS (sfx s j) acc = listS r [] ∧ SRow w.heap.size wr (.slice A n c2) (acc.map bx) ∧ PIn wr kp s j false ∧ w.grownBy wr (some kp))) (fun _ wr => s.size - atOf wr kp)
      case atStart => exact ⟨[], 0, none, 0, a + 1, ha1, Nat.zero_le _, rfl, rfl, by rw [HT.out.2], SRow.nil, H2.out.1, H2.out.2⟩
      case round =>
        obtain ⟨acc, n, A, c2, j, hj, hnj, rfl, hR⟩ := hrel
        have CW := Lib.hid (word_any kp s j false wr hR.out.2.2.2.1 hs hj)
        go_wp2_with fail
        refine Calls.mono CW.out ?_
        rintro e w4 ⟨k, rfl, hp4, hjk, hks, hsk, hg4⟩
        obtain ⟨wd, hwd⟩ : ∃ wd, wd = wordOf (sfx s j) := ⟨_, rfl⟩
        have HWD := Lib.hid hwd
        have HSK := Lib.hid hsk
        have HXA : Hid (SRow w.heap.size (w4.alloc (.cells #[.string (bx wd)] strT)) (.slice A n c2) (acc.map bx) ∧ w.grownBy (w4.alloc (.cells #[.string (bx wd)] strT)) (some kp) ∧ PIn (w4.alloc (.cells #[.string (bx wd)] strT)) kp s k false ∧ (acc.map bx).length = n ∧ w.heap.size ≤ (w4.alloc (.cells #[.string (bx wd)] strT)).heap.size) := by
          have hg : w.grownBy (w4.alloc (.cells #[.string (bx wd)] strT)) (some kp) := grown_trans hR.out.2.2.2.2 (grown_trans hg4 (grown_ext (new_ext _ _)))
          exact ⟨(row_kp hR.out.2.2.1 HK.out hg4).ext (new_ext _ _), hg, hp4.ext (new_ext _ _), by rw [List.length_map]; exact hR.out.1, hg.size⟩
        rw [← hwd]
        clear hwd hsk hg4 hp4 CW
        go_wp2_with (at_builtin; refine append_str rfl _ _ (by rfl) w.heap.size w4.heap.size n (bx wd) _ (.slice A n c2) (acc.map bx) (by rfl) (by rfl) HXA.out.1 (heap_new rfl) HXA.out.2.2.2.1 (by omega) HXA.out.2.2.2.2 ?_; intro g9 c9 w9 h9 g9' _)
        have H9 : Hid (SRow w.heap.size w9 (.slice (some ⟨g9, 0, none⟩) (n + 1) c9) ((acc ++ [wd]).map bx) ∧ PIn w9 kp s k false ∧ w.grownBy w9 (some kp)) := by
          refine ⟨by rw [List.map_append]; exact h9, HXA.out.2.2.1.kept g9' (fun e => ?_), grown_own HXA.out.2.1 HXA.out.1 g9'⟩
          have h1 := (HXA.out.1.block _ e).1
          have h2 := HK.out
          omega
        clear h9 g9'
        rcases hS : sfx s k with _ | ⟨c, q⟩
        · have HLL : Hid (listAll (sfx s i) = none) := by
            unfold Hid
            rw [HL.out, ← hR.out.2.1]
            exact listS_end (by rw [← HSK.out]; exact hS)
          have HHA := Lib.hid (has_any kp s k false ⟨#[44]⟩ w9 H9.out.2.1 hks hs (by decide))
          rw [hS, pre_nil] at HHA
          have HSN := Lib.hid hS
          clear hS
          go_wp2_with fail
          refine Calls.mono HHA.out ?_
          rintro e w10 ⟨rfl, hp10, hg10⟩
          have H10 : Hid (PIn w10 kp s k false ∧ w.grownBy w10 (some kp) ∧ SRow w.heap.size w10 (.slice (some ⟨g9, 0, none⟩) (n + 1) c9) ((acc ++ [wd]).map bx)) := ⟨hp10, grown_trans H9.out.2.2 hg10, row_kp H9.out.1 HK.out hg10⟩
          clear hp10 hg10 HHA
          have HHB := Lib.hid (has_any kp s k false ⟨#[41]⟩ w10 H10.out.1 hks hs (by decide))
          rw [HSN.out, pre_nil] at HHB
          go_wp2_with fail
          refine Calls.mono HHB.out ?_
          rintro e w11 ⟨rfl, hp11, hg11⟩
          have H11 : Hid (PIn w11 kp s k false ∧ w.grownBy w11 (some kp)) := ⟨hp11, grown_trans H10.out.2.1 hg11⟩
          have f2 := H11.out.1.free 2
          have z2 := H11.out.1.cells.2.2
          clear hp11 hg11 HHB
          go_wp2
          go_ret
          exact ⟨k, hks, grown_trans H11.out.2 (grown_set _ kp 2 _), .inr ⟨HLL.out, rfl, H11.out.1.setBad true⟩⟩
        · by_cases h44 : c = 44
          · have HT := Lib.hid (sfx_step hS)
            have HLN : Hid (listS q (acc ++ [wd]) = listS r []) := by
              unfold Hid
              rw [← hR.out.2.1, HWD.out]
              exact (listS_comma (by rw [← HSK.out, hS, h44])).symm
            have HHA := Lib.hid (has_any kp s k false ⟨#[44]⟩ w9 H9.out.2.1 hks hs (by decide))
            rw [hS, pre_one, h44] at HHA
            clear hS h44
            go_wp2_with fail
            refine Calls.mono HHA.out ?_
            rintro e w10 ⟨rfl, hp10, hg10⟩
            have H10 : Hid (PIn w10 kp s (k + 1) false ∧ w.grownBy w10 (some kp) ∧ SRow w.heap.size w10 (.slice (some ⟨g9, 0, none⟩) (n + 1) c9) ((acc ++ [wd]).map bx)) := ⟨hp10, grown_trans H9.out.2.2 hg10, row_kp H9.out.1 HK.out hg10⟩
            clear hp10 hg10 HHA
            go_wp2
            go_roundw
            case rel => exact ⟨acc ++ [wd], n + 1, some ⟨g9, 0, none⟩, c9, k + 1, HT.out.1, by omega, rfl, by rw [List.length_append, hR.out.1]; rfl, by rw [HT.out.2]; exact HLN.out, H10.out.2.2, H10.out.1, H10.out.2.1⟩
            case measure =>
              have h1 := HT.out.1
              rw [hR.out.2.2.2.1.atOf, H10.out.1.atOf]
              omega
          · by_cases h41 : c = 41
            · have HT := Lib.hid (sfx_step hS)
              have HLL : Hid (listAll (sfx s i) = some (acc ++ [wd], skip q)) := by
                unfold Hid
                rw [HL.out, ← hR.out.2.1, HWD.out]
                exact listS_close (by rw [← HSK.out, hS, h41])
              have HHA := Lib.hid (has_any kp s k false ⟨#[44]⟩ w9 H9.out.2.1 hks hs (by decide))
              have HSN := Lib.hid hS
              rw [hS, pre_one, h41] at HHA
              go_wp2_with fail
              refine Calls.mono HHA.out ?_
              rintro e w10 ⟨rfl, hp10, hg10⟩
              have H10 : Hid (PIn w10 kp s k false ∧ w.grownBy w10 (some kp) ∧ SRow w.heap.size w10 (.slice (some ⟨g9, 0, none⟩) (n + 1) c9) ((acc ++ [wd]).map bx)) := ⟨hp10, grown_trans H9.out.2.2 hg10, row_kp H9.out.1 HK.out hg10⟩
              clear hp10 hg10 HHA
              have HHB := Lib.hid (has_any kp s k false ⟨#[41]⟩ w10 H10.out.1 hks hs (by decide))
              rw [hS, pre_one, h41] at HHB
              clear hS h44 h41
              go_wp2_with fail
              refine Calls.mono HHB.out ?_
              rintro e w11 ⟨rfl, hp11, hg11⟩
              have H11 : Hid (PIn w11 kp s (k + 1) false ∧ w.grownBy w11 (some kp) ∧ SRow w.heap.size w11 (.slice (some ⟨g9, 0, none⟩) (n + 1) c9) ((acc ++ [wd]).map bx)) := ⟨hp11, grown_trans H10.out.2.1 hg11, row_kp H10.out.2.2 HK.out hg11⟩
              clear hp11 hg11 HHB
              have HBL := Lib.hid (blanks_any kp s (k + 1) false w11 H11.out.1 hs HT.out.1)
              go_wp2_with fail
              refine Calls.mono HBL.out ?_
              rintro e w12 ⟨z, rfl, hp12, _, hzs, hsz, hg12⟩
              have H12 : Hid (PIn w12 kp s z false ∧ w.grownBy w12 (some kp) ∧ SRow w.heap.size w12 (.slice (some ⟨g9, 0, none⟩) (n + 1) c9) ((acc ++ [wd]).map bx) ∧ sfx s z = skip q) := ⟨hp12, grown_trans H11.out.2.1 hg12, row_kp H11.out.2.2 HK.out hg12, by rw [hsz, HT.out.2]⟩
              clear hp12 hg12 hsz HBL
              go_wp2
              go_ret
              have hal : (acc ++ [wd]).length = n + 1 := by rw [List.length_append, hR.out.1]; rfl
              exact ⟨z, hzs, H12.out.2.1, .inl ⟨acc ++ [wd], some ⟨g9, 0, none⟩, c9, by rw [HLL.out, H12.out.2.2.2], by rw [hal]; rfl, by rw [hal]; exact H12.out.2.2.1, H12.out.1⟩⟩
            · have HLL : Hid (listAll (sfx s i) = none) := by
                unfold Hid
                rw [HL.out, ← hR.out.2.1]
                exact listS_bad (by rw [← HSK.out]; exact hS) h44 h41
              have e44 : ((44 : UInt8) == c) = false := by simp; exact fun e => h44 e.symm
              have e41 : ((41 : UInt8) == c) = false := by simp; exact fun e => h41 e.symm
              have HE41 := Lib.hid e41
              have HHA := Lib.hid (has_any kp s k false ⟨#[44]⟩ w9 H9.out.2.1 hks hs (by decide))
              rw [hS, pre_one, e44] at HHA
              have HSN := Lib.hid hS
              clear hS h44 h41 e44 e41
              go_wp2_with fail
              refine Calls.mono HHA.out ?_
              rintro e w10 ⟨rfl, hp10, hg10⟩
              have H10 : Hid (PIn w10 kp s k false ∧ w.grownBy w10 (some kp) ∧ SRow w.heap.size w10 (.slice (some ⟨g9, 0, none⟩) (n + 1) c9) ((acc ++ [wd]).map bx)) := ⟨hp10, grown_trans H9.out.2.2 hg10, row_kp H9.out.1 HK.out hg10⟩
              clear hp10 hg10 HHA
              have HHB := Lib.hid (has_any kp s k false ⟨#[41]⟩ w10 H10.out.1 hks hs (by decide))
              rw [HSN.out, pre_one, HE41.out] at HHB
              go_wp2_with fail
              refine Calls.mono HHB.out ?_
              rintro e w11 ⟨rfl, hp11, hg11⟩
              have H11 : Hid (PIn w11 kp s k false ∧ w.grownBy w11 (some kp)) := ⟨hp11, grown_trans H10.out.2.1 hg11⟩
              have f2 := H11.out.1.free 2
              have z2 := H11.out.1.cells.2.2
              clear hp11 hg11 HHB
              go_wp2
              go_ret
              exact ⟨k, hks, grown_trans H11.out.2 (grown_set _ kp 2 _), .inr ⟨HLL.out, rfl, H11.out.1.setBad true⟩⟩
    · have HL : Hid (listAll (sfx s i) = none) := by unfold Hid listAll; rw [← H1.out.2.1, hS]; exact if_neg hc
      have hc2 : ((40 : UInt8) == c) = false := by simp; exact fun e => hc e.symm
      rw [hS, pre_one, hc2] at HH
      clear hS hc hc2
      go_wp2_with fail
      refine Calls.mono HH.out ?_
      rintro e w2 ⟨rfl, hp2, hg2⟩
      have H2 : Hid (PIn w2 kp s a false ∧ w.grownBy w2 (some kp)) := ⟨hp2, grown_trans H1.out.2.2 hg2⟩
      have f2 := H2.out.1.free 2
      have z2 := H2.out.1.cells.2.2
      clear hp2 hg2
      go_wp2
      go_ret
      exact ⟨a, has, grown_trans H2.out.2 (grown_set _ kp 2 _), .inr ⟨HL.out, rfl, H2.out.1.setBad true⟩⟩
end Go.Proofs.YtfggodnfliciiaaDoor.Rd
