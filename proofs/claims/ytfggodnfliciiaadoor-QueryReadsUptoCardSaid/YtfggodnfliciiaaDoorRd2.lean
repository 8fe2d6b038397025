/-
  The program's isWord and word.
-/
import Derived.Test.YtfggodnfliciiaaDoorRd1
import Derived.Laws.DeepStrings4
namespace Go.Proofs.YtfggodnfliciiaaDoor.Rd
open Go Go.RowKit Go.Proofs.YtfggodnfliciiaaDoor.Sx

def edgeR (c : UInt8) : Bool := (97 ≤ c && c ≤ 122) || (65 ≤ c && c ≤ 90) || (48 ≤ c && c ≤ 57)
def restR (c : UInt8) : Bool := c == 45 || c == 95 || c == 46 || c == 47
theorem isW_split (c : UInt8) : isW c = (edgeR c || restR c) := by unfold isW edgeR restR; simp only [Bool.or_assoc]
theorem edgeR_iff (c : UInt8) : edgeR c = true ↔ (97 ≤ c.toNat ∧ c.toNat ≤ 122) ∨ (65 ≤ c.toNat ∧ c.toNat ≤ 90) ∨ (48 ≤ c.toNat ∧ c.toNat ≤ 57) := by
  unfold edgeR
  simp [UInt8.le_iff_toNat_le]
  omega
theorem index_rest : ∀ c : Fin 256, decide (0 ≤ Lib.indexByte [45, 95, 46, 47] (UInt8.ofNat c.1)) = restR (UInt8.ofNat c.1) := by decide +kernel
theorem index_restR (c : UInt8) : decide (0 ≤ Lib.indexByte [45, 95, 46, 47] c) = restR c := by
  have h := index_rest ⟨c.toNat, c.toNat_lt⟩
  simpa using h

set_option maxRecDepth 100000 in
set_option maxHeartbeats 2000000 in
theorem isW_any (c : UInt8) (w : World) : Calls Tryd.prog 27 #[.int .u8 (c.toNat : Int)] w fun e w' => e = .returned (.bool (isW c)) ∧ w' = w := by
  have hc : c.toNat < 256 := c.toNat_lt
  have hI : ((c.toNat : Int)).toNat.toUInt8 = c := by simp
  have C : Hid (∀ wk, Calls Tryd.prog 36 #[.string ⟨#[45, 95, 46, 47]⟩, .int .u8 (c.toNat : Int)] wk fun e w' => e = .returned (.int .i64 (Lib.indexByte [45, 95, 46, 47] c)) ∧ w' = wk) := fun wk => by
    have h := Tryd.strings_IndexByte ⟨#[45, 95, 46, 47]⟩ (c.toNat : Int) wk
    rw [hI] at h
    exact h
  have HS : Hid (isW c = (edgeR c || restR c)) := isW_split c
  have HR : Hid (decide (0 ≤ Lib.indexByte [45, 95, 46, 47] c) = restR c) := index_restR c
  clear hI
  by_cases h : edgeR c = true
  · have h2 := (edgeR_iff c).1 h
    have HE : Hid (isW c = true) := by unfold Hid; rw [HS.out, h]; rfl
    clear h
    go_enter Tryd.func27, Tryd.ntmps27
    go_wp2_with (go_at_call 36; refine (C.out _).mono ?_; rintro e w' ⟨rfl, rfl⟩)
    all_goals
      go_ret
      refine ⟨ret_bool (Eq.trans ?_ HE.out.symm), rfl⟩
      first | rfl | (exfalso; omega)
  · have h2 : ¬ ((97 ≤ c.toNat ∧ c.toNat ≤ 122) ∨ (65 ≤ c.toNat ∧ c.toNat ≤ 90) ∨ (48 ≤ c.toNat ∧ c.toNat ≤ 57)) := fun e => h ((edgeR_iff c).2 e)
    have HE : Hid (isW c = restR c) := by unfold Hid; rw [HS.out, Bool.eq_false_iff.2 h]; rfl
    clear h
    go_enter Tryd.func27, Tryd.ntmps27
    go_wp2_with (go_at_call 36; refine (C.out _).mono ?_; rintro e w' ⟨rfl, rfl⟩)
    all_goals
      go_ret
      refine ⟨ret_bool ?_, rfl⟩
      first | exact HR.out.trans HE.out.symm | (exfalso; omega)

def bx (t : Tx) : ByteArray := ⟨t.toArray⟩
theorem bx_of {s : ByteArray} {t : Tx} (h : s.data.toList = t) : s = bx t := by
  subst h
  rfl
theorem extract_piece (s : ByteArray) (a b : Nat) : (s.extract a b).data.toList = (sfx s a).take (b - a) := by
  rw [← ByteArray.toList_eq]
  exact Lib.extract_toList s a b
theorem run_piece (s : ByteArray) (a b : Nat) (h1 : a ≤ b) (h2 : b ≤ s.size) (W : World) : (Instr.slice 9 (.string s) (some (.int .i64 (a : Int))) (some (.int .i64 (b : Int))) none).run Tryd.prog W = .ok (.string (s.extract a b)) W := by
  rw [run_slice_string_if W _ _ _ _ _ _ Tryd.underlying9]
  rw [if_pos (by omega), if_pos (by omega)]
  rfl
theorem runW_cons {c : UInt8} {s : Tx} (h : isW c = true) : runW (c :: s) = c :: runW s ∧ restW (c :: s) = restW s := by
  unfold runW restW
  simp [h]
theorem runW_stop {c : UInt8} {s : Tx} (h : isW c = false) : runW (c :: s) = [] ∧ restW (c :: s) = c :: s := by
  unfold runW restW
  simp [h]
theorem take_next {s : ByteArray} {a j : Nat} {c : UInt8} (h : sfx s j = c :: sfx s (j + 1)) (ha : a ≤ j) : (sfx s a).take (j + 1 - a) = (sfx s a).take (j - a) ++ [c] := by
  have e : j + 1 - a = (j - a) + 1 := by omega
  have hd : (sfx s a)[j - a]? = some c := by
    unfold sfx at h ⊢
    rw [List.getElem?_drop, show a + (j - a) = j by omega, ← List.head?_drop, h]
    rfl
  rw [e, List.take_add_one, hd]
  rfl

set_option maxRecDepth 100000 in
set_option maxHeartbeats 2000000 in
theorem word_any (kp : Nat) (s : ByteArray) (i : Nat) (bad : Bool) (w : World) (h : PIn w kp s i bad) (hs : s.size ≤ 300) (hi : i ≤ s.size) :
    Calls Tryd.prog 17 #[.pointer (some ⟨kp, 0, none⟩)] w fun e w' => ∃ j, e = .returned (.tuple #[.string (bx (wordOf (sfx s i))), .bool (wordBl (sfx s i))]) ∧ PIn w' kp s j bad ∧ i ≤ j ∧ j ≤ s.size ∧ sfx s j = wordRest (sfx s i) ∧ w.grownBy w' (some kp) := by
  have H := Lib.hid h
  clear h
  go_enter Tryd.func17, Tryd.ntmps17
  go_wp2_with fail
  refine Calls.mono (blanks_any kp s i bad w H.out hs hi) ?_
  rintro e w1 ⟨a, rfl, hp1, hia, has, hsk, hg1⟩
  have H1 := Lib.hid (And.intro hp1 (And.intro hsk hg1))
  obtain ⟨z0, z1, _⟩ := hp1.cells
  clear hp1 hsk hg1
  go_wp2_with fail
  clear z0 z1
  go_loopw [33] (fun _ wr => ∃ j, a ≤ j ∧ j ≤ s.size ∧ Hid (PIn wr kp s j bad ∧ restW (sfx s j) = restW (sfx s a) ∧ runW (sfx s a) = (sfx s a).take (j - a) ++ runW (sfx s j) ∧ w.grownBy wr (some kp))) (fun _ wr => s.size - atOf wr kp)
  case atStart => exact ⟨a, Nat.le_refl _, has, H1.out.1, rfl, by simp, H1.out.2.2⟩
  case round =>
    obtain ⟨j, haj, hjs, hR⟩ := hrel
    obtain ⟨z0, z1, _⟩ := hR.out.1.cells
    have f1 := hR.out.1.free 1
    by_cases hlt : j < s.size
    · have hby := run_byte s j hlt
      obtain ⟨c, hcc⟩ : ∃ c, c = byteAt s j := ⟨_, rfl⟩
      have HSX : Hid (sfx s j = c :: sfx s (j + 1)) := by rw [hcc]; exact sfx_cons hlt
      rw [← hcc] at hby
      have hltI : (j : Int) < (s.size : Int) := by omega
      have hj0 : (0 : Int) ≤ (j : Int) := by omega
      have CW := Lib.hid (isW_any c)
      clear hcc
      cases hw : isW c with
      | true =>
        have HN : Hid (restW (sfx s (j + 1)) = restW (sfx s a) ∧ runW (sfx s a) = (sfx s a).take (j + 1 - a) ++ runW (sfx s (j + 1))) := by
          obtain ⟨e1, e2⟩ := runW_cons (s := sfx s (j + 1)) hw
          refine ⟨?_, ?_⟩
          · rw [← hR.out.2.1, HSX.out, e2]
          · rw [hR.out.2.2.1, HSX.out, e1, take_next HSX.out haj, List.append_assoc]
            rfl
        rw [hw] at CW
        clear hw
        go_wp2_with fail
        go_quiet (exact Calls.quiet_of_same (CW.out _))
        go_wp2_with fail
        go_roundw
        case rel => exact ⟨j + 1, by omega, hlt, PIn.setAtI (w := wr.drewN _) hR.out.1 (j + 1) _ (by omega), HN.out.1, HN.out.2, grown_trans hR.out.2.2.2 (grown_trans (grown_ext (ext_drewN' wr _)) (grown_set _ kp 1 _))⟩
        case measure =>
          rw [hR.out.1.atOf, (PIn.setAtI (w := wr.drewN _) hR.out.1 (j + 1) (j + 1) (by omega)).atOf]
          omega
      | false =>
        have HN : Hid (restW (sfx s a) = sfx s j ∧ runW (sfx s a) = (sfx s a).take (j - a)) := by
          obtain ⟨e1, e2⟩ := runW_stop (s := sfx s (j + 1)) hw
          refine ⟨?_, ?_⟩
          · rw [← hR.out.2.1, HSX.out, e2]
          · rw [hR.out.2.2.1, HSX.out, e1, List.append_nil]
        rw [hw] at CW
        clear hw
        have hpc := run_piece s a j haj hjs
        have HB : s.extract a j = bx (wordOf (sfx s i)) := bx_of (by rw [extract_piece, ← HN.out.2, H1.out.2.1]; rfl)
        have HBL : Hid (hb (sfx s j) = wordBl (sfx s i)) := by unfold Hid wordBl; rw [← H1.out.2.1, HN.out.1]
        have HST : Hid (skip (sfx s j) = wordRest (sfx s i)) := by unfold Hid wordRest; rw [← H1.out.2.1, HN.out.1]
        rw [HB] at hpc
        obtain ⟨wt, hwt⟩ : ∃ wt, wt = bx (wordOf (sfx s i)) := ⟨_, rfl⟩
        rw [← hwt] at hpc
        have HWT := Lib.hid hwt
        clear hwt HB
        go_wp2_with fail
        go_quiet (exact Calls.quiet_of_same (CW.out _))
        go_wp2_with fail
        go_quiet (fail)
        go_wp2_with fail
        refine Calls.mono (blanks_any kp s j bad _ hR.out.1 hs hjs) ?_
        rintro e w5 ⟨k, rfl, hp5, hjk, hks, hsk5, hg5⟩
        have H5 := Lib.hid (And.intro hp5 (And.intro hsk5 hg5))
        clear hp5 hsk5 hg5
        go_wp2
        go_ret2
        refine ⟨k, ?_, H5.out.1, by omega, hks, ?_, ?_⟩
        · rw [HWT.out, ← HBL.out]; rfl
        · rw [H5.out.2.1, HST.out]
        · exact grown_trans hR.out.2.2.2 (grown_trans (grown_ext (ext_drewN' wr _)) H5.out.2.2)
    · obtain rfl : j = s.size := by omega
      have HN : Hid (restW (sfx s a) = sfx s s.size ∧ runW (sfx s a) = (sfx s a).take (s.size - a)) := by
        have e := sfx_end (s := s) (i := s.size) (Nat.le_refl _)
        refine ⟨?_, ?_⟩
        · rw [← hR.out.2.1, e]; rfl
        · rw [hR.out.2.2.1, e]; simp [runW]
      have hpc := run_piece s a s.size haj hjs
      have HB : s.extract a s.size = bx (wordOf (sfx s i)) := bx_of (by rw [extract_piece, ← HN.out.2, H1.out.2.1]; rfl)
      have HBL : Hid (hb (sfx s s.size) = wordBl (sfx s i)) := by unfold Hid wordBl; rw [← H1.out.2.1, HN.out.1]
      have HST : Hid (skip (sfx s s.size) = wordRest (sfx s i)) := by unfold Hid wordRest; rw [← H1.out.2.1, HN.out.1]
      rw [HB] at hpc
      obtain ⟨wt, hwt⟩ : ∃ wt, wt = bx (wordOf (sfx s i)) := ⟨_, rfl⟩
      rw [← hwt] at hpc
      have HWT := Lib.hid hwt
      clear hwt HB
      go_wp2_with fail
      go_quiet (fail)
      go_wp2_with fail
      go_quiet (fail)
      go_wp2_with fail
      refine Calls.mono (blanks_any kp s s.size bad _ hR.out.1 hs hjs) ?_
      rintro e w5 ⟨k, rfl, hp5, hjk, hks, hsk5, hg5⟩
      have H5 := Lib.hid (And.intro hp5 (And.intro hsk5 hg5))
      clear hp5 hsk5 hg5
      go_wp2
      go_ret2
      refine ⟨k, ?_, H5.out.1, by omega, hks, ?_, ?_⟩
      · rw [HWT.out, ← HBL.out]; rfl
      · rw [H5.out.2.1, HST.out]
      · exact grown_trans hR.out.2.2.2 (grown_trans (grown_ext (ext_drewN' wr _)) H5.out.2.2)
end Go.Proofs.YtfggodnfliciiaaDoor.Rd
