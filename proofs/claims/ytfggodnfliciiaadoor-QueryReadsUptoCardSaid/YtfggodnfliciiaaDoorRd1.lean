/-
  The program's parser in memory; blanks, over, has.
-/
import Derived.Test.YtfggodnfliciiaaDoorRd0
import Derived.Test.YtfggodnfliciiaaDoorShelf
import Derived.Test.YtfggodnfliciiaaDoorChecked
import Derived.Deep.QuietTactic
import Derived.BigQuiet
import Derived.IntWalk
namespace Go.Proofs.YtfggodnfliciiaaDoor.Rd
open Go Go.RowKit Go.Proofs.YtfggodnfliciiaaDoor.Sx

abbrev pT : Nat := 34
def PIn (w : World) (kp : Nat) (s : ByteArray) (at_ : Nat) (bad : Bool) : Prop := w.heap[kp]? = some (.cells #[.string s, .int .i64 (at_ : Int), .bool bad] pT (0, 0))
def sfx (s : ByteArray) (i : Nat) : Tx := s.data.toList.drop i
def byteAt (s : ByteArray) (i : Nat) : UInt8 := s.data.toList.getD i 0
theorem size_list (s : ByteArray) : s.data.toList.length = s.size := by simp
theorem sfx_cons {s : ByteArray} {i : Nat} (h : i < s.size) : sfx s i = byteAt s i :: sfx s (i + 1) := by
  unfold sfx byteAt
  have hl := size_list s
  rw [List.drop_eq_getElem_cons (by omega), List.getD_eq_getElem?_getD, List.getElem?_eq_getElem (by omega)]
  rfl
theorem sfx_end {s : ByteArray} {i : Nat} (h : s.size ≤ i) : sfx s i = [] := by
  unfold sfx
  exact List.drop_of_length_le (by rw [size_list]; exact h)
theorem sfx_len (s : ByteArray) (i : Nat) : (sfx s i).length = s.size - i := by unfold sfx; rw [List.length_drop, size_list]
theorem PIn.cells {w : World} {kp : Nat} {s : ByteArray} {i : Nat} {bad : Bool} (h : PIn w kp s i bad) : w.cell? ⟨kp, 0, none⟩ = some (.string s) ∧ w.cell? ⟨kp, 1, none⟩ = some (.int .i64 (i : Int)) ∧ w.cell? ⟨kp, 2, none⟩ = some (.bool bad) := ⟨cell_of h 0, cell_of h 1, cell_of h 2⟩
theorem PIn.free {w : World} {kp : Nat} {s : ByteArray} {i : Nat} {bad : Bool} (h : PIn w kp s i bad) (k : Nat) : w.frozen? ⟨kp, k, none⟩ = false := by simp [World.frozen?, show w.heap[kp]? = _ from h]
theorem PIn.ext {w w' : World} {kp : Nat} {s : ByteArray} {i : Nat} {bad : Bool} (h : PIn w kp s i bad) (hx : Ext w w') : PIn w' kp s i bad := (hx.block _ (heap_lt h)).trans h
theorem PIn.setAt {w : World} {kp : Nat} {s : ByteArray} {i : Nat} {bad : Bool} (h : PIn w kp s i bad) (j : Nat) : PIn (w.setCell ⟨kp, 1, none⟩ (.int .i64 (j : Int))) kp s j bad := heap_setCell_same w kp 1 _ pT _ h
theorem PIn.setAtI {w : World} {kp : Nat} {s : ByteArray} {i : Nat} {bad : Bool} (h : PIn w kp s i bad) (j : Nat) (z : Int) (hz : z = (j : Int)) : PIn (w.setCell ⟨kp, 1, none⟩ (.int .i64 z)) kp s j bad := by
  subst hz
  exact h.setAt j
theorem PIn.setBad {w : World} {kp : Nat} {s : ByteArray} {i : Nat} {bad : Bool} (h : PIn w kp s i bad) (b : Bool) : PIn (w.setCell ⟨kp, 2, none⟩ (.bool b)) kp s i b := heap_setCell_same w kp 2 _ pT _ h
theorem grown_refl (w : World) (row : Option Nat) : w.grownBy w row := ⟨rfl, rfl, rfl, Nat.le_refl _, fun _ _ _ => rfl⟩
theorem grown_trans {w w' w'' : World} {row : Option Nat} (h : w.grownBy w' row) (h' : w'.grownBy w'' row) : w.grownBy w'' row :=
  ⟨h'.os.trans h.os, h'.tape.trans h.tape, h'.output.trans h.output, Nat.le_trans h.size h'.size, fun k hk hne => (h'.block k (Nat.lt_of_lt_of_le hk h.size) hne).trans (h.block k hk hne)⟩
theorem grown_ext {w w' : World} {row : Option Nat} (h : Ext w w') : w.grownBy w' row := ⟨h.os, h.tape, h.output, h.size, fun k hk _ => h.block k hk⟩
theorem grown_set (w : World) (kp j : Nat) (v : Value) : w.grownBy (w.setCell ⟨kp, j, none⟩ v) (some kp) :=
  ⟨rfl, rfl, rfl, by simp [World.setCell], fun k _ hne => Below.heap_setCell _ _ _ _ (fun e => hne (by first | rw [e] | rw [← e]))⟩
theorem ext_drewN' (w : World) (n : Nat) : Ext w (w.drewN n) := ⟨rfl, rfl, rfl, Nat.le_refl _, fun _ _ => rfl⟩
/-- Where the parser stands. -/
def atOf (w : World) (kp : Nat) : Nat := (intOf ((w.cell? ⟨kp, 1, none⟩).getD (.int .i64 0))).toNat
theorem PIn.atOf {w : World} {kp : Nat} {s : ByteArray} {i : Nat} {bad : Bool} (h : PIn w kp s i bad) : atOf w kp = i := by
  unfold Rd.atOf
  rw [h.cells.2.1]
  simp [intOf]
theorem run_byte (s : ByteArray) (i : Nat) (h : i < s.size) (W : World) : (Instr.index 9 (.string s) (.int .i64 (i : Int))).run Tryd.prog W = .ok (.int .u8 ((byteAt s i).toNat : Int)) W := by
  have hb : byteAt s i = s[i] := by
    unfold byteAt
    have hl := size_list s
    rw [List.getD_eq_getElem?_getD, List.getElem?_eq_getElem (by omega)]
    rfl
  rw [run_index_string W _ _ _ _ Tryd.underlying9, hb]
  simp [h]
theorem byte_eq (c d : UInt8) : ((c.toNat : Int) == (d.toNat : Int)) = (c == d) := by
  rw [Bool.eq_iff_iff, beq_iff_eq, beq_iff_eq]
  constructor
  · intro h
    exact UInt8.toNat_inj.1 (by omega)
  · rintro rfl
    rfl

set_option maxRecDepth 100000 in
set_option maxHeartbeats 2000000 in
theorem blanks_any (kp : Nat) (s : ByteArray) (i : Nat) (bad : Bool) (w : World) (h : PIn w kp s i bad) (hs : s.size ≤ 300) (hi : i ≤ s.size) :
    Calls Tryd.prog 8 #[.pointer (some ⟨kp, 0, none⟩)] w fun e w' => ∃ j, e = .returned (.bool (hb (sfx s i))) ∧ PIn w' kp s j bad ∧ i ≤ j ∧ j ≤ s.size ∧ sfx s j = skip (sfx s i) ∧ w.grownBy w' (some kp) := by
  obtain ⟨z0, z1, z2⟩ := h.cells
  have H := Lib.hid h
  clear h z2
  go_enter Tryd.func8, Tryd.ntmps8
  go_wp2_with fail
  clear z0 z1
  go_loopw [29] (fun _ wr => ∃ j, i ≤ j ∧ j ≤ s.size ∧ Hid (PIn wr kp s j bad ∧ skip (sfx s j) = skip (sfx s i) ∧ (i < j → hb (sfx s i) = true) ∧ w.grownBy wr (some kp))) (fun _ wr => s.size - atOf wr kp)
  case atStart => exact ⟨i, Nat.le_refl _, hi, H.out, rfl, fun h => by omega, grown_refl _ _⟩
  case round =>
    obtain ⟨j, hij, hjs, hR⟩ := hrel
    by_cases hlt : j < s.size
    · have hby := run_byte s j hlt
      obtain ⟨z0, z1, _⟩ := hR.out.1.cells
      obtain ⟨c, hcc⟩ : ∃ c, c = byteAt s j := ⟨_, rfl⟩
      have HSX : Hid (sfx s j = c :: sfx s (j + 1)) := by rw [hcc]; exact sfx_cons hlt
      rw [← hcc] at hby
      have hltI : (j : Int) < (s.size : Int) := by omega
      have hj0 : (0 : Int) ≤ (j : Int) := by omega
      clear hcc
      have f1 := hR.out.1.free 1
      by_cases hc : c = 32
      · have b1 : ((c.toNat : Int) == 32) = true := by subst hc; rfl
        have HC := Lib.hid hc
        clear hc
        go_wp2_with fail
        go_quiet (fail)
        go_wp2_with fail
        go_roundw
        case rel =>
          refine ⟨j + 1, by omega, hlt, PIn.setAt (w := wr.drewN _) hR.out.1 (j + 1), ?_, fun _ => ?_, grown_trans hR.out.2.2.2 (grown_trans (grown_ext (ext_drewN' wr _)) (grown_set _ kp 1 _))⟩
          · rw [← hR.out.2.1, HSX.out, HC.out, skip_blank]
          · rcases Nat.lt_or_ge i j with h1 | h1
            · exact hR.out.2.2.1 h1
            · have e : i = j := by omega
              rw [e, HSX.out, HC.out]
              rfl
        case measure =>
          rw [hR.out.1.atOf, (PIn.setAtI (w := wr.drewN _) hR.out.1 (j + 1) (j + 1) (by omega)).atOf]
          omega
      · have b1 : ((c.toNat : Int) == 32) = false := by rw [show (32 : Int) = ((32 : UInt8).toNat : Int) from rfl, byte_eq]; simp [hc]
        have HC := Lib.hid hc
        have HE : Hid (hb (sfx s i) = decide (i < j)) := by
          unfold Hid
          rcases Nat.lt_or_ge i j with h1 | h1
          · rw [hR.out.2.2.1 h1, decide_eq_true h1]
          · have e : i = j := by omega
            rw [decide_eq_false (by omega), e, HSX.out]
            simp [hb, hc]
        have HST : Hid (sfx s j = skip (sfx s i)) := by
          unfold Hid
          rw [← hR.out.2.1, HSX.out, skip_other hc]
        clear hc
        go_wp2_with fail
        go_quiet (fail)
        go_wp2_with fail
        go_ret
        exact ⟨j, ret_bool HE.out.symm, hR.out.1, hij, hjs, HST.out, grown_trans hR.out.2.2.2 (grown_ext (ext_drewN' wr _))⟩
    · obtain rfl : j = s.size := by omega
      obtain ⟨z0, z1, _⟩ := hR.out.1.cells
      have HN : Hid (sfx s s.size = []) := sfx_end (Nat.le_refl _)
      have HE : Hid (hb (sfx s i) = decide (i < s.size)) := by
        unfold Hid
        rcases Nat.lt_or_ge i s.size with h1 | h1
        · rw [hR.out.2.2.1 h1, decide_eq_true h1]
        · rw [decide_eq_false (by omega), sfx_end h1]
          rfl
      have HST : Hid (sfx s s.size = skip (sfx s i)) := by
        unfold Hid
        rw [← hR.out.2.1, HN.out]
        rfl
      go_wp2_with fail
      go_quiet (fail)
      go_wp2_with fail
      go_ret
      exact ⟨s.size, ret_bool HE.out.symm, hR.out.1, hij, Nat.le_refl _, HST.out, grown_trans hR.out.2.2.2 (grown_ext (ext_drewN' wr _))⟩

set_option maxRecDepth 100000 in
set_option maxHeartbeats 2000000 in
theorem over_any (kp : Nat) (s : ByteArray) (i : Nat) (bad : Bool) (w : World) (h : PIn w kp s i bad) (hi : i ≤ s.size) :
    Calls Tryd.prog 9 #[.pointer (some ⟨kp, 0, none⟩)] w fun e w' => e = .returned (.bool (sfx s i).isEmpty) ∧ ∃ m, w' = w.drewN m := by
  obtain ⟨z0, z1, z2⟩ := h.cells
  have HE : Hid ((sfx s i).isEmpty = ((i : Int) == (s.size : Int))) := by
    unfold Hid
    rw [Bool.eq_iff_iff, beq_iff_eq, List.isEmpty_iff_length_eq_zero, sfx_len]
    omega
  clear h z2
  go_enter Tryd.func9, Tryd.ntmps9
  go_wp2_with fail
  go_quiet (fail)
  go_wp2_with fail
  go_ret
  exact ⟨ret_bool HE.out.symm, _, rfl⟩

def pre (p : ByteArray) (s : Tx) : Bool := Lib.hasPrefix s p.data.toList
theorem extract_sfx (s : ByteArray) (i : Nat) : (s.extract i s.size).data.toList = sfx s i := Lib.extract_to_end s i
set_option maxRecDepth 100000 in
set_option maxHeartbeats 2000000 in
theorem has_any (kp : Nat) (s : ByteArray) (i : Nat) (bad : Bool) (p : ByteArray) (w : World) (h : PIn w kp s i bad) (hi : i ≤ s.size) (hs : s.size ≤ 300) (hp : p.size ≤ 2) :
    Calls Tryd.prog 11 #[.pointer (some ⟨kp, 0, none⟩), .string p] w fun e w' => e = .returned (.bool (pre p (sfx s i))) ∧ PIn w' kp s (if pre p (sfx s i) then i + p.size else i) bad ∧ w.grownBy w' (some kp) := by
  obtain ⟨z0, z1, z2⟩ := h.cells
  have H := Lib.hid h
  have hsl : ∀ W, (Instr.slice 9 (.string s) (some (.int .i64 (i : Int))) none none).run Tryd.prog W = .ok (.string (s.extract i s.size)) W := fun W => by
    rw [run_slice_string_l W _ _ Tryd.underlying9 .i64 (i : Int) (by omega) (by omega)]
    rfl
  have f1 := h.free 1
  clear h z2
  obtain ⟨x, hx⟩ : ∃ x, x = s.extract i s.size := ⟨_, rfl⟩
  have C : Hid (∀ wk, Calls Tryd.prog 19 #[.string x, .string p] wk fun e w' => e = .returned (.bool (pre p (sfx s i))) ∧ w' = wk) := fun wk => by
    have h := Tryd.strings_HasPrefix x p wk
    rw [hx, extract_sfx] at h
    rw [hx]
    exact h
  rw [← hx] at hsl
  have hpI : (p.size : Int) ≤ 2 := by omega
  have hiI : (i : Int) ≤ 300 := by omega
  have hwr : IntKind.i64.wrap ((i : Int) + (p.size : Int)) = (i : Int) + (p.size : Int) := IntWalk.i64_in _ (by omega)
  clear hx
  cases hb : pre p (sfx s i) with
  | true =>
    rw [hb] at C
    clear hb
    go_enter Tryd.func11, Tryd.ntmps11
    go_wp2_with fail
    go_quiet (exact Calls.quiet_of_same (C.out _))
    go_wp2_with fail
    go_ret
    exact ⟨rfl, PIn.setAtI (w := w.drewN _) H.out (i + p.size) _ (by omega), grown_trans (grown_ext (ext_drewN' w _)) (grown_set _ kp 1 _)⟩
  | false =>
    rw [hb] at C
    clear hb
    go_enter Tryd.func11, Tryd.ntmps11
    go_wp2_with fail
    go_quiet (exact Calls.quiet_of_same (C.out _))
    go_wp2_with fail
    go_ret
    exact ⟨rfl, H.out, grown_ext (ext_drewN' w _)⟩
end Go.Proofs.YtfggodnfliciiaaDoor.Rd
