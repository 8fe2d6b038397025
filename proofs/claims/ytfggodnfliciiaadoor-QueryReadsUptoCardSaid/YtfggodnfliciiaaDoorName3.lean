/-
  The program's isWord, CheckVal; the reference's NameVal: each returns what a plain function of the text's bytes says.
-/
import Derived.Test.YtfggodnfliciiaaDoorName2
namespace Go.Proofs.YtfggodnfliciiaaDoor.Sx
open Go Go.RowKit

def wordB (c : UInt8) : Bool := decide (c.toNat = 45 ∨ c.toNat = 95 ∨ c.toNat = 46)

set_option maxRecDepth 100000 in
theorem isSign_any (c : UInt8) (w : World) : Calls Tryd.prog 51 #[.int .u8 (c.toNat : Int)] w fun e w' => e = .returned (.bool (wordB c)) ∧ w = w' := by
  have hc : c.toNat < 256 := c.toNat_lt
  go_enter Tryd.func51, Tryd.ntmps51
  go_wp2
  all_goals
    go_ret
    refine ⟨ret_bool ?_, rfl⟩
    rw [Bool.eq_iff_iff]; simp [wordB]; try omega

set_option maxRecDepth 100000 in
set_option maxHeartbeats 400000 in
theorem madeW_any (s : ByteArray) (w : World) (hs : s.size ≤ maxLen) : Calls Tryd.prog 47 #[.string s, .func (.func 50) #[] #[], .func (.func 51) #[] #[]] w
    fun e w' => e = .returned (.bool (madeB edgeB wordB s.data.toList)) ∧ w = w' := by
  unfold maxLen at hs
  by_cases h0 : s.size = 0
  · have e1 := isEmpty_of_zero h0
    have hf := Lib.hid (made_zero (e := edgeB) (wi := wordB) h0)
    clear h0
    go_enter Tryd.func47, Tryd.ntmps47
    go_wp2
    go_ret
    exact ⟨ret_bool hf.out.symm, rfl⟩
  · have hp : 0 < s.size := by omega
    have e1 := isEmpty_of_pos hp
    have hf := Lib.hid (made_eq (e := edgeB) (wi := wordB) hp)
    have hl : Hid (s.data.toList.length = s.size) := by simp [Hid]
    by_cases ha : edgeB s[0] = true
    · by_cases hb : edgeB (s[s.size - 1]) = true
      · go_enter Tryd.func47, Tryd.ntmps47
        go_wp2_with (first | (go_at_call 50; refine (isEdge_any _ _).mono ?_; rintro e w' ⟨rfl, rfl⟩) | (go_at_call 51; refine (isSign_any _ _).mono ?_; rintro e w' ⟨rfl, rfl⟩))
        go_loop [7, 29] (fun i k => ∃ j : Nat, j ≤ s.size ∧ k = .int .i64 j ∧ Hid (sofar edgeB wordB s.data.toList j = true)) (fun _ k => s.size - (intOf k).toNat)
        case atStart => exact ⟨0, Nat.zero_le _, rfl, rfl⟩
        case round =>
          obtain ⟨j, hj, rfl, hE⟩ := hrel
          by_cases hlt : j < s.size
          · have hlt' : j < s.data.toList.length := by rw [hl.out]; exact hlt
            cases hc : edgeB s[j] with
            | true =>
              have hN : Hid (sofar edgeB wordB s.data.toList (j + 1) = true) := sofar_succ hE.out hlt' (by rw [get_list] at hc; rw [hc]; rfl)
              go_wp2_with (first | (go_at_call 50; refine (isEdge_any _ _).mono ?_; rintro e w' ⟨rfl, rfl⟩) | (go_at_call 51; refine (isSign_any _ _).mono ?_; rintro e w' ⟨rfl, rfl⟩))
              go_round
              case rel => exact ⟨j + 1, hlt, by go_num, hN⟩
              case measure => simp [intOf]; omega
            | false =>
              cases hd : wordB s[j] with
              | true =>
                have hN : Hid (sofar edgeB wordB s.data.toList (j + 1) = true) := sofar_succ hE.out hlt' (by rw [get_list] at hd; rw [hd]; simp)
                go_wp2_with (first | (go_at_call 50; refine (isEdge_any _ _).mono ?_; rintro e w' ⟨rfl, rfl⟩) | (go_at_call 51; refine (isSign_any _ _).mono ?_; rintro e w' ⟨rfl, rfl⟩))
                go_round
                case rel => exact ⟨j + 1, hlt, by go_num, hN⟩
                case measure => simp [intOf]; omega
              | false =>
                have hN : Hid ((s.data.toList.all fun c => edgeB c || wordB c) = false) := not_all hlt' (by rw [get_list] at hc hd; rw [hc, hd]; rfl)
                go_wp2_with (first | (go_at_call 50; refine (isEdge_any _ _).mono ?_; rintro e w' ⟨rfl, rfl⟩) | (go_at_call 51; refine (isSign_any _ _).mono ?_; rintro e w' ⟨rfl, rfl⟩))
                go_ret
                exact ⟨ret_bool (by rw [hf.out, hN.out, Bool.and_false]), rfl⟩
          · have hN : Hid ((s.data.toList.all fun c => edgeB c || wordB c) = true) := sofar_all hE.out (by rw [hl.out]; omega)
            go_wp2
            go_ret
            exact ⟨ret_bool (by rw [hf.out, hN.out, ha, hb]; rfl), rfl⟩
      · rw [Bool.not_eq_true] at hb
        go_enter Tryd.func47, Tryd.ntmps47
        go_wp2_with (first | (go_at_call 50; refine (isEdge_any _ _).mono ?_; rintro e w' ⟨rfl, rfl⟩) | (go_at_call 51; refine (isSign_any _ _).mono ?_; rintro e w' ⟨rfl, rfl⟩))
        go_ret
        exact ⟨ret_bool (by rw [hf.out, hb, Bool.and_false, Bool.false_and]), rfl⟩
    · rw [Bool.not_eq_true] at ha
      go_enter Tryd.func47, Tryd.ntmps47
      go_wp2_with (first | (go_at_call 50; refine (isEdge_any _ _).mono ?_; rintro e w' ⟨rfl, rfl⟩) | (go_at_call 51; refine (isSign_any _ _).mono ?_; rintro e w' ⟨rfl, rfl⟩))
      go_ret
      exact ⟨ret_bool (by rw [hf.out, ha, Bool.false_and, Bool.false_and]), rfl⟩

set_option maxRecDepth 100000 in
theorem isWord_any (s : ByteArray) (w : World) (hs : s.size ≤ maxLen) : Calls Tryd.prog 41 #[.string s] w fun e w' => e = .returned (.bool (madeB edgeB wordB s.data.toList)) ∧ w = w' := by
  go_enter Tryd.func41, Tryd.ntmps41
  go_wp2_with (go_at_call 47; refine (madeW_any _ _ hs).mono ?_; rintro e w' ⟨rfl, rfl⟩)
  go_ret
  exact ⟨rfl, rfl⟩

def valI (s : ByteArray) : Int := judgeI s.size 63 (decide (s.size = 0) || madeB edgeB wordB s.data.toList)

set_option maxRecDepth 100000 in
theorem checkVal_any (s : ByteArray) (w : World) (hs : s.size ≤ maxLen) : Calls Tryd.prog 31 #[.string s] w fun e w' => e = .returned (.int .i64 (valI s)) ∧ w = w' := by
  by_cases h0 : s.size = 0
  · have e1 := isEmpty_of_zero h0
    have hf : Hid (valI s = judgeI s.size 63 true) := by unfold Hid valI; simp [h0]
    clear h0
    go_enter Tryd.func31, Tryd.ntmps31
    go_wp2_with (first | (go_at_call 41; refine (isWord_any _ _ hs).mono ?_; rintro e w' ⟨rfl, rfl⟩) | (go_at_call 40; refine (judge_any _ 63 _ _ hs).mono ?_; rintro e w' ⟨rfl, rfl⟩))
    go_ret
    exact ⟨ret_int hf.out.symm, rfl⟩
  · have e1 := isEmpty_of_pos (s := s) (by omega)
    have hf : Hid (valI s = judgeI s.size 63 (madeB edgeB wordB s.data.toList)) := by unfold Hid valI; simp [h0]
    clear h0
    go_enter Tryd.func31, Tryd.ntmps31
    go_wp2_with (first | (go_at_call 41; refine (isWord_any _ _ hs).mono ?_; rintro e w' ⟨rfl, rfl⟩) | (go_at_call 40; refine (judge_any _ 63 _ _ hs).mono ?_; rintro e w' ⟨rfl, rfl⟩))
    go_ret
    exact ⟨ret_int hf.out.symm, rfl⟩

theorem high_str : inB ⟨#[97, 98, 99, 100, 101, 102, 103, 104, 105, 106, 107, 108, 109, 110, 111, 112, 113, 114, 115, 116, 117, 118, 119, 120, 121, 122, 48, 49, 50, 51, 52, 53, 54, 55, 56, 57, 65, 66, 67, 68, 69, 70, 71, 72, 73, 74, 75, 76, 77, 78, 79, 80, 81, 82, 83, 84, 85, 86, 87, 88, 89, 90]⟩ = edgeB := by
  funext c
  have h : ∀ n : Fin 256, List.contains [97, 98, 99, 100, 101, 102, 103, 104, 105, 106, 107, 108, 109, 110, 111, 112, 113, 114, 115, 116, 117, 118, 119, 120, 121, 122, 48, 49, 50, 51, 52, 53, 54, 55, 56, 57, 65, 66, 67, 68, 69, 70, 71, 72, 73, 74, 75, 76, 77, 78, 79, 80, 81, 82, 83, 84, 85, 86, 87, 88, 89, 90] (UInt8.ofFin n) = edgeB (UInt8.ofFin n) := by decide +kernel
  exact h c.toFin
theorem word_str : inB ⟨#[45, 95, 46]⟩ = wordB := by
  funext c
  have h : ∀ n : Fin 256, List.contains [45, 95, 46] (UInt8.ofFin n) = wordB (UInt8.ofFin n) := by decide +kernel
  exact h c.toFin

set_option maxRecDepth 100000 in
theorem rval_any (s : ByteArray) (w : World) (hs : s.size ≤ maxLen) : Calls Tryd.prog 26 #[.string s] w fun e w' => e = .returned (.int .i64 (valI s)) ∧ w = w' := by
  have hs' := hs
  unfold maxLen at hs'
  by_cases h : 63 < s.size
  · have hf : Hid (valI s = 2) := by unfold Hid valI judgeI; rw [if_pos h]
    go_enter Tryd.func26, Tryd.ntmps26
    go_wp2
    go_ret
    exact ⟨ret_int hf.out.symm, rfl⟩
  · by_cases h0 : s.size = 0
    · have e1 := isEmpty_of_zero h0
      have hf : Hid (valI s = 0) := by unfold Hid valI judgeI; simp [h0]
      clear h0
      go_enter Tryd.func26, Tryd.ntmps26
      go_wp2
      go_ret
      exact ⟨ret_int hf.out.symm, rfl⟩
    · have e1 := isEmpty_of_pos (s := s) (by omega)
      have hf : Hid (valI s = if madeB edgeB wordB s.data.toList then 0 else 6) := by unfold Hid valI judgeI; rw [if_neg h]; simp [h0]
      clear h0
      go_enter Tryd.func26, Tryd.ntmps26
      go_wp2_with (go_at_call 35; refine (named_any _ _ _ _ hs).mono ?_; rintro e w' ⟨rfl, rfl⟩)
      go_ret
      refine ⟨ret_int ?_, rfl⟩
      unfold namedI
      rw [hf.out, high_str, word_str]
end Go.Proofs.YtfggodnfliciiaaDoor.Sx
