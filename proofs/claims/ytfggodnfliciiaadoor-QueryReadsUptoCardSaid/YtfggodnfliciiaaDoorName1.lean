/-
  The program's name package: isEdge, isLow, made (over isLow and '-'), isName, judge, Check: each returns what a plain function of the text's bytes says, and leaves the world as it was.
-/
import Derived.Test.YtfggodnfliciiaaDoorBase
import Derived.Test.YtfggodnfliciiaaDoorChecked
import Derived.BigGuardPart
import Derived.Lib.Hide
namespace Go.Proofs.YtfggodnfliciiaaDoor.Sx
open Go Go.RowKit

def edgeB (c : UInt8) : Bool := decide (97 ≤ c.toNat ∧ c.toNat ≤ 122 ∨ 65 ≤ c.toNat ∧ c.toNat ≤ 90 ∨ 48 ≤ c.toNat ∧ c.toNat ≤ 57)
def lowB (c : UInt8) : Bool := decide (97 ≤ c.toNat ∧ c.toNat ≤ 122 ∨ 48 ≤ c.toNat ∧ c.toNat ≤ 57)
def dashB (c : UInt8) : Bool := decide (c.toNat = 45)

theorem edge_eq (c : UInt8) (b : Bool) (h : b = true ↔ (97 ≤ c.toNat ∧ c.toNat ≤ 122 ∨ 65 ≤ c.toNat ∧ c.toNat ≤ 90 ∨ 48 ≤ c.toNat ∧ c.toNat ≤ 57)) : b = edgeB c := by
  rw [Bool.eq_iff_iff, h, edgeB, decide_eq_true_eq]
theorem low_eq (c : UInt8) (b : Bool) (h : b = true ↔ (97 ≤ c.toNat ∧ c.toNat ≤ 122 ∨ 48 ≤ c.toNat ∧ c.toNat ≤ 57)) : b = lowB c := by
  rw [Bool.eq_iff_iff, h, lowB, decide_eq_true_eq]

set_option maxRecDepth 100000 in
theorem isEdge_any (c : UInt8) (w : World) : Calls Tryd.prog 50 #[.int .u8 (c.toNat : Int)] w fun e w' => e = .returned (.bool (edgeB c)) ∧ w = w' := by
  have hc : c.toNat < 256 := c.toNat_lt
  go_enter Tryd.func50, Tryd.ntmps50
  go_wp2
  all_goals
    go_ret
    refine ⟨ret_bool (edge_eq c _ ?_), rfl⟩
    simp
    try omega

theorem low_of_edge {c : UInt8} (h : edgeB c = false) : lowB c = false := by
  unfold edgeB at h; unfold lowB
  rw [decide_eq_false_iff_not] at *
  omega
theorem edge_iff {c : UInt8} (h : edgeB c = true) : 97 ≤ c.toNat ∧ c.toNat ≤ 122 ∨ 65 ≤ c.toNat ∧ c.toNat ≤ 90 ∨ 48 ≤ c.toNat ∧ c.toNat ≤ 57 := by
  unfold edgeB at h
  rwa [decide_eq_true_eq] at h

set_option maxRecDepth 100000 in
theorem isLow_any (c : UInt8) (w : World) : Calls Tryd.prog 48 #[.int .u8 (c.toNat : Int)] w fun e w' => e = .returned (.bool (lowB c)) ∧ w = w' := by
  have hc : c.toNat < 256 := c.toNat_lt
  have h1 : edgeB c = true → 97 ≤ c.toNat ∧ c.toNat ≤ 122 ∨ 65 ≤ c.toNat ∧ c.toNat ≤ 90 ∨ 48 ≤ c.toNat ∧ c.toNat ≤ 57 := edge_iff
  by_cases h : edgeB c = true
  · have h2 := h1 h
    clear h1
    go_enter Tryd.func48, Tryd.ntmps48
    go_wp2_with (go_at_call 50; refine (isEdge_any _ _).mono ?_; rintro e w' ⟨rfl, rfl⟩)
    all_goals
      go_ret
      refine ⟨ret_bool (low_eq c _ ?_), rfl⟩
      simp
      try omega
  · rw [Bool.not_eq_true] at h
    clear h1
    go_enter Tryd.func48, Tryd.ntmps48
    go_wp2_with (go_at_call 50; refine (isEdge_any _ _).mono ?_; rintro e w' ⟨rfl, rfl⟩)
    all_goals
      go_ret
      exact ⟨ret_bool (low_of_edge h).symm, rfl⟩

set_option maxRecDepth 100000 in
theorem isDash_any (c : UInt8) (w : World) : Calls Tryd.prog 49 #[.int .u8 (c.toNat : Int)] w fun e w' => e = .returned (.bool (dashB c)) ∧ w = w' := by
  have hc : c.toNat < 256 := c.toNat_lt
  go_enter Tryd.func49, Tryd.ntmps49
  go_wp2
  all_goals
    go_ret
    refine ⟨ret_bool ?_, rfl⟩
    rw [Bool.eq_iff_iff]; simp [dashB]; try omega

/-- Made of such bytes, with such ones at its ends. -/
def madeB (e wi : UInt8 → Bool) (l : List UInt8) : Bool := !l.isEmpty && e (l.getD 0 0) && e (l.getD (l.length - 1) 0) && l.all fun c => e c || wi c
def sofar (e wi : UInt8 → Bool) (l : List UInt8) (k : Nat) : Bool := (l.take k).all fun c => e c || wi c

theorem sofar_succ {e wi : UInt8 → Bool} {l : List UInt8} {k : Nat} (h : sofar e wi l k = true) (hk : k < l.length) (hc : (e l[k] || wi l[k]) = true) : sofar e wi l (k + 1) = true := by
  unfold sofar at *
  rw [List.take_succ_eq_append_getElem hk, List.all_append, h]
  simp [hc]
theorem sofar_all {e wi : UInt8 → Bool} {l : List UInt8} {k : Nat} (h : sofar e wi l k = true) (hk : l.length ≤ k) : (l.all fun c => e c || wi c) = true := by
  unfold sofar at h
  rwa [List.take_of_length_le hk] at h
theorem not_all {e wi : UInt8 → Bool} {l : List UInt8} {k : Nat} (hk : k < l.length) (hc : (e l[k] || wi l[k]) = false) : (l.all fun c => e c || wi c) = false := by
  rw [List.all_eq_false]
  exact ⟨l[k], List.getElem_mem hk, by simpa using hc⟩

theorem get_list (s : ByteArray) (k : Nat) (h : k < s.size) : s[k] = s.data.toList[k]'(by simpa using h) := rfl
theorem isEmpty_of_pos {s : ByteArray} (h : 0 < s.size) : s.toList.isEmpty = false := by
  rw [ByteArray.toList_eq, List.isEmpty_eq_false_iff]
  intro e
  have : s.data.toList.length = 0 := by rw [e]; rfl
  have h' : s.data.toList.length = s.size := by simp
  omega
theorem isEmpty_of_zero {s : ByteArray} (h : s.size = 0) : s.toList.isEmpty = true := by
  rw [ByteArray.toList_eq, List.isEmpty_iff]
  apply List.eq_nil_of_length_eq_zero
  have h' : s.data.toList.length = s.size := by simp
  omega
theorem made_zero {e wi : UInt8 → Bool} {s : ByteArray} (h : s.size = 0) : madeB e wi s.data.toList = false := by
  have := isEmpty_of_zero h
  rw [ByteArray.toList_eq] at this
  simp [madeB, this]
theorem getD_lt (l : List UInt8) (k : Nat) (h : k < l.length) : l.getD k 0 = l[k] := by rw [List.getD_eq_getElem?_getD, List.getElem?_eq_getElem h]; rfl
theorem made_eq {e wi : UInt8 → Bool} {s : ByteArray} (h : 0 < s.size) : madeB e wi s.data.toList = (e s[0] && e (s[s.size - 1]) && s.data.toList.all fun c => e c || wi c) := by
  have h1 := isEmpty_of_pos h
  rw [ByteArray.toList_eq] at h1
  have hl : s.data.toList.length = s.size := by simp
  rw [madeB, h1, hl, get_list s 0 h, get_list s _ (by omega), getD_lt _ _ (by omega), getD_lt _ _ (by omega)]
  rfl

set_option maxRecDepth 100000 in
set_option maxHeartbeats 400000 in
theorem made_any (s : ByteArray) (w : World) (hs : s.size ≤ maxLen) : Calls Tryd.prog 47 #[.string s, .func (.func 48) #[] #[], .func (.func 49) #[] #[]] w
    fun e w' => e = .returned (.bool (madeB lowB dashB s.data.toList)) ∧ w = w' := by
  unfold maxLen at hs
  by_cases h0 : s.size = 0
  · have e1 := isEmpty_of_zero h0
    have hf := Lib.hid (made_zero (e := lowB) (wi := dashB) h0)
    clear h0
    go_enter Tryd.func47, Tryd.ntmps47
    go_wp2
    go_ret
    exact ⟨ret_bool hf.out.symm, rfl⟩
  · have hp : 0 < s.size := by omega
    have e1 := isEmpty_of_pos hp
    have hf := Lib.hid (made_eq (e := lowB) (wi := dashB) hp)
    have hl : Hid (s.data.toList.length = s.size) := by simp [Hid]
    by_cases ha : lowB s[0] = true
    · by_cases hb : lowB (s[s.size - 1]) = true
      · go_enter Tryd.func47, Tryd.ntmps47
        go_wp2_with (first | (go_at_call 48; refine (isLow_any _ _).mono ?_; rintro e w' ⟨rfl, rfl⟩) | (go_at_call 49; refine (isDash_any _ _).mono ?_; rintro e w' ⟨rfl, rfl⟩))
        go_loop [7, 29] (fun i k => ∃ j : Nat, j ≤ s.size ∧ k = .int .i64 j ∧ Hid (sofar lowB dashB s.data.toList j = true)) (fun _ k => s.size - (intOf k).toNat)
        case atStart => exact ⟨0, Nat.zero_le _, rfl, rfl⟩
        case round =>
          obtain ⟨j, hj, rfl, hE⟩ := hrel
          by_cases hlt : j < s.size
          · have hlt' : j < s.data.toList.length := by rw [hl.out]; exact hlt
            cases hc : lowB s[j] with
            | true =>
              have hN : Hid (sofar lowB dashB s.data.toList (j + 1) = true) := sofar_succ hE.out hlt' (by rw [get_list] at hc; rw [hc]; rfl)
              go_wp2_with (first | (go_at_call 48; refine (isLow_any _ _).mono ?_; rintro e w' ⟨rfl, rfl⟩) | (go_at_call 49; refine (isDash_any _ _).mono ?_; rintro e w' ⟨rfl, rfl⟩))
              go_round
              case rel => exact ⟨j + 1, hlt, by go_num, hN⟩
              case measure => simp [intOf]; omega
            | false =>
              cases hd : dashB s[j] with
              | true =>
                have hN : Hid (sofar lowB dashB s.data.toList (j + 1) = true) := sofar_succ hE.out hlt' (by rw [get_list] at hd; rw [hd]; simp)
                go_wp2_with (first | (go_at_call 48; refine (isLow_any _ _).mono ?_; rintro e w' ⟨rfl, rfl⟩) | (go_at_call 49; refine (isDash_any _ _).mono ?_; rintro e w' ⟨rfl, rfl⟩))
                go_round
                case rel => exact ⟨j + 1, hlt, by go_num, hN⟩
                case measure => simp [intOf]; omega
              | false =>
                have hN : Hid ((s.data.toList.all fun c => lowB c || dashB c) = false) := not_all hlt' (by rw [get_list] at hc hd; rw [hc, hd]; rfl)
                go_wp2_with (first | (go_at_call 48; refine (isLow_any _ _).mono ?_; rintro e w' ⟨rfl, rfl⟩) | (go_at_call 49; refine (isDash_any _ _).mono ?_; rintro e w' ⟨rfl, rfl⟩))
                go_ret
                exact ⟨ret_bool (by rw [hf.out, hN.out, Bool.and_false]), rfl⟩
          · have hN : Hid ((s.data.toList.all fun c => lowB c || dashB c) = true) := sofar_all hE.out (by rw [hl.out]; omega)
            go_wp2
            go_ret
            exact ⟨ret_bool (by rw [hf.out, hN.out, ha, hb]; rfl), rfl⟩
      · rw [Bool.not_eq_true] at hb
        go_enter Tryd.func47, Tryd.ntmps47
        go_wp2_with (first | (go_at_call 48; refine (isLow_any _ _).mono ?_; rintro e w' ⟨rfl, rfl⟩) | (go_at_call 49; refine (isDash_any _ _).mono ?_; rintro e w' ⟨rfl, rfl⟩))
        go_ret
        exact ⟨ret_bool (by rw [hf.out, hb, Bool.and_false, Bool.false_and]), rfl⟩
    · rw [Bool.not_eq_true] at ha
      go_enter Tryd.func47, Tryd.ntmps47
      go_wp2_with (first | (go_at_call 48; refine (isLow_any _ _).mono ?_; rintro e w' ⟨rfl, rfl⟩) | (go_at_call 49; refine (isDash_any _ _).mono ?_; rintro e w' ⟨rfl, rfl⟩))
      go_ret
      exact ⟨ret_bool (by rw [hf.out, ha, Bool.false_and, Bool.false_and]), rfl⟩

set_option maxRecDepth 100000 in
theorem isName_any (s : ByteArray) (w : World) (hs : s.size ≤ maxLen) : Calls Tryd.prog 39 #[.string s] w fun e w' => e = .returned (.bool (madeB lowB dashB s.data.toList)) ∧ w = w' := by
  go_enter Tryd.func39, Tryd.ntmps39
  go_wp2_with (go_at_call 47; refine (made_any _ _ hs).mono ?_; rintro e w' ⟨rfl, rfl⟩)
  go_ret
  exact ⟨rfl, rfl⟩

/-- A name's judgement: 2 (too large), 6 (no name), 0. -/
def judgeI (n most : Nat) (is : Bool) : Int := if most < n then 2 else if is then 0 else 6

set_option maxRecDepth 100000 in
theorem judge_any (s : ByteArray) (m : Nat) (b : Bool) (w : World) (_hs : s.size ≤ maxLen) : Calls Tryd.prog 40 #[.string s, .int .i64 (m : Int), .bool b] w fun e w' => e = .returned (.int .i64 (judgeI s.size m b)) ∧ w = w' := by
  unfold maxLen at _hs
  by_cases h : m < s.size
  · have hf : Hid (judgeI s.size m b = 2) := by unfold Hid judgeI; rw [if_pos h]
    go_enter Tryd.func40, Tryd.ntmps40
    go_wp2
    go_ret
    exact ⟨ret_int hf.out.symm, rfl⟩
  · cases b
    · have hf : Hid (judgeI s.size m false = 6) := by unfold Hid judgeI; rw [if_neg h]; rfl
      go_enter Tryd.func40, Tryd.ntmps40
      go_wp2
      go_ret
      exact ⟨ret_int hf.out.symm, rfl⟩
    · have hf : Hid (judgeI s.size m true = 0) := by unfold Hid judgeI; rw [if_neg h]; rfl
      go_enter Tryd.func40, Tryd.ntmps40
      go_wp2
      go_ret
      exact ⟨ret_int hf.out.symm, rfl⟩

def nameI (s : ByteArray) : Int := judgeI s.size 63 (madeB lowB dashB s.data.toList)

end Go.Proofs.YtfggodnfliciiaaDoor.Sx
