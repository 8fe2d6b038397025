/-
  The program's name.Join and the reference's NameJoin: both hand back the same.
-/
import Derived.Test.YtpbbohinhbboaaaDoorKey2
namespace Go.Proofs.YtpbbohinhbboaaaDoor.Sx
open Go Go.RowKit

def zeroTo (l : List ByteArray) (k : Nat) : Prop := ∀ i (h : i < l.length), i < k → nameI l[i] = 0
def firstE : List ByteArray → Int
  | [] => 0
  | x :: r => if nameI x = 0 then firstE r else nameI x
theorem firstE_at {l : List ByteArray} {k : Nat} (h : zeroTo l k) (hk : k < l.length) (h0 : nameI l[k] ≠ 0) : firstE l = nameI l[k] := by
  induction l generalizing k with
  | nil => simp at hk
  | cons x r ih =>
    cases k with
    | zero => unfold firstE; have h0' : ¬ nameI x = 0 := h0; rw [if_neg h0']; rfl
    | succ k =>
      unfold firstE
      have hx : nameI x = 0 := h 0 (by simp) (by omega)
      rw [if_pos hx]
      exact ih (fun i hi hlt => h (i + 1) (by simpa using hi) (by omega)) (by simpa using hk) (by simpa using h0)
theorem firstE_all {l : List ByteArray} {k : Nat} (h : zeroTo l k) (hk : l.length ≤ k) : firstE l = 0 := by
  induction l generalizing k with
  | nil => rfl
  | cons x r ih =>
    unfold firstE
    have hx : nameI x = 0 := h 0 (by simp) (by simp at hk; omega)
    rw [if_pos hx]
    exact ih (k := k - 1) (fun i hi hlt => h (i + 1) (by simpa using hi) (by omega)) (by simp at hk; omega)
theorem zeroTo_succ {l : List ByteArray} {k : Nat} (h : zeroTo l k) (hk : k < l.length) (h0 : nameI l[k] = 0) : zeroTo l (k + 1) := fun i hi hlt => by
  rcases Nat.lt_or_ge i k with h1 | h1
  · exact h i hi h1
  · obtain rfl : i = k := by omega
    exact h0

def joined (a b : ByteArray) : ByteArray := a ++ ⟨#[45]⟩ ++ b
def three (a b : ByteArray) : List ByteArray := [a, b, joined a b]
def joinE (a b : ByteArray) : Int := firstE (three a b)
def joinS (a b : ByteArray) : ByteArray := if joinE a b = 0 then joined a b else ByteArray.empty
def JoinPost (w : World) (a b : ByteArray) (e : Ending) (w' : World) : Prop := e = .returned (.tuple #[.string (joinS a b), .int .i64 (joinE a b)]) ∧ Ext w w'
theorem joinPost_bad {w w' : World} {a b : ByteArray} {n : Int} (h : joinE a b = n) (h0 : n ≠ 0) (hx : Ext w w') : JoinPost w a b (.returned (.tuple #[.string ByteArray.empty, .int .i64 n])) w' := by
  refine ⟨?_, hx⟩
  unfold joinS
  rw [h, if_neg h0]
theorem joinPost_good {w w' : World} {a b : ByteArray} (h : joinE a b = 0) (hx : Ext w w') : JoinPost w a b (.returned (.tuple #[.string (joined a b), .int .i64 0])) w' := by
  refine ⟨?_, hx⟩
  unfold joinS
  rw [h, if_pos rfl]

set_option maxRecDepth 100000 in
set_option maxHeartbeats 2000000 in
theorem join_any (a b : ByteArray) (w : World) (ha : a.size ≤ 1048576) (hb : b.size ≤ 1048576) : Calls Tryd.prog 7 #[.string a, .string b] w (JoinPost w a b) := by
  have HSZ : Hid (∀ j (h : j < (three a b).length), (three a b)[j].size ≤ maxLen) := fun j h => by
    have hm : ∀ x ∈ three a b, x.size ≤ maxLen := by
      intro x hx
      simp [three] at hx
      unfold maxLen
      rcases hx with rfl | rfl | rfl
      · omega
      · omega
      · have h1 : (⟨#[45]⟩ : ByteArray).size = 1 := rfl
        simp only [joined, ByteArray.size_append]
        omega
    exact hm _ (List.getElem_mem h)
  go_enter Tryd.func7, Tryd.ntmps7
  go_wp2
  obtain ⟨w0, hw0⟩ : ∃ w0, w0 = w.alloc (.cells #[.string a, .string b, .string (a ++ ⟨#[45]⟩ ++ b)] 9) := ⟨_, rfl⟩
  have hx0 : Ext w w0 := by rw [hw0]; exact (Below.refl _ _).alloc (Nat.le_refl _) _
  have hh : w0.heap[w.heap.size]? = some (.cells ((three a b).map Value.string).toArray 9 (0, 0)) := by rw [hw0]; exact heap_new rfl
  have HC : Hid (∀ j (h : j < (three a b).length), w0.cell? ⟨w.heap.size, j, none⟩ = some (.string (three a b)[j])) := fun j h => by rw [cell_of hh]; simp [h]
  have HLN : Hid ((three a b).length = 3) := rfl
  rw [← hw0]
  have HX0 := Lib.hid hx0
  clear hw0 hx0 hh
  go_loopw [8, 9, 19] (fun _ _ k wr => ∃ j : Nat, j ≤ 3 ∧ k = .int .i64 j ∧ Hid (zeroTo (three a b) j) ∧ wr = w0) (fun _ _ k _ => 3 - (intOf k).toNat)
  case atStart => exact ⟨0, by omega, rfl, fun i hi h => by omega, rfl⟩
  case round =>
    obtain ⟨j, hj, rfl, hN, rfl⟩ := hrel
    by_cases hlt : j < 3
    · have hl3 : j < (three a b).length := by rw [HLN.out]; exact hlt
      have cj := HC.out j hl3
      have HSJ := Lib.hid (HSZ.out j hl3)
      have HZ : Hid (nameI (three a b)[j] = 0 → zeroTo (three a b) (j + 1)) := fun h => zeroTo_succ hN.out hl3 h
      have HAT : Hid (∀ e, nameI (three a b)[j] = e → e ≠ 0 → joinE a b = e) := fun e he h0 => by
        unfold joinE
        rw [firstE_at hN.out hl3 (by rw [he]; exact h0), he]
      obtain ⟨x, hx⟩ : ∃ x, x = (three a b)[j] := ⟨_, rfl⟩
      rw [← hx] at cj HSJ HZ HAT
      clear hx hl3
      by_cases h0 : nameI x = 0
      · have hb1 : (nameI x != 0) = false := by simp [h0]
        have HT := Lib.hid (HZ.out h0)
        clear h0
        go_wp2_with (go_at_call 9; refine (check_any _ _ HSJ.out).mono ?_; rintro e w' ⟨rfl, rfl⟩)
        go_roundw
        case rel => exact ⟨j + 1, by omega, by go_num, HT, (by first | rfl | trivial)⟩
        case measure => simp [intOf]; omega
      · have hb1 : (nameI x != 0) = true := by simp [h0]
        have HT := Lib.hid (HAT.out _ rfl h0)
        have H0 := Lib.hid h0
        clear h0
        go_wp2_with (go_at_call 9; refine (check_any _ _ HSJ.out).mono ?_; rintro e w' ⟨rfl, rfl⟩)
        go_ret2
        exact joinPost_bad HT.out H0.out HX0.out
    · have HT : Hid (joinE a b = 0) := firstE_all hN.out (by rw [HLN.out]; omega)
      go_wp2
      go_ret2
      exact joinPost_good HT.out HX0.out

set_option maxRecDepth 100000 in
set_option maxHeartbeats 2000000 in
theorem rjoin_any (a b : ByteArray) (w : World) (ha : a.size ≤ 1048576) (hb : b.size ≤ 1048576) : Calls Tryd.prog 8 #[.string a, .string b] w (JoinPost w a b) := by
  have HSZ : Hid (∀ j (h : j < (three a b).length), (three a b)[j].size ≤ maxLen) := fun j h => by
    have hm : ∀ x ∈ three a b, x.size ≤ maxLen := by
      intro x hx
      simp [three] at hx
      unfold maxLen
      rcases hx with rfl | rfl | rfl
      · omega
      · omega
      · have h1 : (⟨#[45]⟩ : ByteArray).size = 1 := rfl
        simp only [joined, ByteArray.size_append]
        omega
    exact hm _ (List.getElem_mem h)
  go_enter Tryd.func8, Tryd.ntmps8
  go_wp2
  obtain ⟨w0, hw0⟩ : ∃ w0, w0 = w.alloc (.cells #[.string a, .string b, .string (a ++ ⟨#[45]⟩ ++ b)] 9) := ⟨_, rfl⟩
  have hx0 : Ext w w0 := by rw [hw0]; exact (Below.refl _ _).alloc (Nat.le_refl _) _
  have hh : w0.heap[w.heap.size]? = some (.cells ((three a b).map Value.string).toArray 9 (0, 0)) := by rw [hw0]; exact heap_new rfl
  have HC : Hid (∀ j (h : j < (three a b).length), w0.cell? ⟨w.heap.size, j, none⟩ = some (.string (three a b)[j])) := fun j h => by rw [cell_of hh]; simp [h]
  have HLN : Hid ((three a b).length = 3) := rfl
  rw [← hw0]
  have HX0 := Lib.hid hx0
  clear hw0 hx0 hh
  go_loopw [7, 8, 17] (fun _ _ k wr => ∃ j : Nat, j ≤ 3 ∧ k = .int .i64 j ∧ Hid (zeroTo (three a b) j) ∧ wr = w0) (fun _ _ k _ => 3 - (intOf k).toNat)
  case atStart => exact ⟨0, by omega, rfl, fun i hi h => by omega, rfl⟩
  case round =>
    obtain ⟨j, hj, rfl, hN, rfl⟩ := hrel
    by_cases hlt : j < 3
    · have hl3 : j < (three a b).length := by rw [HLN.out]; exact hlt
      have cj := HC.out j hl3
      have HSJ := Lib.hid (HSZ.out j hl3)
      have HZ : Hid (nameI (three a b)[j] = 0 → zeroTo (three a b) (j + 1)) := fun h => zeroTo_succ hN.out hl3 h
      have HAT : Hid (∀ e, nameI (three a b)[j] = e → e ≠ 0 → joinE a b = e) := fun e he h0 => by
        unfold joinE
        rw [firstE_at hN.out hl3 (by rw [he]; exact h0), he]
      obtain ⟨x, hx⟩ : ∃ x, x = (three a b)[j] := ⟨_, rfl⟩
      rw [← hx] at cj HSJ HZ HAT
      clear hx hl3
      by_cases h0 : nameI x = 0
      · have hb1 : (nameI x != 0) = false := by simp [h0]
        have HT := Lib.hid (HZ.out h0)
        clear h0
        go_wp2_with (go_at_call 10; refine (rname_any _ _ HSJ.out).mono ?_; rintro e w' ⟨rfl, rfl⟩)
        go_roundw
        case rel => exact ⟨j + 1, by omega, by go_num, HT, (by first | rfl | trivial)⟩
        case measure => simp [intOf]; omega
      · have hb1 : (nameI x != 0) = true := by simp [h0]
        have HT := Lib.hid (HAT.out _ rfl h0)
        have H0 := Lib.hid h0
        clear h0
        go_wp2_with (go_at_call 10; refine (rname_any _ _ HSJ.out).mono ?_; rintro e w' ⟨rfl, rfl⟩)
        go_ret2
        exact joinPost_bad HT.out H0.out HX0.out
    · have HT : Hid (joinE a b = 0) := firstE_all hN.out (by rw [HLN.out]; omega)
      go_wp2
      go_ret2
      exact joinPost_good HT.out HX0.out
end Go.Proofs.YtpbbohinhbboaaaDoor.Sx
