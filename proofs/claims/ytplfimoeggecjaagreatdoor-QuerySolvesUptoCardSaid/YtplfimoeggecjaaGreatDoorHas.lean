/-
  Is a string among others: slices.Contains and the reference's Has; the first of a list that meets a test.
-/
import Derived.Test.YtplfimoeggecjaaGreatDoorName2
import Derived.Test.YtplfimoeggecjaaGreatDoorSlr
import Derived.Lib.SlicesS
namespace Go.Proofs.YtplfimoeggecjaaGreatDoor.Sx
open Go Go.RowKit

def eqS (a b : ByteArray) : Bool := a.toList == b.toList
def noneTo {α : Type} (p : α → Bool) (l : List α) (k : Nat) : Prop := ∀ i (h : i < l.length), i < k → p l[i] = false
theorem noneTo_succ {α : Type} {p : α → Bool} {l : List α} {k : Nat} (h : noneTo p l k) (hk : k < l.length) (hp : p l[k] = false) : noneTo p l (k + 1) := by
  intro i hi hlt
  rcases Nat.lt_or_ge i k with h1 | h1
  · exact h i hi h1
  · obtain rfl : i = k := by omega
    exact hp
theorem any_none {α : Type} {p : α → Bool} {l : List α} {k : Nat} (h : noneTo p l k) (hk : l.length ≤ k) : l.any p = false := by
  rw [List.any_eq_false]
  intro x hx
  obtain ⟨i, hi, rfl⟩ := List.mem_iff_getElem.1 hx
  rw [h i hi (by omega)]; simp
theorem any_some {α : Type} {p : α → Bool} {l : List α} {k : Nat} (hk : k < l.length) (hp : p l[k] = true) : l.any p = true :=
  List.any_eq_true.2 ⟨l[k], List.getElem_mem hk, hp⟩

theorem eqS_iff (a b : ByteArray) : eqS a b = true ↔ a = b := by
  unfold eqS
  rw [beq_iff_eq]
  constructor
  · intro h
    apply ByteArray.ext
    apply Array.ext'
    rw [ByteArray.toList_eq, ByteArray.toList_eq] at h
    exact h
  · rintro rfl; rfl
theorem eqS_comm (a b : ByteArray) : eqS a b = eqS b a := by
  rw [Bool.eq_iff_iff, eqS_iff, eqS_iff]
  exact eq_comm

/-- Is the string among these? -/
def hasS (l : List ByteArray) (s : ByteArray) : Bool := l.any fun x => eqS x s
theorem hasS_iff (l : List ByteArray) (s : ByteArray) : hasS l s = true ↔ s ∈ l := by
  unfold hasS
  rw [List.any_eq_true]
  constructor
  · rintro ⟨x, h1, h2⟩
    rw [(eqS_iff _ _).1 h2] at h1
    exact h1
  · intro h
    exact ⟨s, h, (eqS_iff _ _).2 rfl⟩

theorem contains_strs {B : Nat} {v : Value} {xs : List ByteArray} (s : ByteArray) {w : World} (h : StrsR B w v xs) :
    Calls Tryz.prog 58 #[v, .string s] w fun e w' => e = .returned (.bool (hasS xs s)) ∧ w = w' := by
  by_cases h0 : 0 < xs.length
  · have hn := h.1
    obtain ⟨b, off, c, rfl, _, hc⟩ := h.cells h0
    refine (Tryz.slices_Contains_string b off xs.length c xs s w (Nat.le_refl _) (by omega) (StrsR.getD hc)).mono fun e w' ⟨he, hw⟩ => ⟨?_, hw.symm⟩
    rw [he, List.take_length]
    refine ret_bool ?_
    rw [Bool.eq_iff_iff, Lib.containsS_iff, hasS_iff]
  · obtain ⟨hn, A, c, rfl, _⟩ := h
    have hx : xs = [] := List.length_eq_zero_iff.1 (by omega)
    subst hx
    exact (Tryz.slices_Contains_string_empty A c s w).mono fun e w' ⟨he, hw⟩ => ⟨he, hw.symm⟩

set_option maxRecDepth 100000 in
set_option maxHeartbeats 400000 in
theorem rhas_any {B : Nat} {v : Value} {xs : List ByteArray} (s : ByteArray) {w : World} (h : StrsR B w v xs) :
    Calls Tryz.prog 59 #[v, .string s] w fun e w' => e = .returned (.bool (hasS xs s)) ∧ w = w' := by
  have hn := h.1
  have H := Lib.hid h
  obtain ⟨_, A, c, rfl, _⟩ := h
  have hE : Hid (∀ a b, (a.toList == b.toList) = eqS b a) := fun a b => by rw [eqS_comm]; rfl
  go_enter Tryz.func59, Tryz.ntmps59
  go_wp2
  go_loopw [6, 9] (fun i k wr => ∃ j : Nat, j ≤ xs.length ∧ k = .int .i64 j ∧ Hid (noneTo (fun x => eqS x s) xs j) ∧ wr = w) (fun _ k _ => xs.length - (intOf k).toNat)
  case atStart => exact ⟨0, Nat.zero_le _, rfl, fun i hi h => by omega, rfl⟩
  case round =>
    obtain ⟨j, hj, rfl, hN, rfl⟩ := hrel
    by_cases hlt : j < xs.length
    · obtain ⟨b, off, c', hv, _, hc⟩ := StrsR.cells H.out (by omega)
      injection hv with h1 h2 h3
      subst h1 h3
      have hcell := (hc j hlt).1
      have HS : Hid (∀ b, eqS xs[j] s = b → (fun x => eqS x s) xs[j] = b) := fun b hb => hb
      obtain ⟨x, hx⟩ : ∃ x, x = xs[j] := ⟨_, rfl⟩
      have HX := Lib.hid hx
      rw [← hx] at hcell
      clear hx hc h2
      cases hb : (s.toList == x.toList) with
      | true =>
        have HT := Lib.hid (any_some (p := fun x => eqS x s) hlt (HS.out _ (by rw [← HX.out, ← hE.out, hb])))
        go_wp2
        go_ret
        exact ⟨ret_bool HT.out.symm, rfl⟩
      | false =>
        have HT := Lib.hid (noneTo_succ hN.out hlt (HS.out _ (by rw [← HX.out, ← hE.out, hb])))
        go_wp2
        go_roundw
        case rel => exact ⟨j + 1, hlt, by go_num, HT, trivial⟩
        case measure => simp [intOf]; omega
    · have HA := Lib.hid (any_none hN.out (by omega))
      go_wp2
      go_ret
      exact ⟨ret_bool HA.out.symm, rfl⟩
end Go.Proofs.YtplfimoeggecjaaGreatDoor.Sx
