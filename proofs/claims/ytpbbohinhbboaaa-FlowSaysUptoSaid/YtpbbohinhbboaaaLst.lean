/-
  Lists of strings that are looked through, compared, copied: the program's and the reference's helpers.
-/
import Derived.Test.YtpbbohinhbboaaaChk8
import Derived.Test.YtpbbohinhbboaaaName2
import Derived.Test.YtpbbohinhbboaaaSlr
import Derived.Lib.SlicesS
namespace Go.Proofs.Ytpbbohinhbboaaa.Sx
open Go Go.RowKit

theorem clone_strs {B : Nat} {v : Value} {xs : List ByteArray} {w : World} (h : StrsR B w v xs) :
    Calls Try.prog 123 #[v] w fun e w' => ∃ A c, e = .returned (.slice A xs.length c) ∧ StrsR w'.heap.size w' (.slice A xs.length c) xs ∧ Ext w w' := by
  by_cases h0 : 0 < xs.length
  · have hn := h.1
    obtain ⟨b, off, c, rfl, _, hc⟩ := h.cells h0
    refine (Try.slices_Clone_string b off xs.length c xs w (Nat.le_refl _) (by omega) (StrsR.getD hc)).mono fun e w' ⟨v', he, ho, _, hb⟩ => ?_
    rw [List.take_length] at ho
    have hs := strs_of_own ho hn fun x hx => by
      obtain ⟨i, hi, rfl⟩ := List.mem_iff_getElem.1 hx
      exact (hc i hi).2
    obtain ⟨_, A', c', hv, _⟩ := id hs
    subst hv
    exact ⟨_, _, he, hs, hb⟩
  · obtain ⟨hn, A, c, rfl, _⟩ := h
    have hx : xs = [] := List.length_eq_zero_iff.1 (by omega)
    subst hx
    cases A with
    | none => exact (Try.slices_Clone_string_nil 0 c w).mono fun e w' ⟨he, hw⟩ => ⟨_, _, he, ⟨hn, _, _, rfl, fun i hi => by simp at hi⟩, by rw [hw]; exact Below.refl _ _⟩
    | some a =>
      refine (Try.slices_Clone_string_zero a c w).mono fun e w' ⟨v', he, ho, _, hb⟩ => ?_
      have hs := strs_of_own (xs := []) ho hn fun x hx => by cases hx
      obtain ⟨_, A', c', hv, _⟩ := id hs
      subst hv
      exact ⟨_, _, he, hs, hb⟩

end Go.Proofs.Ytpbbohinhbboaaa.Sx
