/-
  Rows of rules whose words are the call's own too (copies).
-/
import Derived.Test.YtpbbohinhbboaaaRgh
namespace Go.Proofs.Ytpbbohinhbboaaa.Sx
open Go Go.RowKit

abbrev sT : Nat := 9
/-- A copy of these strings. -/
def OwnS (base : Nat) (w : World) (v : Value) (xs : List ByteArray) : Prop := w.ownsRow base sT 1 v xs.length (xs.map Value.string)
theorem OwnS.mod {base b : Nat} {w w' : World} {v : Value} {xs : List ByteArray} (h : OwnS base w v xs) (hm : ModR rT b w w') : OwnS base w' v xs := by
  refine ⟨h.1, ?_⟩
  rcases h.2 with h0 | ⟨g, cap, cur, hv, hb, hg, rest⟩
  · exact .inl h0
  · exact .inr ⟨g, cap, cur, hv, hb, hm.heap hg (by decide), rest⟩
theorem OwnS.low {base base' : Nat} {w : World} {v : Value} {xs : List ByteArray} (h : OwnS base w v xs) (hb : base' ≤ base) : OwnS base' w v xs := by
  refine ⟨h.1, ?_⟩
  rcases h.2 with h0 | ⟨g, cap, cur, hv, hb', rest⟩
  · exact .inl h0
  · exact .inr ⟨g, cap, cur, hv, Nat.le_trans hb hb', rest⟩
theorem OwnS.slice {base : Nat} {w : World} {v : Value} {xs : List ByteArray} (h : OwnS base w v xs) : ∃ A c, v = .slice A xs.length c := by
  rcases h.2 with ⟨rfl, h0⟩ | ⟨g, cap, cur, rfl, _⟩
  · exact ⟨none, 0, by rw [h0]⟩
  · exact ⟨_, _, rfl⟩

theorem StrsR.small {B : Nat} {w : World} {v : Value} {xs : List ByteArray} (h : StrsR B w v xs) : xs.length ≤ 1099511627776 ∧ ∀ x ∈ xs, x.size ≤ 1048576 := by
  refine ⟨h.1, fun x hx => ?_⟩
  obtain ⟨i, hi, rfl⟩ := List.mem_iff_getElem.1 hx
  obtain ⟨_, _, _, _, _, hc⟩ := h.cells (by omega)
  exact (hc i hi).2

theorem clone_own {B : Nat} {v : Value} {xs : List ByteArray} {w : World} (h : StrsR B w v xs) :
    Calls Try.prog 123 #[v] w fun e w' => ∃ A c, e = .returned (.slice A xs.length c) ∧ OwnS w.heap.size w' (.slice A xs.length c) xs ∧ Ext w w' := by
  by_cases h0 : 0 < xs.length
  · have hn := h.1
    obtain ⟨b, off, c, rfl, _, hc⟩ := h.cells h0
    refine (Try.slices_Clone_string b off xs.length c xs w (Nat.le_refl _) (by omega) (StrsR.getD hc)).mono fun e w' ⟨v', he, ho, _, hb⟩ => ?_
    rw [List.take_length] at ho
    have hs : OwnS w.heap.size w' v' xs := ho
    obtain ⟨A', c', rfl⟩ := hs.slice
    exact ⟨_, _, he, hs, hb⟩
  · obtain ⟨hn, A, c, rfl, _⟩ := h
    have hx : xs = [] := List.length_eq_zero_iff.1 (by omega)
    subst hx
    cases A with
    | none => exact (Try.slices_Clone_string_nil 0 c w).mono fun e w' ⟨he, hw⟩ => ⟨_, _, he, World.ownsRow_nil _ _ _ _, by rw [hw]; exact Below.refl _ _⟩
    | some a =>
      refine (Try.slices_Clone_string_zero a c w).mono fun e w' ⟨v', he, ho, _, hb⟩ => ?_
      have hs : OwnS w.heap.size w' v' [] := ho
      obtain ⟨A', c', rfl⟩ := hs.slice
      exact ⟨_, _, he, hs, hb⟩

/-- The call's own row v holds copies of the rules L. -/
def OwnC (base : Nat) (w : World) (v : Value) (L : List Rule) : Prop :=
  ∃ css : List (List Value), css.length = L.length ∧ w.ownsRow base rT 3 v L.length css.flatten ∧ ∀ i (h : i < L.length), ∃ v1 v2 v3, css[i]? = some [v1, v2, v3] ∧ OwnS base w v1 L[i].verbs ∧ OwnS base w v2 L[i].kinds ∧ OwnS base w v3 L[i].names
def ruleSmall (r : Rule) : Prop := (r.verbs.length ≤ 1099511627776 ∧ ∀ x ∈ r.verbs, x.size ≤ 1048576) ∧ (r.kinds.length ≤ 1099511627776 ∧ ∀ x ∈ r.kinds, x.size ≤ 1048576) ∧ (r.names.length ≤ 1099511627776 ∧ ∀ x ∈ r.names, x.size ≤ 1048576)

theorem OwnC.nil {base : Nat} {w : World} : OwnC base w (.slice none 0 0) [] := ⟨[], rfl, World.ownsRow_nil _ _ _ _, fun i h => by simp at h⟩
theorem OwnC.slice {base : Nat} {w : World} {v : Value} {L : List Rule} (h : OwnC base w v L) : ∃ A c, v = .slice A L.length c := by
  obtain ⟨css, _, h2, _⟩ := h
  rcases h2.2 with ⟨rfl, h0⟩ | ⟨g, cap, cur, rfl, _⟩
  · exact ⟨none, 0, by rw [h0]⟩
  · exact ⟨_, _, rfl⟩
theorem OwnC.ext {base : Nat} {w w' : World} {v : Value} {L : List Rule} (h : OwnC base w v L) (he : Ext w w') : OwnC base w' v L := by
  obtain ⟨css, h1, h2, h3⟩ := h
  refine ⟨css, h1, h2.kept (row := none) ⟨he.os, he.tape, he.output, he.size, fun k hk _ => he.block k hk⟩ (by cases h : v.ownBlock <;> simp), fun i hi => ?_⟩
  obtain ⟨v1, v2, v3, e, a1, a2, a3⟩ := h3 i hi
  have hm : ModR rT 0 w w' := .of_ext he
  exact ⟨v1, v2, v3, e, a1.mod hm, a2.mod hm, a3.mod hm⟩
theorem OwnC.toR {base : Nat} {w : World} {v : Value} {L : List Rule} (h : OwnC base w v L) (hn : L.length ≤ 1099511627776) (hs : ∀ r ∈ L, ruleSmall r) : RulesR w.heap.size w v L := by
  obtain ⟨css, h1, h2, h3⟩ := h
  refine OwnRules.toR (base := base) ⟨css, h1, h2, fun i hi => ?_⟩ hn (Nat.le_refl _)
  obtain ⟨v1, v2, v3, e, a1, a2, a3⟩ := h3 i hi
  obtain ⟨s1, s2, s3⟩ := hs _ (List.getElem_mem hi)
  exact ⟨_, e, v1, v2, v3, rfl, strs_of_own a1 s1.1 s1.2, strs_of_own a2 s2.1 s2.2, strs_of_own a3 s3.1 s3.2⟩
end Go.Proofs.Ytpbbohinhbboaaa.Sx
