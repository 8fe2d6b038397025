/- Thinned out of Rmb by thin.py. -/
import Derived.Test.YtnccefeehkcneaaGreatDoorTma
import Derived.Test.YtnccefeehkcneaaGreatDoorQrs
/-
  The reference's plain, both (printed by gen/rm3.py).
  The reference's between (printed by gen/rm4.py).
-/
namespace Go.Proofs.YtnccefeehkcneaaGreatDoor.Jm
open Go Go.RowKit Go.Proofs.YtnccefeehkcneaaGreatDoor.Sx Go.Proofs.YtnccefeehkcneaaGreatDoor.Js Go.Proofs.YtnccefeehkcneaaGreatDoor.Gr Go.Proofs.YtnccefeehkcneaaGreatDoor.Ur
theorem rret_b {a b : Bool} (h : a = b) : Ending.returned (.bool a) = .returned (.bool b) := by rw [h]
end Go.Proofs.YtnccefeehkcneaaGreatDoor.Jm
namespace Go.Proofs.YtnccefeehkcneaaGreatDoor.Jm
open Go Go.RowKit Go.Proofs.YtnccefeehkcneaaGreatDoor.Sx Go.Proofs.YtnccefeehkcneaaGreatDoor.Js Go.Proofs.YtnccefeehkcneaaGreatDoor.Gr Go.Proofs.YtnccefeehkcneaaGreatDoor.Ur
theorem names_src {F : Nat → Prop} {w : World} {A : Option Addr} {c : Nat} {ns : List Tx} (h : NamesAt F w A ns) : SrcS w (.slice A ns.length c) (ns.map bx) := by
  cases A with
  | none =>
    have hn : ns = [] := by
      cases ns with
      | nil => rfl
      | cons n ns => obtain ⟨g, off, e, _⟩ := h 0 (by simp); cases e
    subst hn
    exact .inl ⟨c, rfl, rfl⟩
  | some ad =>
    refine .inr ⟨ad, c, by rw [List.length_map], fun j u hj => ?_⟩
    have hl : j < ns.length := by
      have := (List.getElem?_eq_some_iff.1 hj).1
      unfold strVals at this
      simpa using this
    obtain ⟨g, off, e, _, hc⟩ := h j hl
    injection e with e
    subst e
    have hu : u = .string (bx ns[j]) := by
      unfold strVals at hj
      simp [hl] at hj
      exact hj.symm
    rw [hu, Addr.add_lit]
    exact hc
theorem names_long (a : Ob) : ∀ n ∈ a.1, n.length ≤ bulkO a := fun n hn => by
  have : ∀ (ns : List Tx) (n : Tx), n ∈ ns → 2 * n.length + 8 ≤ namesB ns := fun ns n => by
    unfold namesB
    induction ns with
    | nil => intro h; cases h
    | cons a r ih =>
      intro h
      rw [List.map_cons, List.sum_cons]
      rcases List.mem_cons.1 h with rfl | h
      · omega
      · have := ih h; omega
  have := this a.1 n hn
  unfold bulkO
  omega
end Go.Proofs.YtnccefeehkcneaaGreatDoor.Jm
