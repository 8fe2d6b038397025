/-
  The reference's SameRule, where both rules read the same: it returns true.
-/
import Derived.Test.YtpbbohinhbboaaaSame
import Derived.Test.YtpbbohinhbboaaaAlw
namespace Go.Proofs.Ytpbbohinhbboaaa.Sx
open Go Go.RowKit

set_option maxRecDepth 100000 in
set_option maxHeartbeats 1000000 in
theorem sameRule_any (B : Nat) (v1 v2 v3 u1 u2 u3 : Value) (r : Rule) (w : World) (hB : B ≤ w.heap.size) (h1 : StrsR B w v1 r.verbs) (h2 : StrsR B w v2 r.kinds) (h3 : StrsR B w v3 r.names) (k1 : StrsR B w u1 r.verbs) (k2 : StrsR B w u2 r.kinds) (k3 : StrsR B w u3 r.names) :
    Calls Try.prog 46 #[.agg #[v1, v2, v3], .agg #[u1, u2, u3]] w fun e w' => e = .returned (.bool true) ∧ Ext w w' := by
  have HV := Lib.hid (And.intro h1 (And.intro h2 (And.intro h3 (And.intro k1 (And.intro k2 k3)))))
  obtain ⟨_, A1, c1, rfl, _⟩ := h1
  obtain ⟨_, A2, c2, rfl, _⟩ := h2
  obtain ⟨_, A3, c3, rfl, _⟩ := h3
  obtain ⟨_, D1, d1, rfl, _⟩ := k1
  obtain ⟨_, D2, d2, rfl, _⟩ := k2
  obtain ⟨_, D3, d3, rfl, _⟩ := k3
  go_enter Try.func46, Try.ntmps46
  go_wp2_with fail
  have hx : ∀ o p, Ext w ((w.alloc o).alloc p) := fun o p => ((Below.refl _ _).alloc (Nat.le_refl _) _).alloc (by simp) _
  have hbl : ∀ o p, Below B w ((w.alloc o).alloc p) := fun o p => (hx o p).mono hB
  refine Calls.mono (eq_strs (HV.out.1.below (hbl _ _) (Nat.le_refl _)) (HV.out.2.2.2.1.below (hbl _ _) (Nat.le_refl _))) ?_
  rintro e w' ⟨rfl, rfl⟩
  go_wp2_with fail
  refine Calls.mono (eq_strs (HV.out.2.1.below (hbl _ _) (Nat.le_refl _)) (HV.out.2.2.2.2.1.below (hbl _ _) (Nat.le_refl _))) ?_
  rintro e w' ⟨rfl, rfl⟩
  go_wp2_with fail
  refine Calls.mono (eq_strs (HV.out.2.2.1.below (hbl _ _) (Nat.le_refl _)) (HV.out.2.2.2.2.2.below (hbl _ _) (Nat.le_refl _))) ?_
  rintro e w' ⟨rfl, rfl⟩
  have HX := Lib.hid hx
  clear hx hbl
  go_wp2
  go_ret
  exact ⟨rfl, HX.out _ _⟩
end Go.Proofs.Ytpbbohinhbboaaa.Sx
