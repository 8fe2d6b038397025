/-
  The reference's Eq of strings, where both lists read the same: it returns true.
-/
import Derived.Test.YtfggodnfliciiaaDoorSlr
import Derived.Test.YtfggodnfliciiaaDoorChecked
import Derived.Lib.Hide
import Derived.BigGuardPart
namespace Go.Proofs.YtfggodnfliciiaaDoor.Sx
open Go Go.RowKit

set_option maxRecDepth 100000 in
set_option maxHeartbeats 1000000 in
theorem eq_strs {B B' : Nat} {v v' : Value} {xs : List ByteArray} {w : World} (h : StrsR B w v xs) (h' : StrsR B' w v' xs) :
    Calls Tryd.prog 16 #[v, v'] w fun e w' => e = .returned (.bool true) ∧ w = w' := by
  have hn := h.1
  have H := Lib.hid (And.intro h h')
  obtain ⟨_, A, c, rfl, _⟩ := h
  obtain ⟨_, A', c', rfl, _⟩ := h'
  have hE : Hid (∀ a : ByteArray, (a.toList != a.toList) = false) := fun a => by simp
  go_enter Tryd.func16, Tryd.ntmps16
  go_wp2
  go_loopw [14] (fun k wr => ∃ j : Nat, j ≤ xs.length ∧ k = .int .i64 j ∧ w = wr) (fun k _ => xs.length - (intOf k).toNat)
  case atStart => exact ⟨0, Nat.zero_le _, rfl, rfl⟩
  case round =>
    obtain ⟨j, hj, rfl, rfl⟩ := hrel
    by_cases hlt : j < xs.length
    · obtain ⟨b, off, c2, hv, _, hc⟩ := StrsR.cells H.out.1 (by omega)
      injection hv with h1 h2 h3
      subst h1 h3
      obtain ⟨b', off', c2', hv, _, hc'⟩ := StrsR.cells H.out.2 (by omega)
      injection hv with h1 h4 h3
      subst h1 h3
      have e1 := (hc j hlt).1
      have e2 := (hc' j hlt).1
      obtain ⟨x, hx⟩ : ∃ x, x = xs[j] := ⟨_, rfl⟩
      rw [← hx] at e1 e2
      have e3 := hE.out x
      clear hx hc hc' h2 h4
      go_wp2
      go_roundw
      case rel => exact ⟨j + 1, hlt, by go_num, (by first | rfl | trivial)⟩
      case measure => simp [intOf]; omega
    · go_wp2
      go_ret
      exact ⟨rfl, rfl⟩
end Go.Proofs.YtfggodnfliciiaaDoor.Sx
