/-
  The variable internal/bytealg.MaxLen holds a number.
-/
import Derived.Test.YtahinicpceokcaaGreatDoorBase
import Derived.Test.YtahinicpceokcaaGreatDoorShelf
namespace Go.Proofs.YtahinicpceokcaaGreatDoor.Sx
open Go Go.RowKit
/-- The library's variable MaxLen holds an integer. -/
def MaxC (w : World) : Prop := ∃ m, w.cell? ⟨1, 0, none⟩ = some (.int .i64 m)
theorem MaxC.ext {w w' : World} (h : MaxC w) (hx : Ext w w') : MaxC w' := by
  obtain ⟨m, hm⟩ := h
  refine ⟨m, (hx.cell (p := ⟨1, 0, none⟩) ?_).trans hm⟩
  rcases Nat.lt_or_ge 1 w.heap.size with h1 | h1
  · exact h1
  · unfold World.cell? at hm
    rw [Array.getElem?_eq_none h1] at hm
    cases hm
theorem MaxC.of_shaped {w : World} (h : w.ShapedOpen Tryz.prog) : MaxC w := Tryz.laysM143.s1_3 w h
end Go.Proofs.YtahinicpceokcaaGreatDoor.Sx
