/-
  A loop over an iterator that hands out given texts and keeps what is left in a cell of its own: what its contract says, and the law for the loop. No program in sight.
-/
import Derived.RangeFuncNested
import Derived.RangeFuncCalls
import Derived.RangeFuncLeaves
import Derived.WalkKit
namespace Go.Proofs.YtahinicpceokcaaGreatDoor.Sx
open Go Go.RowKit
/-- The blocks from lo on, below hi, stand as they stood. -/
def Keeps (lo hi : Nat) (W W' : World) : Prop := ∀ k, lo ≤ k → k < hi → W'.heap[k]? = W.heap[k]?
theorem Keeps.trans {lo hi : Nat} {A B C : World} (h : Keeps lo hi A B) (k : Keeps lo hi B C) : Keeps lo hi A C := fun j h1 h2 => (k j h1 h2).trans (h j h1 h2)
end Go.Proofs.YtahinicpceokcaaGreatDoor.Sx
