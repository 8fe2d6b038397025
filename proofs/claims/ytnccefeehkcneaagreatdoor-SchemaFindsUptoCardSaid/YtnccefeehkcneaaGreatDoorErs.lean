/-
  The two errors of strconv, as the rows list them.
-/
import Derived.Test.YtnccefeehkcneaaGreatDoorBase
import Derived.Test.YtnccefeehkcneaaGreatDoorShelf
import Derived.Lib.SmallJoins
namespace Go.Proofs.YtnccefeehkcneaaGreatDoor.Sx
open Go Go.RowKit
/-- The two errors of strconv hold errors. -/
def Errs (w : World) : Prop := (∃ t p, w.var? Tryz.prog "strconv.ErrSyntax" = some #[.iface t p]) ∧ ∃ t p, w.var? Tryz.prog "strconv.ErrRange" = some #[.iface t p]
theorem Errs.ext {w w' : World} (h : Errs w) (hx : Ext w w') : Errs w' := by
  obtain ⟨⟨t, p, h1⟩, t2, p2, h2⟩ := h
  exact ⟨⟨t, p, Joins.var_stays (g := 6) (by kernel_rfl) h1 hx (Nat.le_refl _)⟩, t2, p2, Joins.var_stays (g := 7) (by kernel_rfl) h2 hx (Nat.le_refl _)⟩
end Go.Proofs.YtnccefeehkcneaaGreatDoor.Sx
