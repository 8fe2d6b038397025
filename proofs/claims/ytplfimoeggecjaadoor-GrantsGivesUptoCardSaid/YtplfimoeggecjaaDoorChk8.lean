/-
  The program's grants.CheckAsk: the walk.
-/
import Derived.Test.YtplfimoeggecjaaDoorChk7
namespace Go.Proofs.YtplfimoeggecjaaDoor.Sx
open Go Go.RowKit

structure Ask where
  verb : ByteArray
  kind : ByteArray
  space : ByteArray
  name : ByteArray
def Ask.small (a : Ask) : Prop := a.verb.size ≤ 1048576 ∧ a.kind.size ≤ 1048576 ∧ a.space.size ≤ 1048576 ∧ a.name.size ≤ 1048576
def Ask.val (a : Ask) : Value := .agg #[.string a.verb, .string a.kind, .string a.space, .string a.name]
/-- What grants.CheckAsk answers. -/
def askI (a : Ask) : Int := spaceI (spaceI (namesI 0 [a.verb, a.kind] false) a.space) a.name

theorem cells4 {w : World} {k : Nat} {a0 a1 a2 a3 : Value} {t : TypeId} {f : Nat × Nat} (h : w.heap[k]? = some (.cells #[a0, a1, a2, a3] t f)) :
    w.cell? ⟨k, 0, none⟩ = some a0 ∧ w.cell? ⟨k, 1, none⟩ = some a1 ∧ w.cell? ⟨k, 2, none⟩ = some a2 ∧ w.cell? ⟨k, 3, none⟩ = some a3 := by
  refine ⟨?_, ?_, ?_, ?_⟩ <;> simp [cell_of h]

end Go.Proofs.YtplfimoeggecjaaDoor.Sx
