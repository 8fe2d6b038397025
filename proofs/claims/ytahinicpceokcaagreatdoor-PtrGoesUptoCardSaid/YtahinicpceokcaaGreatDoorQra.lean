/-
  Sorted lists of texts; the first value that fits. Plain words: no program in sight.
  Sort of texts as the reference does it, in plain words: how its two loops go. No program in sight.
-/
import Derived.Lib.SlicesCompact
import Derived.Test.YtahinicpceokcaaGreatDoorDec
namespace Go.Proofs.YtahinicpceokcaaGreatDoor.Qs
open Go Go.Lib Go.Proofs.YtahinicpceokcaaGreatDoor.Dc
abbrev Tx := List UInt8
def tx (b : ByteArray) : Tx := b.data.toList
def bx (t : Tx) : ByteArray := ⟨t.toArray⟩
theorem lt_irr (a : Tx) : ¬ a < a := List.lt_irrefl a
/-- Put in behind all that are not greater. -/
def ins (s : Tx) (l : List Tx) : List Tx := l.takeWhile (fun x => decide (x ≤ s)) ++ s :: l.dropWhile (fun x => decide (x ≤ s))
end Go.Proofs.YtahinicpceokcaaGreatDoor.Qs
namespace Go.Proofs.YtahinicpceokcaaGreatDoor.Qs
open Go Go.RowKit Go.Lib Go.Proofs.YtahinicpceokcaaGreatDoor.Dc
theorem less_lt : ∀ (x y : List UInt8), Op.bytesLess x y = decide (x < y)
  | [], [] => by simp [Op.bytesLess]
  | _ :: _, [] => by simp [Op.bytesLess]
  | [], _ :: _ => by simp [Op.bytesLess]
  | a :: x, b :: y => by
    rw [Op.bytesLess, less_lt x y]
    simp only [List.cons_lt_cons_iff]
    by_cases h1 : a < b <;> by_cases h2 : a = b <;> by_cases h3 : x < y <;> simp [h1, h2, h3]
end Go.Proofs.YtahinicpceokcaaGreatDoor.Qs
