/-
  The variable internal/bytealg.MaxLen holds a number.
  strings.ReplaceAll, one byte at a time.
-/
import Derived.Test.YtnccefeehkcneaaGreatDoorBase
import Derived.Test.YtnccefeehkcneaaGreatDoorShelf
import Derived.Test.YtnccefeehkcneaaGreatDoorPt1
namespace Go.Proofs.YtnccefeehkcneaaGreatDoor.Sx
open Go Go.RowKit
/-- The library's variable MaxLen holds an integer. -/
def MaxC (w : World) : Prop := ∃ m, w.cell? ⟨1, 0, none⟩ = some (.int .i64 m)
theorem MaxC.ext {w w' : World} (h : MaxC w) (hx : Ext w w') : MaxC w' := by
  obtain ⟨m, hm⟩ := h
  refine ⟨m, (hx.cell (p := ⟨1, 0, none⟩) ?_).trans hm⟩
  rcases Nat.lt_or_ge 1 w.heap.size with h1 | h1
  · exact h1
  · unfold World.cell? at hm
    rw [Array.getElem?_eq_none h1] at hm
    cases hm
theorem MaxC.of_shaped {w : World} (h : w.ShapedOpen Tryz.prog) : MaxC w := Tryz.laysM143.s1_3 w h
end Go.Proofs.YtnccefeehkcneaaGreatDoor.Sx
namespace Go.Proofs.YtnccefeehkcneaaGreatDoor.Sx
open Go Go.RowKit Go.Proofs.YtnccefeehkcneaaGreatDoor.Pt
theorem replace_any (s old new : ByteArray) (w : World) (hm : MaxC w) (hs : s.size ≤ 67108864) (h1 : 1 ≤ old.size) (hn : new.size ≤ 2) (hne : old.data.toList ≠ new.data.toList) :
    Calls Tryz.prog 98 #[.string s, .string old, .string new] w fun e w' => e = .returned (.string ⟨(rep old.data.toList new.data.toList s.data.toList).toArray⟩) ∧ Ext w w' := by
  obtain ⟨m, hm⟩ := hm
  have hc : Lib.countB s old ≤ s.size := Lib.countB_le old h1 s.size s (Nat.le_refl _)
  have hmul : Lib.countB s old * new.size ≤ 67108864 * 2 := Nat.mul_le_mul (by omega) hn
  refine (Tryz.strings_ReplaceAll s old new m w (by omega) hm h1 (by omega)).mono fun e w' ⟨he, hw⟩ => ⟨?_, hw⟩
  rw [he, replaceAll_rep hne]
end Go.Proofs.YtnccefeehkcneaaGreatDoor.Sx
