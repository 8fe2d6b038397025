/-
  strings.ReplaceAll, one byte at a time.
-/
import Derived.Test.YtahinicpceokcaaGreatDoorMxc
import Derived.Test.YtahinicpceokcaaGreatDoorPt1
namespace Go.Proofs.YtahinicpceokcaaGreatDoor.Sx
open Go Go.RowKit Go.Proofs.YtahinicpceokcaaGreatDoor.Pt
theorem replace_any (s old new : ByteArray) (w : World) (hm : MaxC w) (hs : s.size ≤ 67108864) (h1 : 1 ≤ old.size) (hn : new.size ≤ 2) (hne : old.data.toList ≠ new.data.toList) :
    Calls Tryz.prog 76 #[.string s, .string old, .string new] w fun e w' => e = .returned (.string ⟨(rep old.data.toList new.data.toList s.data.toList).toArray⟩) ∧ Ext w w' := by
  obtain ⟨m, hm⟩ := hm
  have hc : Lib.countB s old ≤ s.size := Lib.countB_le old h1 s.size s (Nat.le_refl _)
  have hmul : Lib.countB s old * new.size ≤ 67108864 * 2 := Nat.mul_le_mul (by omega) hn
  refine (Tryz.strings_ReplaceAll s old new m w (by omega) hm h1 (by omega)).mono fun e w' ⟨he, hw⟩ => ⟨?_, hw⟩
  rw [he, replaceAll_rep hne]
end Go.Proofs.YtahinicpceokcaaGreatDoor.Sx
