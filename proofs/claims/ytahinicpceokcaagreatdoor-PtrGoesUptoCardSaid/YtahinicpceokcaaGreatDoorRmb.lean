/-
  The reference's plain, both (printed by gen/rm3.py).
  The reference's between (printed by gen/rm4.py).
-/
import Derived.Test.YtahinicpceokcaaGreatDoorRma
import Derived.Test.YtahinicpceokcaaGreatDoorQra
import Derived.Test.YtahinicpceokcaaGreatDoorSrsA
import Derived.Deep.QuietTactic
import Derived.BigQuiet
import Derived.Deep.RegionLaw
import Derived.Laws.Cover1
namespace Go.Proofs.YtahinicpceokcaaGreatDoor.Jm
open Go Go.RowKit Go.Proofs.YtahinicpceokcaaGreatDoor.Sx Go.Proofs.YtahinicpceokcaaGreatDoor.Js Go.Proofs.YtahinicpceokcaaGreatDoor.Gr Go.Proofs.YtahinicpceokcaaGreatDoor.Ur
theorem rret_b {a b : Bool} (h : a = b) : Ending.returned (.bool a) = .returned (.bool b) := by rw [h]
end Go.Proofs.YtahinicpceokcaaGreatDoor.Jm
namespace Go.Proofs.YtahinicpceokcaaGreatDoor.Jm
open Go Go.RowKit Go.Proofs.YtahinicpceokcaaGreatDoor.Sx Go.Proofs.YtahinicpceokcaaGreatDoor.Js Go.Proofs.YtahinicpceokcaaGreatDoor.Gr Go.Proofs.YtahinicpceokcaaGreatDoor.Ur
theorem srow_names {base : Nat} {w : World} {A : Option Addr} {n c : Nat} {us : List Tx} (h : SRow base w (.slice A n c) (us.map bx)) : n = us.length ∧ NamesAt (fun b => base ≤ b) w A us := by
  rcases h with ⟨hv, hz⟩ | ⟨g, rest, hv, hb, hg, _⟩
  · injection hv with _ e _
    have : us = [] := by simpa using hz
    subst this
    exact ⟨e, fun i hi => absurd hi (Nat.not_lt_zero _)⟩
  · injection hv with e1 e2 _
    rw [List.length_map] at e2
    refine ⟨e2, fun i hi => ⟨g, 0, e1, hb, ?_⟩⟩
    have hl : i < (strVals (us.map bx)).length := by unfold strVals; simpa using hi
    rw [Nat.zero_add, cell_at hg (by rw [List.length_append]; omega), List.getElem_append_left hl]
    unfold strVals
    simp
end Go.Proofs.YtahinicpceokcaaGreatDoor.Jm
