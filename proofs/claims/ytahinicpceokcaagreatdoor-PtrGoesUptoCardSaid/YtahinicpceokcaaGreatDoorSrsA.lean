/-
  append of strings from any slice that reads as a list; sub-slices.
-/
import Derived.Test.YtahinicpceokcaaGreatDoorSrow
import Derived.Test.YtahinicpceokcaaGreatDoorBgn
import Derived.Lib.Hide
import Derived.BigGuardPart
namespace Go.Proofs.YtahinicpceokcaaGreatDoor.Sx
open Go Go.RowKit
theorem grown_none {w w' : World} {row : Option Nat} (h : Ext w w') : w.grownBy w' row := ⟨h.os, h.tape, h.output, h.size, fun k hk _ => h.block k hk⟩
/-- The slice x reads as ys. -/
def SrcS (w : World) (x : Value) (ys : List ByteArray) : Prop := (∃ c, x = .slice none 0 c ∧ ys = []) ∨ ∃ ad c, x = .slice (some ad) ys.length c ∧ ∀ j u, (strVals ys)[j]? = some u → w.cell? (ad.add j) = some u
theorem SrcS.kept {w w' : World} {x : Value} {ys : List ByteArray} {row : Option Nat} (h : SrcS w x ys) (hg : w.grownBy w' row) (hne : ∀ g, x.ownBlock = some g → row ≠ some g) : SrcS w' x ys := by
  rcases h with h | ⟨ad, c, rfl, hc⟩
  · exact .inl h
  · refine .inr ⟨ad, c, rfl, fun j u hj => ?_⟩
    have h0 := hc j u hj
    have hb : (ad.add j).block = ad.block := block_of_add ad j
    have hlt : ad.block < w.heap.size := by
      rcases Nat.lt_or_ge ad.block w.heap.size with h1 | h1
      · exact h1
      · unfold World.cell? at h0
        rw [hb, Array.getElem?_eq_none h1] at h0
        cases h0
    rw [hg.cell_far (ad.add j) (by rw [hb]; exact hlt) (by rw [hb]; exact fun e => hne ad.block rfl e.symm)]
    exact h0
theorem SrcS.slice {w : World} {x : Value} {ys : List ByteArray} (h : SrcS w x ys) : ∃ A c, x = .slice A ys.length c := by
  rcases h with ⟨c, rfl, rfl⟩ | ⟨ad, c, rfl, _⟩
  · exact ⟨_, _, rfl⟩
  · exact ⟨_, _, rfl⟩
theorem SrcS.ext {w w' : World} {x : Value} {ys : List ByteArray} (h : SrcS w x ys) (he : Ext w w') : SrcS w' x ys := h.kept (row := none) (grown_none he) (fun g _ => by simp)
theorem SRow.src {base : Nat} {w : World} {v : Value} {zs : List ByteArray} (h : SRow base w v zs) : SrcS w v zs := by
  rcases h with ⟨rfl, rfl⟩ | ⟨g, rest, rfl, hb, hg, hm⟩
  · exact .inl ⟨0, rfl, rfl⟩
  · refine .inr ⟨_, _, rfl, fun j u hj => ?_⟩
    rw [Addr.add_lit, Nat.zero_add, cell_of hg]
    have := (List.getElem?_eq_some_iff.1 hj).1
    rw [List.getElem?_toArray, List.getElem?_append_left this]
    exact hj
end Go.Proofs.YtahinicpceokcaaGreatDoor.Sx
