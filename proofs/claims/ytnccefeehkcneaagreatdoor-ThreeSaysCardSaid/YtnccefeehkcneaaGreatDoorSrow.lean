/-
  A row of strings of the call's own: what it looks like; an append of one string to it.
-/
import Derived.Test.YtnccefeehkcneaaGreatDoorSlr
import Derived.Test.YtnccefeehkcneaaGreatDoorChecked
import Derived.Laws.AppendOwn
import Derived.Deep.AppendLies
namespace Go.Proofs.YtnccefeehkcneaaGreatDoor.Sx
open Go Go.RowKit
abbrev strT : Nat := 9
def strVals (xs : List ByteArray) : List Value := xs.map Value.string
theorem strVals_len (xs : List ByteArray) : (strVals xs).length = xs.length := List.length_map _
/-- The slice v is the call's own row of these strings. -/
def SRow (base : Nat) (w : World) (v : Value) (xs : List ByteArray) : Prop :=
  (v = .slice none 0 0 ∧ xs = []) ∨ ∃ g rest, v = .slice (some ⟨g, 0, none⟩) xs.length (xs.length + rest.length) ∧ base ≤ g ∧ w.heap[g]? = some (.cells (strVals xs ++ rest).toArray strT (0, 0)) ∧ xs.length + rest.length ≤ maxLen
theorem SRow.owns {base : Nat} {w : World} {v : Value} {xs : List ByteArray} (h : SRow base w v xs) : w.ownsRow base strT 1 v xs.length (strVals xs) := by
  refine ⟨by rw [strVals_len, Nat.mul_one], ?_⟩
  rcases h with ⟨rfl, rfl⟩ | ⟨g, rest, rfl, hb, hg, hm⟩
  · exact .inl ⟨rfl, rfl⟩
  · refine .inr ⟨g, _, _, rfl, hb, hg, by omega, hm, ?_, ?_⟩
    · simp [strVals_len]
    · rw [Nat.mul_one]
      have : (strVals xs ++ rest).take xs.length = strVals xs := by rw [← strVals_len, List.take_left']; rfl
      simpa using this
theorem SRow.of_owns {base : Nat} {w : World} {v : Value} {xs : List ByteArray} {n : Nat} (hn : n = xs.length) (h : w.ownsRow base strT 1 v n (strVals xs)) : SRow base w v xs := by
  subst hn
  rcases h.2 with ⟨rfl, h0⟩ | ⟨g, cap, cur, rfl, hb, hg, hnc, hm, hs, ht⟩
  · exact .inl ⟨rfl, List.length_eq_zero_iff.1 h0⟩
  · rw [Nat.mul_one] at ht hs
    have hl : cur.toList.length = cap := by simpa using hs
    have he : cur = (strVals xs ++ cur.toList.drop xs.length).toArray := by
      rw [← ht, List.take_append_drop, Array.toArray_toList]
    refine .inr ⟨g, cur.toList.drop xs.length, ?_, hb, by rw [hg, ← he], ?_⟩
    · rw [List.length_drop, hl, Nat.add_sub_cancel' hnc]
    · rw [List.length_drop, hl]; omega
theorem SRow.nil {base : Nat} {w : World} : SRow base w (.slice none 0 0) [] := .inl ⟨rfl, rfl⟩
theorem SRow.kept {base : Nat} {w w' : World} {v : Value} {xs : List ByteArray} {row : Option Nat} (h : SRow base w v xs) (hg : w.grownBy w' row) (hne : ∀ g, v.ownBlock = some g → row ≠ some g) : SRow base w' v xs := by
  rcases h with h | ⟨g, rest, rfl, hb, hh, hm⟩
  · exact .inl h
  · refine .inr ⟨g, rest, rfl, hb, (hg.block g (heap_lt hh) (fun e => hne g rfl e.symm)).trans hh, hm⟩
theorem SRow.ext {base : Nat} {w w' : World} {v : Value} {xs : List ByteArray} (h : SRow base w v xs) (he : Ext w w') : SRow base w' v xs := h.kept (row := none) ⟨he.os, he.tape, he.output, he.size, fun k hk _ => he.block k hk⟩ (fun g _ => by simp)
theorem SRow.block {base : Nat} {w : World} {v : Value} {xs : List ByteArray} (h : SRow base w v xs) : ∀ g, v.ownBlock = some g → base ≤ g ∧ g < w.heap.size := by
  rcases h with ⟨rfl, _⟩ | ⟨g, rest, rfl, hb, hh, hm⟩
  · intro g hg; simp [Value.ownBlock] at hg
  · intro g' hg
    have : g = g' := by simpa [Value.ownBlock] using hg
    subst this
    exact ⟨hb, heap_lt hh⟩
theorem SRow.slice {base : Nat} {w : World} {v : Value} {xs : List ByteArray} (h : SRow base w v xs) : ∃ A c, v = .slice A xs.length c := by
  rcases h with ⟨rfl, rfl⟩ | ⟨g, rest, rfl, _⟩
  · exact ⟨_, _, rfl⟩
  · exact ⟨_, _, rfl⟩
theorem SRow.low {base base' : Nat} {w : World} {v : Value} {xs : List ByteArray} (h : SRow base w v xs) (hb : base' ≤ base) : SRow base' w v xs := by
  rcases h with h | ⟨g, rest, hv, hb', hh, hm⟩
  · exact .inl h
  · exact .inr ⟨g, rest, hv, Nat.le_trans hb hb', hh, hm⟩
/-- Its cells. -/
theorem SRow.cells {base : Nat} {w : World} {A : Option Addr} {n c : Nat} {xs : List ByteArray} (h : SRow base w (.slice A n c) xs) (h0 : 0 < xs.length) :
    ∃ g, A = some ⟨g, 0, none⟩ ∧ base ≤ g ∧ g < w.heap.size ∧ xs.length ≤ c ∧ n = xs.length ∧ ∀ j (hj : j < xs.length), w.cell? ⟨g, 0 + j, none⟩ = some (.string xs[j]) := by
  rcases h with ⟨_, rfl⟩ | ⟨g, rest, hv, hb, hg, hm⟩
  · simp at h0
  · injection hv with e1 e2 e3
    refine ⟨g, e1, hb, heap_lt hg, by omega, e2, fun j hj => ?_⟩
    rw [Nat.zero_add, cell_of hg]
    have : j < (strVals xs).length := by rw [strVals_len]; exact hj
    rw [List.getElem?_toArray, List.getElem?_append_left this]
    simp [strVals, hj]
theorem SRow.strs {base : Nat} {w : World} {v : Value} {xs : List ByteArray} (h : SRow base w v xs) (hn : xs.length ≤ 1099511627776) (hz : ∀ x ∈ xs, x.size ≤ 1048576) : StrsR w.heap.size w v xs := strs_of_own h.owns hn hz
theorem str_info : (Tryz.prog.info? strT).map (fun i => (i.zero, i.size, i.bytes)) = some (some (Value.string ⟨#[]⟩), 1, 16) := by kernel_rfl
end Go.Proofs.YtnccefeehkcneaaGreatDoor.Sx
