/-
  Rows of one-cell things: what a slice reads as; what is put in between. No function in sight.
-/
import Derived.Test.YtahinicpceokcaaGreatDoorJm0
import Derived.Test.YtahinicpceokcaaGreatDoorGrow
import Derived.Lib.Overlaps
import Derived.Lib.AppendZeros
import Derived.Lib.AppendZerosOnto
import Derived.Laws.IdiomCopy
import Derived.Laws.Externs
import Derived.Deep.RegionLaw
import Derived.WalkSpells
import Derived.Lib.SliceRun
import Derived.Shelf.Spec.SlicesInsert
import Derived.IntWalk
import Derived.Laws.Slices
namespace Go.Proofs.YtahinicpceokcaaGreatDoor.Jm
open Go Go.RowKit Go.Proofs.YtahinicpceokcaaGreatDoor.Sx Go.Proofs.YtahinicpceokcaaGreatDoor.Js Go.Proofs.YtahinicpceokcaaGreatDoor.Gr

theorem ext_row {w V V' : World} {row : Option Nat} (h : Ext w V) (hg : V.grownBy V' row) (hr : ∀ g, row = some g → w.heap.size ≤ g) : Ext w V' :=
  ⟨hg.os.trans h.os, hg.tape.trans h.tape, hg.output.trans h.output, Nat.le_trans h.size hg.size, fun j hj => (hg.block j (Nat.lt_of_lt_of_le hj h.size) (fun e => by have := hr j e.symm; omega)).trans (h.block j hj)⟩
def one (cs : List Value) : List (List Value) := cs.map fun u => [u]
theorem one_flat : ∀ cs : List Value, (one cs).flatten = cs
  | [] => rfl
  | c :: r => by show [c] ++ (one r).flatten = _; rw [one_flat r]; rfl
theorem one_len (cs : List Value) : (one cs).length = cs.length := List.length_map _
theorem one_app (a b : List Value) : one (a ++ b) = one a ++ one b := List.map_append
theorem one_sized {cs : List Value} (h : ∀ u ∈ cs, u.oneCell' = true) : Sized 1 (one cs) := fun t ht => by
  obtain ⟨u, hu, rfl⟩ := List.mem_map.1 ht
  exact ⟨rfl, fun x hx => by rw [List.mem_singleton] at hx; rw [hx]; exact h u hu⟩
theorem one_cells {cs : List Value} (h : Sized 1 (one cs)) : ∀ u ∈ cs, u.oneCell' = true := fun u hu => (h [u] (List.mem_map.2 ⟨u, hu, rfl⟩)).2 u (List.mem_singleton.2 rfl)
/-- The slice at A reads as these cells. -/
def CellsAt (w : World) (A : Option Addr) (cs : List Value) : Prop := ∀ i (hi : i < cs.length), ∃ g off, A = some ⟨g, off, none⟩ ∧ w.cell? ⟨g, off + i, none⟩ = some cs[i]
theorem CellsAt.ext {w w' : World} {A : Option Addr} {cs : List Value} (h : CellsAt w A cs) (hx : Ext w w') : CellsAt w' A cs := fun i hi => by
  obtain ⟨g, off, hA, hc⟩ := h i hi
  exact ⟨g, off, hA, (cell_keep (hx.block g (cell_lt hc))).trans hc⟩
theorem CellsAt.src {w : World} {A : Option Addr} {cs : List Value} {n c : Nat} (h : CellsAt w A cs) (hn : cs.length = n) (h1 : ∀ u ∈ cs, u.oneCell' = true) (h0 : A = none → c = 0 ∨ cs = []) (hc : cs ≠ [] ∨ A ≠ none ∨ True) : GSrc 1 w (.slice A n c) (one cs) := by
  subst hn
  refine ⟨one_sized h1, ?_⟩
  cases A with
  | none =>
    refine .inl ⟨c, ?_, ?_⟩
    · cases cs with
      | nil => rfl
      | cons u r => obtain ⟨g, off, hA, _⟩ := h 0 (by simp); cases hA
    · cases cs with
      | nil => rfl
      | cons u r => obtain ⟨g, off, hA, _⟩ := h 0 (by simp); cases hA
  | some ad =>
    refine .inr ⟨ad, c, by rw [one_len], fun j u hj => ?_⟩
    rw [one_flat] at hj
    obtain ⟨hj1, hj2⟩ := List.getElem?_eq_some_iff.1 hj
    obtain ⟨g, off, hA, hcell⟩ := h j hj1
    injection hA with hA
    rw [hA, Addr.add_lit, hcell, hj2]
theorem ins_eq {α : Type} (x : α) : ∀ (l : List α) (i : Nat), i ≤ l.length → l.insertIdx i x = l.take i ++ x :: l.drop i
  | l, 0, _ => by simp
  | a :: l, i + 1, h => by
    rw [List.insertIdx_succ_cons, ins_eq x l i (by simpa using h)]
    rfl
theorem one_ins (x : Value) (cs : List Value) (i : Nat) (h : i ≤ cs.length) : one (cs.insertIdx i x) = (one cs).insertIdx i [x] := by
  rw [ins_eq _ _ _ h, ins_eq _ _ _ (by rw [one_len]; exact h)]
  unfold one
  rw [List.map_append, List.map_cons, List.map_take, List.map_drop]
/-- A row of one-cell things out of its block. -/
theorem grow_of {et base g : Nat} {w : World} {cs rest : List Value} {n c : Nat} (hs : ∀ u ∈ cs, u.oneCell' = true) (hb : base ≤ g) (hg : w.heap[g]? = some (.cells (cs ++ rest).toArray et (0, 0))) (hn : cs.length = n) (hc : n + rest.length = c) (hm : c ≤ maxLen) : GRow et 1 base w (.slice (some ⟨g, 0, none⟩) n c) (one cs) := by
  subst hn
  exact ⟨one_sized hs, .inr ⟨g, c, rest, by rw [one_len], hb, by rw [one_flat]; exact hg, by rw [one_len, Nat.mul_one, Nat.mul_one]; exact hc, by rw [one_len]; omega, hm⟩⟩
theorem grow_to {et base : Nat} {w : World} {A : Option Addr} {cs : List Value} {n c : Nat} (h : GRow et 1 base w (.slice A n c) (one cs)) : n = cs.length ∧ ((A = none ∧ cs = [] ∧ c = 0) ∨ ∃ g rest, A = some ⟨g, 0, none⟩ ∧ base ≤ g ∧ w.heap[g]? = some (.cells (cs ++ rest).toArray et (0, 0)) ∧ n + rest.length = c ∧ c ≤ maxLen) := by
  rcases h.2 with ⟨hv, h0⟩ | ⟨g, c', rest, hv, hb, hg, hc, _, hm⟩
  · injection hv with e1 e2 e3
    have : cs = [] := by simpa [one] using h0
    subst this
    exact ⟨by rw [e2]; rfl, .inl ⟨e1, rfl, e3⟩⟩
  · injection hv with e1 e2 e3
    rw [one_len] at e2 hc
    rw [one_flat] at hg
    refine ⟨e2, .inr ⟨g, rest, e1, hb, hg, by omega, by omega⟩⟩
theorem heap_setCells {b : Nat} {t : TypeId} {f : Nat × Nat} (vs : List Value) : ∀ (A B C : List Value) (w : World), B.length = vs.length → w.heap[b]? = some (.cells (A ++ B ++ C).toArray t f) → (w.setCells b A.length vs).heap[b]? = some (.cells (A ++ vs ++ C).toArray t f) := by
  induction vs with
  | nil =>
    intro A B C w hB h
    have : B = [] := List.length_eq_zero_iff.1 hB
    subst this
    exact h
  | cons x r ih =>
    intro A B C w hB h
    cases B with
    | nil => simp at hB
    | cons y B =>
      have h1 : (w.setCell ⟨b, A.length, none⟩ x).heap[b]? = some (.cells ((A ++ [x]) ++ B ++ C).toArray t f) := by
        simp [World.setCell, Array.getElem?_modify, h]
      have h2 := ih (A ++ [x]) B C _ (by simpa using hB) h1
      rw [List.length_append] at h2
      simpa [World.setCells] using h2
theorem grown_setCellsG (w : World) (b o : Nat) (vs : List Value) : w.grownBy (w.setCells b o vs) (some b) := by
  have hs : ∀ (vs : List Value) (o : Nat) (w : World), (w.setCells b o vs).heap.size = w.heap.size ∧ (w.setCells b o vs).tape = w.tape := fun vs => by
    induction vs with
    | nil => intro o w; exact ⟨rfl, rfl⟩
    | cons x r ih =>
      intro o w
      have := ih (o + 1) (w.setCell ⟨b, o, none⟩ x)
      exact ⟨this.1.trans (by simp [World.setCell]), this.2.trans rfl⟩
  exact ⟨World.os_setCells w b o vs, (hs vs o w).2, World.output_setCells w b o vs, Nat.le_of_eq (hs vs o w).1.symm, fun k hk hne => World.heap_setCells_other w b o vs hk (fun e => hne (by rw [e]))⟩
theorem shape_of {w : World} {g et : Nat} {cs : List Value} (h : w.heap[g]? = some (.cells cs.toArray et (0, 0))) : w.shape? g = some (et, cs.length) := by
  unfold World.shape?
  rw [h]
  simp
theorem frozen_of {w : World} {g et o : Nat} {cs : Array Value} (h : w.heap[g]? = some (.cells cs et (0, 0))) : w.frozen? ⟨g, o, none⟩ = false := by simp [World.frozen?, h]
theorem cell_at {w : World} {g et o : Nat} {cs : List Value} (h : w.heap[g]? = some (.cells cs.toArray et (0, 0))) (ho : o < cs.length) : w.cell? ⟨g, o, none⟩ = some cs[o] := by
  rw [cell_of h, List.getElem?_toArray, List.getElem?_eq_getElem ho]
end Go.Proofs.YtahinicpceokcaaGreatDoor.Jm
