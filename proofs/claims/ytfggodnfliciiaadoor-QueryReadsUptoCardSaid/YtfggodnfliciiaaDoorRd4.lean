/-
  The program's choice: words about a part in memory; the walk.
-/
import Derived.Test.YtfggodnfliciiaaDoorRd3
import Derived.Test.YtfggodnfliciiaaDoorRpt
namespace Go.Proofs.YtfggodnfliciiaaDoor.Rd
open Go Go.RowKit Go.Proofs.YtfggodnfliciiaaDoor.Sx

def BoxQ (w : World) (k : Nat) (key : ByteArray) (kd : Int) (A : Option Addr) (n c : Nat) : Prop := w.heap[k]? = some (.cells #[.string key, .int .i64 kd, .slice A n c] reqT (0, 0))
theorem BoxQ.cells {w : World} {k : Nat} {key : ByteArray} {kd : Int} {A : Option Addr} {n c : Nat} (h : BoxQ w k key kd A n c) : w.cell? ⟨k, 0, none⟩ = some (.string key) ∧ w.cell? ⟨k, 1, none⟩ = some (.int .i64 kd) ∧ w.cell? ⟨k, 2, none⟩ = some (.slice A n c) := cells3' h
theorem BoxQ.free {w : World} {k : Nat} {key : ByteArray} {kd : Int} {A : Option Addr} {n c : Nat} (h : BoxQ w k key kd A n c) (j : Nat) : w.frozen? ⟨k, j, none⟩ = false := by simp [World.frozen?, show w.heap[k]? = _ from h]
theorem BoxQ.kept {w w' : World} {k : Nat} {key : ByteArray} {kd : Int} {A : Option Addr} {n c : Nat} {row : Option Nat} (h : BoxQ w k key kd A n c) (hg : w.grownBy w' row) (hne : row ≠ some k) : BoxQ w' k key kd A n c := (hg.block _ (heap_lt h) (fun e => hne e.symm)).trans h
theorem BoxQ.setKind {w : World} {k : Nat} {key : ByteArray} {kd : Int} {A : Option Addr} {n c : Nat} (h : BoxQ w k key kd A n c) (z : Int) : BoxQ (w.setCell ⟨k, 1, none⟩ (.int .i64 z)) k key z A n c := heap_setCell_same w k 1 _ reqT _ h
theorem BoxQ.setVals {w : World} {k : Nat} {key : ByteArray} {kd : Int} {A A' : Option Addr} {n c n' c' : Nat} (h : BoxQ w k key kd A n c) : BoxQ (w.setCell ⟨k, 2, none⟩ (.slice A' n' c')) k key kd A' n' c' := heap_setCell_same w k 2 _ reqT _ h
theorem BoxQ.setAll {w : World} {k : Nat} {key key' : ByteArray} {kd kd' : Int} {A A' : Option Addr} {n c n' c' : Nat} (h : BoxQ w k key kd A n c) : BoxQ (((w.setCell ⟨k, 0, none⟩ (.string key')).setCell ⟨k, 1, none⟩ (.int .i64 kd')).setCell ⟨k, 2, none⟩ (.slice A' n' c')) k key' kd' A' n' c' :=
  heap_setCell_same _ k 2 _ reqT _ (heap_setCell_same _ k 1 _ reqT _ (heap_setCell_same w k 0 _ reqT _ h))
theorem BoxQ.setOther {w : World} {k b j : Nat} {u : Value} {key : ByteArray} {kd : Int} {A : Option Addr} {n c : Nat} (h : BoxQ w k key kd A n c) (hne : b ≠ k) : BoxQ (w.setCell ⟨b, j, none⟩ u) k key kd A n c := h.kept (grown_set w b j u) (fun e => hne (by injection e))
theorem PIn.setOther {w : World} {kp b j : Nat} {u : Value} {s : ByteArray} {i : Nat} {bad : Bool} (h : PIn w kp s i bad) (hne : b ≠ kp) : PIn (w.setCell ⟨b, j, none⟩ u) kp s i bad := (Below.heap_setCell _ _ _ _ (fun e => hne (by first | exact e.symm | exact e))).trans h
/-- Stores into blocks of one's own. -/
theorem grown_new {w w1 : World} {row : Option Nat} (h : w.grownBy w1 row) {b j : Nat} {u : Value} (hb : w.heap.size ≤ b) : w.grownBy (w1.setCell ⟨b, j, none⟩ u) row :=
  ⟨h.os, h.tape, h.output, by simpa [World.setCell] using h.size, fun k hk hne => (Below.heap_setCell _ _ _ _ (by show k ≠ b; omega)).trans (h.block k hk hne)⟩
theorem results_r {fn : Func} {p : Tmp} (h : fn.results = #[.cell p reqT]) (tmps : Array Value) (w : World) (g : Nat) {key : ByteArray} {kd : Int} {A : Option Addr} {n c : Nat} (hp : tmps.getD p undef = .pointer (some ⟨g, 0, none⟩)) (hg : BoxQ w g key kd A n c) :
    (results fn tmps).run Tryd.prog w = .ok (.agg #[.string key, .int .i64 kd, .slice A n c]) w :=
  results_cell_row h tmps w g _ _ _ _ hp hg Tryd.underlying29 rfl (by kernel_rfl)
/-- What part and choice hand back. -/
def PartPost (w : World) (kp : Nat) (s : ByteArray) (o : Option (Pt × Tx)) (e : Ending) (w' : World) : Prop :=
  ∃ j, j ≤ s.size ∧ w.grownBy w' (some kp) ∧ ((∃ p A c, o = some (p, sfx s j) ∧ e = .returned (.agg #[.string (bx p.key), .int .i64 p.kind, .slice A p.vals.length c]) ∧ SRow w.heap.size w' (.slice A p.vals.length c) (p.vals.map bx) ∧ PIn w' kp s j false) ∨
    (o = none ∧ (∃ key kd A n c, e = .returned (.agg #[.string key, .int .i64 kd, .slice A n c])) ∧ PIn w' kp s j true))
theorem wordRest_skip (s : Tx) : skip (wordRest s) = wordRest s := skip_skip _
theorem choice_list {k : Tx} {s : Tx} (h : wordOf s = inT ∨ wordOf s = notinT) : choiceS k s = (listAll (wordRest s)).map fun p => (⟨k, if wordOf s = inT then 1 else 2, p.1⟩, p.2) := by
  unfold choiceS listAll
  rw [if_pos h, wordRest_skip]
  cases wordRest s with
  | nil => rfl
  | cons c r =>
    simp only
    by_cases hc : c = 40
    · rw [if_pos hc, if_pos hc]
    · rw [if_neg hc, if_neg hc]
      rfl
theorem choice_other {k : Tx} {s : Tx} (h1 : wordOf s ≠ inT) (h2 : wordOf s ≠ notinT) : choiceS k s = none := by
  unfold choiceS
  rw [if_neg (by simp [h1, h2])]
theorem choice_end {k : Tx} {s : Tx} (h : wordRest s = []) : choiceS k s = none := by
  unfold choiceS
  rw [h]
  split <;> rfl
theorem choice_bad {k : Tx} {s r : Tx} {c : UInt8} (h : wordRest s = c :: r) (hc : c ≠ 40) : choiceS k s = none := by
  unfold choiceS
  rw [h]
  split
  · simp [hc]
  · rfl
theorem bx_eq (a : Tx) (l : List UInt8) : ((bx a).toList == l) = decide (a = l) := by
  rw [ByteArray.toList_eq, Bool.eq_iff_iff, beq_iff_eq, decide_eq_true_eq]
  show a.toArray.toList = l ↔ _
  simp
end Go.Proofs.YtfggodnfliciiaaDoor.Rd
