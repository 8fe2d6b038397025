/-
  The reference's reqOf where a word stands behind the key: a choice (its head is XRk8's; printed by gen/rk9.py).
-/
import Derived.Test.YtfggodnfliciiaaDoorRk7
import Derived.Test.YtfggodnfliciiaaDoorSrsA
namespace Go.Proofs.YtfggodnfliciiaaDoor.Rd
open Go Go.RowKit Go.Proofs.YtfggodnfliciiaaDoor.Sx

theorem strSrc_one {w : World} {g : Nat} {x : ByteArray} (h : w.heap[g]? = some (.cells #[.string x] strT (0, 0))) : SrcS w (.slice (some ⟨g, 0, none⟩) 1 1) [x] :=
  .inr ⟨_, 1, rfl, fun j u hj => by
    have hj' : j < 1 := by have := (List.getElem?_eq_some_iff.1 hj).1; simpa [strVals] using this
    obtain rfl : j = 0 := by omega
    rw [Addr.add_lit, cell_of h]
    simpa [strVals] using hj⟩
/-- The place in its box. -/
def nAt (w : World) (k : Nat) : Nat := (intOf ((w.cell? ⟨k, 0, none⟩).getD (.int .i64 0))).toNat
theorem NIn.nAt {w : World} {k i : Nat} (h : NIn w k i) : Rd.nAt w k = i := by
  unfold Rd.nAt
  rw [h.cell]
  exact Int.toNat_natCast i
/-- A row away from the boxes. -/
def Away (v : Value) (k1 k2 k4 k8 : Nat) : Prop := ∀ g, v.ownBlock = some g → g ≠ k1 ∧ g ≠ k2 ∧ g ≠ k4 ∧ g ≠ k8
theorem Away.nil {k1 k2 k4 k8 c : Nat} : Away (.slice none 0 c) k1 k2 k4 k8 := fun g h => by simp [Value.ownBlock] at h
theorem Rp.row {w V V' : World} {k1 k2 k4 i k8 : Nat} {v : Value} {key : ByteArray} {kd : Int} {A : Option Addr} {n c : Nat} {row : Option Nat} (h : Rp w V k1 k2 k4 v i k8 key kd A n c) (hg : V.grownBy V' row) (hr : ∀ g, row = some g → w.heap.size ≤ g ∧ g ≠ k1 ∧ g ≠ k2 ∧ g ≠ k4 ∧ g ≠ k8) : Rp w V' k1 k2 k4 v i k8 key kd A n c := by
  obtain ⟨⟨h1, h2, h3, h4, h5⟩, h6, h7⟩ := h
  refine ⟨⟨h1.kept hg (fun e => (hr _ e).2.1 rfl), h2.kept hg (fun e => (hr _ e).2.2.2.1 rfl), h3.kept hg (fun e => (hr _ e).2.2.1 rfl), ?_, h5⟩, h6.kept hg (fun e => (hr _ e).2.2.2.2 rfl), h7⟩
  exact ⟨hg.os.trans h4.os, hg.tape.trans h4.tape, hg.output.trans h4.output, Nat.le_trans h4.size hg.size, fun j hj => (hg.block j (Nat.lt_of_lt_of_le hj h4.size) (fun e => by have := (hr j e.symm).1; omega)).trans (h4.block j hj)⟩
theorem At.more {ts : List Tok} {i : Nat} {b : Bool} {s : Tx} (h : At ts i b s) (hs : Rd.skip s ≠ []) : i + 1 < ts.length := by
  cases e : Rd.skip s with
  | nil => exact absurd e hs
  | cons c r =>
    cases hw : isW c with
    | true => obtain ⟨_, _, h2⟩ := h.word e hw; exact h2.lt
    | false => obtain ⟨_, _, h2⟩ := h.sign e hw; exact h2.lt
/-- What a loop over the values has read. -/
def Lq (w V : World) (k1 k2 k4 : Nat) (vv : Value) (i k8 : Nat) (key : ByteArray) (kd : Int) (A : Option Addr) (n c : Nat) (acc : List Tx) : Prop :=
  Rp w V k1 k2 k4 vv i k8 key kd A n c ∧ acc.length = n ∧ SRow w.heap.size V (.slice A n c) (acc.map bx) ∧ Away (.slice A n c) k1 k2 k4 k8
section
variable {w V V' : World} {k1 k2 k4 i i' k8 n c : Nat} {vv : Value} {key : ByteArray} {kd : Int} {A : Option Addr} {acc : List Tx}
theorem Lq.go (h : Lq w V k1 k2 k4 vv i k8 key kd A n c acc) (hr : Rs w V' k1 k2 k4 vv i') (hg : V.grownBy V' (some k4)) : Lq w V' k1 k2 k4 vv i' k8 key kd A n c acc :=
  ⟨h.1.go hr hg, h.2.1, h.2.2.1.kept hg (fun g hgg e => (h.2.2.2 g hgg).2.2.1 (by injection e with e; exact e.symm)), h.2.2.2⟩
theorem Lq.ext (h : Lq w V k1 k2 k4 vv i k8 key kd A n c acc) (hx : Ext V V') : Lq w V' k1 k2 k4 vv i k8 key kd A n c acc :=
  ⟨h.1.ext hx, h.2.1, h.2.2.1.ext hx, h.2.2.2⟩
/-- One value more. -/
theorem Lq.more (h : Lq w V k1 k2 k4 vv i k8 key kd A n c acc) {t : Tx} {A' : Option Addr} {c' : Nat} (hrow : SRow w.heap.size V' (.slice A' (n + 1) c') (acc.map bx ++ [bx t])) (hg : V.grownBy V' (Value.slice A n c).ownBlock)
    (ho : (Value.slice A' (n + 1) c').ownBlock = (Value.slice A n c).ownBlock ∨ (Value.slice A' (n + 1) c').ownBlock = some V.heap.size) : Lq w (V'.setCell ⟨k8, 2, none⟩ (.slice A' (n + 1) c')) k1 k2 k4 vv i k8 key kd A' (n + 1) c' (acc ++ [t]) := by
  have ha : Away (.slice A' (n + 1) c') k1 k2 k4 k8 := fun g hgg => by
    rcases ho with e | e
    · exact h.2.2.2 g (e.symm.trans hgg)
    · rw [e] at hgg
      injection hgg with hgg
      have a1 := heap_lt (show V.heap[k1]? = _ from h.1.1.1)
      have a2 := heap_lt (show V.heap[k2]? = _ from h.1.1.2.2.1)
      have a4 := heap_lt (show V.heap[k4]? = _ from h.1.1.2.1)
      have a8 := heap_lt (show V.heap[k8]? = _ from h.1.2.1)
      omega
  have hp := h.1.row hg (fun g e => ⟨(h.2.2.1.block g e).1, h.2.2.2 g e⟩)
  refine ⟨hp.vals, by rw [List.length_append, h.2.1]; rfl, ?_, ha⟩
  rw [List.map_append]
  exact srow_store hrow (fun g e => (ha g e).2.2.2)
/-- .. and the cell that it is stored into may be written. -/
theorem Lq.app (h : Lq w V k1 k2 k4 vv i k8 key kd A n c acc) {o : Obj} {w9 : World} {t : Tx} {A' : Option Addr} {c' : Nat} (hrow : SRow w.heap.size w9 (.slice A' (n + 1) c') (acc.map bx ++ [bx t])) (hg : (V.alloc o).grownBy w9 (Value.slice A n c).ownBlock)
    (ho : (Value.slice A' (n + 1) c').ownBlock = (Value.slice A n c).ownBlock ∨ (Value.slice A' (n + 1) c').ownBlock = some (V.alloc o).heap.size) : Hid (Lq w (w9.setCell ⟨k8, 2, none⟩ (.slice A' (n + 1) c')) k1 k2 k4 vv i k8 key kd A' (n + 1) c' (acc ++ [t])) ∧ w9.frozen? ⟨k8, 2, none⟩ = false ∧ w9.cell? ⟨k8, 2, none⟩ = some (.slice A n c) := by
  have h' := h.ext (new_ext V o)
  have hq := (h'.1.row hg (fun g e => ⟨(h'.2.2.1.block g e).1, h'.2.2.2 g e⟩)).2.1
  exact ⟨h'.more hrow hg ho, hq.free 2, hq.cells.2.2⟩
theorem Lq.src (h : Lq w V k1 k2 k4 vv i k8 key kd A n c acc) (o : Obj) : SRow w.heap.size (V.alloc o) (.slice A n c) (acc.map bx) ∧ (acc.map bx).length = n ∧ w.heap.size ≤ (V.alloc o).heap.size :=
  ⟨h.2.2.1.ext (new_ext _ _), by rw [List.length_map]; exact h.2.1, Nat.le_trans h.1.1.2.2.2.1.size (new_ext _ _).size⟩
end

end Go.Proofs.YtfggodnfliciiaaDoor.Rd
