/-
  The program's block of SHA-256: words for its memory.
-/
import Derived.Test.YtplfimoeggecjaaGreatDoorSh1
import Derived.Deep.RegionHeld3
import Derived.BigRegion
import Derived.StillTailTactics
import Derived.IntWalk
import Derived.Laws.Rows
namespace Go.Proofs.YtplfimoeggecjaaGreatDoor.Sx
open Go Go.RowKit

def w32 (x : W32) : Value := .int .u32 (x.toNat : Int)
def St.cells (s : St) : List Value := [w32 s.a, w32 s.b, w32 s.c, w32 s.d, w32 s.e, w32 s.f, w32 s.g, w32 s.h]
def St.value (s : St) : Value := .agg s.cells.toArray
/-- The bytes l lie in block b from place off on. -/
def BytesAt (w : World) (b off : Nat) (l : List UInt8) : Prop := b < w.heap.size ∧ ∀ j (h : j < l.length), w.cell? ⟨b, off + j, none⟩ = some (.int .u8 (l[j].toNat : Int))
theorem BytesAt.ext {w w' : World} {b off : Nat} {l : List UInt8} (h : BytesAt w b off l) (hx : Ext w w') : BytesAt w' b off l :=
  ⟨Nat.lt_of_lt_of_le h.1 hx.size, fun j hj => (hx.cell (p := ⟨b, off + j, none⟩) h.1).trans (h.2 j hj)⟩
def zero8 : Array Value := #[.int .u32 0, .int .u32 0, .int .u32 0, .int .u32 0, .int .u32 0, .int .u32 0, .int .u32 0, .int .u32 0]
/-- The 64 words when n of them are made. -/
def wcells (B : Nat → W32) (n : Nat) : Array Value := ((List.range 64).map fun j => if j < n then w32 (wd B j) else .int .u32 0).toArray

theorem BytesAt.four {w : World} {b off i : Nat} {l : List UInt8} (h : BytesAt w b off l) (hl : l.length = 64) (hi : i < 16) :
    ∃ x y z u : UInt8, bw l i = wordOf x y z u ∧ w.cell? ⟨b, off + 4 * i, none⟩ = some (.int .u8 (x.toNat : Int)) ∧ w.cell? ⟨b, off + (4 * i + 1), none⟩ = some (.int .u8 (y.toNat : Int)) ∧ w.cell? ⟨b, off + (4 * i + 2), none⟩ = some (.int .u8 (z.toNat : Int)) ∧ w.cell? ⟨b, off + (4 * i + 3), none⟩ = some (.int .u8 (u.toNat : Int)) := by
  refine ⟨_, _, _, _, ?_, h.2 (4 * i) (by omega), h.2 (4 * i + 1) (by omega), h.2 (4 * i + 2) (by omega), h.2 (4 * i + 3) (by omega)⟩
  unfold bw
  simp only [List.getD_eq_getElem?_getD]
  rw [List.getElem?_eq_getElem (by omega), List.getElem?_eq_getElem (by omega), List.getElem?_eq_getElem (by omega), List.getElem?_eq_getElem (by omega)]
  rfl
theorem wcells_at (B : Nat → W32) (n : Nat) {j : Nat} (h : j < 64) : (wcells B n)[j]? = some (if j < n then w32 (wd B j) else .int .u32 0) := by
  simp [wcells, List.getElem?_range h]
theorem wcells_past (B : Nat → W32) (n : Nat) {j : Nat} (h : 64 ≤ j) : (wcells B n)[j]? = none := by
  simp [wcells, h]
theorem wcells_set (B : Nat → W32) {n : Nat} (h : n < 64) {x : W32} (hx : x = wd B n) : (wcells B n).setIfInBounds n (w32 x) = wcells B (n + 1) := by
  subst hx
  apply Array.ext_getElem?
  intro j
  have hs : (wcells B n).size = 64 := by simp [wcells]
  rw [Array.getElem?_setIfInBounds]
  rcases Nat.lt_or_ge j 64 with h1 | h1
  · rw [wcells_at _ _ h1, wcells_at _ _ h1]
    rcases Nat.lt_trichotomy j n with h3 | h3 | h3
    · rw [if_neg (by omega), if_pos h3, if_pos (by omega)]
    · subst h3
      rw [if_pos rfl, if_pos (by omega), if_pos (by omega)]
    · rw [if_neg (by omega), if_neg (by omega), if_neg (by omega)]
  · rw [wcells_past _ _ h1, wcells_past _ _ h1, if_neg (by omega)]
theorem word_or (x y z u : UInt8) : bits BinOp.or IntKind.u32 (bits BinOp.or IntKind.u32 (bits BinOp.or IntKind.u32 (IntKind.u32.wrap (IntKind.u32.wrap (x.toNat : Int) * 16777216)) (IntKind.u32.wrap (IntKind.u32.wrap (y.toNat : Int) * 65536))) (IntKind.u32.wrap (IntKind.u32.wrap (z.toNat : Int) * 256))) (IntKind.u32.wrap (u.toNat : Int)) = ((wordOf x y z u).toNat : Int) := by
  have hx := x.toNat_lt; have hy := y.toNat_lt; have hz := z.toNat_lt; have hu := u.toNat_lt
  simp only [IntKind.wrap_u32']
  have e1 : (x.toNat : Int) % 4294967296 * 16777216 % 4294967296 = ((x.toNat * 16777216 : Nat) : Int) := by omega
  have e2 : (y.toNat : Int) % 4294967296 * 65536 % 4294967296 = ((y.toNat * 65536 : Nat) : Int) := by omega
  have e3 : (z.toNat : Int) % 4294967296 * 256 % 4294967296 = ((z.toNat * 256 : Nat) : Int) := by omega
  have e4 : (u.toNat : Int) % 4294967296 = ((u.toNat : Nat) : Int) := by omega
  rw [e1, e2, e3, e4, u32_or_nat _ _ (by omega) (by omega), nat_join 24 _ _ (by omega) (by omega), u32_or_nat _ _ (by omega) (by omega), nat_join 16 _ _ (by omega) (by omega), u32_or_nat _ _ (by omega) (by omega), nat_join 8 _ _ (by omega) (by omega)]
  unfold wordOf
  rw [BitVec.toNat_ofNat]
  omega
theorem w_sig (x : W32) (n m k j : Nat) (h : j = 2 ^ k) : bits BinOp.xor IntKind.u32 (bits BinOp.xor IntKind.u32 ((rotr x n).toNat : Int) ((rotr x m).toNat : Int)) ((x.toNat : Int) / (j : Int)) = ((rotr x n ^^^ rotr x m ^^^ x >>> k).toNat : Int) := by
  rw [w_xor, w_shr x k j h, w_xor]
theorem w_add' (x y : W32) : IntKind.u32.wrap ((x.toNat : Int) + (y.toNat : Int)) = ((x + y).toNat : Int) := by rw [IntKind.wrap_u32', w_add]
theorem w_sched (a b c d : W32) : IntKind.u32.wrap (IntKind.u32.wrap (IntKind.u32.wrap ((a.toNat : Int) + bits BinOp.xor IntKind.u32 (bits BinOp.xor IntKind.u32 ((rotr b 7).toNat : Int) ((rotr b 18).toNat : Int)) ((b.toNat : Int) / 8)) + (c.toNat : Int)) + bits BinOp.xor IntKind.u32 (bits BinOp.xor IntKind.u32 ((rotr d 17).toNat : Int) ((rotr d 19).toNat : Int)) ((d.toNat : Int) / 1024)) = ((a + ssig0 b + c + ssig1 d).toNat : Int) := by
  have e1 := w_sig b 7 18 3 8 rfl
  have e2 := w_sig d 17 19 10 1024 rfl
  have h1 : ((8 : Nat) : Int) = 8 := rfl
  have h2 : ((1024 : Nat) : Int) = 1024 := rfl
  rw [h1] at e1
  rw [h2] at e2
  rw [e1, e2, w_add', w_add', w_add']
  rfl
theorem cell_other {a b : Addr} (h : a ≠ b) (w : World) (v : Value) : (w.setCell a v).cell? b = w.cell? b := World.cell?_setCell_other _ _ _ _ h
theorem run_index_word (cs : Array Value) (i : Nat) (v : Value) (w : World) (hi : i < 64) (hc : cs[i]? = some v) : (Instr.index 114 (.agg cs) (.int .i64 (i : Int))).run Tryz.prog w = .ok v w := by
  have h : Tryz.prog.underlying 114 = some (.array 64 110) := by kernel_rfl
  have h1 : ∀ w, (sizeOf 110).run Tryz.prog w = .ok 1 w := fun w => by kernel_rfl
  have h2 : ∀ w, (isAgg 110).run Tryz.prog w = .ok false w := fun w => by kernel_rfl
  have h3 : (0 : Int) ≤ (i : Int) ∧ (i : Int) < ((64 : Nat) : Int) := by omega
  simp [Instr.index, run_underlying h, asIntOf, go_sem, h1, h2, h3, part, hc]
  intro h4
  omega
theorem ret_agg {a b : Array Value} (h : a = b) : Ending.returned (.agg a) = .returned (.agg b) := by rw [h]
theorem setRow_ext {w w' : World} (h : Ext w w') (g : Nat) (cs : Array Value) (hg : w.heap.size ≤ g) : Ext w (w'.setRow g cs) :=
  ⟨h.os, h.tape, h.output, by simpa using h.size, fun k hk => (setRow_other w' g k cs (by omega)).trans (h.block k hk)⟩
theorem flip_same {P : Program} {f : FuncId} {args : Array Value} {w : World} {v : Value} (h : Calls P f args w fun e w' => e = .returned v ∧ w = w') : Calls P f args w fun e w' => e = .returned v ∧ w' = w :=
  h.mono fun _ _ hh => ⟨hh.1, hh.2.symm⟩
structure BlkW (w : World) (hc rc wc : Array Value) (wr : World) : Prop where
  ext : Ext w wr
  h : wr.heap[w.heap.size]? = some (.cells hc 145 (0, 0))
  r : wr.heap[w.heap.size + 1]? = some (.cells rc 145 (0, 0))
  ww : wr.heap[w.heap.size + 1 + 1]? = some (.cells wc 114 (0, 0))
theorem BlkW.start {w : World} {hc rc wc : Array Value} : BlkW w hc rc wc (((w.alloc (.cells hc 145 (0, 0))).alloc (.cells rc 145 (0, 0))).alloc (.cells wc 114 (0, 0))) := by
  refine ⟨((((Below.refl _ _).alloc (Nat.le_refl _) _).alloc (by simp) _).alloc (by simp; omega) _), ?_, ?_, ?_⟩
  · exact heap_old (heap_old (heap_new rfl))
  · exact heap_old (heap_new (by simp))
  · exact heap_new (by simp)
theorem BlkW.setW {w wr : World} {hc rc : Array Value} {B : Nat → W32} {n : Nat} {x : W32} (h : BlkW w hc rc (wcells B n) wr) (hn : n < 64) (hx : x = wd B n) :
    BlkW w hc rc (wcells B (n + 1)) (wr.setCell ⟨w.heap.size + 1 + 1, n, none⟩ (w32 x)) := by
  refine ⟨h.ext.setCell (by simp; omega) _, ?_, ?_, ?_⟩
  · rw [heap_setCell_other _ _ _ _ (by simp; omega)]; exact h.h
  · rw [heap_setCell_other _ _ _ _ (by simp)]; exact h.r
  · rw [← wcells_set B hn hx]
    exact heap_setCell_same _ _ _ _ _ _ h.ww
theorem BlkW.get {w wr : World} {hc rc : Array Value} {B : Nat → W32} {n j : Nat} (h : BlkW w hc rc (wcells B n) wr) (hj : j < n ∧ j < 64) : wr.cell? ⟨w.heap.size + 1 + 1, j, none⟩ = some (.int .u32 ((wd B j).toNat : Int)) := by
  rw [cell_of h.ww, wcells_at _ _ hj.2, if_pos hj.1]
  rfl
theorem BlkW.exts {w wr w4 : World} {hc rc wc : Array Value} (h : BlkW w hc rc wc wr) (hx : Ext wr w4) : BlkW w hc rc wc w4 :=
  ⟨h.ext.trans hx, (hx.block _ (heap_lt h.h)).trans h.h, (hx.block _ (heap_lt h.r)).trans h.r, (hx.block _ (heap_lt h.ww)).trans h.ww⟩
theorem BlkW.drew {w wr : World} {hc rc wc : Array Value} (h : BlkW w hc rc wc wr) : BlkW w hc rc wc wr.drew :=
  ⟨⟨h.ext.os, h.ext.tape, h.ext.output, h.ext.size, h.ext.block⟩, h.h, h.r, h.ww⟩
theorem BlkW.drewN {w wr : World} {hc rc wc : Array Value} (h : BlkW w hc rc wc wr) (k : Nat) : BlkW w hc rc wc (wr.drewN k) :=
  ⟨⟨h.ext.os, h.ext.tape, h.ext.output, h.ext.size, h.ext.block⟩, h.h, h.r, h.ww⟩
structure BlkV (w : World) (hc rc wc vc : Array Value) (gv : Nat) (wr : World) : Prop extends BlkW w hc rc wc wr where
  v : wr.heap[gv]? = some (.cells vc 145 (0, 0))
  gt : w.heap.size + 1 + 1 < gv
theorem BlkW.withV {w wr w4 : World} {hc rc wc vc : Array Value} (h : BlkW w hc rc wc wr) {o : Array Value} (hx : Ext ((wr.alloc (.cells o 145 (0, 0))).setRow wr.heap.size vc) w4) : BlkV w hc rc wc vc wr.heap.size w4 := by
  have h1 : Ext wr ((wr.alloc (.cells o 145 (0, 0))).setRow wr.heap.size vc) := setRow_ext ((Below.refl _ _).alloc (Nat.le_refl _) _) _ _ (Nat.le_refl _)
  exact { toBlkW := h.exts (h1.trans hx), v := (hx.block _ (by simp)).trans (setRow_heap _ _ o _ _ _ (heap_new rfl)), gt := heap_lt h.ww }
theorem BlkV.cellV {w wr : World} {hc rc wc vc : Array Value} {gv : Nat} (h : BlkV w hc rc wc vc gv wr) (j : Nat) (v : Value) (hj : vc[j]? = some v) : wr.cell? ⟨gv, j, none⟩ = some v := by
  rw [cell_of h.v, hj]
theorem BlkV.setV {w wr : World} {hc rc wc vc : Array Value} {gv : Nat} (h : BlkV w hc rc wc vc gv wr) (nc : Array Value) : BlkV w hc rc wc nc gv (wr.setRow gv nc) :=
  { ext := setRow_ext h.ext _ _ (by have := h.gt; omega)
    h := (setRow_other _ _ _ _ (by have := h.gt; omega)).trans h.h
    r := (setRow_other _ _ _ _ (by have := h.gt; omega)).trans h.r
    ww := (setRow_other _ _ _ _ (by have := h.gt; omega)).trans h.ww
    v := setRow_heap _ _ _ _ _ _ h.v
    gt := h.gt }
theorem BlkV.drewN {w wr : World} {hc rc wc vc : Array Value} {gv : Nat} (h : BlkV w hc rc wc vc gv wr) (k : Nat) : BlkV w hc rc wc vc gv (wr.drewN k) :=
  { toBlkW := h.toBlkW.drewN k, v := h.v, gt := h.gt }
theorem BlkV.drew {w wr : World} {hc rc wc vc : Array Value} {gv : Nat} (h : BlkV w hc rc wc vc gv wr) : BlkV w hc rc wc vc gv wr.drew :=
  { toBlkW := h.toBlkW.drew, v := h.v, gt := h.gt }
theorem BlkW.cellH {w wr : World} {hc rc wc : Array Value} (h : BlkW w hc rc wc wr) (j : Nat) (v : Value) (hj : hc[j]? = some v) : wr.cell? ⟨w.heap.size, j, none⟩ = some v := by
  rw [cell_of h.h, hj]
def kvals : Array Value := (kk.map fun (x : Nat) => Value.int .u32 (x : Int)).toArray
theorem kvals_at {n : Nat} (h : n < 64) : kvals[n]? = some (w32 (kw n)) := by
  have hl : kk.length = 64 := rfl
  have hb : ∀ x ∈ kk, x < 4294967296 := by decide
  have h1 : kk[n]? = some kk[n] := List.getElem?_eq_getElem (by omega)
  have h2 : kk[n] < 4294967296 := hb _ (List.getElem_mem (by omega))
  simp [kvals, h1, w32, kw, List.getD_eq_getElem?_getD]
  omega
theorem run_k (n : Nat) (hn : n < 64) (w : World) : (Instr.index 114 (.agg kvals) (.int .i64 (n : Int))).run Tryz.prog w = .ok (.int .u32 ((kw n).toNat : Int)) w :=
  run_index_word kvals n _ w hn (kvals_at hn)
theorem wpList_built {P : Program} {ops : Array Oper} {rest : List Oper} {o : Oper} {a : Act} {w : World} {Q : Exit → Act → World → Prop} (hg : o.guard = none) (t : TypeId) (parts : Array (Nat × Operand)) (ho : o.op = .build t parts)
    (cells : Array Value) (hf : P.built t (parts.map fun (i, x) => (i, a.eval x)).toList = some cells)
    (h : wpList P ops Q rest (a.put o.dst (.agg cells)) w) : wpList P ops Q (o :: rest) a w :=
  wpList_build hg t parts ho (by rw [hf]; rfl) (by rw [hf]; exact h)
def zero64 : Array Value := (List.replicate 64 (Value.int .u32 0)).toArray
set_option maxRecDepth 100000 in
theorem constants_any (w : World) : Calls Tryz.prog 163 #[] w fun e w' => e = .returned (.agg kvals) ∧ Ext w w' := by
  go_enter Tryz.func163, Tryz.ntmps163
  go_wp2_with (first | (refine wpList_built rfl _ _ (by rfl) kvals (by kernel_rfl) ?_) | (refine wpList_store_row rfl _ _ _ (by rfl) w.heap.size kvals (by rfl) (by rfl) 114 zero64 (heap_new rfl) (by kernel_rfl) (by kernel_rfl) (by kernel_rfl) ?_))
  refine bodyPost_ret (results_cell_row (by rfl) _ _ w.heap.size 114 kvals (0, 0) (.array 64 110) (by rfl) (setRow_heap _ _ zero64 _ _ _ (heap_new rfl)) (by kernel_rfl) rfl (by kernel_rfl)) rfl ⟨rfl, ?_⟩
  exact setRow_ext ((Below.refl _ _).alloc (Nat.le_refl _) _) _ _ (Nat.le_refl _)
set_option maxRecDepth 100000 in
theorem first_any (w : World) : Calls Tryz.prog 121 #[] w fun e w' => e = .returned h0.value ∧ Ext w w' := by
  go_enter Tryz.func121, Tryz.ntmps121
  go_wp2_with (first | (refine wpList_built rfl _ _ (by rfl) h0.cells.toArray (by kernel_rfl) ?_) | (refine wpList_store_row rfl _ _ _ (by rfl) w.heap.size h0.cells.toArray (by rfl) (by rfl) 145 zero8 (heap_new rfl) (by kernel_rfl) (by kernel_rfl) (by kernel_rfl) ?_))
  refine bodyPost_ret (results_cell_row (by rfl) _ _ w.heap.size 145 h0.cells.toArray (0, 0) (.array 8 110) (by rfl) (setRow_heap _ _ zero8 _ _ _ (heap_new rfl)) (by kernel_rfl) rfl (by kernel_rfl)) rfl ⟨rfl, ?_⟩
  exact setRow_ext ((Below.refl _ _).alloc (Nat.le_refl _) _) _ _ (Nat.le_refl _)
end Go.Proofs.YtplfimoeggecjaaGreatDoor.Sx
