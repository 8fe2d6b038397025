/-
  A row of bytes of the call's own: appends of bytes, of a string's bytes, of a slice's; a string of it.
-/
import Derived.Test.YtnccefeehkcneaaGreatDoorBgn
import Derived.Test.YtnccefeehkcneaaGreatDoorChecked
import Derived.Laws.AppendOwn
import Derived.Deep.AppendLies
import Derived.Lib.AppendStr
import Derived.Laws.BytesArg
import Derived.Laws.Slices
import Derived.Maps.AppendAt
import Derived.Deep.Upon
namespace Go.Proofs.YtnccefeehkcneaaGreatDoor.Sx
open Go Go.RowKit
abbrev u8T : Nat := 5
def bval (c : UInt8) : Value := .int .u8 (c.toNat : Int)
def bvals (zs : List UInt8) : List Value := zs.map bval
theorem bvals_len (zs : List UInt8) : (bvals zs).length = zs.length := List.length_map _
/-- The slice v is the call's own row of these numbers. -/
def BRow (base : Nat) (w : World) (v : Value) (zs : List UInt8) : Prop :=
  (v = .slice none 0 0 ∧ zs = []) ∨ ∃ g rest, v = .slice (some ⟨g, 0, none⟩) zs.length (zs.length + rest.length) ∧ base ≤ g ∧ w.heap[g]? = some (.cells (bvals zs ++ rest).toArray u8T (0, 0)) ∧ zs.length + rest.length ≤ maxLen
theorem BRow.owns {base : Nat} {w : World} {v : Value} {zs : List UInt8} (h : BRow base w v zs) : w.ownsRow base u8T 1 v zs.length (bvals zs) := by
  refine ⟨by rw [bvals_len, Nat.mul_one], ?_⟩
  rcases h with ⟨rfl, rfl⟩ | ⟨g, rest, rfl, hb, hg, hm⟩
  · exact .inl ⟨rfl, rfl⟩
  · refine .inr ⟨g, _, _, rfl, hb, hg, by omega, hm, ?_, ?_⟩
    · simp [bvals_len]
    · rw [Nat.mul_one]
      have : (bvals zs ++ rest).take zs.length = bvals zs := by rw [← bvals_len, List.take_left']; rfl
      simpa using this
theorem BRow.of_owns {base : Nat} {w : World} {v : Value} {zs : List UInt8} {n : Nat} (hn : n = zs.length) (h : w.ownsRow base u8T 1 v n (bvals zs)) : BRow base w v zs := by
  subst hn
  rcases h.2 with ⟨rfl, h0⟩ | ⟨g, cap, cur, rfl, hb, hg, hnc, hm, hs, ht⟩
  · exact .inl ⟨rfl, List.length_eq_zero_iff.1 h0⟩
  · rw [Nat.mul_one] at ht hs
    have hl : cur.toList.length = cap := by simpa using hs
    have he : cur = (bvals zs ++ cur.toList.drop zs.length).toArray := by
      rw [← ht, List.take_append_drop, Array.toArray_toList]
    refine .inr ⟨g, cur.toList.drop zs.length, ?_, hb, by rw [hg, ← he], ?_⟩
    · rw [List.length_drop, hl, Nat.add_sub_cancel' hnc]
    · rw [List.length_drop, hl]; omega
theorem BRow.nil {base : Nat} {w : World} : BRow base w (.slice none 0 0) [] := .inl ⟨rfl, rfl⟩
/-- It stands where only other blocks have turned. -/
theorem BRow.kept {base : Nat} {w w' : World} {v : Value} {zs : List UInt8} {row : Option Nat} (h : BRow base w v zs) (hg : w.grownBy w' row) (hne : ∀ g, v.ownBlock = some g → row ≠ some g) : BRow base w' v zs := by
  rcases h with h | ⟨g, rest, rfl, hb, hh, hm⟩
  · exact .inl h
  · refine .inr ⟨g, rest, rfl, hb, (hg.block g (heap_lt hh) (fun e => hne g rfl e.symm)).trans hh, hm⟩
theorem BRow.ext {base : Nat} {w w' : World} {v : Value} {zs : List UInt8} (h : BRow base w v zs) (he : Ext w w') : BRow base w' v zs := h.kept (grown_of_extB he) (fun g _ => by simp)
theorem BRow.block {base : Nat} {w : World} {v : Value} {zs : List UInt8} (h : BRow base w v zs) : ∀ g, v.ownBlock = some g → base ≤ g ∧ g < w.heap.size := by
  rcases h with ⟨rfl, _⟩ | ⟨g, rest, rfl, hb, hh, hm⟩
  · intro g hg; simp [Value.ownBlock] at hg
  · intro g' hg
    have : g = g' := by simpa [Value.ownBlock] using hg
    subst this
    exact ⟨hb, heap_lt hh⟩
theorem BRow.slice {base : Nat} {w : World} {v : Value} {zs : List UInt8} (h : BRow base w v zs) : ∃ A c, v = .slice A zs.length c := by
  rcases h with ⟨rfl, rfl⟩ | ⟨g, rest, rfl, _⟩
  · exact ⟨_, _, rfl⟩
  · exact ⟨_, _, rfl⟩
/-- The slice x reads as ys. -/
def SrcB (w : World) (x : Value) (ys : List UInt8) : Prop := (∃ c, x = .slice none 0 c ∧ ys = []) ∨ ∃ ad c, x = .slice (some ad) ys.length c ∧ ∀ j u, (bvals ys)[j]? = some u → w.cell? (ad.add j) = some u
theorem SrcB.kept {w w' : World} {x : Value} {ys : List UInt8} {row : Option Nat} (h : SrcB w x ys) (hg : w.grownBy w' row) (hne : ∀ g, x.ownBlock = some g → row ≠ some g) : SrcB w' x ys := by
  rcases h with h | ⟨ad, c, rfl, hc⟩
  · exact .inl h
  · refine .inr ⟨ad, c, rfl, fun j u hj => ?_⟩
    have h0 := hc j u hj
    have hb : (ad.add j).block = ad.block := block_of_add ad j
    have hlt : ad.block < w.heap.size := by
      rcases Nat.lt_or_ge ad.block w.heap.size with h1 | h1
      · exact h1
      · unfold World.cell? at h0
        rw [hb, Array.getElem?_eq_none h1] at h0
        cases h0
    rw [hg.cell_far (ad.add j) (by rw [hb]; exact hlt) (by rw [hb]; exact fun e => hne ad.block rfl e.symm)]
    exact h0
theorem SrcB.slice {w : World} {x : Value} {ys : List UInt8} (h : SrcB w x ys) : ∃ A c, x = .slice A ys.length c := by
  rcases h with ⟨c, rfl, rfl⟩ | ⟨ad, c, rfl, _⟩
  · exact ⟨_, _, rfl⟩
  · exact ⟨_, _, rfl⟩
theorem SrcB.ext {w w' : World} {x : Value} {ys : List UInt8} (h : SrcB w x ys) (he : Ext w w') : SrcB w' x ys := h.kept (grown_of_extB he) (fun g _ => by simp)
theorem BRow.src {base : Nat} {w : World} {v : Value} {zs : List UInt8} (h : BRow base w v zs) : SrcB w v zs := by
  rcases h with ⟨rfl, rfl⟩ | ⟨g, rest, rfl, hb, hg, hm⟩
  · exact .inl ⟨0, rfl, rfl⟩
  · refine .inr ⟨_, _, rfl, fun j u hj => ?_⟩
    rw [Addr.add_lit, Nat.zero_add, cell_of hg]
    have := (List.getElem?_eq_some_iff.1 hj).1
    rw [List.getElem?_toArray, List.getElem?_append_left this]
    exact hj
theorem bvals_append (a b : List UInt8) : bvals (a ++ b) = bvals a ++ bvals b := List.map_append
theorem bvals_one (l : List UInt8) : ∀ u ∈ bvals l, u.oneCell' = true := fun u hu => by
  obtain ⟨z, _, rfl⟩ := List.mem_map.1 hu
  rfl
theorem byte_info : (Tryz.prog.info? u8T).map (fun i => (i.zero, i.size, i.bytes)) = some (some (Value.int .u8 0), 1, 1) := by kernel_rfl
/-- All below base stands. -/
theorem BRow.below {base : Nat} {w w' : World} {v : Value} {zs : List UInt8} (h : BRow base w v zs) (hg : w.grownBy w' v.ownBlock) (hb : base ≤ w.heap.size) : Below base w w' :=
  ⟨hg.os, hg.tape, hg.output, hg.size, fun k hk => hg.block k (by omega) (fun e => by have := (h.block k e.symm).1; omega)⟩
theorem run_append_bytes (base : Nat) (ty : TypeId) (w : World) (v x : Value) (zs ys : List UInt8) (hrow : BRow base w v zs) (hx : SrcB w x ys) (hs : zs.length + ys.length ≤ 140737488355328) (hbase : base ≤ w.heap.size) :
    ∃ A c w', (Builtin.append_ #[211, 211] ty #[v, x]).run Tryz.prog w = .ok (.slice A (zs.length + ys.length) c) w' ∧ BRow base w' (.slice A (zs.length + ys.length) c) (zs ++ ys) ∧ w.grownBy w' v.ownBlock ∧ ((Value.slice A (zs.length + ys.length) c).ownBlock = v.ownBlock ∨ (Value.slice A (zs.length + ys.length) c).ownBlock = some w.heap.size) := by
  obtain ⟨i0, hi, hz0, hz1, hz2⟩ := info_parts byte_info
  rcases hx with ⟨c, rfl, rfl⟩ | ⟨ad, c, rfl, hc⟩
  · have hr := run_append_noneB (P := Tryz.prog) (w := w) base 211 ty u8T i0 1 c Tryz.underlying211 hi v zs.length (bvals zs) hrow.owns
    obtain ⟨A, c', rfl⟩ := hrow.slice
    exact ⟨A, c', w, hr, by rw [List.append_nil]; exact hrow, grown_of_extB' (Below.refl _ _), .inl rfl⟩
  · by_cases h0 : ys = []
    · subst h0
      have hr := run_append_zero (P := Tryz.prog) (w := w) base 211 ty u8T i0 1 ad c Tryz.underlying211 hi v zs.length (bvals zs) hrow.owns
      obtain ⟨A, c', rfl⟩ := hrow.slice
      exact ⟨A, c', w, hr, by rw [List.append_nil]; exact hrow, grown_of_extB' (Below.refl _ _), .inl rfl⟩
    · have hpos : 0 < ys.length := List.length_pos_iff.2 h0
      obtain ⟨v', w', hr, h2, h3, _, h5⟩ := run_append_own_at (P := Tryz.prog) w base 211 ty u8T i0 _ 1 1 Tryz.underlying211 hi hz0 hz1 hz2 rfl (by omega) v zs.length (bvals zs) hrow.owns ad ys.length c (bvals ys) (by rw [bvals_len, Nat.mul_one]) hc (bvals_one ys) (by unfold maxLen; omega) (by omega) hbase
      have hrow' : BRow base w' v' (zs ++ ys) := BRow.of_owns (n := zs.length + ys.length) (by simp) (by rw [bvals_append]; exact h2)
      obtain ⟨A, c', hv⟩ := hrow'.slice
      rw [List.length_append] at hv
      subst hv
      exact ⟨A, c', w', hr, hrow', h3, h5⟩
theorem append_bytes {ops : Array Oper} {rest : List Oper} {o : Oper} {a : Act} {Q : Exit → Act → World → Prop} (hgd : o.guard = none) (s x : Operand)
    (ho : o.op = .call { callee := .builtin .append, args := #[s, x], argTypes := #[211, 211] }) (base n m : Nat) (w : World) (v y : Value) (zs ys : List UInt8)
    (hs : a.eval s = v) (hx : a.eval x = y) (hrow : BRow base w v zs) (hy : SrcB w y ys) (hn : zs.length = n) (hm : ys.length = m) (hsm : n + m ≤ 140737488355328) (hbase : base ≤ w.heap.size)
    (h : ∀ A c w', BRow base w' (.slice A (n + m) c) (zs ++ ys) → w.grownBy w' v.ownBlock → ((Value.slice A (n + m) c).ownBlock = v.ownBlock ∨ (Value.slice A (n + m) c).ownBlock = some w.heap.size) → wpList Tryz.prog ops Q rest (a.put o.dst (.slice A (n + m) c)) w') : wpList Tryz.prog ops Q (o :: rest) a w := by
  subst hn hm
  obtain ⟨A, c, w', hr, h1, h2, h3⟩ := run_append_bytes base o.type w v y zs ys hrow hy hsm hbase
  refine wpList_plain hgd fun K hK => ?_
  unfold Oper.wp execOp
  simp only [ho, resolve, invoke, builtin, Sem.run_bind, Sem.run_pure, Result.andThen_ok, List.map_toArray, List.map_cons, List.map_nil, hs, hx, hr]
  exact hK _ _ (h A c w' h1 h2 h3)
/-- A block of bytes that a literal slice made. -/
theorem SrcB.of_block {w : World} {g : Nat} {c : Nat} {ys : List UInt8} (h : w.heap[g]? = some (.cells (bvals ys).toArray u8T (0, 0))) : SrcB w (.slice (some ⟨g, 0, none⟩) ys.length c) ys :=
  .inr ⟨_, _, rfl, fun j u hj => by rw [Addr.add_lit, Nat.zero_add, cell_of h, List.getElem?_toArray]; exact hj⟩
theorem run_string {w : World} {x : Value} {l : List UInt8} (h : SrcB w x l) : (convert 211 9 x).run Tryz.prog w = .ok (.string ⟨l.toArray⟩) w := by
  rcases h with ⟨c, rfl, rfl⟩ | ⟨ad, c, rfl, hc⟩
  · exact run_convert_bytes_nil w _ 5 Tryz.underlying211 Tryz.underlying5 0 c _ Tryz.underlying9
  · exact run_convert_bytes_back w _ _ 5 ad c l Tryz.underlying211 Tryz.underlying5 Tryz.underlying9 fun j hj => hc j _ (by simp [bvals, bval, hj])
/-- Bytes that a call gathers in a row of its own; w is the world where it began. -/
def Acc (w wr : World) (v : Value) (z : List UInt8) : Prop := BRow w.heap.size wr v z ∧ Ext w wr
section
variable {w wr wr' : World} {v : Value} {z : List UInt8}
theorem Acc.ext (h : Acc w wr v z) (he : Ext wr wr') : Acc w wr' v z := ⟨h.1.ext he, h.2.trans he⟩
theorem Acc.alloc (h : Acc w wr v z) (o : Obj) : Acc w (wr.alloc o) v z := h.ext (new_ext wr o)
theorem Acc.drew (h : Acc w wr v z) : Acc w wr.drew v z := h.ext (Below.refl _ _).drew
theorem Acc.nil (he : Ext w wr) : Acc w wr (.slice none 0 0) [] := ⟨.nil, he⟩
theorem Acc.src (h : Acc w wr v z) : SrcB wr v z := h.1.src
end
end Go.Proofs.YtnccefeehkcneaaGreatDoor.Sx
