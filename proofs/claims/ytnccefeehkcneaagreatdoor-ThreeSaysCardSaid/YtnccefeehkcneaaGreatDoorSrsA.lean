/-
  append of strings from any slice that reads as a list; sub-slices.
-/
import Derived.Test.YtnccefeehkcneaaGreatDoorSrow
import Derived.Test.YtnccefeehkcneaaGreatDoorBgn
import Derived.Lib.Hide
import Derived.BigGuardPart
namespace Go.Proofs.YtnccefeehkcneaaGreatDoor.Sx
open Go Go.RowKit
theorem grown_none {w w' : World} {row : Option Nat} (h : Ext w w') : w.grownBy w' row := ⟨h.os, h.tape, h.output, h.size, fun k hk _ => h.block k hk⟩
/-- The slice x reads as ys. -/
def SrcS (w : World) (x : Value) (ys : List ByteArray) : Prop := (∃ c, x = .slice none 0 c ∧ ys = []) ∨ ∃ ad c, x = .slice (some ad) ys.length c ∧ ∀ j u, (strVals ys)[j]? = some u → w.cell? (ad.add j) = some u
theorem SrcS.kept {w w' : World} {x : Value} {ys : List ByteArray} {row : Option Nat} (h : SrcS w x ys) (hg : w.grownBy w' row) (hne : ∀ g, x.ownBlock = some g → row ≠ some g) : SrcS w' x ys := by
  rcases h with h | ⟨ad, c, rfl, hc⟩
  · exact .inl h
  · refine .inr ⟨ad, c, rfl, fun j u hj => ?_⟩
    have h0 := hc j u hj
    have hb : (ad.add j).block = ad.block := block_of_add ad j
    have hlt : ad.block < w.heap.size := by
      rcases Nat.lt_or_ge ad.block w.heap.size with h1 | h1
      · exact h1
      · unfold World.cell? at h0
        rw [hb, Array.getElem?_eq_none h1] at h0
        cases h0
    rw [hg.cell_far (ad.add j) (by rw [hb]; exact hlt) (by rw [hb]; exact fun e => hne ad.block rfl e.symm)]
    exact h0
theorem SrcS.slice {w : World} {x : Value} {ys : List ByteArray} (h : SrcS w x ys) : ∃ A c, x = .slice A ys.length c := by
  rcases h with ⟨c, rfl, rfl⟩ | ⟨ad, c, rfl, _⟩
  · exact ⟨_, _, rfl⟩
  · exact ⟨_, _, rfl⟩
theorem SrcS.ext {w w' : World} {x : Value} {ys : List ByteArray} (h : SrcS w x ys) (he : Ext w w') : SrcS w' x ys := h.kept (row := none) (grown_none he) (fun g _ => by simp)
theorem SRow.src {base : Nat} {w : World} {v : Value} {zs : List ByteArray} (h : SRow base w v zs) : SrcS w v zs := by
  rcases h with ⟨rfl, rfl⟩ | ⟨g, rest, rfl, hb, hg, hm⟩
  · exact .inl ⟨0, rfl, rfl⟩
  · refine .inr ⟨_, _, rfl, fun j u hj => ?_⟩
    rw [Addr.add_lit, Nat.zero_add, cell_of hg]
    have := (List.getElem?_eq_some_iff.1 hj).1
    rw [List.getElem?_toArray, List.getElem?_append_left this]
    exact hj
theorem SRow.prefix_ {base : Nat} {w : World} {A : Option Addr} {n c k : Nat} {zs : List ByteArray} (h : SRow base w (.slice A n c) zs) (hk : k ≤ zs.length) : SrcS w (.slice A k c) (zs.take k) := by
  have hl : (zs.take k).length = k := by rw [List.length_take]; omega
  cases A with
  | none =>
    rcases h with ⟨hv, rfl⟩ | ⟨g, rest, hv, _⟩
    · injection hv with _ h1 h2
      simp at hk
      exact .inl ⟨c, by rw [hk], by simp⟩
    · injection hv with h1 _ _
      cases h1
  | some ad =>
    refine .inr ⟨ad, c, by rw [hl], fun j u hj => ?_⟩
    rcases h.src with ⟨c', hv, _⟩ | ⟨ad', c', hv, hc⟩
    · injection hv with h1 _ _
      cases h1
    · injection hv with h1 _ _
      injection h1 with h1
      subst h1
      refine hc j u ?_
      rw [strVals, List.map_take] at hj
      have hjk : j < k := by have := (List.getElem?_eq_some_iff.1 hj).1; simp at this; omega
      rw [List.getElem?_take_of_lt hjk] at hj
      exact hj
theorem sliced_some' (ad : Addr) (l m c : Nat) : ∃ ad', sliced (some ad) l m c 1 = .slice (some ad') (m - l) (c - l) ∧ (l < c → ad' = ad.add l) ∧ ad'.block = ad.block := by
  unfold sliced
  by_cases h : c = l
  · rw [if_pos h]
    exact ⟨ad, rfl, fun hl => by omega, rfl⟩
  · rw [if_neg h, Nat.mul_one]
    exact ⟨ad.add l, rfl, fun _ => rfl, block_of_add ad l⟩
/-- The rest of a row, behind l numbers. -/
theorem SRow.suffix {base : Nat} {w : World} {ad : Addr} {n c : Nat} {zs : List ByteArray} (h : SRow base w (.slice (some ad) n c) zs) (hn : zs.length = n) (l : Nat) (hl : l ≤ n) :
    ∃ ad', sliced (some ad) l n c 1 = .slice (some ad') (n - l) (c - l) ∧ ad'.block = ad.block ∧ SrcS w (.slice (some ad') (n - l) (c - l)) (zs.drop l) := by
  obtain ⟨ad', h1, h2, h3⟩ := sliced_some' ad l n c
  refine ⟨ad', h1, h3, .inr ⟨ad', c - l, by rw [List.length_drop, hn], fun j u hj => ?_⟩⟩
  rcases h with ⟨hv, _⟩ | ⟨g, rest, hv, hb, hg, hm⟩
  · injection hv with e _ _
    cases e
  · injection hv with e1 e2 e3
    injection e1 with e1
    subst e1
    rw [strVals, List.map_drop, List.getElem?_drop] at hj
    have hjl := (List.getElem?_eq_some_iff.1 hj).1
    simp at hjl
    rw [h2 (by omega), add_of_add, Addr.add_lit, Nat.zero_add, cell_of hg, List.getElem?_toArray, List.getElem?_append_left (by rw [strVals_len]; exact hjl)]
    exact hj
theorem run_append_strs (base : Nat) (ty : TypeId) (w : World) (v x : Value) (zs ys : List ByteArray) (hrow : SRow base w v zs) (hx : SrcS w x ys) (hs1 : zs.length ≤ 1099511627776) (hs2 : ys.length ≤ 1099511627776) (hbase : base ≤ w.heap.size) :
    ∃ A c w', (Builtin.append_ #[37, 37] ty #[v, x]).run Tryz.prog w = .ok (.slice A (zs.length + ys.length) c) w' ∧ SRow base w' (.slice A (zs.length + ys.length) c) (zs ++ ys) ∧ w.grownBy w' v.ownBlock ∧ ((Value.slice A (zs.length + ys.length) c).ownBlock = v.ownBlock ∨ (Value.slice A (zs.length + ys.length) c).ownBlock = some w.heap.size) := by
  obtain ⟨i0, hi, hz0, hz1, hz2⟩ := info_parts str_info
  rcases hx with ⟨c, rfl, rfl⟩ | ⟨ad, c, rfl, hc⟩
  · have hr := run_append_noneB (P := Tryz.prog) (w := w) base 37 ty strT i0 1 c Tryz.underlying37 hi v zs.length (strVals zs) hrow.owns
    obtain ⟨A, c', rfl⟩ := hrow.slice
    exact ⟨A, c', w, hr, by rw [List.append_nil]; exact hrow, grown_none (Below.refl _ _), .inl rfl⟩
  · obtain ⟨v', w', hr, h2, h3, _, h5⟩ := run_append_own_at (P := Tryz.prog) w base 37 ty strT i0 _ 1 16 Tryz.underlying37 hi hz0 hz1 hz2 rfl (by omega) v zs.length (strVals zs) hrow.owns ad ys.length c (strVals ys) (by rw [strVals_len, Nat.mul_one]) hc (fun u hu => by obtain ⟨z, _, rfl⟩ := List.mem_map.1 hu; rfl) (by unfold maxLen; omega) (by omega) hbase
    have hrow' : SRow base w' v' (zs ++ ys) := SRow.of_owns (n := zs.length + ys.length) (by simp) (by simpa [strVals] using h2)
    obtain ⟨A, c', hv⟩ := hrow'.slice
    rw [List.length_append] at hv
    subst hv
    exact ⟨A, c', w', hr, hrow', h3, h5⟩
theorem append_srs {ops : Array Oper} {rest : List Oper} {o : Oper} {a : Act} {Q : Exit → Act → World → Prop} (hgd : o.guard = none) (s x : Operand)
    (ho : o.op = .call { callee := .builtin .append, args := #[s, x], argTypes := #[37, 37] }) (base n m : Nat) (w : World) (v y : Value) (zs ys : List ByteArray)
    (hs : a.eval s = v) (hx : a.eval x = y) (hrow : SRow base w v zs) (hy : SrcS w y ys) (hn : zs.length = n) (hm : ys.length = m) (hs1 : n ≤ 1099511627776) (hs2 : m ≤ 1099511627776) (hbase : base ≤ w.heap.size)
    (h : ∀ A c w', SRow base w' (.slice A (n + m) c) (zs ++ ys) → w.grownBy w' v.ownBlock → ((Value.slice A (n + m) c).ownBlock = v.ownBlock ∨ (Value.slice A (n + m) c).ownBlock = some w.heap.size) → wpList Tryz.prog ops Q rest (a.put o.dst (.slice A (n + m) c)) w') : wpList Tryz.prog ops Q (o :: rest) a w := by
  subst hn hm
  obtain ⟨A, c, w', hr, h1, h2, h3⟩ := run_append_strs base o.type w v y zs ys hrow hy hs1 hs2 hbase
  refine wpList_plain hgd fun K hK => ?_
  unfold Oper.wp execOp
  simp only [ho, resolve, invoke, builtin, Sem.run_bind, Sem.run_pure, Result.andThen_ok, List.map_toArray, List.map_cons, List.map_nil, hs, hx, hr]
  exact hK _ _ (h A c w' h1 h2 h3)
theorem step_append_srs {ops : Array Oper} {o : Oper} {a : Act} {K : Act → World → Prop} {Q : Exit → Act → World → Prop} {E : Prop} (hgd : o.guard = none) (s x : Operand)
    (ho : o.op = .call { callee := .builtin .append, args := #[s, x], argTypes := #[37, 37] }) (base n m : Nat) (w : World) (v y : Value) (zs ys : List ByteArray)
    (hs : a.eval s = v) (hx : a.eval x = y) (hrow : SRow base w v zs) (hy : SrcS w y ys) (hn : zs.length = n) (hm : ys.length = m) (hs1 : n ≤ 1099511627776) (hs2 : m ≤ 1099511627776) (hbase : base ≤ w.heap.size)
    (h : ∀ A c w', SRow base w' (.slice A (n + m) c) (zs ++ ys) → w.grownBy w' v.ownBlock → ((Value.slice A (n + m) c).ownBlock = v.ownBlock ∨ (Value.slice A (n + m) c).ownBlock = some w.heap.size) → K (a.put o.dst (.slice A (n + m) c)) w') : if Region.wanted o (yielded ops a.tmps) = true then Oper.wp Tryz.prog o a w K Q else E := by
  subst hn hm
  obtain ⟨A, c, w', hr, h1, h2, h3⟩ := run_append_strs base o.type w v y zs ys hrow hy hs1 hs2 hbase
  have hw : Region.wanted o (yielded ops a.tmps) = true := by simp [Region.wanted, hgd]
  rw [if_pos hw]
  unfold Oper.wp execOp
  simp only [ho, resolve, invoke, builtin, Sem.run_bind, Sem.run_pure, Result.andThen_ok, List.map_toArray, List.map_cons, List.map_nil, hs, hx, hr]
  exact h A c w' h1 h2 h3
end Go.Proofs.YtnccefeehkcneaaGreatDoor.Sx
