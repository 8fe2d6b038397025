/-
  Sorted lists of texts; the first value that fits. Plain words: no program in sight.
  Sort of texts as the reference does it, in plain words: how its two loops go. No program in sight.
  A row of strings of the call's own: what it looks like; an append of one string to it.
  append of strings from any slice that reads as a list; sub-slices.
  The reference's Copy of strings.
  The reference's Sort of strings: the walk.
-/
import Derived.Lib.SlicesCompact
import Derived.Test.YtnccefeehkcneaaGreatDoorDec
import Derived.Test.YtnccefeehkcneaaGreatDoorSlr
import Derived.Test.YtnccefeehkcneaaGreatDoorChecked
import Derived.Laws.AppendOwn
import Derived.Deep.AppendLies
import Derived.Test.YtnccefeehkcneaaGreatDoorBgn
import Derived.Lib.Hide
import Derived.BigGuardPart
import Derived.Deep.QuietTactic
import Derived.BigQuiet
import Derived.Deep.RegionLaw
import Derived.Laws.Cover1
namespace Go.Proofs.YtnccefeehkcneaaGreatDoor.Qs
open Go Go.Lib Go.Proofs.YtnccefeehkcneaaGreatDoor.Dc
abbrev Tx := List UInt8
def tx (b : ByteArray) : Tx := b.data.toList
def bx (t : Tx) : ByteArray := ⟨t.toArray⟩
theorem tx_bx (t : Tx) : tx (bx t) = t := rfl
theorem bx_inj {a b : Tx} (h : bx a = bx b) : a = b := by rw [← tx_bx a, ← tx_bx b, h]
theorem lt_irr (a : Tx) : ¬ a < a := List.lt_irrefl a
/-- Put in behind all that are not greater. -/
def ins (s : Tx) (l : List Tx) : List Tx := l.takeWhile (fun x => decide (x ≤ s)) ++ s :: l.dropWhile (fun x => decide (x ≤ s))
end Go.Proofs.YtnccefeehkcneaaGreatDoor.Qs
namespace Go.Proofs.YtnccefeehkcneaaGreatDoor.Qs
open Go Go.RowKit Go.Lib Go.Proofs.YtnccefeehkcneaaGreatDoor.Dc
theorem less_lt : ∀ (x y : List UInt8), Op.bytesLess x y = decide (x < y)
  | [], [] => by simp [Op.bytesLess]
  | _ :: _, [] => by simp [Op.bytesLess]
  | [], _ :: _ => by simp [Op.bytesLess]
  | a :: x, b :: y => by
    rw [Op.bytesLess, less_lt x y]
    simp only [List.cons_lt_cons_iff]
    by_cases h1 : a < b <;> by_cases h2 : a = b <;> by_cases h3 : x < y <;> simp [h1, h2, h3]
end Go.Proofs.YtnccefeehkcneaaGreatDoor.Qs
namespace Go.Proofs.YtnccefeehkcneaaGreatDoor.Sx
open Go Go.RowKit
abbrev strT : Nat := 9
def strVals (xs : List ByteArray) : List Value := xs.map Value.string
theorem strVals_len (xs : List ByteArray) : (strVals xs).length = xs.length := List.length_map _
/-- The slice v is the call's own row of these strings. -/
def SRow (base : Nat) (w : World) (v : Value) (xs : List ByteArray) : Prop :=
  (v = .slice none 0 0 ∧ xs = []) ∨ ∃ g rest, v = .slice (some ⟨g, 0, none⟩) xs.length (xs.length + rest.length) ∧ base ≤ g ∧ w.heap[g]? = some (.cells (strVals xs ++ rest).toArray strT (0, 0)) ∧ xs.length + rest.length ≤ maxLen
theorem SRow.owns {base : Nat} {w : World} {v : Value} {xs : List ByteArray} (h : SRow base w v xs) : w.ownsRow base strT 1 v xs.length (strVals xs) := by
  refine ⟨by rw [strVals_len, Nat.mul_one], ?_⟩
  rcases h with ⟨rfl, rfl⟩ | ⟨g, rest, rfl, hb, hg, hm⟩
  · exact .inl ⟨rfl, rfl⟩
  · refine .inr ⟨g, _, _, rfl, hb, hg, by omega, hm, ?_, ?_⟩
    · simp [strVals_len]
    · rw [Nat.mul_one]
      have : (strVals xs ++ rest).take xs.length = strVals xs := by rw [← strVals_len, List.take_left']; rfl
      simpa using this
theorem SRow.of_owns {base : Nat} {w : World} {v : Value} {xs : List ByteArray} {n : Nat} (hn : n = xs.length) (h : w.ownsRow base strT 1 v n (strVals xs)) : SRow base w v xs := by
  subst hn
  rcases h.2 with ⟨rfl, h0⟩ | ⟨g, cap, cur, rfl, hb, hg, hnc, hm, hs, ht⟩
  · exact .inl ⟨rfl, List.length_eq_zero_iff.1 h0⟩
  · rw [Nat.mul_one] at ht hs
    have hl : cur.toList.length = cap := by simpa using hs
    have he : cur = (strVals xs ++ cur.toList.drop xs.length).toArray := by
      rw [← ht, List.take_append_drop, Array.toArray_toList]
    refine .inr ⟨g, cur.toList.drop xs.length, ?_, hb, by rw [hg, ← he], ?_⟩
    · rw [List.length_drop, hl, Nat.add_sub_cancel' hnc]
    · rw [List.length_drop, hl]; omega
theorem SRow.nil {base : Nat} {w : World} : SRow base w (.slice none 0 0) [] := .inl ⟨rfl, rfl⟩
theorem SRow.kept {base : Nat} {w w' : World} {v : Value} {xs : List ByteArray} {row : Option Nat} (h : SRow base w v xs) (hg : w.grownBy w' row) (hne : ∀ g, v.ownBlock = some g → row ≠ some g) : SRow base w' v xs := by
  rcases h with h | ⟨g, rest, rfl, hb, hh, hm⟩
  · exact .inl h
  · refine .inr ⟨g, rest, rfl, hb, (hg.block g (heap_lt hh) (fun e => hne g rfl e.symm)).trans hh, hm⟩
theorem SRow.ext {base : Nat} {w w' : World} {v : Value} {xs : List ByteArray} (h : SRow base w v xs) (he : Ext w w') : SRow base w' v xs := h.kept (row := none) ⟨he.os, he.tape, he.output, he.size, fun k hk _ => he.block k hk⟩ (fun g _ => by simp)
theorem SRow.block {base : Nat} {w : World} {v : Value} {xs : List ByteArray} (h : SRow base w v xs) : ∀ g, v.ownBlock = some g → base ≤ g ∧ g < w.heap.size := by
  rcases h with ⟨rfl, _⟩ | ⟨g, rest, rfl, hb, hh, hm⟩
  · intro g hg; simp [Value.ownBlock] at hg
  · intro g' hg
    have : g = g' := by simpa [Value.ownBlock] using hg
    subst this
    exact ⟨hb, heap_lt hh⟩
theorem SRow.slice {base : Nat} {w : World} {v : Value} {xs : List ByteArray} (h : SRow base w v xs) : ∃ A c, v = .slice A xs.length c := by
  rcases h with ⟨rfl, rfl⟩ | ⟨g, rest, rfl, _⟩
  · exact ⟨_, _, rfl⟩
  · exact ⟨_, _, rfl⟩
theorem SRow.low {base base' : Nat} {w : World} {v : Value} {xs : List ByteArray} (h : SRow base w v xs) (hb : base' ≤ base) : SRow base' w v xs := by
  rcases h with h | ⟨g, rest, hv, hb', hh, hm⟩
  · exact .inl h
  · exact .inr ⟨g, rest, hv, Nat.le_trans hb hb', hh, hm⟩
/-- Its cells. -/
theorem SRow.cells {base : Nat} {w : World} {A : Option Addr} {n c : Nat} {xs : List ByteArray} (h : SRow base w (.slice A n c) xs) (h0 : 0 < xs.length) :
    ∃ g, A = some ⟨g, 0, none⟩ ∧ base ≤ g ∧ g < w.heap.size ∧ xs.length ≤ c ∧ n = xs.length ∧ ∀ j (hj : j < xs.length), w.cell? ⟨g, 0 + j, none⟩ = some (.string xs[j]) := by
  rcases h with ⟨_, rfl⟩ | ⟨g, rest, hv, hb, hg, hm⟩
  · simp at h0
  · injection hv with e1 e2 e3
    refine ⟨g, e1, hb, heap_lt hg, by omega, e2, fun j hj => ?_⟩
    rw [Nat.zero_add, cell_of hg]
    have : j < (strVals xs).length := by rw [strVals_len]; exact hj
    rw [List.getElem?_toArray, List.getElem?_append_left this]
    simp [strVals, hj]
theorem SRow.strs {base : Nat} {w : World} {v : Value} {xs : List ByteArray} (h : SRow base w v xs) (hn : xs.length ≤ 1099511627776) (hz : ∀ x ∈ xs, x.size ≤ 1048576) : StrsR w.heap.size w v xs := strs_of_own h.owns hn hz
theorem str_info : (Tryz.prog.info? strT).map (fun i => (i.zero, i.size, i.bytes)) = some (some (Value.string ⟨#[]⟩), 1, 16) := by kernel_rfl
end Go.Proofs.YtnccefeehkcneaaGreatDoor.Sx
namespace Go.Proofs.YtnccefeehkcneaaGreatDoor.Sx
open Go Go.RowKit
theorem grown_none {w w' : World} {row : Option Nat} (h : Ext w w') : w.grownBy w' row := ⟨h.os, h.tape, h.output, h.size, fun k hk _ => h.block k hk⟩
/-- The slice x reads as ys. -/
def SrcS (w : World) (x : Value) (ys : List ByteArray) : Prop := (∃ c, x = .slice none 0 c ∧ ys = []) ∨ ∃ ad c, x = .slice (some ad) ys.length c ∧ ∀ j u, (strVals ys)[j]? = some u → w.cell? (ad.add j) = some u
theorem SrcS.kept {w w' : World} {x : Value} {ys : List ByteArray} {row : Option Nat} (h : SrcS w x ys) (hg : w.grownBy w' row) (hne : ∀ g, x.ownBlock = some g → row ≠ some g) : SrcS w' x ys := by
  rcases h with h | ⟨ad, c, rfl, hc⟩
  · exact .inl h
  · refine .inr ⟨ad, c, rfl, fun j u hj => ?_⟩
    have h0 := hc j u hj
    have hb : (ad.add j).block = ad.block := block_of_add ad j
    have hlt : ad.block < w.heap.size := by
      rcases Nat.lt_or_ge ad.block w.heap.size with h1 | h1
      · exact h1
      · unfold World.cell? at h0
        rw [hb, Array.getElem?_eq_none h1] at h0
        cases h0
    rw [hg.cell_far (ad.add j) (by rw [hb]; exact hlt) (by rw [hb]; exact fun e => hne ad.block rfl e.symm)]
    exact h0
theorem SrcS.slice {w : World} {x : Value} {ys : List ByteArray} (h : SrcS w x ys) : ∃ A c, x = .slice A ys.length c := by
  rcases h with ⟨c, rfl, rfl⟩ | ⟨ad, c, rfl, _⟩
  · exact ⟨_, _, rfl⟩
  · exact ⟨_, _, rfl⟩
theorem SrcS.ext {w w' : World} {x : Value} {ys : List ByteArray} (h : SrcS w x ys) (he : Ext w w') : SrcS w' x ys := h.kept (row := none) (grown_none he) (fun g _ => by simp)
theorem SRow.src {base : Nat} {w : World} {v : Value} {zs : List ByteArray} (h : SRow base w v zs) : SrcS w v zs := by
  rcases h with ⟨rfl, rfl⟩ | ⟨g, rest, rfl, hb, hg, hm⟩
  · exact .inl ⟨0, rfl, rfl⟩
  · refine .inr ⟨_, _, rfl, fun j u hj => ?_⟩
    rw [Addr.add_lit, Nat.zero_add, cell_of hg]
    have := (List.getElem?_eq_some_iff.1 hj).1
    rw [List.getElem?_toArray, List.getElem?_append_left this]
    exact hj
theorem run_append_strs (base : Nat) (ty : TypeId) (w : World) (v x : Value) (zs ys : List ByteArray) (hrow : SRow base w v zs) (hx : SrcS w x ys) (hs1 : zs.length ≤ 1099511627776) (hs2 : ys.length ≤ 1099511627776) (hbase : base ≤ w.heap.size) :
    ∃ A c w', (Builtin.append_ #[37, 37] ty #[v, x]).run Tryz.prog w = .ok (.slice A (zs.length + ys.length) c) w' ∧ SRow base w' (.slice A (zs.length + ys.length) c) (zs ++ ys) ∧ w.grownBy w' v.ownBlock ∧ ((Value.slice A (zs.length + ys.length) c).ownBlock = v.ownBlock ∨ (Value.slice A (zs.length + ys.length) c).ownBlock = some w.heap.size) := by
  obtain ⟨i0, hi, hz0, hz1, hz2⟩ := info_parts str_info
  rcases hx with ⟨c, rfl, rfl⟩ | ⟨ad, c, rfl, hc⟩
  · have hr := run_append_noneB (P := Tryz.prog) (w := w) base 37 ty strT i0 1 c Tryz.underlying37 hi v zs.length (strVals zs) hrow.owns
    obtain ⟨A, c', rfl⟩ := hrow.slice
    exact ⟨A, c', w, hr, by rw [List.append_nil]; exact hrow, grown_none (Below.refl _ _), .inl rfl⟩
  · obtain ⟨v', w', hr, h2, h3, _, h5⟩ := run_append_own_at (P := Tryz.prog) w base 37 ty strT i0 _ 1 16 Tryz.underlying37 hi hz0 hz1 hz2 rfl (by omega) v zs.length (strVals zs) hrow.owns ad ys.length c (strVals ys) (by rw [strVals_len, Nat.mul_one]) hc (fun u hu => by obtain ⟨z, _, rfl⟩ := List.mem_map.1 hu; rfl) (by unfold maxLen; omega) (by omega) hbase
    have hrow' : SRow base w' v' (zs ++ ys) := SRow.of_owns (n := zs.length + ys.length) (by simp) (by simpa [strVals] using h2)
    obtain ⟨A, c', hv⟩ := hrow'.slice
    rw [List.length_append] at hv
    subst hv
    exact ⟨A, c', w', hr, hrow', h3, h5⟩
theorem append_srs {ops : Array Oper} {rest : List Oper} {o : Oper} {a : Act} {Q : Exit → Act → World → Prop} (hgd : o.guard = none) (s x : Operand)
    (ho : o.op = .call { callee := .builtin .append, args := #[s, x], argTypes := #[37, 37] }) (base n m : Nat) (w : World) (v y : Value) (zs ys : List ByteArray)
    (hs : a.eval s = v) (hx : a.eval x = y) (hrow : SRow base w v zs) (hy : SrcS w y ys) (hn : zs.length = n) (hm : ys.length = m) (hs1 : n ≤ 1099511627776) (hs2 : m ≤ 1099511627776) (hbase : base ≤ w.heap.size)
    (h : ∀ A c w', SRow base w' (.slice A (n + m) c) (zs ++ ys) → w.grownBy w' v.ownBlock → ((Value.slice A (n + m) c).ownBlock = v.ownBlock ∨ (Value.slice A (n + m) c).ownBlock = some w.heap.size) → wpList Tryz.prog ops Q rest (a.put o.dst (.slice A (n + m) c)) w') : wpList Tryz.prog ops Q (o :: rest) a w := by
  subst hn hm
  obtain ⟨A, c, w', hr, h1, h2, h3⟩ := run_append_strs base o.type w v y zs ys hrow hy hs1 hs2 hbase
  refine wpList_plain hgd fun K hK => ?_
  unfold Oper.wp execOp
  simp only [ho, resolve, invoke, builtin, Sem.run_bind, Sem.run_pure, Result.andThen_ok, List.map_toArray, List.map_cons, List.map_nil, hs, hx, hr]
  exact hK _ _ (h A c w' h1 h2 h3)
end Go.Proofs.YtnccefeehkcneaaGreatDoor.Sx
namespace Go.Proofs.YtnccefeehkcneaaGreatDoor.Sx
open Go Go.RowKit
set_option maxRecDepth 100000 in
theorem copyS_any (base : Nat) (x : Value) (ys : List ByteArray) (w : World) (hx : SrcS w x ys) (hs : ys.length ≤ 1099511627776) (hbase : base ≤ w.heap.size) :
    Calls Tryz.prog 83 #[x] w fun e w' => ∃ A c, e = .returned (.slice A ys.length c) ∧ SRow base w' (.slice A ys.length c) ys ∧ Ext w w' ∧ ((Value.slice A ys.length c).ownBlock = none ∨ (Value.slice A ys.length c).ownBlock = some w.heap.size) := by
  have HX := Lib.hid hx
  obtain ⟨A0, c0, rfl⟩ := hx.slice
  clear hx
  go_enter Tryz.func83, Tryz.ntmps83
  go_wp2_with (at_builtin; refine append_srs rfl _ _ (by rfl) base 0 ys.length _ _ _ [] ys (by rfl) (by rfl) SRow.nil HX.out rfl rfl (by omega) hs hbase ?_)
  intro A c w' h1 h2 h3
  have H := Lib.hid (And.intro h1 (And.intro h2 h3))
  clear h1 h2 h3
  go_wp2
  go_ret
  refine ⟨A, c, by simp, by simpa using H.out.1, ?_, by simpa [Value.ownBlock] using H.out.2.2⟩
  exact ⟨H.out.2.1.os, H.out.2.1.tape, H.out.2.1.output, H.out.2.1.size, fun k hk => H.out.2.1.block k hk (by simp [Value.ownBlock])⟩
end Go.Proofs.YtnccefeehkcneaaGreatDoor.Sx
