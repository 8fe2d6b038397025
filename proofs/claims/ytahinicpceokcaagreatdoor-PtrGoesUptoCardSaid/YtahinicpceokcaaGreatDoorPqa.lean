/-
  Thinned out of Name1 Name2 Name3 Spl Key by thin.py.
  What strings.Split gives at a byte, in plain words; its contract.
  Pointers: the library's Split and ReplaceAll as they are used; a row of strings, one of them changed; the reference's chr.
  The program's Steps.
  The reference's Steps.
-/
import Derived.Test.YtahinicpceokcaaGreatDoorBase
import Derived.Test.YtahinicpceokcaaGreatDoorChecked
import Derived.BigGuardPart
import Derived.Lib.Hide
import Derived.Test.YtahinicpceokcaaGreatDoorShelf
import Derived.Lib.IndexAny
import Derived.Test.YtahinicpceokcaaGreatDoorRng
import Derived.Lib.SplitLaws
import Derived.LoopIn
import Derived.LoopNIn
import Derived.OwnWalkIn
import Derived.TacticsInMore
import Derived.Test.YtahinicpceokcaaGreatDoorMxc
import Derived.WalkSmall
import Derived.Test.YtahinicpceokcaaGreatDoorPt1
import Derived.Test.YtahinicpceokcaaGreatDoorSlr
import Derived.Test.YtahinicpceokcaaGreatDoorSrow
import Derived.Test.YtahinicpceokcaaGreatDoorRpa
import Derived.Deep.RegionHeld3
/-
  The program's name package: isEdge, isLow, made (over isLow and '-'), isName, judge, Check: each returns what a plain function of the text's bytes says, and leaves the world as it was.
-/
namespace Go.Proofs.YtahinicpceokcaaGreatDoor.Sx
open Go Go.RowKit
abbrev oneS (c : UInt8) : ByteArray := ⟨#[c]⟩
/-- The text, cut at each byte c. -/
def parts (c : UInt8) (s : ByteArray) : List ByteArray := Lib.splitB (oneS c) 0 (Lib.countB s (oneS c)) s
theorem parts_miss {c : UInt8} {s : ByteArray} (h : Lib.indexB s (oneS c) = -1) : parts c s = [s] := Lib.splitB_miss _ _ _ _ h
theorem parts_hit {c : UInt8} {s : ByteArray} {i : Nat} (h : Lib.indexB s (oneS c) = i) : parts c s = s.extract 0 i :: parts c (s.extract (i + 1) s.size) := by
  unfold parts
  rw [Lib.countB_hit s (oneS c) i (Nat.le_refl 1) h, Nat.add_comm, Lib.splitB_hit _ _ _ _ i h]
  rfl
theorem parts_ways (c : UInt8) (s : ByteArray) : (Lib.indexByte s.data.toList c = -1 ∧ parts c s = [s]) ∨ ∃ i : Nat, Lib.indexByte s.data.toList c = i ∧ i < s.size ∧ parts c s = s.extract 0 i :: parts c (s.extract (i + 1) s.size) := by
  have he : Lib.indexB s (oneS c) = Lib.indexByte s.data.toList c := Lib.index_one _ _
  rcases Lib.indexB_cases s (oneS c) with h | ⟨i, h, hi⟩
  · exact .inl ⟨by rw [← he, h], parts_miss h⟩
  · exact .inr ⟨i, by rw [← he, h], by have : (oneS c).size = 1 := rfl; omega, parts_hit h⟩
/-- The three boxes. -/
def Boxes (k : Nat) (c : UInt8) (w : World) (s : ByteArray) : Prop :=
  w.heap[k]? = some (.cells #[.string s] 9 (0, 0)) ∧ w.heap[k + 1]? = some (.cells #[.string (oneS c)] 9 (0, 0)) ∧ w.heap[k + 2]? = some (.cells #[.int .i64 0] 3 (0, 0))
theorem Boxes.keeps {k : Nat} {c : UInt8} {w w' : World} {s : ByteArray} (h : Boxes k c w s) (hk : Keeps k (k + 3) w w') : Boxes k c w' s :=
  ⟨(hk _ (by omega) (by omega)).trans h.1, (hk _ (by omega) (by omega)).trans h.2.1, (hk _ (by omega) (by omega)).trans h.2.2⟩
theorem Boxes.store {k : Nat} {c : UInt8} {w : World} {s : ByteArray} (h : Boxes k c w s) (t : ByteArray) : Boxes k c (w.setCell ⟨k, 0, none⟩ (.string t)) t := by
  refine ⟨?_, (Below.heap_setCell _ _ _ _ (by simp)).trans h.2.1, (Below.heap_setCell _ _ _ _ (by simp)).trans h.2.2⟩
  have h0 := h.1
  simp [World.setCell, Array.getElem?_modify, h0]
attribute [local go_sem] Oper.semAt_some
end Go.Proofs.YtahinicpceokcaaGreatDoor.Sx
namespace Go.Proofs.YtahinicpceokcaaGreatDoor.Sx
open Go Go.RowKit
attribute [local go_sem] Oper.semAt_some
/-- The variable 'is', in block k. -/
def IsIn (w : World) (k : Nat) (b : Bool) : Prop := w.heap[k]? = some (.cells #[.bool b] 4 (0, 0))
theorem IsIn.store {k : Nat} {w : World} {b : Bool} (h : IsIn w k b) (t : Bool) : IsIn (w.setCell ⟨k, 0, none⟩ (.bool t)) k t := by
  have h0 : w.heap[k]? = _ := h
  simp [IsIn, World.setCell, Array.getElem?_modify, h0]
end Go.Proofs.YtahinicpceokcaaGreatDoor.Sx
namespace Go.Proofs.YtahinicpceokcaaGreatDoor.Sx
open Go Go.RowKit Go.Proofs.YtahinicpceokcaaGreatDoor.Pt
theorem indexByte_none {c : UInt8} : ∀ {l : List UInt8}, Lib.indexByte l c = -1 → c ∉ l
  | [], _ => by simp
  | b :: l, h => by
    unfold Lib.indexByte at h
    by_cases hb : (b == c) = true
    · rw [if_pos hb] at h; cases h
    · rw [if_neg hb] at h
      have hbc : ¬ c = b := fun e => hb (by simp [e])
      by_cases h1 : (Lib.indexByte l c == -1) = true
      · simp [hbc, indexByte_none (beq_iff_eq.1 h1)]
      · rw [if_neg h1] at h
        have h2 := Lib.indexByte_ge l c
        have h3 : Lib.indexByte l c ≠ -1 := fun e => h1 (by simp [e])
        omega
theorem indexByte_some {c : UInt8} : ∀ {l : List UInt8} {i : Nat}, Lib.indexByte l c = i → ∃ r, l = l.take i ++ c :: r ∧ c ∉ l.take i ∧ r = l.drop (i + 1)
  | [], i, h => by simp [Lib.indexByte] at h
  | b :: l, i, h => by
    unfold Lib.indexByte at h
    by_cases hb : (b == c) = true
    · rw [if_pos hb] at h
      obtain rfl : i = 0 := by omega
      have hbc : b = c := by simpa using hb
      subst hbc
      exact ⟨l, by simp, by simp, by simp⟩
    · rw [if_neg hb] at h
      have hbc : ¬ c = b := fun e => hb (by simp [e])
      by_cases h1 : (Lib.indexByte l c == -1) = true
      · rw [if_pos h1] at h; omega
      · rw [if_neg h1] at h
        cases i with
        | zero => have h2 := Lib.indexByte_ge l c; have h3 : Lib.indexByte l c ≠ -1 := fun e => h1 (by simp [e]); omega
        | succ i =>
          obtain ⟨r, h2, h3, h4⟩ := indexByte_some (c := c) (l := l) (i := i) (by omega)
          refine ⟨r, ?_, by simp [hbc, h3], by simpa using h4⟩
          rw [List.take_succ_cons, List.cons_append, ← h2]
theorem parts_segs (c : UInt8) : ∀ (n : Nat) (s : ByteArray), s.size ≤ n → (parts c s).map (·.data.toList) = segs c s.data.toList := by
  intro n
  induction n with
  | zero =>
    intro s hn
    rcases parts_ways c s with ⟨h, hp⟩ | ⟨i, _, hi, _⟩
    · rw [hp, segs_free (indexByte_none h)]; rfl
    · omega
  | succ n ih =>
    intro s hn
    rcases parts_ways c s with ⟨h, hp⟩ | ⟨i, h, hi, hp⟩
    · rw [hp, segs_free (indexByte_none h)]; rfl
    · obtain ⟨r, h1, h2, h3⟩ := indexByte_some h
      rw [hp, List.map_cons, ih _ (by simp; omega)]
      have e1 : (s.extract 0 i).data.toList = s.data.toList.take i := by simp [List.extract_eq_take_drop]
      have e2 : (s.extract (i + 1) s.size).data.toList = r := by
        rw [h3]
        simp [List.extract_eq_take_drop]
        rw [List.take_of_length_le]
        simp
      rw [e1, e2]
      conv => rhs; rw [h1]
      rw [segs_hit h2]
theorem parts_len (c : UInt8) : ∀ (n : Nat) (s : ByteArray), s.size ≤ n → (parts c s).length = Lib.countB s (oneS c) + 1 := by
  intro n
  induction n with
  | zero =>
    intro s hn
    rcases Lib.indexB_cases s (oneS c) with h | ⟨i, h, hi⟩
    · rw [parts_miss h, Lib.countB_miss _ _ h]; rfl
    · have : (oneS c).size = 1 := rfl
      omega
  | succ n ih =>
    intro s hn
    rcases Lib.indexB_cases s (oneS c) with h | ⟨i, h, hi⟩
    · rw [parts_miss h, Lib.countB_miss _ _ h]; rfl
    · have h1 : (oneS c).size = 1 := rfl
      rw [parts_hit h, Lib.countB_hit s (oneS c) i (Nat.le_refl 1) h, List.length_cons, ih _ (by simp; omega), h1]
      omega
theorem parts_le (c : UInt8) : ∀ (n : Nat) (s : ByteArray), s.size ≤ n → (parts c s).length ≤ s.size + 1 ∧ ∀ x ∈ parts c s, x.size ≤ s.size := by
  intro n
  induction n with
  | zero =>
    intro s hn
    rcases parts_ways c s with ⟨h, hp⟩ | ⟨i, _, hi, _⟩
    · rw [hp]; simp
    · omega
  | succ n ih =>
    intro s hn
    rcases parts_ways c s with ⟨h, hp⟩ | ⟨i, h, hi, hp⟩
    · rw [hp]; simp
    · obtain ⟨h1, h2⟩ := ih (s.extract (i + 1) s.size) (by simp; omega)
      rw [hp]
      refine ⟨by simp at h1 ⊢; omega, fun x hx => ?_⟩
      cases List.mem_cons.1 hx with
      | inl e => subst e; simp; omega
      | inr e => have := h2 x e; simp at this; omega
end Go.Proofs.YtahinicpceokcaaGreatDoor.Sx
namespace Go.Proofs.YtahinicpceokcaaGreatDoor.Sx
open Go Go.RowKit Go.Proofs.YtahinicpceokcaaGreatDoor.Pt
theorem heap_set {w : World} {g i : Nat} {cs : List Value} {t : TypeId} {z : Nat × Nat} {v : Value} (h : w.heap[g]? = some (.cells cs.toArray t z)) : (w.setCell ⟨g, i, none⟩ v).heap[g]? = some (.cells (cs.set i v).toArray t z) := by
  simp [World.setCell, Array.getElem?_modify, h]
/-- One of them changed. -/
theorem SRow.set {base : Nat} {w : World} {g n c : Nat} {xs : List ByteArray} (h : SRow base w (.slice (some ⟨g, 0, none⟩) n c) xs) {i : Nat} (hi : i < xs.length) (t : ByteArray) :
    SRow base (w.setCell ⟨g, i, none⟩ (.string t)) (.slice (some ⟨g, 0, none⟩) n c) (xs.set i t) ∧ w.grownBy (w.setCell ⟨g, i, none⟩ (.string t)) (some g) ∧ w.frozen? ⟨g, i, none⟩ = false ∧ w.cell? ⟨g, i, none⟩ = some (.string xs[i]) := by
  rcases h with ⟨hv, _⟩ | ⟨g', rest, hv, hb, hg, hm⟩
  · cases hv
  · injection hv with e1 e2 e3
    injection e1 with e1
    injection e1 with e1
    subst e1 e2 e3
    refine ⟨.inr ⟨g, rest, by simp, hb, ?_, by simpa using hm⟩, ⟨rfl, rfl, rfl, by simp, fun k hk hne => ?_⟩, free_of hg i, ?_⟩
    · rw [heap_set hg]
      congr 2
      simp only [strVals]
      rw [List.set_append_left _ _ (by simpa using hi), List.map_set]
    · exact Below.heap_setCell _ _ _ _ (fun e => hne (by simp at e; rw [e]))
    · rw [cell_of hg i, List.getElem?_toArray, List.getElem?_append_left (by rw [strVals_len]; exact hi)]
      simp [strVals, hi]
/-- All but the first. -/
theorem SRow.rest1 {base : Nat} {w : World} {g n c : Nat} {xs : List ByteArray} (h : SRow base w (.slice (some ⟨g, 0, none⟩) n c) xs) (h1 : 1 ≤ xs.length) :
    n = xs.length ∧ n ≤ c ∧ ∃ o2, sliced (some ⟨g, 0, none⟩) 1 n c 1 = .slice (some ⟨g, o2, none⟩) (n - 1) (c - 1) ∧ ∀ k (hk : k < xs.tail.length), w.cell? ⟨g, o2 + k, none⟩ = some (.string xs.tail[k]) := by
  obtain ⟨g', hA, _, _, hc, hn, hat⟩ := h.cells (by omega)
  injection hA with e
  injection e with e
  subst e
  refine ⟨hn, by omega, ?_⟩
  unfold sliced
  by_cases hc1 : c = 1
  · rw [if_pos hc1]
    exact ⟨0, rfl, fun k hk => by simp at hk; omega⟩
  · rw [if_neg hc1]
    refine ⟨1, rfl, fun k hk => ?_⟩
    have hk' : k + 1 < xs.length := by simpa using Nat.add_lt_of_lt_sub (by simpa using hk)
    have := hat (k + 1) hk'
    rw [Nat.zero_add] at this
    rw [Nat.add_comm 1 k, this, List.getElem_tail]
theorem split_any (s : ByteArray) (c : UInt8) (w : World) (hm : MaxC w) (hs : s.size ≤ 1048576) :
    Calls Tryz.prog 125 #[.string s, .string (oneS c)] w fun e w' => e = .returned (.slice (some ⟨w.heap.size, 0, none⟩) (parts c s).length (parts c s).length) ∧ SRow w.heap.size w' (.slice (some ⟨w.heap.size, 0, none⟩) (parts c s).length (parts c s).length) (parts c s) ∧ Ext w w' := by
  obtain ⟨m, hm⟩ := hm
  refine (Tryz.strings_Split s (oneS c) m w (by omega) hm (Nat.le_refl _)).mono fun e w' ⟨he, hw⟩ => ?_
  have hl : (parts c s).length = Lib.countB s (oneS c) + 1 := parts_len c s.size s (Nat.le_refl _)
  subst hw
  refine ⟨by rw [he, hl], .inr ⟨w.heap.size, [], by simp, Nat.le_refl _, ?_, ?_⟩, (Below.refl _ _).alloc (Nat.le_refl _) _⟩
  · rw [heap_new rfl]
    simp [strVals, parts, strT]
  · have : Lib.countB s (oneS c) ≤ s.size := Lib.countB_le (oneS c) (Nat.le_refl 1) s.size s (Nat.le_refl _)
    rw [hl]; unfold maxLen; simp; omega
set_option maxRecDepth 100000 in
theorem chr_any (c : UInt8) (w : World) : Calls Tryz.prog 69 #[.int .i64 (c.toNat : Int)] w fun e w' => e = .returned (.string (oneS c)) ∧ Ext w w' := by
  have hc : (c.toNat : Int) < 256 := by have := c.toNat_lt; omega
  have hcv : (convert 102 9 (.slice (some ⟨w.heap.size, 0, none⟩) 1 1)).run Tryz.prog (w.alloc (.cells #[.int .u8 (c.toNat : Int)] 5)) = .ok (.string (oneS c)) (w.alloc (.cells #[.int .u8 (c.toNat : Int)] 5)) :=
    run_convert_bytes_back _ _ _ 5 ⟨w.heap.size, 0, none⟩ 1 [c] Tryz.underlying102 Tryz.underlying5 Tryz.underlying9 fun j hj => by
      obtain rfl : j = 0 := by simpa using hj
      exact cell_of (heap_new rfl) 0
  have HX : Hid (Ext w (w.alloc (.cells #[.int .u8 (c.toNat : Int)] 5))) := (Below.refl _ _).alloc (Nat.le_refl _) _
  go_enter Tryz.func69, Tryz.ntmps69
  go_wp2
  go_ret
  exact ⟨rfl, HX.out⟩
end Go.Proofs.YtahinicpceokcaaGreatDoor.Sx
namespace Go.Proofs.YtahinicpceokcaaGreatDoor.Sx
open Go Go.RowKit Go.Proofs.YtahinicpceokcaaGreatDoor.Pt
def mkB (l : List UInt8) : ByteArray := ⟨l.toArray⟩
def goodB (t : ByteArray) : Bool := good t.data.toList
def okS (s : ByteArray) : Bool := (parts 126 s).tail.all goodB
def stepF (s : ByteArray) : ByteArray := mkB (rep [126, 48] [126] (rep [126, 49] [47] s.data.toList))
/-- What Steps gives. -/
def stepsR (p : ByteArray) : List ByteArray × Int :=
  match p.data.toList with
  | [] => ([], 0)
  | c :: r => if c = 47 then (match unescAll (segs 47 r) with | none => ([], 16) | some l => if 10 < l.length then ([], 2) else (l.map mkB, 0)) else ([], 16)
def StepsPost (w : World) (p : ByteArray) (e : Ending) (w' : World) : Prop := ∃ A c, e = .returned (.tuple #[.slice A (stepsR p).1.length c, .int .i64 (stepsR p).2]) ∧ SRow w.heap.size w' (.slice A (stepsR p).1.length c) (stepsR p).1 ∧ Ext w w'
theorem steps_none {w w' : World} {p : ByteArray} {n : Int} (h : stepsR p = ([], n)) (hx : Ext w w') : StepsPost w p (.returned (.tuple #[.slice none 0 0, .int .i64 n])) w' :=
  ⟨none, 0, by rw [h]; rfl, by rw [h]; exact SRow.nil, hx⟩
theorem okS_eq (s : ByteArray) : okS s = okSeg s.data.toList := by
  unfold okS okSeg
  rw [← parts_segs 126 s.size s (Nat.le_refl _), ← List.map_tail, List.all_map]
  rfl
theorem ext_toList {p : ByteArray} {c : UInt8} {r : List UInt8} (h : p.data.toList = c :: r) : (p.extract 1 p.size).data.toList = r := by
  have hs : p.size = r.length + 1 := by
    have : p.data.toList.length = p.size := by simp
    rw [h] at this
    simpa using this.symm
  simp [List.extract_eq_take_drop, h, hs]
theorem steps_bad {p : ByteArray} {c : UInt8} {r : List UInt8} (h : p.data.toList = c :: r) {i : Nat} (hi : i < (parts 47 (p.extract 1 p.size)).length) (hb : okS ((parts 47 (p.extract 1 p.size))[i]) = false) : stepsR p = ([], 16) := by
  have hm := parts_segs 47 _ _ (Nat.le_refl (p.extract 1 p.size).size)
  rw [ext_toList h] at hm
  unfold stepsR
  rw [h]
  by_cases hc : c = 47
  · simp only [if_pos hc]
    cases e : unescAll (segs 47 r) with
    | none => rfl
    | some o =>
      have hl := unescAll_length e
      have hi' : i < (segs 47 r).length := by rw [← hm, List.length_map]; exact hi
      have hu := unescAll_at e i hi' (by omega)
      have he : (segs 47 r)[i] = (parts 47 (p.extract 1 p.size))[i].data.toList := by simp [← hm]
      rw [okS_eq, ← he, ok_unesc _ _ (Nat.le_refl _), hu] at hb
      cases hb
  · simp [hc]
theorem steps_good {p : ByteArray} {r : List UInt8} (h : p.data.toList = 47 :: r) (hb : ∀ i (hi : i < (parts 47 (p.extract 1 p.size)).length), okS ((parts 47 (p.extract 1 p.size))[i]) = true) :
    stepsR p = if 10 < (parts 47 (p.extract 1 p.size)).length then ([], 2) else ((parts 47 (p.extract 1 p.size)).map stepF, 0) := by
  have hm := parts_segs 47 _ _ (Nat.le_refl (p.extract 1 p.size).size)
  rw [ext_toList h] at hm
  unfold stepsR
  rw [h]
  simp only [if_true]
  cases e : unescAll (segs 47 r) with
  | none =>
    obtain ⟨i, hi, hu, _⟩ := unescAll_none e
    have hi' : i < (parts 47 (p.extract 1 p.size)).length := by rw [← hm, List.length_map] at hi; exact hi
    have he : (segs 47 r)[i] = (parts 47 (p.extract 1 p.size))[i].data.toList := by simp [← hm]
    have := hb i hi'
    rw [okS_eq, ← he, ok_unesc _ _ (Nat.le_refl _), hu] at this
    cases this
  | some o =>
    have hl := unescAll_length e
    have hl2 : (segs 47 r).length = (parts 47 (p.extract 1 p.size)).length := by rw [← hm, List.length_map]
    simp only
    rw [hl, hl2]
    congr 2
    refine List.ext_getElem (by simp; omega) fun i h1 h2 => ?_
    simp only [List.length_map] at h1 h2
    have hu := unescAll_at e i (by omega) h1
    have he : (segs 47 r)[i]'(by omega) = (parts 47 (p.extract 1 p.size))[i].data.toList := by simp [← hm]
    rw [List.getElem_map, List.getElem_map, stepF, ← he, unesc_rep _ _ _ (Nat.le_refl _) hu]
theorem rep_le {old new : List UInt8} (h : old ≠ []) (hn : new.length ≤ old.length) : ∀ (n : Nat) (s : List UInt8), s.length ≤ n → (rep old new s).length ≤ s.length := by
  intro n
  induction n with
  | zero =>
    intro s hs
    obtain rfl : s = [] := List.length_eq_zero_iff.1 (by omega)
    rw [rep_nil h]
    simp
  | succ n ih =>
    intro s hs
    cases s with
    | nil => rw [rep_nil h]; simp
    | cons c r =>
      cases hp : old.isPrefixOf (c :: r) with
      | false =>
        rw [rep_miss h c r hp]
        simp only [List.length_cons] at *
        have := ih r (by omega)
        omega
      | true =>
        obtain ⟨t, ht⟩ := List.isPrefixOf_iff_prefix.1 hp
        have hpos : 0 < old.length := List.length_pos_iff.2 h
        rw [← ht] at hs ⊢
        rw [List.length_append] at hs
        rw [rep_hit h, List.length_append, List.length_append]
        have := ih t (by omega)
        omega
theorem first_ways (t : ByteArray) : t.data.toList = [] ∨ ∃ c, 0 < t.size ∧ (∃ h : 0 < t.size, t[0] = c) ∧ goodB t = (decide (c = 48) || decide (c = 49)) := by
  cases h : t.data.toList with
  | nil => exact .inl rfl
  | cons c r =>
    have hs : 0 < t.size := by
      have : t.data.toList.length = t.size := by simp
      rw [h] at this
      simp at this
      omega
    refine .inr ⟨c, hs, ⟨hs, ?_⟩, by unfold goodB; rw [h]; rfl⟩
    have h1 : t.data.toList[0]'(by simpa using hs) = t[0] := rfl
    rw [← h1]
    simp only [h]
    rfl
theorem stepF_row (xs : List ByteArray) {i : Nat} (hi : i < xs.length) : ((xs.take i).map stepF ++ xs.drop i).set i (stepF xs[i]) = (xs.take (i + 1)).map stepF ++ xs.drop (i + 1) := by
  have hl : ((xs.take i).map stepF).length = i := by simp; omega
  rw [List.set_append_right _ _ (by omega), hl, Nat.sub_self, List.drop_eq_getElem_cons hi, List.set_cons_zero, List.take_succ_eq_append_getElem hi, List.map_append, List.append_assoc]
  rfl
theorem stepF_at (xs : List ByteArray) {i : Nat} (hi : i < xs.length) : ((xs.take i).map stepF ++ xs.drop i)[i]'(by simp; omega) = xs[i] := by
  have hl : ((xs.take i).map stepF).length = i := by simp; omega
  have e : i + (i - ((xs.take i).map stepF).length) = i := by omega
  rw [List.getElem_append_right (by omega), List.getElem_drop]
  simp only [e]
set_option maxRecDepth 100000 in
set_option maxHeartbeats 4000000 in
theorem steps_main (p : ByteArray) (r : List UInt8) (w : World) (hs : p.size ≤ 1048576) (hm : MaxC w) (hp : p.data.toList = 47 :: r) :
    Calls Tryz.prog 89 #[.string p] w (StepsPost w p) := by
  have HP := Lib.hid hp
  have hsz : 0 < p.size := by
    have : p.data.toList.length = p.size := by simp
    rw [hp] at this
    simp at this
    omega
  have h0 : p[0] = 47 := by
    have h1 : p.data.toList[0]'(by simpa using hsz) = p[0] := rfl
    rw [← h1]
    simp only [hp]
    rfl
  have hne : p.toList.isEmpty = false := by
    have : p.toList = 47 :: r := by rw [← hp]; exact ByteArray.toList_eq _
    rw [this]
    rfl
  have HX := Lib.hid (parts_le 47 _ _ (Nat.le_refl (p.extract 1 p.size).size))
  clear hp
  go_enter Tryz.func89, Tryz.ntmps89
  go_wp2_with fail
  refine Calls.mono (split_any _ 47 w hm (by simp; omega)) ?_
  obtain ⟨xs, hxs⟩ : ∃ xs, xs = parts 47 (p.extract 1 p.size) := ⟨_, rfl⟩
  rw [← hxs] at HX ⊢
  have HXS := Lib.hid hxs
  clear hxs
  obtain ⟨m, hmm⟩ : ∃ m, m = xs.length := ⟨_, rfl⟩
  rw [← hmm]
  have HL := Lib.hid hmm
  have hml : m ≤ 1048577 := by have := HX.out.1; rw [← HL.out] at this; simp at this; omega
  clear hmm
  rintro e w1 ⟨rfl, hr1, hx1⟩
  obtain ⟨g, hg⟩ : ∃ g, g = w.heap.size := ⟨_, rfl⟩
  rw [← hg] at hr1 ⊢
  have HG := Lib.hid hg
  clear hg
  have hw1 : g ≤ w1.heap.size := by rw [HG.out]; exact hx1.size
  have HR1 := Lib.hid (And.intro hr1 hx1)
  have HM := Lib.hid hm
  clear hr1 hx1 hm
  go_wp2_with fail
  go_loopw [20] (fun q wr => ∃ i : Nat, i ≤ m ∧ q = .int .i64 (i : Int) ∧ Hid ((∀ j (hj : j < i) (hj' : j < xs.length), okS xs[j] = true) ∧ SRow g wr (.slice (some ⟨g, 0, none⟩) m m) ((xs.take i).map stepF ++ xs.drop i) ∧ Ext w wr)) (fun q _ => m - (intOf q).toNat)
  case atStart => exact ⟨0, Nat.zero_le _, rfl, fun j hj => absurd hj (by omega), by simpa using HR1.out.1, HR1.out.2⟩
  case round =>
    obtain ⟨i, hi, rfl, hI⟩ := hrel
    by_cases hlt : i < m
    · have hil : i < xs.length := by rw [← HL.out]; exact hlt
      obtain ⟨s, hse⟩ : ∃ s, s = xs[i] := ⟨_, rfl⟩
      have hss : s.size ≤ 1048576 := by rw [hse]; have := HX.out.2 _ (List.getElem_mem hil); simp at this; omega
      have hcell := (hI.out.2.1.set (i := i) (by simp; omega) s).2.2.2
      rw [stepF_at xs hil, ← hse] at hcell
      have HSE := Lib.hid hse
      clear hse
      go_wp2_with fail
      refine Calls.mono (split_any s 126 wr (HM.out.ext hI.out.2.2) hss) ?_
      obtain ⟨ys, hys⟩ : ∃ ys, ys = parts 126 s := ⟨_, rfl⟩
      have hyl := (parts_le 126 _ s (Nat.le_refl _)).1
      have hyp : 1 ≤ (parts 126 s).length := by rw [parts_len 126 _ s (Nat.le_refl _)]; omega
      rw [← hys] at hyl hyp ⊢
      have HYS := Lib.hid hys
      clear hys
      obtain ⟨n, hn⟩ : ∃ n, n = ys.length := ⟨_, rfl⟩
      rw [← hn] at hyl hyp ⊢
      have HN := Lib.hid hn
      clear hn
      rintro e w2 ⟨rfl, hr2, hx2⟩
      obtain ⟨g2, hg2⟩ : ∃ g2, g2 = wr.heap.size := ⟨_, rfl⟩
      rw [← hg2] at hr2 ⊢
      have HG2 := Lib.hid hg2
      clear hg2
      obtain ⟨q1, q2, o2, hsl0, hat⟩ := hr2.rest1 (by rw [← HN.out]; exact hyp)
      clear q1 q2
      have hsl : ∀ wx, (Instr.slice 26 (.slice (some ⟨g2, 0, none⟩) n n) (some (.int .i64 1)) none none).run Tryz.prog wx = .ok (.slice (some ⟨g2, o2, none⟩) (n - 1) (n - 1)) wx := fun wx => by
        have h := run_slice_l (P := Tryz.prog) (w := wx) 26 (some ⟨g2, 0, none⟩) n n Tryz.underlying26 .i64 1 (by omega) (by omega)
        rw [h]
        have e1 : (sizeOf (Tryz.prog.elem 26)).run Tryz.prog wx = .ok 1 wx := by kernel_rfl
        rw [e1]
        have e2 : (1 : Int).toNat = 1 := rfl
        simp only [Result.andThen, e2, hsl0]
      have HAT := Lib.hid hat
      have HR2 := Lib.hid (And.intro (hI.out.2.1.ext hx2) (hI.out.2.2.trans hx2))
      have HOK := Lib.hid hI.out.1
      obtain ⟨n1, hn1⟩ : ∃ n1, n1 = n - 1 := ⟨_, rfl⟩
      rw [← hn1] at hsl
      have HN1 : Hid (n1 = ys.tail.length) := by unfold Hid; rw [List.length_tail, ← HN.out, hn1]
      have hnb : n1 ≤ 1048577 := by omega
      clear hr2 hx2 hsl0 hat hcell hI hn1 hyl hyp hss
      go_wp2_with fail
      go_loopw [30] (fun q wx => ∃ k : Nat, k ≤ n1 ∧ q = .int .i64 (k : Int) ∧ wx = w2 ∧ Hid (∀ j (hj : j < k) (hj' : j < ys.tail.length), goodB ys.tail[j] = true)) (fun q _ => n1 - (intOf q).toNat)
      case atStart => exact ⟨0, Nat.zero_le _, rfl, rfl, fun j hj => absurd hj (by omega)⟩
      case round =>
        obtain ⟨k, hk, rfl, rfl, hJ⟩ := hrel
        by_cases hkl : k < n1
        · have hkt : k < ys.tail.length := by rw [← HN1.out]; exact hkl
          have hcell := HAT.out k hkt
          obtain ⟨t, ht⟩ : ∃ t, t = ys.tail[k] := ⟨_, rfl⟩
          rw [← ht] at hcell
          have HT := Lib.hid ht
          clear ht hsl
          have HBAD : goodB t = false → Hid (stepsR p = ([], 16)) := fun hb => by
            refine steps_bad HP.out (i := i) (by rw [← HXS.out]; exact hil) ?_
            have e : (parts 47 (p.extract 1 p.size))[i]'(by rw [← HXS.out]; exact hil) = s := by rw [HSE.out]; simp only [HXS.out]
            rw [e]
            unfold okS
            rw [← HYS.out]
            exact List.all_eq_false.2 ⟨t, by rw [HT.out]; exact List.getElem_mem hkt, by rw [hb]; simp⟩
          have HGOOD : goodB t = true → Hid (∀ j (hj : j < k + 1) (hj' : j < ys.tail.length), goodB ys.tail[j] = true) := fun hb j hj hj' => by
            by_cases e : j = k
            · subst e; rw [← HT.out]; exact hb
            · exact hJ.out j (by omega) hj'
          rcases first_ways t with ht | ⟨c, ht1, ⟨ht0, ht2⟩, ht3⟩
          · have hbad := HBAD (by unfold goodB; rw [ht]; rfl)
            have b1 : t.toList.isEmpty = true := by rw [ByteArray.toList_eq, ht]; rfl
            clear HBAD HGOOD ht
            go_wp2
            go_ret2
            exact steps_none hbad.out HR2.out.2
          · have b1 : t.toList.isEmpty = false := by
              have h5 : t.toList.length = t.size := by rw [ByteArray.toList_eq]; simp
              cases h6 : t.toList with
              | nil => rw [h6] at h5; simp at h5; omega
              | cons _ _ => rfl
            by_cases hc : c = 48 ∨ c = 49
            · have hgood := HGOOD (by rw [ht3]; rcases hc with rfl | rfl <;> rfl)
              clear HBAD HGOOD ht3
              rcases hc with rfl | rfl
              all_goals
                go_wp2
                go_roundw
                case rel => exact ⟨k + 1, hkl, by go_num, (by first | rfl | trivial), hgood⟩
                case measure => simp [intOf]; omega
            · have hbad := HBAD (by rw [ht3]; simp at hc; simp [hc])
              have b2 : ((c.toNat : Int) != 48) = true := by rw [bne_iff_ne]; intro e; exact hc (.inl (UInt8.toNat_inj.1 (by simpa using Int.ofNat_inj.1 e)))
              have b3 : ((c.toNat : Int) != 49) = true := by rw [bne_iff_ne]; intro e; exact hc (.inr (UInt8.toNat_inj.1 (by simpa using Int.ofNat_inj.1 e)))
              clear HBAD HGOOD ht3 hc
              go_wp2
              go_ret2
              exact steps_none hbad.out HR2.out.2
        · have hkn : k = ys.tail.length := by rw [← HN1.out]; omega
          have HOK' : Hid (∀ j (hj : j < i + 1) (hj' : j < xs.length), okS xs[j] = true) := fun j hj hj' => by
            by_cases e : j = i
            · subst e
              rw [← HSE.out]
              unfold okS
              rw [← HYS.out]
              refine List.all_eq_true.2 fun t ht => ?_
              obtain ⟨q, hq, rfl⟩ := List.mem_iff_getElem.1 ht
              exact hJ.out q (by omega) hq
            · exact HOK.out j (by omega) hj'
          clear hkn
          have hss : s.size ≤ 1048576 := by rw [HSE.out]; have := HX.out.2 _ (List.getElem_mem hil); simp at this; omega
          have HMM := Lib.hid (HM.out.ext HR2.out.2)
          clear hsl
          go_wp2_with fail
          refine Calls.mono (replace_any s ⟨#[126, 49]⟩ ⟨#[47]⟩ _ HMM.out (by omega) (by decide) (by decide) (by decide)) ?_
          rintro e w3 ⟨rfl, hx3⟩
          obtain ⟨s1, hs1⟩ : ∃ s1 : ByteArray, s1 = ⟨(rep [126, 49] [47] s.data.toList).toArray⟩ := ⟨_, rfl⟩
          have HS1 := Lib.hid hs1
          have hss1 : s1.size ≤ 4194304 := by
            have h1 := rep_le (old := [126, 49]) (new := [47]) (by decide) (by decide) _ s.data.toList (Nat.le_refl _)
            have h2 : s.data.toList.length = s.size := by simp
            have h3 : s1.size = (rep [126, 49] [47] s.data.toList).length := by rw [hs1]; simp [ByteArray.size]
            omega
          have e1 : (⟨(rep (ByteArray.mk #[126, 49]).data.toList (ByteArray.mk #[47]).data.toList s.data.toList).toArray⟩ : ByteArray) = s1 := hs1.symm
          rw [e1]
          clear e1 hs1
          have HMM3 := Lib.hid (HMM.out.ext hx3)
          have HX3 := Lib.hid hx3
          clear hx3
          go_wp2_with fail
          refine Calls.mono (replace_any s1 ⟨#[126, 48]⟩ ⟨#[126]⟩ _ HMM3.out (Nat.le_trans hss1 (by decide)) (by decide) (by decide) (by decide)) ?_
          rintro e w4 ⟨rfl, hx4⟩
          have e1 : (⟨(rep (ByteArray.mk #[126, 48]).data.toList (ByteArray.mk #[126]).data.toList s1.data.toList).toArray⟩ : ByteArray) = stepF s := by rw [HS1.out]; rfl
          rw [e1]
          clear e1
          obtain ⟨y, hy⟩ : ∃ y, y = stepF s := ⟨_, rfl⟩
          rw [← hy]
          have HX4 := Lib.hid (HX3.out.trans hx4)
          obtain ⟨hr5, hg5, hf5, hc5⟩ := (HR2.out.1.ext HX4.out).set (i := i) (by simp; omega) y
          have HR5 : Hid (SRow g (w4.setCell ⟨g, i, none⟩ (.string y)) (.slice (some ⟨g, 0, none⟩) m m) ((xs.take (i + 1)).map stepF ++ xs.drop (i + 1)) ∧ Ext w (w4.setCell ⟨g, i, none⟩ (.string y))) := by
            refine ⟨?_, (HR2.out.2.trans HX4.out).grown hg5 (HR2.out.2.trans HX4.out).size (by intro q e; injection e with e; have := HG.out; omega)⟩
            rw [← stepF_row xs hil, ← HSE.out, ← hy]
            exact hr5
          clear hx4 hy hr5 hg5 HX
          go_wp2
          go_roundw
          case rel => exact ⟨i + 1, hlt, by go_num, HOK'.out, HR5.out⟩
          case measure => simp [intOf]; omega
    · obtain rfl : i = m := by omega
      have HD : Hid (SRow g wr (.slice (some ⟨g, 0, none⟩) i i) (xs.map stepF)) := by
        have h := hI.out.2.1
        have e : (xs.take i).map stepF ++ xs.drop i = xs.map stepF := by rw [HL.out, List.take_length, List.drop_length, List.append_nil]
        rw [e] at h
        exact h
      have HGD : Hid (stepsR p = if 10 < i then ([], 2) else (xs.map stepF, 0)) := by
        have h := steps_good HP.out fun j hj => by
          have hj' : j < xs.length := by rw [HXS.out]; exact hj
          have := hI.out.1 j (by rw [HL.out]; exact hj') hj'
          have e : (parts 47 (p.extract 1 p.size))[j] = xs[j] := by simp only [HXS.out]
          rw [e]
          exact this
        rw [← HXS.out, ← HL.out] at h
        exact h
      have HX9 := Lib.hid hI.out.2.2
      clear hI hi hlt HX
      by_cases h10 : 10 < i
      · have b1 : decide (10 < (i : Int)) = true := decide_eq_true (by omega)
        have b2 : decide (10 < i) = true := decide_eq_true h10
        have HF : Hid (stepsR p = ([], 2)) := by unfold Hid; rw [HGD.out, if_pos h10]
        clear h10
        go_wp2
        go_ret2
        exact steps_none HF.out HX9.out
      · have b1 : decide (10 < (i : Int)) = false := decide_eq_false (by omega)
        have b2 : decide (10 < i) = false := decide_eq_false h10
        have HF : Hid (stepsR p = (xs.map stepF, 0)) := by unfold Hid; rw [HGD.out, if_neg h10]
        clear h10
        go_wp2
        go_ret2
        exact ⟨some ⟨g, 0, none⟩, i, by rw [HF.out]; simp [← HL.out], by rw [HF.out, ← HG.out]; simp only [List.length_map, ← HL.out]; exact HD.out, HX9.out⟩
theorem byte_ne {c d : UInt8} (h : c ≠ d) : ((c.toNat : Int) == (d.toNat : Int)) = false := beq_eq_false_iff_ne.2 fun e => h (UInt8.toNat_inj.1 (Int.ofNat_inj.1 e))
theorem empty_iff {p : ByteArray} (h : p.data.toList = []) : p.toList.isEmpty = true := by rw [ByteArray.toList_eq, h]; rfl
theorem cons_at {p : ByteArray} {c : UInt8} {r : List UInt8} (h : p.data.toList = c :: r) : p.toList.isEmpty = false ∧ ∃ h : 0 < p.size, p[0] = c := by
  refine ⟨by rw [ByteArray.toList_eq, h]; rfl, ?_⟩
  have hs : 0 < p.size := by
    have : p.data.toList.length = p.size := by simp
    rw [h] at this
    simp at this
    omega
  refine ⟨hs, ?_⟩
  have h1 : p.data.toList[0]'(by simpa using hs) = p[0] := rfl
  rw [← h1]
  simp only [h]
  rfl
set_option maxRecDepth 100000 in
theorem steps_any (p : ByteArray) (w : World) (hs : p.size ≤ 1048576) (hm : MaxC w) : Calls Tryz.prog 89 #[.string p] w (StepsPost w p) := by
  cases h : p.data.toList with
  | nil =>
    have HF : Hid (stepsR p = ([], 0)) := by unfold Hid stepsR; rw [h]
    have b1 := empty_iff h
    have HX : Hid (Ext w w) := Below.refl _ _
    clear h
    go_enter Tryz.func89, Tryz.ntmps89
    go_wp2
    go_ret2
    exact steps_none HF.out HX.out
  | cons c r =>
    by_cases hc : c = 47
    · subst hc
      exact steps_main p r w hs hm h
    · have HF : Hid (stepsR p = ([], 16)) := by unfold Hid stepsR; rw [h]; simp only [if_neg hc]
      obtain ⟨b1, h0, h1⟩ := cons_at h
      have b2 : ((c.toNat : Int) != 47) = true := by rw [bne_iff_ne]; intro e; exact hc (UInt8.toNat_inj.1 (by simpa using Int.ofNat_inj.1 e))
      have HX : Hid (Ext w w) := Below.refl _ _
      clear h hc
      go_enter Tryz.func89, Tryz.ntmps89
      go_wp2
      go_ret2
      exact steps_none HF.out HX.out
end Go.Proofs.YtahinicpceokcaaGreatDoor.Sx
namespace Go.Proofs.YtahinicpceokcaaGreatDoor.Sx
open Go Go.RowKit Go.Proofs.YtahinicpceokcaaGreatDoor.Pt
/-- Where the loop stands at place k: the list L so far. -/
def At (p : ByteArray) (r : List UInt8) (k : Nat) (L : List ByteArray) : Prop :=
  (k = 0 ∧ L = []) ∨ ∃ done cur, L = (done ++ [cur]).map mkB ∧ cur.length ≤ k ∧ scan (p.data.toList.drop k) done cur = scan r [] []
theorem scan_all (r : List UInt8) : scan r [] [] = unescAll (segs 47 r) := by
  rw [scan_segs _ _ _ _ (Nat.le_refl _)]
  cases h : unescAll (segs 47 r) with
  | none => rfl
  | some l =>
    have hl := unescAll_length h
    cases l with
    | nil => exact absurd (List.length_eq_zero_iff.1 hl.symm) (segs_ne 47 r)
    | cons a l => simp [joined]
theorem stepsR_scan {p : ByteArray} {r : List UInt8} (h : p.data.toList = 47 :: r) : stepsR p = match scan r [] [] with | none => ([], 16) | some l => if 10 < l.length then ([], 2) else (l.map mkB, 0) := by
  unfold stepsR
  rw [h, scan_all]
  simp only [if_true]
  all_goals (cases unescAll (segs 47 r) <;> rfl)
theorem at_end {p : ByteArray} {r : List UInt8} {k : Nat} {L : List ByteArray} (h : p.data.toList = 47 :: r) (hk : k = p.size) (ha : At p r k L) : stepsR p = if 10 < L.length then ([], 2) else (L, 0) := by
  have hs : p.data.toList.length = p.size := by simp
  rcases ha with ⟨h0, _⟩ | ⟨done, cur, hL, _, hsc⟩
  · rw [h] at hs; simp at hs; omega
  · rw [List.drop_of_length_le (by omega)] at hsc
    rw [stepsR_scan h, ← hsc]
    simp only [scan]
    rw [hL, List.length_map]
theorem at_slash {p : ByteArray} {r : List UInt8} {k : Nat} {L : List ByteArray} {q : List UInt8} (h : p.data.toList = 47 :: r) (hq : p.data.toList.drop k = 47 :: q) (ha : At p r k L) : At p r (k + 1) (L ++ [mkB []]) := by
  have hq' : p.data.toList.drop (k + 1) = q := by rw [← List.drop_drop, hq]; rfl
  refine .inr ?_
  rcases ha with ⟨h0, rfl⟩ | ⟨done, cur, hL, hc, hsc⟩
  · subst h0
    rw [h] at hq
    injection hq with _ hq
    exact ⟨[], [], rfl, by simp, by rw [hq', hq]⟩
  · refine ⟨done ++ [cur], [], by rw [hL]; simp, by simp, ?_⟩
    rw [hq', ← hsc, hq, scan_slash]
theorem at_ne {p : ByteArray} {r : List UInt8} {k : Nat} {L : List ByteArray} {c : UInt8} {q : List UInt8} (h : p.data.toList = 47 :: r) (hq : p.data.toList.drop k = c :: q) (hc : c ≠ 47) (ha : At p r k L) :
    ∃ done cur, L = done.map mkB ++ [mkB cur] ∧ cur.length ≤ k ∧ scan (c :: q) done cur = scan r [] [] := by
  rcases ha with ⟨h0, rfl⟩ | ⟨done, cur, hL, hl, hsc⟩
  · subst h0
    rw [h] at hq
    injection hq with hq _
    exact absurd hq.symm hc
  · exact ⟨done, cur, by rw [hL]; simp, hl, by rw [← hq]; exact hsc⟩
theorem at_next {p : ByteArray} {r : List UInt8} {k : Nat} {done : List (List UInt8)} {cur q : List UInt8} (hq : p.data.toList.drop k = q) (hl : cur.length ≤ k) (hsc : scan q done cur = scan r [] []) : At p r k (done.map mkB ++ [mkB cur]) :=
  .inr ⟨done, cur, by simp, hl, by rw [hq]; exact hsc⟩
theorem mkB_snoc (l : List UInt8) (c : UInt8) : mkB l ++ oneS c = mkB (l ++ [c]) := by
  apply ByteArray.ext
  simp [mkB]
theorem set_last {α : Type} (l : List α) (x y : α) {i : Nat} (h : i = l.length) : (l ++ [x]).set i y = l ++ [y] := by
  subst h
  rw [List.set_append_right _ _ (Nat.le_refl _), Nat.sub_self]
  rfl
set_option maxRecDepth 100000 in
set_option maxHeartbeats 4000000 in
theorem rsteps_main (p : ByteArray) (r : List UInt8) (w : World) (hs : p.size ≤ 1048576) (hp : p.data.toList = 47 :: r) :
    Calls Tryz.prog 54 #[.string p] w (StepsPost w p) := by
  have HP := Lib.hid hp
  obtain ⟨b1, h0, h1⟩ := cons_at hp
  clear hp
  go_enter Tryz.func54, Tryz.ntmps54
  go_wp2_with fail
  go_loopw [4, 5] (fun o q wr => ∃ (k : Nat) (L : List ByteArray) (A : Option Addr) (c n : Nat), k ≤ p.size ∧ n ≤ k ∧ q = .int .i64 (k : Int) ∧ o = .slice A n c ∧ Hid (n = L.length ∧ SRow w.heap.size wr (.slice A n c) L ∧ Ext w wr ∧ At p r k L)) (fun _ q _ => p.size - (intOf q).toNat)
  case atStart => exact ⟨0, [], none, 0, 0, Nat.zero_le _, Nat.zero_le _, rfl, rfl, rfl, SRow.nil, Below.refl _ _, .inl ⟨rfl, rfl⟩⟩
  case round =>
    obtain ⟨k, L, A, c0, n, hk, hnk, rfl, rfl, hI⟩ := hrel
    by_cases hlt : k < p.size
    · obtain ⟨c, hc⟩ : ∃ c, p[k] = c := ⟨_, rfl⟩
      have hq : p.data.toList.drop k = c :: p.data.toList.drop (k + 1) := by
        rw [List.drop_eq_getElem_cons (by simpa using hlt), ← hc]
        rfl
      have HQ := Lib.hid hq
      clear hq h1
      by_cases h47 : c = 47
      · subst h47
        have HAT := Lib.hid (at_slash HP.out HQ.out hI.out.2.2.2)
        have HE := Lib.hid (fun x => (Below.refl wr.heap.size wr).alloc (Nat.le_refl _) x)
        go_wp2_with (at_builtin; refine append_str (by rfl) _ _ (by rfl) w.heap.size wr.heap.size n ⟨#[]⟩ _ _ L (by rfl) (by rfl) (hI.out.2.1.ext (HE.out _)) (heap_new rfl) hI.out.1.symm (by omega) ?c1 ?_)
        case c1 => exact Nat.le_trans hI.out.2.2.1.size (HE.out _).size
        intro g c9 w4 ho hgr hat
        have hX4 : Ext w w4 := (hI.out.2.2.1.trans (HE.out _)).grown hgr (Nat.le_trans hI.out.2.2.1.size (HE.out _).size) (fun q e => (hI.out.2.1.block q e).1)
        have H4 : Hid (n + 1 = (L ++ [mkB []]).length ∧ SRow w.heap.size w4 (.slice (some ⟨g, 0, none⟩) (n + 1) c9) (L ++ [mkB []]) ∧ Ext w w4 ∧ At p r (k + 1) (L ++ [mkB []])) := ⟨by simp [hI.out.1], ho, hX4, HAT.out⟩
        clear ho hgr hat hX4
        go_wp2
        go_roundw
        case rel => exact ⟨k + 1, L ++ [mkB []], some ⟨g, 0, none⟩, c9, n + 1, by omega, by omega, by go_num, rfl, H4⟩
        case measure => simp [intOf]; omega
      · have hc47 : ((c.toNat : Int) == 47) = false := byte_ne h47
        obtain ⟨done, cur, hL, hcl, hsc⟩ := at_ne HP.out HQ.out h47 hI.out.2.2.2
        have HSC := Lib.hid hsc
        have HCL := Lib.hid hcl
        have hn1 : n = done.length + 1 := by rw [hI.out.1, hL]; simp
        rw [hL] at hI
        obtain ⟨nd, hnd⟩ : ∃ nd, nd = done.length := ⟨_, rfl⟩
        rw [← hnd] at hn1
        have HND := Lib.hid hnd
        subst hn1
        obtain ⟨g, rfl, q1, q2, q3, q4, hcells⟩ := hI.out.2.1.cells (by simp)
        clear q1 q2 q3 q4
        have hlast := hcells nd (by simp [HND.out])
        have hlast' : wr.cell? ⟨g, 0 + nd, none⟩ = some (.string (mkB cur)) := by rw [hlast]; simp [HND.out]
        have hfr := (hI.out.2.1.set (i := nd) (by simp [HND.out]) (mkB cur)).2.2.1
        clear hcells hlast hL hsc hnd
        obtain ⟨u, hu⟩ : ∃ u, u = mkB cur := ⟨_, rfl⟩
        rw [← hu] at hlast'
        have HU := Lib.hid hu
        have hus : u.size ≤ 1048576 := by rw [hu]; simp [mkB, ByteArray.size]; omega
        clear hu
        by_cases h126 : c = 126
        · subst h126
          by_cases hlt2 : k + 1 < p.size
          · have b2 : decide ((k : Int) + 1 < (p.size : Int)) = true := decide_eq_true (by omega)
            have b3 : decide (k + 1 < p.size) = true := decide_eq_true hlt2
            obtain ⟨d, hd⟩ : ∃ d, p[k + 1] = d := ⟨_, rfl⟩
            have hq2 : p.data.toList.drop (k + 1) = d :: p.data.toList.drop (k + 2) := by
              rw [List.drop_eq_getElem_cons (by simpa using hlt2), ← hd]
              rfl
            have HQ2 := Lib.hid hq2
            rw [hq2] at HSC
            clear hq2
            by_cases h48 : d = 48
            · subst h48
              clear h47
              go_upto_region 17 with fail
              have hgl : g < wr.heap.size := (hI.out.2.1.block g rfl).2
              have hlast : wr.cell? ⟨g, nd, none⟩ = some (.string u) := by rw [Nat.zero_add] at hlast'; exact hlast'
              have HAT : Hid (At p r (k + 2) (done.map mkB ++ [mkB (cur ++ [126])])) := at_next rfl (by simp; have := HCL.out; omega) (by rw [← scan_zero]; exact HSC.out)
              have CH : Hid (∀ wk, Ext wr wk → Calls Tryz.prog 69 #[.int .i64 (126 : Int)] wk fun e w' => e = .returned (.string (oneS 126)) ∧ Ext wr w' ∧ w'.cell? ⟨g, nd, none⟩ = some (.string u) ∧ w'.frozen? ⟨g, nd, none⟩ = false) := fun wk hk =>
                (chr_any 126 wk).mono fun e w' ⟨he, hx⟩ => ⟨he, hk.trans hx, ((hk.trans hx).cell (p := ⟨g, nd, none⟩) hgl).trans hlast, ((hk.trans hx).frozen (p := ⟨g, nd, none⟩) hgl).trans hfr⟩
              have hwc : IntKind.i64.wrap (126 : Int) = (126 : Int) := IntWalk.i64_in _ (by omega)
              have hwr : IntKind.i64.wrap (nd : Int) = (nd : Int) := IntWalk.i64_in _ (by omega)
              have hn0 : (0 : Int) ≤ (nd : Int) := by omega
              have hn1 : (nd : Int) < (nd : Int) + 1 := by omega
              have hsum : (9223372036854775807 < u.size + 1) = False := by simp; omega
              have hxx : Ext wr wr := Below.refl _ _
              clear hlast' hcl
              go_region_law (first
                | (go_simp; go_at_call 69; with_reducible refine (CH.out _ (by first | assumption | (apply Below.drew; assumption))).mono ?_; rintro e w5 ⟨rfl, x5, r5, s5⟩))
              all_goals
                obtain ⟨y, hy⟩ : ∃ y, y = u ++ oneS 126 := ⟨_, rfl⟩
                have e1 : (u ++ ({ data := #[126] } : ByteArray)) = y := hy.symm
                try rw [e1]
                clear e1
                obtain ⟨hr6, hg6, _, _⟩ := (hI.out.2.1.ext x5).set (i := nd) (by simp [HND.out]) y
                have H6 : Hid (nd + 1 = (done.map mkB ++ [mkB (cur ++ [126])]).length ∧ SRow w.heap.size (w5.setCell ⟨g, nd, none⟩ (.string y)) (.slice (some ⟨g, 0, none⟩) (nd + 1) c0) (done.map mkB ++ [mkB (cur ++ [126])]) ∧ Ext w (w5.setCell ⟨g, nd, none⟩ (.string y)) ∧ At p r (k + 2) (done.map mkB ++ [mkB (cur ++ [126])])) := by
                  refine ⟨by simp [HND.out], ?_, (hI.out.2.2.1.trans x5).grown hg6 (Nat.le_trans hI.out.2.2.1.size x5.size) (by intro q e; injection e with e; have := (hI.out.2.1.block g rfl).1; omega), HAT.out⟩
                  have e2 := set_last (done.map mkB) (mkB cur) y (i := nd) (by simp [HND.out])
                  rw [e2, hy, HU.out, mkB_snoc] at hr6
                  rw [hy, HU.out, mkB_snoc]
                  exact hr6
                clear hr6 hg6 hy x5 r5 s5 hwc hwr hn0 hn1 hsum hxx hlast hfr
                go_wp2
                go_roundw
                case rel => exact ⟨k + 2, done.map mkB ++ [mkB (cur ++ [126])], some ⟨g, 0, none⟩, c0, nd + 1, by omega, by omega, by go_num, rfl, H6⟩
                case measure => simp [intOf]; omega
            · by_cases h49 : d = 49
              · subst h49
                clear h47 h48
                go_upto_region 17 with fail
                have hgl : g < wr.heap.size := (hI.out.2.1.block g rfl).2
                have hlast : wr.cell? ⟨g, nd, none⟩ = some (.string u) := by rw [Nat.zero_add] at hlast'; exact hlast'
                have HAT : Hid (At p r (k + 2) (done.map mkB ++ [mkB (cur ++ [47])])) := at_next rfl (by simp; have := HCL.out; omega) (by rw [← scan_one]; exact HSC.out)
                have CH : Hid (∀ wk, Ext wr wk → Calls Tryz.prog 69 #[.int .i64 (47 : Int)] wk fun e w' => e = .returned (.string (oneS 47)) ∧ Ext wr w' ∧ w'.cell? ⟨g, nd, none⟩ = some (.string u) ∧ w'.frozen? ⟨g, nd, none⟩ = false) := fun wk hk =>
                  (chr_any 47 wk).mono fun e w' ⟨he, hx⟩ => ⟨he, hk.trans hx, ((hk.trans hx).cell (p := ⟨g, nd, none⟩) hgl).trans hlast, ((hk.trans hx).frozen (p := ⟨g, nd, none⟩) hgl).trans hfr⟩
                have hwc : IntKind.i64.wrap (47 : Int) = (47 : Int) := IntWalk.i64_in _ (by omega)
                have hwr : IntKind.i64.wrap (nd : Int) = (nd : Int) := IntWalk.i64_in _ (by omega)
                have hn0 : (0 : Int) ≤ (nd : Int) := by omega
                have hn1 : (nd : Int) < (nd : Int) + 1 := by omega
                have hsum : (9223372036854775807 < u.size + 1) = False := by simp; omega
                have hxx : Ext wr wr := Below.refl _ _
                clear hlast' hcl
                go_region_law (first
                  | (go_simp; go_at_call 69; with_reducible refine (CH.out _ (by first | assumption | (apply Below.drew; assumption))).mono ?_; rintro e w5 ⟨rfl, x5, r5, s5⟩))
                all_goals
                  obtain ⟨y, hy⟩ : ∃ y, y = u ++ oneS 47 := ⟨_, rfl⟩
                  have e1 : (u ++ ({ data := #[47] } : ByteArray)) = y := hy.symm
                  try rw [e1]
                  clear e1
                  obtain ⟨hr6, hg6, _, _⟩ := (hI.out.2.1.ext x5).set (i := nd) (by simp [HND.out]) y
                  have H6 : Hid (nd + 1 = (done.map mkB ++ [mkB (cur ++ [47])]).length ∧ SRow w.heap.size (w5.setCell ⟨g, nd, none⟩ (.string y)) (.slice (some ⟨g, 0, none⟩) (nd + 1) c0) (done.map mkB ++ [mkB (cur ++ [47])]) ∧ Ext w (w5.setCell ⟨g, nd, none⟩ (.string y)) ∧ At p r (k + 2) (done.map mkB ++ [mkB (cur ++ [47])])) := by
                    refine ⟨by simp [HND.out], ?_, (hI.out.2.2.1.trans x5).grown hg6 (Nat.le_trans hI.out.2.2.1.size x5.size) (by intro q e; injection e with e; have := (hI.out.2.1.block g rfl).1; omega), HAT.out⟩
                    have e2 := set_last (done.map mkB) (mkB cur) y (i := nd) (by simp [HND.out])
                    rw [e2, hy, HU.out, mkB_snoc] at hr6
                    rw [hy, HU.out, mkB_snoc]
                    exact hr6
                  clear hr6 hg6 hy x5 r5 s5 hwc hwr hn0 hn1 hsum hxx hlast hfr
                  go_wp2
                  go_roundw
                  case rel => exact ⟨k + 2, done.map mkB ++ [mkB (cur ++ [47])], some ⟨g, 0, none⟩, c0, nd + 1, by omega, by omega, by go_num, rfl, H6⟩
                  case measure => simp [intOf]; omega
              · have e48 : ((d.toNat : Int) == 48) = false := byte_ne h48
                have e49 : ((d.toNat : Int) == 49) = false := byte_ne h49
                have HF : Hid (stepsR p = ([], 16)) := by unfold Hid; rw [stepsR_scan HP.out, ← HSC.out, scan_bad h48 h49]
                clear h47 h48 h49
                go_wp2
                go_ret2
                exact steps_none HF.out hI.out.2.2.1
          · have b2 : decide ((k : Int) + 1 < (p.size : Int)) = false := decide_eq_false (by omega)
            have b3 : decide (k + 1 < p.size) = false := decide_eq_false hlt2
            have HF : Hid (stepsR p = ([], 16)) := by
              have := HSC.out
              rw [List.drop_of_length_le (by simp [← ByteArray.size_data] at *; omega)] at this
              unfold Hid
              rw [stepsR_scan HP.out, ← this, scan_end]
            clear h47 hlt2
            go_wp2
            go_ret2
            exact steps_none HF.out hI.out.2.2.1
        · have hc126 : ((c.toNat : Int) == 126) = false := byte_ne h126
          have HS2 := Lib.hid (And.intro h47 h126)
          clear h47 h126
          go_upto_region 17 with fail
          have hgl : g < wr.heap.size := (hI.out.2.1.block g rfl).2
          have hlast : wr.cell? ⟨g, nd, none⟩ = some (.string u) := by rw [Nat.zero_add] at hlast'; exact hlast'
          have HAT : Hid (At p r (k + 1) (done.map mkB ++ [mkB (cur ++ [c])])) := at_next rfl (by simp; have := HCL.out; omega) (by rw [← scan_other HS2.out.1 HS2.out.2]; exact HSC.out)
          have CH : Hid (∀ wk, Ext wr wk → Calls Tryz.prog 69 #[.int .i64 (c.toNat : Int)] wk fun e w' => e = .returned (.string (oneS c)) ∧ Ext wr w' ∧ w'.cell? ⟨g, nd, none⟩ = some (.string u) ∧ w'.frozen? ⟨g, nd, none⟩ = false) := fun wk hk =>
            (chr_any c wk).mono fun e w' ⟨he, hx⟩ => ⟨he, hk.trans hx, ((hk.trans hx).cell (p := ⟨g, nd, none⟩) hgl).trans hlast, ((hk.trans hx).frozen (p := ⟨g, nd, none⟩) hgl).trans hfr⟩
          have hwc : IntKind.i64.wrap (c.toNat : Int) = (c.toNat : Int) := IntWalk.i64_in _ (by have := c.toNat_lt; omega)
          have hwr : IntKind.i64.wrap (nd : Int) = (nd : Int) := IntWalk.i64_in _ (by omega)
          have hn0 : (0 : Int) ≤ (nd : Int) := by omega
          have hn1 : (nd : Int) < (nd : Int) + 1 := by omega
          have hsum : (9223372036854775807 < u.size + 1) = False := by simp; omega
          have hxx : Ext wr wr := Below.refl _ _
          clear hlast' hcl
          go_region_law (first
            | (go_simp; go_at_call 69; with_reducible refine (CH.out _ (by first | assumption | (apply Below.drew; assumption))).mono ?_; rintro e w5 ⟨rfl, x5, r5, s5⟩))
          all_goals
            obtain ⟨y, hy⟩ : ∃ y, y = u ++ oneS c := ⟨_, rfl⟩
            have e1 : (u ++ ({ data := #[c] } : ByteArray)) = y := hy.symm
            try rw [e1]
            clear e1
            obtain ⟨hr6, hg6, _, _⟩ := (hI.out.2.1.ext x5).set (i := nd) (by simp [HND.out]) y
            have H6 : Hid (nd + 1 = (done.map mkB ++ [mkB (cur ++ [c])]).length ∧ SRow w.heap.size (w5.setCell ⟨g, nd, none⟩ (.string y)) (.slice (some ⟨g, 0, none⟩) (nd + 1) c0) (done.map mkB ++ [mkB (cur ++ [c])]) ∧ Ext w (w5.setCell ⟨g, nd, none⟩ (.string y)) ∧ At p r (k + 1) (done.map mkB ++ [mkB (cur ++ [c])])) := by
              refine ⟨by simp [HND.out], ?_, (hI.out.2.2.1.trans x5).grown hg6 (Nat.le_trans hI.out.2.2.1.size x5.size) (by intro q e; injection e with e; have := (hI.out.2.1.block g rfl).1; omega), HAT.out⟩
              have e2 := set_last (done.map mkB) (mkB cur) y (i := nd) (by simp [HND.out])
              rw [e2, hy, HU.out, mkB_snoc] at hr6
              rw [hy, HU.out, mkB_snoc]
              exact hr6
            clear hr6 hg6 hy x5 r5 s5 hwc hwr hn0 hn1 hsum hxx hlast hfr
            go_wp2
            go_roundw
            case rel => exact ⟨k + 1, done.map mkB ++ [mkB (cur ++ [c])], some ⟨g, 0, none⟩, c0, nd + 1, by omega, by omega, by go_num, rfl, H6⟩
            case measure => simp [intOf]; omega
    · obtain rfl : k = p.size := by omega
      have HF := Lib.hid (at_end HP.out rfl hI.out.2.2.2)
      have HN := Lib.hid hI.out.1
      have HR := Lib.hid (And.intro hI.out.2.1 hI.out.2.2.1)
      clear hlt hk hI h1
      by_cases h10 : 10 < n
      · have b2 : decide (10 < (n : Int)) = true := decide_eq_true (by omega)
        have b3 : decide (10 < n) = true := decide_eq_true h10
        have HG : Hid (stepsR p = ([], 2)) := by unfold Hid; rw [HF.out, if_pos (by rw [← HN.out]; exact h10)]
        clear h10 hnk
        go_wp2
        go_ret2
        exact steps_none HG.out HR.out.2
      · have b2 : decide (10 < (n : Int)) = false := decide_eq_false (by omega)
        have b3 : decide (10 < n) = false := decide_eq_false h10
        have HG : Hid (stepsR p = (L, 0)) := by unfold Hid; rw [HF.out, if_neg (by rw [← HN.out]; exact h10)]
        clear h10 hnk
        go_wp2
        go_ret2
        exact ⟨A, c0, by rw [HG.out]; simp [← HN.out], by rw [HG.out]; simp only [← HN.out]; exact HR.out.1, HR.out.2⟩
set_option maxRecDepth 100000 in
theorem rsteps_any (p : ByteArray) (w : World) (hs : p.size ≤ 1048576) : Calls Tryz.prog 54 #[.string p] w (StepsPost w p) := by
  cases h : p.data.toList with
  | nil =>
    have HF : Hid (stepsR p = ([], 0)) := by unfold Hid stepsR; rw [h]
    have b1 := empty_iff h
    have hz : p.size = 0 := by
      have : p.data.toList.length = p.size := by simp
      rw [h] at this
      exact this.symm
    have HX : Hid (Ext w w) := Below.refl _ _
    clear h hs
    go_enter Tryz.func54, Tryz.ntmps54
    go_wp2_with fail
    go_loopw [4, 5] (fun o q wr => q = .int .i64 0 ∧ o = .slice none 0 0 ∧ wr = w) (fun _ _ _ => 0)
    case atStart => exact ⟨rfl, rfl, rfl⟩
    case round =>
      obtain ⟨rfl, rfl, rfl⟩ := hrel
      go_wp2
      go_ret2
      exact steps_none HF.out HX.out
  | cons c r =>
    by_cases hc : c = 47
    · subst hc
      exact rsteps_main p r w hs h
    · have HF : Hid (stepsR p = ([], 16)) := by unfold Hid stepsR; rw [h]; simp only [if_neg hc]
      obtain ⟨b1, h0, h1⟩ := cons_at h
      have b2 : ((c.toNat : Int) != 47) = true := by rw [bne_iff_ne]; intro e; exact hc (UInt8.toNat_inj.1 (by simpa using Int.ofNat_inj.1 e))
      have HX : Hid (Ext w w) := Below.refl _ _
      clear h hc
      go_enter Tryz.func54, Tryz.ntmps54
      go_wp2
      go_ret2
      exact steps_none HF.out HX.out
end Go.Proofs.YtahinicpceokcaaGreatDoor.Sx
