/-
  Sorted lists of texts; the first value that fits. Plain words: no program in sight.
  Sort of texts as the reference does it, in plain words: how its two loops go. No program in sight.
  The reference's Sort of strings: the walk.
-/
import Derived.Lib.SlicesCompact
import Derived.Test.YtnccefeehkcneaaGreatDoorDec
import Derived.Test.YtnccefeehkcneaaGreatDoorCps
import Derived.Deep.QuietTactic
import Derived.BigQuiet
import Derived.Deep.RegionLaw
import Derived.Laws.Cover1
namespace Go.Proofs.YtnccefeehkcneaaGreatDoor.Qs
open Go Go.Lib Go.Proofs.YtnccefeehkcneaaGreatDoor.Dc
abbrev Tx := List UInt8
def tx (b : ByteArray) : Tx := b.data.toList
def bx (t : Tx) : ByteArray := ⟨t.toArray⟩
theorem tx_bx (t : Tx) : tx (bx t) = t := rfl
theorem lt_irr (a : Tx) : ¬ a < a := List.lt_irrefl a
/-- Put in behind all that are not greater. -/
def ins (s : Tx) (l : List Tx) : List Tx := l.takeWhile (fun x => decide (x ≤ s)) ++ s :: l.dropWhile (fun x => decide (x ≤ s))
def isort (l : List Tx) : List Tx := l.foldl (fun out s => ins s out) []
def Up (l : List Tx) : Prop := l.Pairwise (· ≤ ·)
theorem ins_perm (s : Tx) (l : List Tx) : (ins s l).Perm (s :: l) := by
  unfold ins
  refine List.perm_middle.trans ?_
  rw [List.takeWhile_append_dropWhile]
theorem ins_up {s : Tx} {l : List Tx} (h : Up l) : Up (ins s l) := by
  induction l with
  | nil => unfold ins Up; simp
  | cons x l ih =>
    have hp := List.pairwise_cons.1 h
    unfold ins
    by_cases hx : x ≤ s
    · rw [List.takeWhile_cons_of_pos (by simpa using hx), List.dropWhile_cons_of_pos (by simpa using hx), List.cons_append]
      refine List.pairwise_cons.2 ⟨fun y hy => ?_, ih hp.2⟩
      rcases List.mem_cons.1 ((ins_perm s l).mem_iff.1 hy) with rfl | hy
      · exact hx
      · exact hp.1 y hy
    · rw [List.takeWhile_cons_of_neg (by simpa using hx), List.dropWhile_cons_of_neg (by simpa using hx), List.nil_append]
      have hsx : s ≤ x := (List.le_total s x).resolve_right hx
      refine List.pairwise_cons.2 ⟨fun y hy => ?_, h⟩
      rcases List.mem_cons.1 hy with rfl | hy
      · exact hsx
      · exact List.le_trans hsx (hp.1 y hy)
theorem isort_go {l out : List Tx} (h : Up out) : Up (l.foldl (fun out s => ins s out) out) ∧ (l.foldl (fun out s => ins s out) out).Perm (out ++ l) := by
  induction l generalizing out with
  | nil => exact ⟨h, by simp⟩
  | cons x l ih =>
    obtain ⟨h1, h2⟩ := ih (ins_up (s := x) h)
    refine ⟨h1, h2.trans ?_⟩
    exact ((ins_perm x out).append_right l).trans (List.perm_middle.symm)
theorem isort_up (l : List Tx) : Up (isort l) := (isort_go (out := []) .nil).1
theorem isort_perm (l : List Tx) : (isort l).Perm l := (isort_go (l := l) (out := []) .nil).2
theorem merge_up (l : List Tx) : Up (l.mergeSort fun x y => decide (x ≤ y)) := by
  have h := List.pairwise_mergeSort (le := fun x y : Tx => decide (x ≤ y)) (fun a b c h1 h2 => by simp at *; exact List.le_trans h1 h2) (fun a b => by simp; exact List.le_total a b) l
  exact h.imp (by simp)
theorem up_one {a b : List Tx} (ha : Up a) (hb : Up b) (h : a.Perm b) : a = b :=
  List.Perm.eq_of_pairwise (fun _ _ _ _ h1 h2 => List.le_antisymm h1 h2) ha hb h
/-- Both sorts give the same. -/
theorem sort_same (l : List Tx) : (l.mergeSort fun x y => decide (x ≤ y)) = isort l :=
  up_one (merge_up l) (isort_up l) ((List.mergeSort_perm l _).trans (isort_perm l).symm)
end Go.Proofs.YtnccefeehkcneaaGreatDoor.Qs
namespace Go.Proofs.YtnccefeehkcneaaGreatDoor.Qs
open Go Go.RowKit Go.Lib Go.Proofs.YtnccefeehkcneaaGreatDoor.Dc
theorem less_lt : ∀ (x y : List UInt8), Op.bytesLess x y = decide (x < y)
  | [], [] => by simp [Op.bytesLess]
  | _ :: _, [] => by simp [Op.bytesLess]
  | [], _ :: _ => by simp [Op.bytesLess]
  | a :: x, b :: y => by
    rw [Op.bytesLess, less_lt x y]
    simp only [List.cons_lt_cons_iff]
    by_cases h1 : a < b <;> by_cases h2 : a = b <;> by_cases h3 : x < y <;> simp [h1, h2, h3]
/-- Less or the same: not greater. -/
theorem less_tot : ∀ a b : List UInt8, (Op.bytesLess b a || b == a) = !(Op.bytesLess a b)
  | [], [] => rfl
  | [], _ :: _ => rfl
  | _ :: _, [] => rfl
  | x :: a, y :: b => by
    have ih := less_tot a b
    unfold Op.bytesLess
    by_cases h : x = y
    · subst h
      simp [← ih]
    · have hn : x.toNat ≠ y.toNat := fun e => h (UInt8.toNat_inj.1 e)
      rcases Nat.lt_or_gt_of_ne hn with h1 | h1
      · have h2 : x < y := UInt8.lt_iff_toNat_lt.2 h1
        have h3 : ¬ y < x := fun e => by have := UInt8.lt_iff_toNat_lt.1 e; omega
        simp [h2, h3, Ne.symm h]
      · have h2 : y < x := UInt8.lt_iff_toNat_lt.2 h1
        have h3 : ¬ x < y := fun e => by have := UInt8.lt_iff_toNat_lt.1 e; omega
        simp [h2, h3, h]
/-- Not greater: the test of the reference's Sort. -/
def leB (x s : ByteArray) : Bool := Op.bytesLess x.toList s.toList || x.toList == s.toList
theorem leB_eq (x s : ByteArray) : leB x s = decide (tx x ≤ tx s) := by
  unfold leB
  rw [less_tot, less_lt, ByteArray.toList_eq, ByteArray.toList_eq]
  show _ = decide (¬ (tx s < tx x))
  unfold tx
  by_cases h : s.data.toList < x.data.toList <;> simp [h]
theorem while_at {α : Type} {p : α → Bool} : ∀ {l : List α} {k : Nat}, k ≤ l.length → (∀ i (hi : i < l.length), i < k → p l[i] = true) → (∀ h : k < l.length, p l[k] = false) → l.takeWhile p = l.take k ∧ l.dropWhile p = l.drop k
  | [], k, _, _, _ => by simp
  | x :: l, 0, _, _, h2 => by
    have : p x = false := h2 (by simp)
    simp [this]
  | x :: l, k + 1, hk, h1, h2 => by
    have hx : p x = true := h1 0 (by simp) (by omega)
    obtain ⟨e1, e2⟩ := while_at (p := p) (l := l) (k := k) (by simpa using hk) (fun i hi hik => h1 (i + 1) (by simpa using hi) (by omega)) (fun h => h2 (by simpa using h))
    simp [hx, e1, e2]
def sortB (xs : List ByteArray) : List ByteArray := (isort (xs.map tx)).map bx
theorem sortB_len (xs : List ByteArray) : (sortB xs).length = xs.length := by
  unfold sortB
  rw [List.length_map, (isort_perm _).length_eq, List.length_map]
theorem sortB_nil : sortB [] = [] := rfl
/-- One more text: put in where the inner loop stops. -/
theorem sortB_next {xs : List ByteArray} {j k : Nat} (hj : j < xs.length) (hk : k ≤ j) (h1 : ∀ i (hi : i < (sortB (xs.take j)).length), i < k → leB (sortB (xs.take j))[i] xs[j] = true) (h2 : ∀ h : k < (sortB (xs.take j)).length, leB (sortB (xs.take j))[k] xs[j] = false) :
    sortB (xs.take (j + 1)) = (sortB (xs.take j)).take k ++ ([xs[j]] ++ (sortB (xs.take j)).drop k) := by
  have hl : (isort ((xs.take j).map tx)).length = j := by rw [(isort_perm _).length_eq, List.length_map, List.length_take]; omega
  have hs : sortB (xs.take (j + 1)) = (ins (tx xs[j]) (isort ((xs.take j).map tx))).map bx := by
    unfold sortB isort
    rw [← List.take_append_getElem hj, List.map_append, List.foldl_append]
    rfl
  have hg : ∀ i (hi : i < (isort ((xs.take j).map tx)).length), leB (sortB (xs.take j))[i]! xs[j] = decide ((isort ((xs.take j).map tx))[i] ≤ tx xs[j]) := fun i hi => by
    rw [leB_eq]
    have hi2 : i < (sortB (xs.take j)).length := by rw [sortB_len, List.length_take]; omega
    have e : (sortB (xs.take j))[i] = bx ((isort ((xs.take j).map tx))[i]) := by simp [sortB]
    rw [getElem!_pos _ i hi2, e, tx_bx]
  obtain ⟨e1, e2⟩ := while_at (p := fun x => decide (x ≤ tx xs[j])) (l := isort ((xs.take j).map tx)) (k := k) (by omega)
    (fun i hi hik => by
      have hi2 : i < (sortB (xs.take j)).length := by rw [sortB_len, List.length_take]; omega
      have := h1 i hi2 hik
      rw [← getElem!_pos _ i hi2, hg i hi] at this
      exact this)
    (fun hi => by
      have hi2 : k < (sortB (xs.take j)).length := by rw [sortB_len, List.length_take]; omega
      have := h2 hi2
      rw [← getElem!_pos _ k hi2, hg k hi] at this
      exact this)
  rw [hs]
  unfold ins
  rw [e1, e2]
  unfold sortB
  rw [List.map_append, List.map_cons, List.map_take, List.map_drop]
  rfl
end Go.Proofs.YtnccefeehkcneaaGreatDoor.Qs
namespace Go.Proofs.YtnccefeehkcneaaGreatDoor.Qs
open Go Go.RowKit Go.Lib Go.Proofs.YtnccefeehkcneaaGreatDoor.Sx
set_option maxRecDepth 100000 in
theorem run_head_s (A : Option Addr) (n c k : Nat) (hA : ∀ a, A = some a → ∃ g, a = ⟨g, 0, none⟩) (hk : k ≤ c) (W : World) : (Instr.slice 37 (.slice A n c) none (some (.int .i64 (k : Int))) none).run Tryz.prog W = .ok (.slice A k c) W := by
  have h := run_slice_h (P := Tryz.prog) (w := W) 37 A n c Tryz.underlying37 .i64 (k : Int) (by omega) (by omega)
  rw [h]
  have e1 : (sizeOf (Tryz.prog.elem 37)).run Tryz.prog W = .ok 1 W := by kernel_rfl
  rw [e1]
  cases A with
  | none => simp [Result.andThen, sliced]
  | some a =>
    obtain ⟨g, rfl⟩ := hA a rfl
    simp only [Result.andThen, sliced]
    congr 2
    simp
    intro _
    rfl
set_option maxRecDepth 100000 in
theorem row_tail {base : Nat} {w : World} {A : Option Addr} {n c : Nat} {zs : List ByteArray} (h : SRow base w (.slice A n c) zs) (hn : zs.length = n) (l : Nat) (hl : l ≤ n) (hc : n ≤ c) :
    ∃ A', (∀ W, (Instr.slice 37 (.slice A n c) (some (.int .i64 (l : Int))) none none).run Tryz.prog W = .ok (.slice A' (n - l) (c - l)) W) ∧ SrcS w (.slice A' (n - l) (c - l)) (zs.drop l) := by
  have hr : ∀ W, (Instr.slice 37 (.slice A n c) (some (.int .i64 (l : Int))) none none).run Tryz.prog W = .ok (sliced A l n c 1) W := fun W => by
    have h := run_slice_l (P := Tryz.prog) (w := W) 37 A n c Tryz.underlying37 .i64 (l : Int) (by omega) (by omega)
    rw [h]
    have e1 : (sizeOf (Tryz.prog.elem 37)).run Tryz.prog W = .ok 1 W := by kernel_rfl
    rw [e1]
    have e2 : (l : Int).toNat = l := by omega
    simp only [Result.andThen, e2]
  cases A with
  | none =>
    have hz : zs = [] := by
      rcases h with ⟨_, hz⟩ | ⟨g, rest, hv, _⟩
      · exact hz
      · injection hv with e _ _
        cases e
    subst hz
    simp at hn
    subst hn
    refine ⟨none, fun W => by rw [hr W]; simp [sliced], .inl ⟨c - l, by simp, by simp⟩⟩
  | some ad =>
    obtain ⟨ad', h1, h2, h3⟩ := h.suffix hn l hl
    exact ⟨some ad', fun W => by rw [hr W, h1], h3⟩
theorem row_one {base : Nat} {w : World} {g : Nat} {s : ByteArray} (hb : base ≤ g) (h : w.heap[g]? = some (.cells #[.string s] strT (0, 0))) : SRow base w (.slice (some ⟨g, 0, none⟩) 1 1) [s] :=
  .inr ⟨g, [], rfl, hb, h, by unfold maxLen; simp⟩
theorem row_addr {base : Nat} {w : World} {A : Option Addr} {n c : Nat} {zs : List ByteArray} (h : SRow base w (.slice A n c) zs) : (∀ a, A = some a → ∃ g, a = ⟨g, 0, none⟩) ∧ n ≤ c ∧ n = zs.length := by
  rcases h with ⟨hv, rfl⟩ | ⟨g, rest, hv, _⟩
  · injection hv with e1 e2 e3
    subst e1 e2 e3
    exact ⟨fun a h => (by cases h), Nat.le_refl _, rfl⟩
  · injection hv with e1 e2 e3
    subst e1
    exact ⟨fun a h => (by injection h with h; exact ⟨g, h.symm⟩), by omega, e2⟩
theorem row_below {base : Nat} {w w' : World} {v : Value} {xs : List ByteArray} (h : SRow base w v xs) (hg : w.grownBy w' v.ownBlock) (hb : base ≤ w.heap.size) : Below base w w' :=
  ⟨hg.os, hg.tape, hg.output, hg.size, fun k hk => hg.block k (by omega) fun e => by have := (h.block k e.symm).1; omega⟩
end Go.Proofs.YtnccefeehkcneaaGreatDoor.Qs
