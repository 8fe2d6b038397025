/-
  Sorted lists of texts; the first value that fits. Plain words: no program in sight.
-/
import Derived.Lib.SlicesCompact
import Derived.Test.YtplfimoeggecjaaGreatDoorDec
namespace Go.Proofs.YtplfimoeggecjaaGreatDoor.Qs
open Go Go.Lib Go.Proofs.YtplfimoeggecjaaGreatDoor.Dc

abbrev Tx := List UInt8
def tx (b : ByteArray) : Tx := b.data.toList
def bx (t : Tx) : ByteArray := ⟨t.toArray⟩
theorem tx_bx (t : Tx) : tx (bx t) = t := rfl
theorem bx_tx (b : ByteArray) : bx (tx b) = b := rfl
theorem tx_inj {a b : ByteArray} (h : tx a = tx b) : a = b := by rw [← bx_tx a, ← bx_tx b, h]
theorem bx_inj {a b : Tx} (h : bx a = bx b) : a = b := by rw [← tx_bx a, ← tx_bx b, h]
def Strict (l : List Tx) : Prop := l.Pairwise (· < ·)
theorem lt_irr (a : Tx) : ¬ a < a := List.lt_irrefl a
theorem lt_asy {a b : Tx} (h : a < b) : ¬ b < a := fun h2 => lt_irr a (List.lt_trans h h2)
theorem Strict.nodup {l : List Tx} (h : Strict l) : l.Nodup := List.Pairwise.imp (fun {a b} (hab : a < b) (e : a = b) => lt_irr b (e ▸ hab)) h
theorem perm_of_same {a b : List Tx} (ha : a.Nodup) (hb : b.Nodup) (h : ∀ x, x ∈ a ↔ x ∈ b) : a.Perm b := by
  induction a generalizing b with
  | nil =>
    cases b with
    | nil => exact .nil
    | cons x b => exact absurd ((h x).2 List.mem_cons_self) (by simp)
  | cons x a ih =>
    have hx := (h x).1 List.mem_cons_self
    have hn := List.nodup_cons.1 ha
    refine (List.Perm.cons x (ih hn.2 (hb.erase x) fun y => ?_)).trans (List.perm_cons_erase hx).symm
    rw [hb.mem_erase_iff]
    constructor
    · intro hy
      exact ⟨fun e => hn.1 (e ▸ hy), (h y).1 (List.mem_cons_of_mem _ hy)⟩
    · rintro ⟨h1, h2⟩
      rcases List.mem_cons.1 ((h y).2 h2) with e | e
      · exact absurd e h1
      · exact e
/-- Two strictly rising lists of the same texts are the same. -/
theorem strict_one {a b : List Tx} (ha : Strict a) (hb : Strict b) (h : ∀ x, x ∈ a ↔ x ∈ b) : a = b :=
  List.Perm.eq_of_pairwise (fun _ _ _ _ h1 h2 => absurd h2 (lt_asy h1)) ha hb (perm_of_same ha.nodup hb.nodup h)

/-! ### the reference's Sort -/
/-- Put in behind all that are not greater. -/
def ins (s : Tx) (l : List Tx) : List Tx := l.takeWhile (fun x => decide (x ≤ s)) ++ s :: l.dropWhile (fun x => decide (x ≤ s))
def isort (l : List Tx) : List Tx := l.foldl (fun out s => ins s out) []
def Up (l : List Tx) : Prop := l.Pairwise (· ≤ ·)
theorem ins_perm (s : Tx) (l : List Tx) : (ins s l).Perm (s :: l) := by
  unfold ins
  refine List.perm_middle.trans ?_
  rw [List.takeWhile_append_dropWhile]
theorem ins_up {s : Tx} {l : List Tx} (h : Up l) : Up (ins s l) := by
  induction l with
  | nil => unfold ins Up; simp
  | cons x l ih =>
    have hp := List.pairwise_cons.1 h
    unfold ins
    by_cases hx : x ≤ s
    · rw [List.takeWhile_cons_of_pos (by simpa using hx), List.dropWhile_cons_of_pos (by simpa using hx), List.cons_append]
      refine List.pairwise_cons.2 ⟨fun y hy => ?_, ih hp.2⟩
      rcases List.mem_cons.1 ((ins_perm s l).mem_iff.1 hy) with rfl | hy
      · exact hx
      · exact hp.1 y hy
    · rw [List.takeWhile_cons_of_neg (by simpa using hx), List.dropWhile_cons_of_neg (by simpa using hx), List.nil_append]
      have hsx : s ≤ x := (List.le_total s x).resolve_right hx
      refine List.pairwise_cons.2 ⟨fun y hy => ?_, h⟩
      rcases List.mem_cons.1 hy with rfl | hy
      · exact hsx
      · exact List.le_trans hsx (hp.1 y hy)
theorem isort_go {l out : List Tx} (h : Up out) : Up (l.foldl (fun out s => ins s out) out) ∧ (l.foldl (fun out s => ins s out) out).Perm (out ++ l) := by
  induction l generalizing out with
  | nil => exact ⟨h, by simp⟩
  | cons x l ih =>
    obtain ⟨h1, h2⟩ := ih (ins_up (s := x) h)
    refine ⟨h1, h2.trans ?_⟩
    exact ((ins_perm x out).append_right l).trans (List.perm_middle.symm)
theorem isort_up (l : List Tx) : Up (isort l) := (isort_go (out := []) .nil).1
theorem isort_perm (l : List Tx) : (isort l).Perm l := (isort_go (l := l) (out := []) .nil).2
theorem merge_up (l : List Tx) : Up (l.mergeSort fun x y => decide (x ≤ y)) := by
  have h := List.pairwise_mergeSort (le := fun x y : Tx => decide (x ≤ y)) (fun a b c h1 h2 => by simp at *; exact List.le_trans h1 h2) (fun a b => by simp; exact List.le_total a b) l
  exact h.imp (by simp)
theorem up_one {a b : List Tx} (ha : Up a) (hb : Up b) (h : a.Perm b) : a = b :=
  List.Perm.eq_of_pairwise (fun _ _ _ _ h1 h2 => List.le_antisymm h1 h2) ha hb h
/-- Both sorts give the same. -/
theorem sort_same (l : List Tx) : (l.mergeSort fun x y => decide (x ≤ y)) = isort l :=
  up_one (merge_up l) (isort_up l) ((List.mergeSort_perm l _).trans (isort_perm l).symm)
theorem lt_of_le {a b : Tx} (h : a ≤ b) (hn : a ≠ b) : a < b := by
  rcases Classical.em (a < b) with h1 | h1
  · exact h1
  · exact absurd (List.le_antisymm h h1) hn
theorem up_strict {l : List Tx} (h : Up l) (hn : l.Nodup) : Strict l := by
  unfold Strict
  exact List.Pairwise.imp₂ (fun _ _ h1 h2 => lt_of_le h1 h2) h hn

/-! ### Compact of a rising list -/
theorem compact_go (d : Array Tx) (hu : Up d.toList) : ∀ m, m ≤ d.size → Strict (compactUpTo d m) ∧ (∀ x, x ∈ compactUpTo d m ↔ x ∈ d.toList.take m) := by
  intro m
  induction m with
  | zero => intro _; exact ⟨.nil, fun x => by simp [compactUpTo]⟩
  | succ m ih =>
    intro hm
    obtain ⟨h1, h2⟩ := ih (by omega)
    have hml : m < d.toList.length := by rw [Array.length_toList]; omega
    have hg : d[m]! = d.toList[m] := by rw [getElem!_pos d m (by omega)]; rfl
    rw [compactUpTo_succ, List.take_succ_eq_append_getElem hml]
    by_cases hk : keeps d m = true
    · rw [if_pos hk]
      refine ⟨?_, fun x => by rw [List.mem_append, List.mem_append, h2, hg]⟩
      refine List.pairwise_append.2 ⟨h1, by simp, fun a ha b hb => ?_⟩
      simp at hb
      subst hb
      rw [hg]
      -- a stands ahead of place m; the place before m is below place m
      have ha2 := (h2 a).1 ha
      obtain ⟨i, hi, rfl⟩ := List.mem_take_iff_getElem.1 ha2
      have hm0 : 0 < m := by omega
      have hlt : d.toList[m - 1] < d.toList[m] := by
        have hle : d.toList[m - 1] ≤ d.toList[m] := List.pairwise_iff_getElem.1 hu (m - 1) m (by omega) hml (by omega)
        refine lt_of_le hle fun e => ?_
        unfold keeps at hk
        have hk2 := of_decide_eq_true hk
        rcases hk2 with h | h
        · omega
        · apply h
          rw [hg, getElem!_pos d (m - 1) (by omega)]
          exact e.symm
      have hle : d.toList[i] ≤ d.toList[m - 1] := by
        rcases Nat.lt_or_ge i (m - 1) with h | h
        · exact List.pairwise_iff_getElem.1 hu i (m - 1) (by omega) (by omega) h
        · have : i = m - 1 := by omega
          subst this
          exact lt_irr _
      rcases Classical.em (d.toList[i] < d.toList[m]) with h | h
      · exact h
      · exact absurd hlt (fun h3 => h (by
          rcases Classical.em (d.toList[i] = d.toList[m - 1]) with e | e
          · rw [e]; exact h3
          · exact List.lt_trans (lt_of_le hle e) h3))
    · rw [if_neg hk, List.append_nil]
      refine ⟨h1, fun x => ?_⟩
      rw [h2, List.mem_append]
      constructor
      · exact .inl
      · rintro (h | h)
        · exact h
        · simp at h
          subst h
          unfold keeps at hk
          have hk2 : ¬ (m = 0 ∨ d[m]! ≠ d[m - 1]!) := of_decide_eq_false (Bool.eq_false_iff.2 hk)
          have hm0 : m ≠ 0 := fun e => hk2 (.inl e)
          have he : d[m]! = d[m - 1]! := Classical.byContradiction fun e => hk2 (.inr e)
          rw [hg] at he
          have he2 : d.toList[m] = d.toList[m - 1] := by rw [he, getElem!_pos d (m - 1) (by omega)]; rfl
          have : d[m] = d.toList[m] := rfl
          rw [this, he2]
          exact List.mem_take_iff_getElem.2 ⟨m - 1, by omega, rfl⟩
theorem compact_strict {l : List Tx} (hu : Up l) : Strict (compact l) ∧ ∀ x, x ∈ compact l ↔ x ∈ l := by
  have h := compact_go l.toArray (by simpa using hu) l.length (by simp)
  refine ⟨h.1, fun x => ?_⟩
  have := h.2 x
  simpa [compact] using this
/-- Sorted and made compact: as the distinct ones sorted. -/
theorem keys_same {a b : List Tx} (hb : b.Nodup) (h : ∀ x, x ∈ a ↔ x ∈ b) : compact (a.mergeSort fun x y => decide (x ≤ y)) = isort b := by
  obtain ⟨h1, h2⟩ := compact_strict (merge_up a)
  refine strict_one h1 (up_strict (isort_up b) ((isort_perm b).nodup_iff.2 hb)) fun x => ?_
  rw [h2, (List.mergeSort_perm a _).mem_iff, h, (isort_perm b).mem_iff]

/-! ### the first that fits -/
theorem find_front {P : Tx → Bool} {a b : List Tx} (h : (∃ x ∈ a, P x = true) ∨ ∀ x, P x = false) : (a ++ b).find? P = a.find? P := by
  rw [List.find?_append]
  rcases h with ⟨x, hx, hp⟩ | h
  · cases hf : a.find? P with
    | some y => rfl
    | none => exact absurd hp (by simpa using List.find?_eq_none.1 hf x hx)
  · have h1 : a.find? P = none := List.find?_eq_none.2 fun x _ => by rw [h x]; simp
    have h2 : b.find? P = none := List.find?_eq_none.2 fun x _ => by rw [h x]; simp
    rw [h1, h2]
    rfl
/-- The empty text, and numerals. -/
def cands (n : Nat) : List Tx := [] :: (List.range n).map decDigits
theorem cands_more (n k : Nat) : ∃ b, cands (n + k) = cands n ++ b := by
  refine ⟨((List.range k).map (n + ·)).map decDigits, ?_⟩
  unfold cands
  rw [List.range_add, List.map_append]
  rfl
theorem one_free (X : List Tx) {n : Nat} (h : X.length < n) : ∃ k, k < n ∧ decDigits k ∉ X := by
  rcases Classical.em (∃ k, k < n ∧ decDigits k ∉ X) with h1 | h1
  · exact h1
  · have hall : ∀ k, k < n → decDigits k ∈ X := fun k hk => Classical.byContradiction fun h2 => h1 ⟨k, hk, h2⟩
    have hn : ((List.range n).map decDigits).Nodup := by
      unfold List.Nodup
      rw [List.pairwise_map]
      exact List.nodup_range.imp fun h e => h (dec_inj e)
    have := sub_len ((List.range n).map decDigits) X hn fun x hx => by
      obtain ⟨m, hm, rfl⟩ := List.mem_map.1 hx
      exact hall m (List.mem_range.1 hm)
    simp at this
    omega
/-- With few that don't fit, more candidates change nothing. -/
theorem first_same {P : Tx → Bool} {X : List Tx} {n k : Nat} (hX : X.length < n) (h : (∀ x, P x = false) ∨ ∀ x, x ∉ X → P x = true) : (cands (n + k)).find? P = (cands n).find? P := by
  obtain ⟨b, hb⟩ := cands_more n k
  rw [hb]
  refine find_front ?_
  rcases h with h | h
  · exact .inr h
  · obtain ⟨m, hm, hx⟩ := one_free X hX
    exact .inl ⟨decDigits m, List.mem_cons_of_mem _ (List.mem_map.2 ⟨m, List.mem_range.2 hm, rfl⟩), h _ hx⟩
end Go.Proofs.YtplfimoeggecjaaGreatDoor.Qs
