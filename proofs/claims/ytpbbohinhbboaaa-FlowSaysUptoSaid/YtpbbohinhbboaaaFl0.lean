/-
  Flow: what waits, in plain words: the order of things, the heap. No program in sight.
-/
import Derived.Lib.Hide
namespace Go.Proofs.Ytpbbohinhbboaaa.Fw

structure Th where
  id : Int
  flow : Int
  start : Int
def Th.zero : Th := ⟨0, 0, 0⟩
def lt (a b : Th) : Prop := a.start < b.start ∨ (a.start = b.start ∧ a.flow < b.flow)
instance (a b : Th) : Decidable (lt a b) := inferInstanceAs (Decidable (_ ∨ _))
theorem lt_asymm {a b : Th} (h : lt a b) : ¬ lt b a := by unfold lt at *; omega
theorem lt_trans {a b c : Th} (h : lt a b) (h2 : lt b c) : lt a c := by unfold lt at *; omega
theorem nlt_trans {a b c : Th} (h : ¬ lt a b) (h2 : ¬ lt b c) : ¬ lt a c := by unfold lt at *; omega
def nth (L : List Th) (k : Nat) : Th := L.getD k Th.zero
theorem nth_eq {L : List Th} {k : Nat} (h : k < L.length) : nth L k = L[k] := by unfold nth; rw [List.getD_eq_getElem?_getD, List.getElem?_eq_getElem h]; rfl
theorem nth_mem {L : List Th} {k : Nat} (h : k < L.length) : nth L k ∈ L := by rw [nth_eq h]; exact List.getElem_mem h
theorem nth_left {L M : List Th} {k : Nat} (h : k < L.length) : nth (L ++ M) k = nth L k := by
  rw [nth_eq h, nth_eq (by rw [List.length_append]; omega), List.getElem_append_left h]
theorem nth_last {L : List Th} {x : Th} : nth (L ++ [x]) L.length = x := by
  rw [nth_eq (by simp)]; simp
def swapL (L : List Th) (i j : Nat) : List Th := (L.set i (nth L j)).set j (nth L i)
theorem swap_len (L : List Th) (i j : Nat) : (swapL L i j).length = L.length := by simp [swapL]
theorem nth_swap {L : List Th} {i j : Nat} (hi : i < L.length) (hj : j < L.length) (k : Nat) : nth (swapL L i j) k = if k = j then nth L i else if k = i then nth L j else nth L k := by
  unfold swapL
  generalize nth L i = x
  generalize nth L j = y
  unfold nth
  simp only [List.getD_eq_getElem?_getD, List.getElem?_set, List.length_set]
  by_cases h1 : k = j
  · subst h1
    simp [hj]
  · by_cases h2 : k = i
    · subst h2
      have : ¬ j = k := fun e => h1 e.symm
      simp [this, h1, hi]
    · have e1 : ¬ j = k := fun e => h1 e.symm
      have e2 : ¬ i = k := fun e => h2 e.symm
      simp [e1, e2, h1, h2]
theorem swap_perm {L : List Th} {i j : Nat} (hi : i < L.length) (hj : j < L.length) : (swapL L i j).Perm L := by
  have h := Array.swap_perm (xs := L.toArray) (i := i) (j := j) (by simpa using hi) (by simpa using hj)
  have h2 := Array.perm_iff_toList_perm.1 h
  have e : (L.toArray.swap i j (by simpa using hi) (by simpa using hj)).toList = swapL L i j := by
    unfold swapL
    rw [nth_eq hi, nth_eq hj]
    simp [Array.swap]
  rw [e] at h2
  exact h2
/-- Of two stores: the first, then the second. -/
def par (k : Nat) : Nat := (k - 1) / 2
def HeapN (L : List Th) (n : Nat) : Prop := ∀ k, 0 < k → k < n → ¬ lt (nth L k) (nth L (par k))
def UpI (L : List Th) (n j : Nat) : Prop := (∀ k, 0 < k → k < n → k ≠ j → ¬ lt (nth L k) (nth L (par k))) ∧ (∀ k, 0 < k → k < n → par k = j → 0 < j → ¬ lt (nth L k) (nth L (par j)))
def DownI (L : List Th) (n i : Nat) : Prop := (∀ k, 0 < k → k < n → par k ≠ i → ¬ lt (nth L k) (nth L (par k))) ∧ (∀ k, 0 < k → k < n → par k = i → 0 < i → ¬ lt (nth L k) (nth L (par i)))
theorem par_lt {k : Nat} (h : 0 < k) : par k < k := by unfold par; omega
theorem up_start {L : List Th} {x : Th} (h : HeapN L L.length) : UpI (L ++ [x]) (L.length + 1) L.length :=
  ⟨fun k h0 hk hne => by
    have hp := par_lt h0
    rw [nth_left (by omega), nth_left (by omega)]
    exact h k h0 (by omega), fun k h0 hk hp hj => by unfold par at hp; omega⟩
theorem up_end {L : List Th} {n j : Nat} (h : UpI L n j) (hs : j = 0 ∨ ¬ lt (nth L j) (nth L (par j))) : HeapN L n := fun k h0 hk => by
  by_cases e : k = j
  · subst e
    rcases hs with hs | hs
    · omega
    · exact hs
  · exact h.1 k h0 hk e
theorem up_step {L : List Th} {n j : Nat} (h : UpI L n j) (hn : n ≤ L.length) (hj : j < n) (h0 : 0 < j) (hl : lt (nth L j) (nth L (par j))) : UpI (swapL L (par j) j) n (par j) := by
  have hp := par_lt h0
  have N := nth_swap (L := L) (i := par j) (j := j) (by omega) (by omega)
  refine ⟨fun k k0 hk hne => ?_, fun k k0 hk hpk hi => ?_⟩
  · by_cases e : k = j
    · subst e
      rw [N k, if_pos rfl, N (par k), if_neg (by omega), if_pos rfl]
      exact lt_asymm hl
    · rw [N k, if_neg e, if_neg hne, N (par k)]
      by_cases e1 : par k = j
      · rw [if_pos e1]
        exact h.2 k k0 hk e1 h0
      · rw [if_neg e1]
        by_cases e2 : par k = par j
        · rw [if_pos e2]
          have h1 := h.1 k k0 hk e
          rw [e2] at h1
          exact fun h2 => h1 (lt_trans h2 hl)
        · rw [if_neg e2]
          exact h.1 k k0 hk e
  · have hpp := par_lt hi
    rw [N (par (par j)), if_neg (by omega), if_neg (by omega), N k]
    by_cases e : k = j
    · rw [if_pos e]
      exact h.1 (par j) hi (by omega) (by omega)
    · rw [if_neg e, if_neg (by have := par_lt k0; omega)]
      have h1 := h.1 k k0 hk e
      rw [hpk] at h1
      exact nlt_trans h1 (h.1 (par j) hi (by omega) (by omega))
theorem down_start {L : List Th} {n : Nat} (h : HeapN L (n + 1)) (hn : n + 1 ≤ L.length) : DownI (swapL L 0 n) n 0 := by
  have N := nth_swap (L := L) (i := 0) (j := n) (by omega) (by omega)
  refine ⟨fun k k0 hk hne => ?_, fun k k0 hk hpk hi => by omega⟩
  have hp := par_lt k0
  rw [N k, if_neg (by omega), if_neg (by omega), N (par k), if_neg (by omega), if_neg hne]
  exact h k k0 (by omega)
theorem down_end {L : List Th} {n i : Nat} (h : DownI L n i) (hs : ∀ k, 0 < k → k < n → par k = i → ¬ lt (nth L k) (nth L i)) : HeapN L n := fun k k0 hk => by
  by_cases e : par k = i
  · rw [e]
    exact hs k k0 hk e
  · exact h.1 k k0 hk e
theorem down_step {L : List Th} {n i j : Nat} (h : DownI L n i) (hn : n ≤ L.length) (j0 : 0 < j) (hj : j < n) (hp : par j = i) (hl : lt (nth L j) (nth L i)) (hmin : ∀ k, 0 < k → k < n → par k = i → ¬ lt (nth L k) (nth L j)) :
    DownI (swapL L i j) n j := by
  have hij : i < j := by rw [← hp]; exact par_lt j0
  have N := nth_swap (L := L) (i := i) (j := j) (by omega) (by omega)
  refine ⟨fun k k0 hk hne => ?_, fun k k0 hk hpk _ => ?_⟩
  · have hpk := par_lt k0
    by_cases e : k = j
    · subst e
      rw [N k, if_pos rfl, hp, N i, if_neg (by omega), if_pos rfl]
      exact lt_asymm hl
    · rw [N k, if_neg e, N (par k), if_neg hne]
      by_cases e1 : par k = i
      · rw [if_neg (by omega), if_pos e1]
        exact hmin k k0 hk e1
      · rw [if_neg e1]
        by_cases e2 : k = i
        · rw [if_pos e2]
          subst e2
          exact h.2 j j0 hj hp k0
        · rw [if_neg e2]
          exact h.1 k k0 hk e1
  · have hk2 := par_lt k0
    rw [hp, N i, if_neg (by omega), if_pos rfl, N k, if_neg (by omega), if_neg (by omega)]
    have h1 := h.1 k k0 hk (by omega)
    rw [hpk] at h1
    exact h1
theorem heap_min {L : List Th} {n : Nat} (h : HeapN L n) : ∀ (m k : Nat), k ≤ m → k < n → ¬ lt (nth L k) (nth L 0)
  | 0, k, hk, _ => by
    obtain rfl : k = 0 := by omega
    exact fun h => lt_asymm h h
  | m + 1, k, hk, hn => by
    rcases Nat.eq_zero_or_pos k with rfl | k0
    · exact fun h => lt_asymm h h
    · have hp := par_lt k0
      exact nlt_trans (h k k0 hn) (heap_min h m (par k) (by omega) (by omega))
/-- Those with one start and one flow are one. -/
def KD (L : List Th) : Prop := ∀ a ∈ L, ∀ b ∈ L, a.start = b.start → a.flow = b.flow → a = b
theorem KD.perm {L M : List Th} (h : KD L) (hp : M.Perm L) : KD M := fun a ha b hb => h a (hp.mem_iff.1 ha) b (hp.mem_iff.1 hb)
theorem KD.snoc {L : List Th} {x : Th} (h : KD L) (hx : ∀ a ∈ L, a.flow = x.flow → a.start < x.start) : KD (L ++ [x]) := fun a ha b hb e1 e2 => by
  rcases List.mem_append.1 ha with ha | ha
  · rcases List.mem_append.1 hb with hb | hb
    · exact h a ha b hb e1 e2
    · rw [List.mem_singleton.1 hb] at e1 e2
      have := hx a ha e2
      omega
  · rcases List.mem_append.1 hb with hb | hb
    · rw [List.mem_singleton.1 ha] at e1 e2
      have := hx b hb e2.symm
      omega
    · rw [List.mem_singleton.1 ha, List.mem_singleton.1 hb]
/-- The one at the heap's head is the least one of a list that has the same. -/
theorem least_is {L M : List Th} {b : Nat} (hk : KD M) (hp : L.Perm M) (hh : HeapN L L.length) (hb : b < M.length) (hm : ∀ k, k < M.length → ¬ lt (nth M k) (nth M b)) : nth M b = nth L 0 := by
  have hlen := hp.length_eq
  have h1 : nth M b ∈ L := hp.mem_iff.2 (nth_mem hb)
  have h2 : nth L 0 ∈ M := hp.mem_iff.1 (nth_mem (by omega))
  obtain ⟨i, hi, ei⟩ := List.mem_iff_getElem.1 h1
  obtain ⟨j, hj, ej⟩ := List.mem_iff_getElem.1 h2
  have a1 := heap_min hh i i (Nat.le_refl _) hi
  rw [nth_eq hi, ei] at a1
  have a2 := hm j hj
  rw [nth_eq hj, ej] at a2
  refine hk _ (nth_mem hb) _ h2 ?_ ?_
  · unfold lt at a1 a2; omega
  · unfold lt at a1 a2; omega
/-- What is left of both. -/
theorem rest_is {L M N : List Th} {b : Nat} (hp : L.Perm M) (hb : b < M.length) (he : nth M b = nth L 0) (hn : (N ++ [nth L 0]).Perm L) : N.Perm (M.eraseIdx b) := by
  have h1 : M.Perm (M[b] :: M.eraseIdx b) := by
    have e1 : M = M.take b ++ M[b] :: M.drop (b + 1) := by rw [← List.drop_eq_getElem_cons hb, List.take_append_drop]
    rw [List.eraseIdx_eq_take_drop_succ]
    exact (e1 ▸ List.perm_middle : M.Perm _)
  rw [← nth_eq hb, he] at h1
  have h2 : (nth L 0 :: N).Perm L := (List.perm_append_comm (l₁ := [nth L 0]) (l₂ := N)).trans hn
  exact (List.perm_cons _).1 ((h2.trans hp).trans h1)
end Go.Proofs.Ytpbbohinhbboaaa.Fw
