/-
  How cards are dealt: the plain law. No program in sight.
-/
import Derived.Test.YtpbbohinhbboaaaIns
namespace Go.Proofs.Ytpbbohinhbboaaa.Sx
open Go Go.RowKit

/-- From place c on, past the cards that are dealt already (rising). -/
def past1 (d c : Nat) : Nat := if d ≤ c then c + 1 else c
def pastAll (c : Nat) : List Nat → Nat
  | [] => c
  | d :: r => pastAll (past1 d c) r
/-- What is left of lo .. D - 1 without these. -/
def comp (D lo : Nat) : List Nat → List Nat
  | [] => List.range' lo (D - lo)
  | d :: r => List.range' lo (d - lo) ++ comp D (d + 1) r
def Good (D lo : Nat) : List Nat → Prop
  | [] => lo ≤ D
  | d :: r => lo ≤ d ∧ d < D ∧ Good D (d + 1) r
def insN (x : Nat) : List Nat → List Nat
  | [] => [x]
  | d :: r => if d < x then d :: insN x r else x :: d :: r

theorem insN_len (x : Nat) (l : List Nat) : (insN x l).length = l.length + 1 := by
  induction l with
  | nil => rfl
  | cons d r ih => unfold insN; split <;> simp [ih]
theorem pastAll_snoc (c : Nat) (l : List Nat) (d : Nat) : pastAll c (l ++ [d]) = past1 d (pastAll c l) := by
  induction l generalizing c with
  | nil => rfl
  | cons x r ih => exact ih _
theorem pastAll_ge (c : Nat) (l : List Nat) : c ≤ pastAll c l := by
  induction l generalizing c with
  | nil => exact Nat.le_refl _
  | cons x r ih =>
    have := ih (past1 x c)
    have h : c ≤ past1 x c := by unfold past1; split <;> omega
    exact Nat.le_trans h this
theorem pastAll_le (c : Nat) (l : List Nat) : pastAll c l ≤ c + l.length := by
  induction l generalizing c with
  | nil => exact Nat.le_refl _
  | cons x r ih =>
    have := ih (past1 x c)
    have h : past1 x c ≤ c + 1 := by unfold past1; split <;> omega
    simp only [List.length_cons]
    show pastAll (past1 x c) r ≤ _
    omega
theorem pastAll_lt {D m c : Nat} {l : List Nat} (h : Good D m l) (hc : c < m) : pastAll c l = c := by
  induction l generalizing m with
  | nil => rfl
  | cons d r ih =>
    obtain ⟨h1, _, h3⟩ := h
    show pastAll (past1 d c) r = c
    have : past1 d c = c := by unfold past1; rw [if_neg (by omega)]
    rw [this]
    exact ih h3 (by omega)
theorem comp_len {D lo : Nat} {l : List Nat} (h : Good D lo l) : (comp D lo l).length + l.length = D - lo := by
  induction l generalizing lo with
  | nil => simp [comp]
  | cons d r ih =>
    obtain ⟨h1, h2, h3⟩ := h
    have := ih h3
    simp only [comp, List.length_append, List.length_range', List.length_cons]
    omega
theorem comp_get {D lo k : Nat} {l : List Nat} (h : Good D lo l) (hk : k < (comp D lo l).length) : (comp D lo l)[k]? = some (pastAll (lo + k) l) := by
  induction l generalizing lo k with
  | nil =>
    simp only [comp, List.length_range'] at hk
    simp [comp, hk, pastAll]
  | cons d r ih =>
    obtain ⟨h1, h2, h3⟩ := h
    simp only [comp, List.length_append, List.length_range'] at hk
    show (List.range' lo (d - lo) ++ comp D (d + 1) r)[k]? = some (pastAll (past1 d (lo + k)) r)
    by_cases hlt : k < d - lo
    · rw [List.getElem?_append_left (by simpa using hlt)]
      have : past1 d (lo + k) = lo + k := by unfold past1; rw [if_neg (by omega)]
      rw [this, pastAll_lt h3 (by omega)]
      simp [hlt]
    · rw [List.getElem?_append_right (by simp; omega)]
      have : past1 d (lo + k) = lo + k + 1 := by unfold past1; rw [if_pos (by omega)]
      rw [this, List.length_range', ih h3 (by omega)]
      rw [show d + 1 + (k - (d - lo)) = lo + k + 1 by omega]
theorem range_erase (lo n k : Nat) (hk : k < n) : (List.range' lo n).eraseIdx k = List.range' lo k ++ List.range' (lo + k + 1) (n - k - 1) := by
  induction k generalizing lo n with
  | zero =>
    obtain ⟨m, rfl⟩ : ∃ m, n = m + 1 := ⟨n - 1, by omega⟩
    simp [List.range'_succ]
  | succ k ih =>
    obtain ⟨m, rfl⟩ : ∃ m, n = m + 1 := ⟨n - 1, by omega⟩
    rw [List.range'_succ, List.eraseIdx_cons_succ, ih (lo + 1) m (by omega), List.range'_succ]
    rw [show lo + 1 + k + 1 = lo + (k + 1) + 1 by omega, show m - k - 1 = m + 1 - (k + 1) - 1 by omega]
    rfl
theorem comp_erase {D lo k : Nat} {l : List Nat} (h : Good D lo l) (hk : k < (comp D lo l).length) : (comp D lo l).eraseIdx k = comp D lo (insN (pastAll (lo + k) l) l) ∧ Good D lo (insN (pastAll (lo + k) l) l) := by
  induction l generalizing lo k with
  | nil =>
    simp only [comp, List.length_range'] at hk
    refine ⟨?_, ?_⟩
    · show (List.range' lo (D - lo)).eraseIdx k = comp D lo [lo + k]
      rw [range_erase _ _ _ hk]
      simp only [comp]
      rw [show lo + k - lo = k by omega, show D - lo - k - 1 = D - (lo + k + 1) by omega]
    · show lo ≤ lo + k ∧ lo + k < D ∧ lo + k + 1 ≤ D
      omega
  | cons d r ih =>
    obtain ⟨h1, h2, h3⟩ := h
    simp only [comp, List.length_append, List.length_range'] at hk
    show (List.range' lo (d - lo) ++ comp D (d + 1) r).eraseIdx k = comp D lo (insN (pastAll (past1 d (lo + k)) r) (d :: r)) ∧ Good D lo (insN (pastAll (past1 d (lo + k)) r) (d :: r))
    by_cases hlt : k < d - lo
    · have : past1 d (lo + k) = lo + k := by unfold past1; rw [if_neg (by omega)]
      rw [this, pastAll_lt h3 (by omega)]
      have hi : insN (lo + k) (d :: r) = (lo + k) :: d :: r := by unfold insN; rw [if_neg (by omega)]
      rw [hi, List.eraseIdx_append_of_lt_length (by simpa using hlt), range_erase _ _ _ hlt]
      refine ⟨?_, by omega, by omega, by omega, h2, h3⟩
      simp only [comp]
      rw [show lo + k - lo = k by omega, show d - lo - k - 1 = d - (lo + k + 1) by omega, List.append_assoc]
    · have : past1 d (lo + k) = lo + k + 1 := by unfold past1; rw [if_pos (by omega)]
      obtain ⟨e1, e2⟩ := ih (k := k - (d - lo)) h3 (by omega)
      rw [show d + 1 + (k - (d - lo)) = lo + k + 1 by omega] at e1 e2
      have hge := pastAll_ge (lo + k + 1) r
      have hi : insN (pastAll (lo + k + 1) r) (d :: r) = d :: insN (pastAll (lo + k + 1) r) r := by
        conv => lhs; unfold insN
        rw [if_pos (by omega)]
      rw [this, hi, List.eraseIdx_append_of_length_le (by simp; omega), List.length_range', e1]
      exact ⟨rfl, h1, h2, e2⟩

def up (l : List Nat) : List Int := l.map fun (n : Nat) => (n : Int)
theorem up_len (l : List Nat) : (up l).length = l.length := List.length_map _
theorem up_sorted {D lo : Nat} {l : List Nat} (h : Good D lo l) : (up l).Pairwise (· ≤ ·) ∧ ∀ z ∈ up l, (lo : Int) ≤ z := by
  induction l generalizing lo with
  | nil => exact ⟨List.Pairwise.nil, fun z hz => by simp [up] at hz⟩
  | cons d r ih =>
    obtain ⟨h1, h2, h3⟩ := h
    obtain ⟨i1, i2⟩ := ih h3
    refine ⟨List.Pairwise.cons (fun z hz => by have := i2 z hz; show (d : Int) ≤ z; omega) i1, fun z hz => ?_⟩
    simp only [up, List.map_cons, List.mem_cons] at hz
    rcases hz with hz | hz
    · have e : z = (d : Int) := hz
      omega
    · have := i2 z hz; omega
theorem up_ins {D lo : Nat} {l : List Nat} (x : Nat) (h : Good D lo l) : up (insN x l) = putAt (up l) ((up l).countP (· < (x : Int))) x := by
  induction l generalizing lo with
  | nil => rfl
  | cons d r ih =>
    obtain ⟨h1, h2, h3⟩ := h
    unfold insN
    by_cases hd : d < x
    · rw [if_pos hd]
      have e : (up (d :: r)).countP (· < (x : Int)) = (up r).countP (· < (x : Int)) + 1 := by
        show ((d : Int) :: up r).countP _ = _
        rw [List.countP_cons_of_pos (by simpa using by omega)]
      rw [e]
      show (d : Int) :: up (insN x r) = _
      rw [ih h3]
      rfl
    · rw [if_neg hd]
      have e : (up (d :: r)).countP (· < (x : Int)) = 0 := by
        rw [List.countP_eq_zero]
        intro z hz
        have := (up_sorted (D := D) (lo := lo) (l := d :: r) ⟨h1, h2, h3⟩)
        simp only [up, List.map_cons, List.mem_cons] at hz
        rcases hz with hz | hz
        · have e : z = (d : Int) := hz
          simpa using by omega
        · have := (up_sorted h3).2 z hz
          simpa using by omega
      rw [e]
      rfl

/-- Seed, dealt cards (rising), dealt cards in their order. -/
structure Deal where
  seed : Nat
  ds : List Nat
  out : List Nat
def dealAt (D s : Nat) : Nat → Deal
  | 0 => ⟨s, [], []⟩
  | r + 1 => ⟨(dealAt D s r).seed / (D - r), insN (pastAll ((dealAt D s r).seed % (D - r)) (dealAt D s r).ds) (dealAt D s r).ds, (dealAt D s r).out ++ [pastAll ((dealAt D s r).seed % (D - r)) (dealAt D s r).ds]⟩
def cardAt (D s r : Nat) : Nat := pastAll ((dealAt D s r).seed % (D - r)) (dealAt D s r).ds
theorem deal_good (D s r : Nat) (hr : r ≤ D) : Good D 0 (dealAt D s r).ds ∧ (dealAt D s r).ds.length = r ∧ (dealAt D s r).out.length = r ∧ (dealAt D s r).seed ≤ s := by
  induction r with
  | zero => exact ⟨Nat.zero_le _, rfl, rfl, Nat.le_refl _⟩
  | succ r ih =>
    obtain ⟨h1, h2, h3, h4⟩ := ih (by omega)
    have hl := comp_len h1
    have hm : (dealAt D s r).seed % (D - r) < D - r := Nat.mod_lt _ (by omega)
    have := (comp_erase (k := (dealAt D s r).seed % (D - r)) h1 (by omega)).2
    rw [Nat.zero_add] at this
    refine ⟨this, by show (insN _ _).length = _; rw [insN_len, h2], by simp [dealAt, h3], ?_⟩
    exact Nat.le_trans (Nat.div_le_self _ _) h4
theorem left_step (D s r : Nat) (hr : r < D) : (comp D 0 (dealAt D s r).ds).length = D - r ∧ (comp D 0 (dealAt D s r).ds)[(dealAt D s r).seed % (D - r)]? = some (cardAt D s r) ∧ (comp D 0 (dealAt D s r).ds).eraseIdx ((dealAt D s r).seed % (D - r)) = comp D 0 (dealAt D s (r + 1)).ds := by
  obtain ⟨h1, h2, _, _⟩ := deal_good D s r (by omega)
  have hl := comp_len h1
  have hm : (dealAt D s r).seed % (D - r) < D - r := Nat.mod_lt _ (by omega)
  have e1 := comp_get (k := (dealAt D s r).seed % (D - r)) h1 (by omega)
  have e2 := (comp_erase (k := (dealAt D s r).seed % (D - r)) h1 (by omega)).1
  rw [Nat.zero_add] at e1 e2
  exact ⟨by omega, e1, e2⟩
theorem card_lt (D s r : Nat) (hr : r < D) : cardAt D s r < 2 * D := by
  obtain ⟨_, h2, _, _⟩ := deal_good D s r (by omega)
  have hm : (dealAt D s r).seed % (D - r) < D - r := Nat.mod_lt _ (by omega)
  have := pastAll_le ((dealAt D s r).seed % (D - r)) (dealAt D s r).ds
  unfold cardAt
  omega
end Go.Proofs.Ytpbbohinhbboaaa.Sx
