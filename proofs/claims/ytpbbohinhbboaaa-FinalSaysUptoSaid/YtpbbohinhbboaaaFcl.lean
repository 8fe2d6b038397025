/-
  slices.Clone of labels.
-/
import Derived.Test.YtpbbohinhbboaaaLab
import Derived.Test.YtpbbohinhbboaaaChecked
import Derived.Laws.AppendOwn
import Derived.Lib.SliceRun
import Derived.Lib.Hide
import Derived.BigGuardPart
namespace Go.Proofs.Ytpbbohinhbboaaa.Sx
open Go Go.RowKit

abbrev labT : Nat := 124
def labCells (x : Lab) : List Value := [.string x.key, .string x.val]
def flatL (l : List Lab) : List Value := l.flatMap labCells
theorem flatL_len (l : List Lab) : (flatL l).length = l.length * 2 := by
  unfold flatL
  induction l with
  | nil => rfl
  | cons x r ih => simp only [List.flatMap_cons, List.length_append, List.length_cons, ih]; simp [labCells]; omega
theorem flatL_at {l : List Lab} {j : Nat} {u : Value} (h : (flatL l)[j]? = some u) : ∃ i k, ∃ hi : i < l.length, j = i * 2 + k ∧ (labCells l[i])[k]? = some u := by
  induction l generalizing j with
  | nil => simp [flatL] at h
  | cons x r ih =>
    have e : flatL (x :: r) = labCells x ++ flatL r := by simp [flatL]
    rw [e] at h
    rcases Nat.lt_or_ge j 2 with h2 | h2
    · rw [List.getElem?_append_left (by exact h2)] at h
      exact ⟨0, j, by simp, by omega, h⟩
    · rw [List.getElem?_append_right (by exact h2)] at h
      obtain ⟨i, k, hi, hj, hu⟩ := ih h
      have hl : (labCells x).length = 2 := rfl
      exact ⟨i + 1, k, by simpa using hi, by omega, hu⟩
theorem flatL_get {l : List Lab} {i k : Nat} {u : Value} (hi : i < l.length) (hu : (labCells l[i])[k]? = some u) : (flatL l)[i * 2 + k]? = some u := by
  induction l generalizing i with
  | nil => simp at hi
  | cons x r ih =>
    have e : flatL (x :: r) = labCells x ++ flatL r := by simp [flatL]
    have hl : (labCells x).length = 2 := rfl
    rw [e]
    cases i with
    | zero =>
      have hk : k < 2 := by
        have := (List.getElem?_eq_some_iff.1 hu).1
        exact this
      rw [List.getElem?_append_left (by omega), Nat.zero_mul, Nat.zero_add]
      exact hu
    | succ i =>
      rw [List.getElem?_append_right (by omega)]
      have e2 : (i + 1) * 2 + k - (labCells x).length = i * 2 + k := by omega
      rw [e2]
      exact ih (by simpa using hi) hu
theorem labs_of_own {w : World} {base : Nat} {v : Value} {l : List Lab} (h : w.ownsRow base labT 2 v l.length (flatL l)) (hn : l.length ≤ 1099511627776) (hz : ∀ x ∈ l, x.key.size ≤ 1048576 ∧ x.val.size ≤ 1048576) : LabsR w.heap.size w v l := by
  rcases h.2 with ⟨rfl, h0⟩ | ⟨g, cap, cur, rfl, hb, hg, _, _, hs, ht⟩
  · have hx : l = [] := List.length_eq_zero_iff.1 h0
    subst hx
    exact ⟨hn, none, 0, rfl, fun i hi => by simp at hi⟩
  · refine ⟨hn, _, _, rfl, fun i hi => ⟨g, 0, labCells l[i], rfl, heap_lt hg, rfl, ⟨rfl, (hz _ (List.getElem_mem hi)).1, (hz _ (List.getElem_mem hi)).2⟩, fun k u hu => ?_⟩⟩
    have h1 := flatL_get hi hu
    have hk : k < 2 := (List.getElem?_eq_some_iff.1 hu).1
    rw [cell_of hg, Nat.zero_add, ← Array.getElem?_toList]
    rw [← ht, List.getElem?_take_of_lt (by omega)] at h1
    exact h1

theorem lab_info : (Try.prog.info? labT).map (fun i => (i.zero, i.size, i.bytes)) = some (some (Value.agg #[.string ⟨#[]⟩, .string ⟨#[]⟩]), 2, 32) := by kernel_rfl
set_option maxRecDepth 100000 in
set_option maxHeartbeats 2000000 in
theorem clone_some (a : Addr) (n c : Nat) (l : List Lab) (w : World) (hl : l.length = n) (hn : n ≤ 1099511627776) (hc : ∀ j u, (flatL l)[j]? = some u → w.cell? (a.add j) = some u) :
    Calls Try.prog 122 #[.slice (some a) n c] w fun e w' => ∃ v', e = .returned v' ∧ w'.ownsRow w.heap.size labT 2 v' n (flatL l) ∧ Ext w w' := by
  obtain ⟨i0, hi, hz0, hz1, hz2⟩ := info_parts lab_info
  have HC := Lib.hid hc
  have q22 : ∀ (w : World) (a : Option Addr) (n c n' c' : Nat), (Go.binOp .eql 51 (.slice a n c) (.slice none n' c')).run Try.prog w = .ok (.bool a.isNone) w := fun w a n c n' c' => Lib.run_eql_slice_nil w _ _ a n c n' c' Try.underlying51
  clear hc
  go_enter Try.func122, Try.ntmps122
  go_wp2_with (at_builtin; refine wpList_append_own _ (by rfl) _ _ 51 (by rfl) w.heap.size labT i0 _ 2 32 Try.underlying51 hi hz0 hz1 hz2 rfl (by omega) _ _ _ (by rfl) (World.ownsRow_made w #[] 0 (Nat.le_refl _) (Nat.zero_le _) (by simp)) a n c (flatL l) (by rfl) ?c1 ?c2 ?c3 ?c4 ?c5 ?c6 ?_)
  case c1 => rw [flatL_len, hl]
  case c2 =>
    intro j u hj
    exact Lib.cell?_alloc_some _ (HC.out j u hj)
  case c3 =>
    intro u hu
    obtain ⟨x, _, hx⟩ := List.mem_flatMap.1 hu
    simp [labCells] at hx
    rcases hx with rfl | rfl <;> rfl
  case c4 => unfold maxLen; omega
  case c5 => omega
  case c6 => simp
  intro v' w1 hown hgrow _
  go_wp2
  go_ret
  exact ⟨v', rfl, by simpa using hown, ((Below.refl _ w).alloc (Nat.le_refl _) _).grown hgrow (by simp) (by intro k hk; simp [Value.ownBlock] at hk; omega)⟩
set_option maxRecDepth 100000 in
theorem clone_nil (n c : Nat) (w : World) :
    Calls Try.prog 122 #[.slice none n c] w fun e w' => e = .returned (.slice none 0 0) ∧ w = w' := by
  have q22 : ∀ (w : World) (a : Option Addr) (n c n' c' : Nat), (Go.binOp .eql 51 (.slice a n c) (.slice none n' c')).run Try.prog w = .ok (.bool a.isNone) w := fun w a n c n' c' => Lib.run_eql_slice_nil w _ _ a n c n' c' Try.underlying51
  go_enter Try.func122, Try.ntmps122
  go_wp2
  go_ret
  exact ⟨rfl, rfl⟩
theorem LabsR.small {B : Nat} {w : World} {v : Value} {l : List Lab} (h : LabsR B w v l) : ∀ x ∈ l, x.key.size ≤ 1048576 ∧ x.val.size ≤ 1048576 := fun x hx => by
  obtain ⟨_, _, _, _, hi⟩ := h
  obtain ⟨i, hl, rfl⟩ := List.mem_iff_getElem.1 hx
  obtain ⟨_, _, _, _, _, _, ⟨_, h1, h2⟩, _⟩ := hi i hl
  exact ⟨h1, h2⟩
theorem clone_labs_own {B : Nat} {w : World} {v : Value} {l : List Lab} (h : LabsR B w v l) :
    Calls Try.prog 122 #[v] w fun e w' => ∃ A c, e = .returned (.slice A l.length c) ∧ w'.ownsRow w.heap.size labT 2 (.slice A l.length c) l.length (flatL l) ∧ Ext w w' := by
  have hs := h.small
  obtain ⟨hn, A, c, rfl, hi⟩ := h
  cases A with
  | none =>
    have hl : l = [] := by
      cases l with
      | nil => rfl
      | cons x r =>
        obtain ⟨_, _, _, hA, _⟩ := hi 0 (by simp)
        cases hA
    subst hl
    exact (clone_nil _ _ w).mono fun e w' ⟨he, hw⟩ => ⟨none, 0, he, World.ownsRow_nil _ _ _ _, by rw [← hw]; exact Below.refl _ _⟩
  | some a =>
    refine (clone_some a l.length c l w rfl hn ?_).mono fun e w' ⟨v', he, ho, hx⟩ => ?_
    · intro j u hj
      obtain ⟨i, k, hil, rfl, hu⟩ := flatL_at hj
      obtain ⟨b, off, cs, hA, _, _, ⟨hcs, _⟩, hcell⟩ := hi i hil
      injection hA with hA
      subst hA
      rw [Addr.add_lit, ← Nat.add_assoc]
      exact hcell k u (by rw [hcs]; exact hu)
    · have hr := labs_of_own ho hn hs
      obtain ⟨_, A', c', hv, _⟩ := id hr
      subst hv
      exact ⟨A', c', he, ho, hx⟩
end Go.Proofs.Ytpbbohinhbboaaa.Sx
