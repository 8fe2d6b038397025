/-
  Pointers, the plain part: replaceAll byte by byte; a text cut at a byte; an escaped step read back. No program in sight.
-/
import Derived.Lib.Replace
import Derived.Lib.SplitLaws
import Derived.Lib.CountLaws
namespace Go.Proofs.YtahinicpceokcaaGreatDoor.Pt
open Go Go.Lib
/-! ### replaceAll, one byte at a time -/
def rep (old new s : List UInt8) : List UInt8 := replaceK old new (count s old) s
theorem replaceAll_rep {old new : List UInt8} (hne : old ≠ new) (s : List UInt8) : replaceAll s old new = rep old new s := by
  unfold replaceAll replace rep replaceNum
  rw [if_neg (by simpa using hne), if_pos (Or.inl (by omega))]
theorem rep_nil {old new : List UInt8} (h : old ≠ []) : rep old new [] = [] := by
  have hi : index [] old = -1 := by
    unfold index
    rw [if_neg (by cases old with | nil => exact absurd rfl h | cons _ _ => simp)]
  unfold rep
  rw [count_miss hi]
  rfl
theorem rep_hit {old new : List UInt8} (h : old ≠ []) (t : List UInt8) : rep old new (old ++ t) = new ++ rep old new t := by
  have hi : index (old ++ t) old = ((0 : Nat) : Int) := by
    cases old with
    | nil => exact absurd rfl h
    | cons c r =>
      rw [List.cons_append, index, if_pos (by rw [← List.cons_append, List.isPrefixOf_iff_prefix]; exact List.prefix_append _ _)]
      rfl
  unfold rep
  have hc := count_hit h hi
  rw [Nat.zero_add, List.drop_left] at hc
  rw [hc, Nat.add_comm 1, replaceK_hit _ _ _ _ _ hi, Nat.zero_add, List.drop_left, List.take_zero, List.nil_append]
theorem rep_miss {old new : List UInt8} (h : old ≠ []) (c : UInt8) (r : List UInt8) (hp : old.isPrefixOf (c :: r) = false) : rep old new (c :: r) = c :: rep old new r := by
  unfold rep
  rcases index_spec r old with ⟨hi, _⟩ | ⟨i, hi, _⟩
  · have hs : index (c :: r) old = -1 := by
      rw [index, if_neg (by rw [hp]; simp), if_pos (by rw [hi]; rfl)]
    rw [count_miss hi, count_miss hs]
    rfl
  · have hs : index (c :: r) old = ((i + 1 : Nat) : Int) := by
      rw [index, if_neg (by rw [hp]; simp), hi, if_neg (by simp)]
      simp
    have e : (i + 1) + old.length = (i + old.length) + 1 := by omega
    rw [count_hit h hi, count_hit h hs, e, List.drop_succ_cons, Nat.add_comm 1, replaceK_hit _ _ _ _ _ hi, replaceK_hit _ _ _ _ _ hs, e, List.drop_succ_cons, List.take_succ_cons]
    rfl
theorem rep_one_eq (c : UInt8) (new r : List UInt8) : rep [c] new (c :: r) = new ++ rep [c] new r := rep_hit (old := [c]) (by simp) r
theorem rep_one_ne {c d : UInt8} (new r : List UInt8) (h : c ≠ d) : rep [c] new (d :: r) = d :: rep [c] new r := rep_miss (by simp) d r (by simp [List.isPrefixOf, h])
theorem rep_one_flat (c : UInt8) (new s : List UInt8) : rep [c] new s = s.flatMap fun d => if d = c then new else [d] := by
  induction s with
  | nil => exact rep_nil (by simp)
  | cons d r ih =>
    by_cases h : d = c
    · subst h; rw [rep_one_eq, ih]; simp
    · rw [rep_one_ne _ _ (fun e => h e.symm), ih]; simp [h]
theorem rep_two_eq (a b : UInt8) (new r : List UInt8) : rep [a, b] new (a :: b :: r) = new ++ rep [a, b] new r := rep_hit (old := [a, b]) (by simp) r
theorem rep_two_ne {a b c : UInt8} (new r : List UInt8) (h : a ≠ c) : rep [a, b] new (c :: r) = c :: rep [a, b] new r := rep_miss (by simp) c r (by simp [List.isPrefixOf, h])
theorem rep_two_ne2 {a b c d : UInt8} (new r : List UInt8) (h : b ≠ d) : rep [a, b] new (c :: d :: r) = c :: rep [a, b] new (d :: r) := rep_miss (by simp) c _ (by simp [List.isPrefixOf, h])
def segs (c : UInt8) : List UInt8 → List (List UInt8)
  | [] => [[]]
  | x :: r => if x = c then [] :: segs c r else ((x :: (segs c r).headD []) :: (segs c r).tail)
theorem segs_ne (c : UInt8) (l : List UInt8) : segs c l ≠ [] := by
  cases l with
  | nil => simp [segs]
  | cons x r => unfold segs; split <;> simp
theorem segs_cons (c : UInt8) (l : List UInt8) : segs c l = (segs c l).headD [] :: (segs c l).tail := by
  have := segs_ne c l
  cases h : segs c l with
  | nil => exact absurd h this
  | cons x r => rfl
theorem segs_eq (c : UInt8) (r : List UInt8) : segs c (c :: r) = [] :: segs c r := by simp [segs]
theorem segs_other {c x : UInt8} (h : x ≠ c) (r : List UInt8) : segs c (x :: r) = (x :: (segs c r).headD []) :: (segs c r).tail := by simp [segs, h]
theorem segs_free {c : UInt8} {l : List UInt8} (h : c ∉ l) : segs c l = [l] := by
  induction l with
  | nil => rfl
  | cons x r ih =>
    simp only [List.mem_cons, not_or] at h
    rw [segs_other (fun e => h.1 e.symm), ih h.2]
    rfl
theorem segs_hit {c : UInt8} {l : List UInt8} (h : c ∉ l) (r : List UInt8) : segs c (l ++ c :: r) = l :: segs c r := by
  induction l with
  | nil => rw [List.nil_append, segs_eq]
  | cons x l ih =>
    simp only [List.mem_cons, not_or] at h
    rw [List.cons_append, segs_other (fun e => h.1 e.symm), ih h.2]
    rfl
def unesc : List UInt8 → Option (List UInt8)
  | [] => some []
  | [c] => if c = 126 then none else some [c]
  | c :: d :: r => if c = 126 then (if d = 48 then (unesc r).map (126 :: ·) else if d = 49 then (unesc r).map (47 :: ·) else none) else (unesc (d :: r)).map (c :: ·)
theorem unesc_other {c : UInt8} (h : c ≠ 126) (r : List UInt8) : unesc (c :: r) = (unesc r).map (c :: ·) := by
  cases r with
  | nil => simp [unesc, h]
  | cons d r => rw [unesc, if_neg h]
theorem unesc_zero (r : List UInt8) : unesc (126 :: 48 :: r) = (unesc r).map (126 :: ·) := by simp [unesc]
theorem unesc_one (r : List UInt8) : unesc (126 :: 49 :: r) = (unesc r).map (47 :: ·) := by simp [unesc]
theorem unesc_bad {d : UInt8} (h0 : d ≠ 48) (h1 : d ≠ 49) (r : List UInt8) : unesc (126 :: d :: r) = none := by simp [unesc, h0, h1]
theorem unesc_end : unesc [126] = none := by simp [unesc]
/-- The ways in which a text begins. -/
theorem ways (l : List UInt8) : l = [] ∨ (∃ c r, l = c :: r ∧ c ≠ 126) ∨ (∃ r, l = 126 :: 48 :: r) ∨ (∃ r, l = 126 :: 49 :: r) ∨ l = [126] ∨ ∃ d r, l = 126 :: d :: r ∧ d ≠ 48 ∧ d ≠ 49 := by
  rcases l with _ | ⟨c, r⟩
  · exact .inl rfl
  by_cases hc : c = 126
  · subst hc
    rcases r with _ | ⟨d, r⟩
    · exact .inr (.inr (.inr (.inr (.inl rfl))))
    by_cases h0 : d = 48
    · subst h0; exact .inr (.inr (.inl ⟨r, rfl⟩))
    by_cases h1 : d = 49
    · subst h1; exact .inr (.inr (.inr (.inl ⟨r, rfl⟩)))
    exact .inr (.inr (.inr (.inr (.inr ⟨d, r, rfl, h0, h1⟩))))
  · exact .inr (.inl ⟨c, r, rfl, hc⟩)
theorem unesc_rep : ∀ (n : Nat) (s t : List UInt8), s.length ≤ n → unesc s = some t → rep [126, 48] [126] (rep [126, 49] [47] s) = t := by
  intro n
  induction n with
  | zero =>
    intro s t hn h
    obtain rfl : s = [] := List.length_eq_zero_iff.1 (by omega)
    simp [unesc] at h
    subst h
    rw [rep_nil (by simp), rep_nil (by simp)]
  | succ n ih =>
    intro s t hn h
    rcases ways s with rfl | ⟨c, r, rfl, hc⟩ | ⟨r, rfl⟩ | ⟨r, rfl⟩ | rfl | ⟨d, r, rfl, h0, h1⟩
    · simp [unesc] at h
      subst h
      rw [rep_nil (by simp), rep_nil (by simp)]
    · rw [unesc_other hc] at h
      obtain ⟨t', ht, rfl⟩ := Option.map_eq_some_iff.1 h
      simp only [List.length_cons] at hn
      rw [rep_two_ne _ _ (fun e => hc e.symm), rep_two_ne _ _ (fun e => hc e.symm), ih r t' (by omega) ht]
    · rw [unesc_zero] at h
      obtain ⟨t', ht, rfl⟩ := Option.map_eq_some_iff.1 h
      simp only [List.length_cons] at hn
      rw [rep_two_ne2 (a := 126) (b := 49) (c := 126) (d := 48) _ _ (by decide), rep_two_ne (a := 126) (b := 49) (c := 48) _ _ (by decide), rep_two_eq, ih r t' (by omega) ht]
      rfl
    · rw [unesc_one] at h
      obtain ⟨t', ht, rfl⟩ := Option.map_eq_some_iff.1 h
      simp only [List.length_cons] at hn
      rw [rep_two_eq, List.cons_append, List.nil_append, rep_two_ne _ _ (by decide), ih r t' (by omega) ht]
    · rw [unesc_end] at h; cases h
    · rw [unesc_bad h0 h1] at h; cases h
theorem unesc_le : ∀ (n : Nat) (s t : List UInt8), s.length ≤ n → unesc s = some t → t.length ≤ s.length := by
  intro n
  induction n with
  | zero =>
    intro s t hn h
    obtain rfl : s = [] := List.length_eq_zero_iff.1 (by omega)
    simp [unesc] at h
    subst h
    simp
  | succ n ih =>
    intro s t hn h
    rcases ways s with rfl | ⟨c, r, rfl, hc⟩ | ⟨r, rfl⟩ | ⟨r, rfl⟩ | rfl | ⟨d, r, rfl, h0, h1⟩
    · simp [unesc] at h
      subst h
      simp
    · rw [unesc_other hc] at h
      obtain ⟨t', ht, rfl⟩ := Option.map_eq_some_iff.1 h
      simp only [List.length_cons] at hn ⊢
      have := ih r t' (by omega) ht
      omega
    · rw [unesc_zero] at h
      obtain ⟨t', ht, rfl⟩ := Option.map_eq_some_iff.1 h
      simp only [List.length_cons] at hn ⊢
      have := ih r t' (by omega) ht
      omega
    · rw [unesc_one] at h
      obtain ⟨t', ht, rfl⟩ := Option.map_eq_some_iff.1 h
      simp only [List.length_cons] at hn ⊢
      have := ih r t' (by omega) ht
      omega
    · rw [unesc_end] at h; cases h
    · rw [unesc_bad h0 h1] at h; cases h
/-- A part behind a tilde begins with 0 or 1. -/
def good : List UInt8 → Bool
  | [] => false
  | c :: _ => decide (c = 48) || decide (c = 49)
def okSeg (s : List UInt8) : Bool := (segs 126 s).tail.all good
theorem ok_unesc : ∀ (n : Nat) (s : List UInt8), s.length ≤ n → okSeg s = (unesc s).isSome := by
  intro n
  induction n with
  | zero =>
    intro s hn
    obtain rfl : s = [] := List.length_eq_zero_iff.1 (by omega)
    rfl
  | succ n ih =>
    intro s hn
    rcases ways s with rfl | ⟨c, r, rfl, hc⟩ | ⟨r, rfl⟩ | ⟨r, rfl⟩ | rfl | ⟨d, r, rfl, h0, h1⟩
    · rfl
    · simp only [List.length_cons] at hn
      have h := ih r (by omega)
      unfold okSeg at *
      rw [segs_other hc, List.tail_cons, h, unesc_other hc, Option.isSome_map]
    · simp only [List.length_cons] at hn
      have h := ih r (by omega)
      unfold okSeg at *
      rw [segs_eq, List.tail_cons, segs_other (by decide), List.all_cons, h, unesc_zero, Option.isSome_map]
      simp [good]
    · simp only [List.length_cons] at hn
      have h := ih r (by omega)
      unfold okSeg at *
      rw [segs_eq, List.tail_cons, segs_other (by decide), List.all_cons, h, unesc_one, Option.isSome_map]
      simp [good]
    · rw [unesc_end]; rfl
    · unfold okSeg
      rw [segs_eq, List.tail_cons, unesc_bad h0 h1]
      by_cases hd : d = 126
      · subst hd; rw [segs_eq]; simp [good]
      · rw [segs_other hd]; simp [good, h0, h1]
def unescAll : List (List UInt8) → Option (List (List UInt8))
  | [] => some []
  | s :: l => match unesc s with
    | none => none
    | some t => (unescAll l).map (t :: ·)
theorem unescAll_length : ∀ {l o : List (List UInt8)}, unescAll l = some o → o.length = l.length
  | [], o, h => by simp [unescAll] at h; subst h; rfl
  | s :: l, o, h => by
    unfold unescAll at h
    split at h
    · cases h
    · obtain ⟨o', ho, rfl⟩ := Option.map_eq_some_iff.1 h
      simp [unescAll_length ho]
theorem unescAll_at : ∀ {l o : List (List UInt8)}, unescAll l = some o → ∀ i (h : i < l.length) (h' : i < o.length), unesc l[i] = some o[i]
  | [], o, h, i, hi, _ => by simp at hi
  | s :: l, o, h, i, hi, hi' => by
    unfold unescAll at h
    split at h
    · cases h
    · rename_i t ht
      obtain ⟨o', ho, rfl⟩ := Option.map_eq_some_iff.1 h
      cases i with
      | zero => exact ht
      | succ i => exact unescAll_at ho i (by simpa using hi) (by simpa using hi')
theorem unescAll_none : ∀ {l : List (List UInt8)}, unescAll l = none → ∃ i, ∃ h : i < l.length, unesc l[i] = none ∧ ∀ j (hj : j < i), (unesc (l[j]'(by omega))).isSome = true
  | [], h => by simp [unescAll] at h
  | s :: l, h => by
    unfold unescAll at h
    split at h
    · rename_i hs
      exact ⟨0, by simp, hs, fun j hj => absurd hj (by omega)⟩
    · rename_i t ht
      have hn : unescAll l = none := by
        cases e : unescAll l with
        | none => rfl
        | some o => rw [e] at h; cases h
      obtain ⟨i, hi, h1, h2⟩ := unescAll_none hn
      refine ⟨i + 1, by simp; omega, h1, fun j hj => ?_⟩
      cases j with
      | zero => show (unesc s).isSome = true; rw [ht]; rfl
      | succ j => exact h2 j (by omega)
/-- The reference's loop, from a place on: 'done' are the steps that are whole, 'cur' is the one under way. -/
def scan : List UInt8 → List (List UInt8) → List UInt8 → Option (List (List UInt8))
  | [], done, cur => some (done ++ [cur])
  | [c], done, cur => if c = 47 then some (done ++ [cur] ++ [[]]) else if c = 126 then none else some (done ++ [cur ++ [c]])
  | c :: d :: r, done, cur => if c = 47 then scan (d :: r) (done ++ [cur]) [] else if c = 126 then (if d = 48 then scan r done (cur ++ [126]) else if d = 49 then scan r done (cur ++ [47]) else none) else scan (d :: r) done (cur ++ [c])
theorem scan_slash (r : List UInt8) (done : List (List UInt8)) (cur : List UInt8) : scan (47 :: r) done cur = scan r (done ++ [cur]) [] := by
  cases r with
  | nil => simp [scan]
  | cons d r => rw [scan, if_pos rfl]
theorem scan_other {c : UInt8} (h : c ≠ 47) (h' : c ≠ 126) (r : List UInt8) (done : List (List UInt8)) (cur : List UInt8) : scan (c :: r) done cur = scan r done (cur ++ [c]) := by
  cases r with
  | nil => simp [scan, h, h']
  | cons d r => rw [scan, if_neg h, if_neg h']
theorem scan_zero (r : List UInt8) (done : List (List UInt8)) (cur : List UInt8) : scan (126 :: 48 :: r) done cur = scan r done (cur ++ [126]) := by simp [scan]
theorem scan_one (r : List UInt8) (done : List (List UInt8)) (cur : List UInt8) : scan (126 :: 49 :: r) done cur = scan r done (cur ++ [47]) := by simp [scan]
theorem scan_bad {d : UInt8} (h0 : d ≠ 48) (h1 : d ≠ 49) (r : List UInt8) (done : List (List UInt8)) (cur : List UInt8) : scan (126 :: d :: r) done cur = none := by simp [scan, h0, h1]
theorem scan_end (done : List (List UInt8)) (cur : List UInt8) : scan [126] done cur = none := by simp [scan]
theorem unescAll_first {s : List UInt8} {l : List (List UInt8)} : unescAll (s :: l) = match unesc s with | none => none | some t => (unescAll l).map (t :: ·) := rfl
/-- What the loop comes to. -/
def joined (done : List (List UInt8)) (cur : List UInt8) : Option (List (List UInt8)) → Option (List (List UInt8))
  | none => none
  | some l => some (done ++ (cur ++ l.headD []) :: l.tail)
theorem scan_segs : ∀ (n : Nat) (r : List UInt8) (done : List (List UInt8)) (cur : List UInt8), r.length ≤ n → scan r done cur = joined done cur (unescAll (segs 47 r)) := by
  intro n
  induction n with
  | zero =>
    intro r done cur hn
    obtain rfl : r = [] := List.length_eq_zero_iff.1 (by omega)
    simp [scan, segs, unescAll, unesc, joined]
  | succ n ih =>
    intro r done cur hn
    have key : ∀ (pre x : List UInt8) (t : List UInt8), x.length ≤ n → (∀ y, unesc (pre ++ y) = (unesc y).map (t ++ ·)) → joined done (cur ++ t) (unescAll (segs 47 x)) = joined done cur (unescAll ((pre ++ (segs 47 x).headD []) :: (segs 47 x).tail)) := by
      intro pre x t hx hpre
      rw [segs_cons 47 x, unescAll_first, unescAll_first]
      simp only [List.headD_cons, List.tail_cons]
      rw [hpre]
      cases unesc ((segs 47 x).headD []) with
      | none => rfl
      | some y =>
        simp only [Option.map_some]
        cases unescAll (segs 47 x).tail with
        | none => rfl
        | some z => simp [joined]
    rcases r with _ | ⟨c, r⟩
    · simp [scan, segs, unescAll, unesc, joined]
    simp only [List.length_cons] at hn
    by_cases h47 : c = 47
    · subst h47
      rw [scan_slash, segs_eq, unescAll_first, ih r _ _ (by omega)]
      simp only [unesc]
      rw [segs_cons 47 r]
      cases h : unescAll ((segs 47 r).headD [] :: (segs 47 r).tail) with
      | none => rfl
      | some z =>
        have hz : z ≠ [] := by
          intro e
          subst e
          have := unescAll_length h
          simp at this
        cases z with
        | nil => exact absurd rfl hz
        | cons a z => simp [joined]
    · rcases ways (c :: r) with e | ⟨c', r', e, hc⟩ | ⟨r', e⟩ | ⟨r', e⟩ | e | ⟨d, r', e, h0, h1⟩
      · cases e
      · injection e with e1 e2
        subst e1 e2
        rw [scan_other h47 hc, segs_other h47, ih r _ _ (by omega)]
        exact key [c] r [c] (by omega) fun y => by rw [List.cons_append, List.nil_append, unesc_other hc]; rfl
      · injection e with e1 e2
        subst e1 e2
        simp only [List.length_cons] at hn
        rw [scan_zero, segs_other h47, segs_other (by decide), ih r' _ _ (by omega)]
        exact key [126, 48] r' [126] (by omega) fun y => by rw [List.cons_append, List.cons_append, List.nil_append, unesc_zero]; rfl
      · injection e with e1 e2
        subst e1 e2
        simp only [List.length_cons] at hn
        rw [scan_one, segs_other h47, segs_other (by decide), ih r' _ _ (by omega)]
        exact key [126, 49] r' [47] (by omega) fun y => by rw [List.cons_append, List.cons_append, List.nil_append, unesc_one]; rfl
      · injection e with e1 e2
        subst e1 e2
        rw [scan_end]
        rfl
      · injection e with e1 e2
        subst e1 e2
        rw [scan_bad h0 h1, segs_other h47]
        have : unesc (126 :: (segs 47 (d :: r')).headD []) = none := by
          by_cases hd : d = 47
          · subst hd; rw [segs_eq]; exact unesc_end
          · rw [segs_other hd]; exact unesc_bad h0 h1 _
        rw [unescAll_first, this]
        rfl
end Go.Proofs.YtahinicpceokcaaGreatDoor.Pt
