/-
  Solve in plain words: the keys, the first value of a key; both sides' ways give the same. No program in sight.
-/
import Derived.Test.YtplfimoeggecjaaGreatDoorQs0
import Derived.Test.YtplfimoeggecjaaGreatDoorFits
namespace Go.Proofs.YtplfimoeggecjaaGreatDoor.Qs
open Go Go.Lib Go.Proofs.YtplfimoeggecjaaGreatDoor.Dc Go.Proofs.YtplfimoeggecjaaGreatDoor.Sx

def wants (r : Req) : Bool := decide (r.kind = 1) || decide (r.kind = 3)
def isIn (r : Req) : Bool := decide (r.kind = 1)
/-- The keys that must be there: the program's list, the reference's. -/
def keysP (l : List Req) : List Tx := (l.filter wants).map fun r => tx r.key
def key1 (ks : List Tx) (r : Req) : List Tx := if wants r && !(ks.contains (tx r.key)) then ks ++ [tx r.key] else ks
def keysR (l : List Req) : List Tx := l.foldl key1 []
theorem keysR_go {l : List Req} {ks : List Tx} (h : ks.Nodup) : (l.foldl key1 ks).Nodup ∧ ∀ x, x ∈ l.foldl key1 ks ↔ x ∈ ks ∨ x ∈ keysP l := by
  induction l generalizing ks with
  | nil => exact ⟨h, fun x => by simp [keysP]⟩
  | cons r l ih =>
    rw [List.foldl_cons]
    by_cases hw : wants r = true
    · by_cases hc : ks.contains (tx r.key) = true
      · have he : key1 ks r = ks := by unfold key1; rw [hw, hc]; rfl
        rw [he]
        refine ⟨(ih h).1, fun x => ?_⟩
        rw [(ih h).2 x]
        have hm : tx r.key ∈ ks := by simpa using hc
        unfold keysP
        rw [List.filter_cons_of_pos hw, List.map_cons, List.mem_cons]
        constructor
        · rintro (h1 | h1)
          · exact .inl h1
          · exact .inr (.inr h1)
        · rintro (h1 | h1 | h1)
          · exact .inl h1
          · exact .inl (h1 ▸ hm)
          · exact .inr h1
      · have he : key1 ks r = ks ++ [tx r.key] := by unfold key1; rw [hw, Bool.eq_false_iff.2 hc]; rfl
        have hn : (ks ++ [tx r.key]).Nodup := by
          refine List.nodup_append.2 ⟨h, by simp, fun a ha b hb e => ?_⟩
          simp at hb
          subst hb
          subst e
          exact hc (by simpa using ha)
        rw [he]
        refine ⟨(ih hn).1, fun x => ?_⟩
        rw [(ih hn).2 x]
        unfold keysP
        rw [List.filter_cons_of_pos hw, List.map_cons, List.mem_cons, List.mem_append, List.mem_singleton, or_assoc]
    · have he : key1 ks r = ks := by unfold key1; rw [Bool.eq_false_iff.2 hw]; rfl
      rw [he]
      unfold keysP
      rw [List.filter_cons_of_neg hw]
      exact ih h
/-- The keys in order. -/
def keysS (l : List Req) : List Tx := isort (keysR l)
theorem keys_prog (l : List Req) : compact ((keysP l).mergeSort fun x y => decide (x ≤ y)) = keysS l :=
  keys_same (keysR_go (l := l) (ks := []) .nil).1 fun x => by
    rw [show keysR l = l.foldl key1 [] from rfl, (keysR_go (l := l) (ks := []) .nil).2 x]
    simp
theorem keysS_mem (l : List Req) (x : Tx) : x ∈ keysS l ↔ x ∈ keysP l := by
  unfold keysS
  rw [(isort_perm _).mem_iff]
  rw [show keysR l = l.foldl key1 [] from rfl, (keysR_go (l := l) (ks := []) .nil).2 x]
  simp
theorem keysS_strict (l : List Req) : Strict (keysS l) := up_strict (isort_up _) ((isort_perm _).nodup_iff.2 (keysR_go (l := l) (ks := []) .nil).1)

def aboutL (l : List Req) (key : Tx) : List Req := l.filter fun r => tx r.key == key
def mk (key v : Tx) : Lab := ⟨bx key, bx v⟩
def okV (ab : List Req) (key v : Tx) : Bool := allB ab [mk key v]
def valsT (r : Req) : List Tx := r.vals.map tx
/-- What may be tried: the first set's, or n numerals behind the empty text. -/
def candL (ab : List Req) (n : Nat) : List Tx := match ab.find? isIn with | some r => isort (valsT r) | none => cands n
def valueL (l : List Req) (key : Tx) (n : Nat) : Option Tx := (candL (aboutL l key) n).find? (okV (aboutL l key) key)

theorem keyed_mk (r : Req) (key v : Tx) : keyed r.key (mk key v) = (key == tx r.key) := by
  unfold keyed eqS mk
  rw [ByteArray.toList_eq, ByteArray.toList_eq]
  rfl
theorem holds_mk {r : Req} {key v : Tx} (h : tx r.key = key) : holdsB r [mk key v] = if r.kind = 1 then hasS r.vals (bx v) else if r.kind = 2 then !(hasS r.vals (bx v)) else decide (r.kind = 3) := by
  refine holds_some (x := mk key v) ?_
  rw [List.find?_cons_of_pos (by rw [keyed_mk, h]; simp)]
theorem about_key {l : List Req} {key : Tx} {r : Req} (h : r ∈ aboutL l key) : tx r.key = key ∧ r ∈ l := by
  have := List.mem_filter.1 h
  exact ⟨by simpa using this.2, this.1⟩
/-- At most as many texts as stand in the sets. -/
theorem flat_len {ab : List Req} (h : ∀ r ∈ ab, r.vals.length ≤ 8) : (ab.flatMap valsT).length ≤ 8 * ab.length := by
  induction ab with
  | nil => simp
  | cons r ab ih =>
    rw [List.flatMap_cons, List.length_append, List.length_cons]
    have h1 := h r List.mem_cons_self
    have h2 := ih fun x hx => h x (List.mem_cons_of_mem _ hx)
    have h3 : (valsT r).length = r.vals.length := List.length_map ..
    omega
/-- 73 numerals are enough for nine parts. -/
theorem value_same {l : List Req} (key : Tx) (hl : l.length ≤ 9) (hv : ∀ r ∈ l, r.vals.length ≤ 8) : valueL l key 80 = valueL l key 73 := by
  unfold valueL candL
  cases hf : (aboutL l key).find? isIn with
  | some r => rfl
  | none =>
    have hno : ∀ r ∈ aboutL l key, r.kind ≠ 1 := fun r hr e => by
      have := List.find?_eq_none.1 hf r hr
      exact this (by unfold isIn; simp [e])
    have hal : (aboutL l key).length ≤ 9 := Nat.le_trans (List.length_filter_le _ _) hl
    have hX : ((aboutL l key).flatMap valsT).length < 73 := by
      have := flat_len (ab := aboutL l key) fun r hr => hv r (about_key hr).2
      omega
    refine first_same (n := 73) (k := 7) hX ?_
    by_cases hbad : ∃ r ∈ aboutL l key, r.kind ≠ 2 ∧ r.kind ≠ 3
    · obtain ⟨r, hr, h2, h3⟩ := hbad
      refine .inl fun x => ?_
      unfold okV allB
      rw [List.all_eq_false]
      refine ⟨r, hr, ?_⟩
      rw [holds_mk (about_key hr).1, if_neg (hno r hr), if_neg h2]
      simp [h3]
    · refine .inr fun x hx => ?_
      unfold okV allB
      rw [List.all_eq_true]
      intro r hr
      rw [holds_mk (about_key hr).1, if_neg (hno r hr)]
      by_cases h2 : r.kind = 2
      · rw [if_pos h2]
        rw [Bool.not_eq_true', Bool.eq_false_iff]
        intro h
        refine hx (List.mem_flatMap.2 ⟨r, hr, List.mem_map.2 ⟨_, (hasS_iff _ _).1 h, tx_bx x⟩⟩)
      · rw [if_neg h2]
        have h3 : r.kind = 3 := Classical.byContradiction fun h3 => hbad ⟨r, hr, h2, h3⟩
        simp [h3]

/-- The labels of these keys; none, if one has no value. -/
def labsFor (l : List Req) (n : Nat) : List Tx → Option (List Lab)
  | [] => some []
  | k :: ks => match valueL l k n with
    | none => none
    | some v => (labsFor l n ks).map (mk k v :: ·)
def solveL (l : List Req) : Option (List Lab) := labsFor l 73 (keysS l)
theorem labsFor_same {l : List Req} (hl : l.length ≤ 9) (hv : ∀ r ∈ l, r.vals.length ≤ 8) (ks : List Tx) : labsFor l 80 ks = labsFor l 73 ks := by
  induction ks with
  | nil => rfl
  | cons k ks ih => unfold labsFor; rw [value_same k hl hv, ih]
/-- Up to a key: how the loops go. -/
theorem labsFor_snoc (l : List Req) (n : Nat) (ks : List Tx) (k : Tx) : labsFor l n (ks ++ [k]) = match labsFor l n ks with
    | none => none
    | some a => (valueL l k n).map fun v => a ++ [mk k v] := by
  induction ks with
  | nil => simp only [List.nil_append]; unfold labsFor labsFor; cases valueL l k n <;> rfl
  | cons x ks ih =>
    rw [List.cons_append]
    unfold labsFor
    cases valueL l x n with
    | none => rfl
    | some v =>
      simp only
      rw [ih]
      cases labsFor l n ks with
      | none => rfl
      | some a => simp only [Option.map_some]; cases valueL l k n <;> rfl
theorem labsFor_none {l : List Req} {n : Nat} {ks : List Tx} (h : labsFor l n ks = none) (t : List Tx) : labsFor l n (ks ++ t) = none := by
  induction ks with
  | nil => simp [labsFor] at h
  | cons x ks ih =>
    rw [List.cons_append]
    unfold labsFor at h ⊢
    cases hv : valueL l x n with
    | none => rfl
    | some v =>
      rw [hv] at h
      simp only [Option.map_eq_none_iff] at h
      simp only
      rw [ih h]
      rfl
/-- What stands in the result. -/
theorem labsFor_mem {l : List Req} {n : Nat} {ks : List Tx} {a : List Lab} (h : labsFor l n ks = some a) : (∀ x ∈ a, ∃ v, x = mk (tx x.key) v ∧ valueL l (tx x.key) n = some v) ∧ a.map (fun x => tx x.key) = ks := by
  induction ks generalizing a with
  | nil => simp [labsFor] at h; subst h; exact ⟨fun x hx => by simp at hx, rfl⟩
  | cons k ks ih =>
    unfold labsFor at h
    cases hv : valueL l k n with
    | none => rw [hv] at h; simp at h
    | some v =>
      rw [hv] at h
      simp only [Option.map_eq_some_iff] at h
      obtain ⟨b, hb, rfl⟩ := h
      obtain ⟨h1, h2⟩ := ih hb
      refine ⟨fun x hx => ?_, by rw [List.map_cons, h2]; rfl⟩
      rcases List.mem_cons.1 hx with rfl | hx
      · exact ⟨v, rfl, hv⟩
      · exact h1 x hx
theorem holds_ext {r : Req} {a b : List Lab} (h : a.find? (keyed r.key) = b.find? (keyed r.key)) : holdsB r a = holdsB r b := by unfold holdsB; rw [h]
/-- The program's last test never fails. -/
theorem solve_all {l : List Req} {n : Nat} {a : List Lab} (_hk : ∀ r ∈ l, 1 ≤ r.kind ∧ r.kind ≤ 4) (h : labsFor l n (keysS l) = some a) : allB l a = true := by
  obtain ⟨h1, h2⟩ := labsFor_mem h
  unfold allB
  rw [List.all_eq_true]
  intro r hr
  cases hf : a.find? (keyed r.key) with
  | none =>
    rw [holds_none hf]
    have hnk : tx r.key ∉ keysP l := fun hm => by
      have := (keysS_mem l _).2 hm
      rw [← h2] at this
      obtain ⟨x, hx, e⟩ := List.mem_map.1 this
      refine List.find?_eq_none.1 hf x hx ?_
      unfold keyed
      exact (eqS_iff _ _).2 (tx_inj e)
    have hw : wants r = false := Bool.eq_false_iff.2 fun hw => hnk (List.mem_map.2 ⟨r, List.mem_filter.2 ⟨hr, hw⟩, rfl⟩)
    unfold wants at hw
    simp at hw
    rw [if_neg hw.1]
    by_cases h2 : r.kind = 2
    · rw [if_pos h2]
    · rw [if_neg h2]; simp [hw.2]
  | some x =>
    have hx := List.mem_of_find?_eq_some hf
    have hkx : x.key = r.key := (eqS_iff _ _).1 (List.find?_some (p := keyed r.key) hf)
    obtain ⟨v, e, hv⟩ := h1 x hx
    unfold valueL at hv
    have hok := List.find?_some hv
    unfold okV allB at hok
    rw [List.all_eq_true] at hok
    have hra : r ∈ aboutL l (tx x.key) := List.mem_filter.2 ⟨hr, by simp [hkx]⟩
    have := hok r hra
    rw [← e] at this
    rw [holds_ext (b := [x]) (by rw [hf, List.find?_cons_of_pos (by unfold keyed; exact (eqS_iff _ _).2 hkx)])]
    exact this

/-! ### Implies -/
def oppK (k : Int) : Int := if k = 1 then 2 else if k = 2 then 1 else if k = 3 then 4 else 3
def oppR (r : Req) : Req := ⟨r.key, oppK r.kind, r.vals⟩
/-- The first part of b whose opposite a leaves room for. -/
def impliesL (a b : List Req) : Option (List Lab) := match b with
  | [] => none
  | r :: b => match solveL (a ++ [oppR r]) with
    | some o => some o
    | none => impliesL a b
theorem oppK_ok {k : Int} (_h : 1 ≤ k ∧ k ≤ 4) : 1 ≤ oppK k ∧ oppK k ≤ 4 := by unfold oppK; (repeat' split) <;> omega
end Go.Proofs.YtplfimoeggecjaaGreatDoor.Qs
