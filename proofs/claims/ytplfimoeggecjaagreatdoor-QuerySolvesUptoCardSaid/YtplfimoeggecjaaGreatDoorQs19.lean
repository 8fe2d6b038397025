/-
  Words for the reference's solve: its keys, its lists, its loops. No program in sight.
-/
import Derived.Test.YtplfimoeggecjaaGreatDoorQsB
import Derived.Test.YtplfimoeggecjaaGreatDoorDig
namespace Go.Proofs.YtplfimoeggecjaaGreatDoor.Qs
open Go Go.RowKit Go.Lib Go.Proofs.YtplfimoeggecjaaGreatDoor.Sx Go.Proofs.YtplfimoeggecjaaGreatDoor.Dc

def keysRB (l : List Req) : List ByteArray := (keysR l).map bx
theorem keysR_next {l : List Req} {j : Nat} (hj : j < l.length) : keysR (l.take (j + 1)) = key1 (keysR (l.take j)) l[j] := by
  unfold keysR
  rw [← List.take_append_getElem hj, List.foldl_append]
  rfl
theorem hasS_keys (ks : List Tx) (s : ByteArray) : hasS (ks.map bx) s = ks.contains (tx s) := by
  rw [Bool.eq_iff_iff, hasS_iff, List.contains_iff_mem, List.mem_map]
  constructor
  · rintro ⟨x, hx, rfl⟩
    exact hx
  · intro h
    exact ⟨tx s, h, rfl⟩
theorem keysRB_yes {l : List Req} {j : Nat} (hj : j < l.length) (hw : wants l[j] = true) (hh : hasS (keysRB (l.take j)) l[j].key = false) : keysRB (l.take (j + 1)) = keysRB (l.take j) ++ [l[j].key] := by
  unfold keysRB at hh ⊢
  rw [hasS_keys] at hh
  rw [keysR_next hj]
  unfold key1
  rw [hw, hh, if_pos (by rfl), List.map_append]
  rfl
theorem keysRB_has {l : List Req} {j : Nat} (hj : j < l.length) (hh : hasS (keysRB (l.take j)) l[j].key = true) : keysRB (l.take (j + 1)) = keysRB (l.take j) := by
  unfold keysRB at hh ⊢
  rw [hasS_keys] at hh
  rw [keysR_next hj]
  unfold key1
  rw [hh]
  simp
theorem keysRB_no {l : List Req} {j : Nat} (hj : j < l.length) (hw : wants l[j] = false) : keysRB (l.take (j + 1)) = keysRB (l.take j) := by
  unfold keysRB
  rw [keysR_next hj]
  unfold key1
  rw [hw]
  simp
theorem key1_len (l : List Req) : ∀ ks : List Tx, (l.foldl key1 ks).length ≤ ks.length + l.length := by
  induction l with
  | nil => intro ks; simp
  | cons r l ih =>
    intro ks
    rw [List.foldl_cons]
    have h := ih (key1 ks r)
    have h2 : (key1 ks r).length ≤ ks.length + 1 := by unfold key1; split <;> simp
    rw [List.length_cons]
    omega
theorem keysRB_len (l : List Req) (j : Nat) : (keysRB (l.take j)).length ≤ j := by
  unfold keysRB keysR
  rw [List.length_map]
  have := key1_len (l.take j) []
  have h2 : (l.take j).length ≤ j := by rw [List.length_take]; omega
  simp at this
  omega
theorem keysRB_size {l : List Req} (hz : ∀ r ∈ l, r.key.size ≤ 1048576) (j : Nat) : ∀ x ∈ keysRB (l.take j), x.size ≤ 1048576 := by
  intro x hx
  obtain ⟨t, ht, rfl⟩ := List.mem_map.1 hx
  have h := ((keysR_go (l := l.take j) (ks := []) .nil).2 t).1 ht
  rcases h with h | h
  · simp at h
  · obtain ⟨r, hr, rfl⟩ := List.mem_map.1 h
    exact hz r (List.mem_of_mem_take (List.mem_filter.1 hr).1)
theorem sort_keysRB (l : List Req) : sortB (keysRB l) = (keysS l).map bx := by
  unfold sortB keysRB keysS
  rw [List.map_map, show (tx ∘ bx) = id from rfl, List.map_id]

theorem about_yes {l : List Req} {i : Nat} {key : ByteArray} (hi : i < l.length) (h : eqS l[i].key key = true) : aboutL (l.take (i + 1)) (tx key) = aboutL (l.take i) (tx key) ++ [l[i]] := by
  unfold aboutL
  rw [← List.take_append_getElem hi, List.filter_append, List.filter_cons_of_pos (by rw [(eqS_iff _ _).1 h]; simp)]
  rfl
theorem about_no {l : List Req} {i : Nat} {key : ByteArray} (hi : i < l.length) (h : eqS l[i].key key = false) : aboutL (l.take (i + 1)) (tx key) = aboutL (l.take i) (tx key) := by
  unfold aboutL
  rw [← List.take_append_getElem hi, List.filter_append, List.filter_cons_of_neg, List.filter_nil, List.append_nil]
  intro h2
  have h3 : l[i].key = key := tx_inj (by simpa using h2)
  rw [h3, (eqS_iff key key).2 rfl] at h
  cases h
theorem about_len (l : List Req) (i : Nat) (key : Tx) : (aboutL (l.take i) key).length ≤ i := by
  unfold aboutL
  have h := List.length_filter_le (fun r : Req => tx r.key == key) (l.take i)
  rw [List.length_take] at h
  omega
/-- The first set from a place on. -/
def setAt (ab : List Req) (q : Nat) : Option Req := (ab.drop q).find? isIn
theorem setAt_end (ab : List Req) : setAt ab ab.length = none := by unfold setAt; rw [List.drop_length]; rfl
theorem setAt_yes {ab : List Req} {q : Nat} (hq : q < ab.length) (h : isIn ab[q] = true) : setAt ab q = some ab[q] := by
  unfold setAt
  rw [List.drop_eq_getElem_cons hq, List.find?_cons_of_pos h]
theorem setAt_no {ab : List Req} {q : Nat} (hq : q < ab.length) (h : isIn ab[q] = false) : setAt ab q = setAt ab (q + 1) := by
  unfold setAt
  rw [List.drop_eq_getElem_cons hq, List.find?_cons_of_neg (by simp [h])]
theorem setAt_zero (ab : List Req) : setAt ab 0 = ab.find? isIn := rfl
theorem setAt_mem {ab : List Req} {q : Nat} {r : Req} (h : setAt ab q = some r) : r ∈ ab ∧ r.kind = 1 := by
  refine ⟨List.mem_of_mem_drop (List.mem_of_find?_eq_some h), ?_⟩
  have := List.find?_some h
  unfold isIn at this
  simpa using this
def numL (n : Nat) : List ByteArray := ⟨#[]⟩ :: (List.range n).map fun i => bx (decDigits i)
theorem numL_zero : numL 0 = [⟨#[]⟩] := rfl
theorem numL_succ (n : Nat) : numL (n + 1) = numL n ++ [decS n] := by
  unfold numL
  rw [List.range_succ, List.map_append]
  rfl
theorem numL_len (n : Nat) : (numL n).length = n + 1 := by unfold numL; simp
theorem numL_size {n : Nat} (hn : n ≤ 100) : ∀ x ∈ numL n, x.size ≤ 1048576 := by
  intro x hx
  unfold numL at hx
  rcases List.mem_cons.1 hx with rfl | hx
  · decide
  · obtain ⟨i, hi, rfl⟩ := List.mem_map.1 hx
    have h1 := dec_len i i (Nat.le_refl _)
    have h2 := List.mem_range.1 hi
    show (decDigits i).toArray.size ≤ _
    rw [List.size_toArray]
    omega
theorem candR_set {ab : List Req} {r : Req} (h : ab.find? isIn = some r) : (candL ab 80).map bx = sortB r.vals := by
  unfold candL
  rw [h]
  rfl
theorem candR_num {ab : List Req} (h : ab.find? isIn = none) : (candL ab 80).map bx = numL 80 := by
  unfold candL
  rw [h]
  unfold cands numL
  rw [List.map_cons, List.map_map]
  rfl
def fitP (ab : List Req) (key x : ByteArray) : Bool := allB ab [⟨key, x⟩]
/-- What has been found up to a place. -/
def foundTo (ab : List Req) (key : ByteArray) (cs : List ByteArray) (i : Nat) : Option ByteArray := (cs.take i).find? (fitP ab key)
theorem found_zero (ab : List Req) (key : ByteArray) (cs : List ByteArray) : foundTo ab key cs 0 = none := rfl
theorem found_some {ab : List Req} {key : ByteArray} {cs : List ByteArray} {i : Nat} {x : ByteArray} (hi : i < cs.length) (h : foundTo ab key cs i = some x) : foundTo ab key cs (i + 1) = some x := by
  unfold foundTo at h ⊢
  rw [← List.take_append_getElem hi, List.find?_append, h]
  rfl
theorem found_yes {ab : List Req} {key : ByteArray} {cs : List ByteArray} {i : Nat} (hi : i < cs.length) (h : foundTo ab key cs i = none) (hp : fitP ab key cs[i] = true) : foundTo ab key cs (i + 1) = some cs[i] := by
  unfold foundTo at h ⊢
  rw [← List.take_append_getElem hi, List.find?_append, h, List.find?_cons_of_pos hp]
  rfl
theorem found_no {ab : List Req} {key : ByteArray} {cs : List ByteArray} {i : Nat} (hi : i < cs.length) (h : foundTo ab key cs i = none) (hp : fitP ab key cs[i] = false) : foundTo ab key cs (i + 1) = none := by
  unfold foundTo at h ⊢
  rw [← List.take_append_getElem hi, List.find?_append, h, List.find?_cons_of_neg (by simp [hp])]
  rfl
theorem found_value {l : List Req} {key : ByteArray} {ab : List Req} {cs : List ByteArray} (hg : Good l) (ha : ab = aboutL l (tx key)) (hc : (candL ab 80).map bx = cs) : (valueL l (tx key) 73).map bx = foundTo ab key cs cs.length := by
  rw [← value_same (tx key) hg.few hg.vals]
  unfold valueL foundTo
  rw [List.take_length, ← hc, ← ha, List.find?_map]
  rfl
theorem value_none {l : List Req} {key : ByteArray} {o : Option ByteArray} (h : (valueL l (tx key) 73).map bx = o) (ho : o = none) : valueL l (tx key) 73 = none := by
  subst ho
  simpa using h
theorem value_some {l : List Req} {key x : ByteArray} {o : Option ByteArray} (h : (valueL l (tx key) 73).map bx = o) (ho : o = some x) : valueL l (tx key) 73 = some (tx x) := by
  subst ho
  obtain ⟨t, ht, e⟩ := Option.map_eq_some_iff.1 h
  rw [ht, ← e]
  rfl
theorem rising_one (x : Lab) : Rising [x] := List.pairwise_singleton _ _
end Go.Proofs.YtplfimoeggecjaaGreatDoor.Qs
