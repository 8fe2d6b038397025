/-
  Objects in plain words: what a name leads to; a field less; two objects with the same answers are one.
  Merges in plain words: the three functions, what they answer name by name, how great it is.
  Merges in plain words: what is between two documents, what two merges do, what may be told.
  Merges in plain words: midway through the reference's way of a merge.
-/
import Derived.Test.YtnccefeehkcneaaGreatDoorJst
namespace Go.Proofs.YtnccefeehkcneaaGreatDoor.Js
open Go
/-- What a name leads to. -/
def getJ (ns : List Tx) (l : List J) (t : Tx) : Option J := if t ∈ ns then l[place ns t]? else none
/-- One field less. -/
def dropJ (ns : List Tx) (l : List J) (t : Tx) : List Tx × List J := if t ∈ ns then (ns.eraseIdx (place ns t), l.eraseIdx (place ns t)) else (ns, l)
theorem getJ_none {ns : List Tx} {l : List J} {t : Tx} (h : t ∉ ns) : getJ ns l t = none := if_neg h
theorem getJ_at {ns : List Tx} {l : List J} {t : Tx} (h : t ∈ ns) : getJ ns l t = l[place ns t]? := if_pos h
theorem getJ_mem {ns : List Tx} {l : List J} (hr : Rise ns) (hl : ns.length = l.length) (t : Tx) : (getJ ns l t).isSome = true ↔ t ∈ ns := by
  constructor
  · intro h
    by_cases hm : t ∈ ns
    · exact hm
    · rw [getJ_none hm] at h; cases h
  · intro h
    obtain ⟨h1, _⟩ := (place_mem hr t).1 h
    rw [getJ_at h, List.getElem?_eq_getElem (by omega)]
    rfl
theorem getJ_in {ns : List Tx} {l : List J} {t : Tx} {x : J} (h : getJ ns l t = some x) : x ∈ l := by
  unfold getJ at h
  split at h
  · exact List.mem_of_getElem? h
  · cases h
theorem getJ_idx {ns : List Tx} {l : List J} (hr : Rise ns) {i : Nat} (h1 : i < ns.length) (h2 : i < l.length) : getJ ns l ns[i] = some l[i] := by
  have hm : ns[i] ∈ ns := List.getElem_mem h1
  obtain ⟨h3, h4⟩ := (place_mem hr ns[i]).1 hm
  have e : place ns ns[i] = i := by
    rcases Nat.lt_trichotomy (place ns ns[i]) i with h | h | h
    · have := List.pairwise_iff_getElem.1 hr _ _ h3 h1 h
      rw [h4] at this
      exact absurd this (lt_irr _)
    · exact h
    · exact absurd ((place_spec hr ns[i] i h1).1 h) (lt_irr _)
  rw [getJ_at hm, e, List.getElem?_eq_getElem h2]
theorem drop_mem2 {ns : List Tx} {l : List J} {t : Tx} {x : J} (h : x ∈ (dropJ ns l t).2) : x ∈ l := by
  unfold dropJ at h
  split at h
  · exact List.mem_of_mem_eraseIdx h
  · exact h
theorem drop_rise {ns : List Tx} {l : List J} (hr : Rise ns) (t : Tx) : Rise (dropJ ns l t).1 := by
  unfold dropJ
  split
  · exact List.Pairwise.sublist (List.eraseIdx_sublist ..) hr
  · exact hr
theorem drop_len {ns : List Tx} {l : List J} (hr : Rise ns) (hl : ns.length = l.length) (t : Tx) : (dropJ ns l t).1.length = (dropJ ns l t).2.length := by
  unfold dropJ
  split
  · rename_i h
    obtain ⟨h1, _⟩ := (place_mem hr t).1 h
    show (ns.eraseIdx _).length = (l.eraseIdx _).length
    rw [List.length_eraseIdx_of_lt h1, List.length_eraseIdx_of_lt (by omega), hl]
  · exact hl
abbrev Ob := List Tx × List J
/-- Well made. -/
def WO (a : Ob) : Prop := WJ (.obj a.1 a.2)
def getO (a : Ob) (t : Tx) : Option J := getJ a.1 a.2 t
/-- What a name leads to, or nothing. -/
def valO (a : Ob) (t : Tx) : J := (getO a t).getD .null
def setO (a : Ob) (t : Tx) (j : J) : Ob := setJ a.1 a.2 t j
def dropO (a : Ob) (t : Tx) : Ob := dropJ a.1 a.2 t
def objO : J → Ob
  | .obj ns l => (ns, l)
  | .null => ([], [])
  | .bool _ => ([], [])
  | .num _ => ([], [])
  | .text _ => ([], [])
  | .list _ => ([], [])
def ofO (a : Ob) : J := .obj a.1 a.2
def bulkO (a : Ob) : Nat := sumB a.2 + namesB a.1
theorem bulk_obj (ns : List Tx) (l : List J) : bulkJ (.obj ns l) = 32 + bulkO (ns, l) := by rw [bulkJ]; simp only [bulkO, sumB]; omega
theorem bulk_low (j : J) : 32 ≤ bulkJ j := by cases j <;> rw [bulkJ] <;> omega
theorem WO.nil : WO ([], []) := WJ_obj.2 ⟨⟨rfl, List.Pairwise.nil⟩, fun x hx => by cases hx⟩
theorem WO.of {j : J} (h : WJ j) : WO (objO j) := by cases j <;> first | exact h | exact WO.nil
theorem WO.rise {a : Ob} (h : WO a) : Rise a.1 := (WJ_obj.1 h).1.2
theorem WO.len {a : Ob} (h : WO a) : a.1.length = a.2.length := (WJ_obj.1 h).1.1
theorem WO.vals {a : Ob} (h : WO a) : ∀ x ∈ a.2, WJ x := (WJ_obj.1 h).2
theorem WO.set {a : Ob} (h : WO a) (t : Tx) {j : J} (hj : WJ j) : WO (setO a t j) := setJ_wj h hj
theorem WO.drop {a : Ob} (h : WO a) (t : Tx) : WO (dropO a t) := WJ_obj.2 ⟨⟨drop_len h.rise h.len t, drop_rise h.rise t⟩, fun x hx => h.vals x (drop_mem2 hx)⟩
theorem WO.get {a : Ob} (h : WO a) {t : Tx} {x : J} (hx : getO a t = some x) : WJ x := h.vals x (getJ_in hx)
theorem WJ_null : WJ .null := by rw [WJ]; trivial
theorem WO.val {a : Ob} (h : WO a) (t : Tx) : WJ (valO a t) := by
  unfold valO
  cases hx : getO a t with
  | none => exact WJ_null
  | some x => exact h.get hx
theorem get_mem {a : Ob} (h : WO a) (t : Tx) : (getO a t).isSome = true ↔ t ∈ a.1 := getJ_mem h.rise h.len t
theorem get_none {a : Ob} {t : Tx} (h : t ∉ a.1) : getO a t = none := getJ_none h
theorem bulk_get {a : Ob} {t : Tx} {x : J} (h : getO a t = some x) : bulkJ x + 1 ≤ bulkO a := by
  have hx := getJ_in h
  have : ∀ l : List J, x ∈ l → bulkJ x + 1 ≤ sumB l := fun l => by
    induction l with
    | nil => intro h; cases h
    | cons y r ih =>
      intro h
      unfold sumB at ih ⊢
      simp only [List.map_cons, List.sum_cons]
      rcases List.mem_cons.1 h with rfl | h
      · omega
      · have := ih h; omega
  have := this _ hx
  unfold bulkO
  omega
theorem len_bulkO (a : Ob) : 33 * a.2.length ≤ bulkO a := by
  have : ∀ l : List J, 33 * l.length ≤ sumB l := fun l => by
    induction l with
    | nil => simp
    | cons y r ih => have := bulk_low y; unfold sumB at ih ⊢; simp only [List.map_cons, List.sum_cons, List.length_cons]; omega
  have := this a.2
  unfold bulkO
  omega
end Go.Proofs.YtnccefeehkcneaaGreatDoor.Js
namespace Go.Proofs.YtnccefeehkcneaaGreatDoor.Js
open Go
def isNull : J → Bool
  | .null => true
  | .bool _ => false
  | .num _ => false
  | .text _ => false
  | .list _ => false
  | .obj _ _ => false
theorem at_field {b : Ob} (hb : WO b) {q : Nat} (h1 : q < b.1.length) (h2 : q < b.2.length) : getO b b.1[q] = some b.2[q] := getJ_idx hb.rise h1 h2
def isObj : J → Bool
  | .obj _ _ => true
  | .null => false
  | .bool _ => false
  | .num _ => false
  | .text _ => false
  | .list _ => false
theorem val_some {a : Ob} {t : Tx} {x : J} (h : getO a t = some x) : valO a t = x := by unfold valO; rw [h]; rfl
theorem val_none {a : Ob} {t : Tx} (h : getO a t = none) : valO a t = .null := by unfold valO; rw [h]; rfl
theorem sum_take_le {α : Type} (f : α → Nat) (l : List α) (q : Nat) : ((l.take q).map f).sum ≤ (l.map f).sum := by
  conv => rhs; rw [← List.take_append_drop q l, List.map_append, List.sum_append]
  omega
end Go.Proofs.YtnccefeehkcneaaGreatDoor.Js
