/-
  Objects in plain words: what a name leads to; a field less; two objects with the same answers are one.
  Merges in plain words: the three functions, what they answer name by name, how great it is.
  Merges in plain words: what is between two documents, what two merges do, what may be told.
  Merges in plain words: midway through the reference's way of a merge.
-/
import Derived.Test.YtahinicpceokcaaGreatDoorJst
namespace Go.Proofs.YtahinicpceokcaaGreatDoor.Js
open Go
/-- What a name leads to. -/
def getJ (ns : List Tx) (l : List J) (t : Tx) : Option J := if t ∈ ns then l[place ns t]? else none
/-- One field less. -/
def dropJ (ns : List Tx) (l : List J) (t : Tx) : List Tx × List J := if t ∈ ns then (ns.eraseIdx (place ns t), l.eraseIdx (place ns t)) else (ns, l)
theorem getJ_nil (t : Tx) : getJ [] [] t = none := by simp [getJ]
theorem rise_head {n : Tx} {ns : List Tx} (h : Rise (n :: ns)) : ∀ x ∈ ns, n < x := (List.pairwise_cons.1 h).1
theorem rise_tail {n : Tx} {ns : List Tx} (h : Rise (n :: ns)) : Rise ns := (List.pairwise_cons.1 h).2
theorem rise_not {n : Tx} {ns : List Tx} (h : Rise (n :: ns)) : n ∉ ns := fun hm => lt_irr _ (rise_head h n hm)
theorem place_self (n : Tx) (ns : List Tx) : place (n :: ns) n = 0 := by rw [place_cons, if_neg (lt_irr n)]
theorem getJ_none {ns : List Tx} {l : List J} {t : Tx} (h : t ∉ ns) : getJ ns l t = none := if_neg h
theorem getJ_at {ns : List Tx} {l : List J} {t : Tx} (h : t ∈ ns) : getJ ns l t = l[place ns t]? := if_pos h
theorem getJ_mem {ns : List Tx} {l : List J} (hr : Rise ns) (hl : ns.length = l.length) (t : Tx) : (getJ ns l t).isSome = true ↔ t ∈ ns := by
  constructor
  · intro h
    by_cases hm : t ∈ ns
    · exact hm
    · rw [getJ_none hm] at h; cases h
  · intro h
    obtain ⟨h1, _⟩ := (place_mem hr t).1 h
    rw [getJ_at h, List.getElem?_eq_getElem (by omega)]
    rfl
theorem getJ_in {ns : List Tx} {l : List J} {t : Tx} {x : J} (h : getJ ns l t = some x) : x ∈ l := by
  unfold getJ at h
  split at h
  · exact List.mem_of_getElem? h
  · cases h
theorem getJ_idx {ns : List Tx} {l : List J} (hr : Rise ns) {i : Nat} (h1 : i < ns.length) (h2 : i < l.length) : getJ ns l ns[i] = some l[i] := by
  have hm : ns[i] ∈ ns := List.getElem_mem h1
  obtain ⟨h3, h4⟩ := (place_mem hr ns[i]).1 hm
  have e : place ns ns[i] = i := by
    rcases Nat.lt_trichotomy (place ns ns[i]) i with h | h | h
    · have := List.pairwise_iff_getElem.1 hr _ _ h3 h1 h
      rw [h4] at this
      exact absurd this (lt_irr _)
    · exact h
    · exact absurd ((place_spec hr ns[i] i h1).1 h) (lt_irr _)
  rw [getJ_at hm, e, List.getElem?_eq_getElem h2]
theorem tx_cases (a b : Tx) : a < b ∨ a = b ∨ b < a := Std.lt_trichotomy (α := Tx) a b
theorem lt_ne {a b : Tx} (h : a < b) : a ≠ b := fun e => lt_irr _ (e ▸ h)
theorem dropJ_same {n : Tx} {ns : List Tx} {x : J} {l : List J} : dropJ (n :: ns) (x :: l) n = (ns, l) := by
  unfold dropJ
  rw [if_pos (List.mem_cons_self ..), place_self]; rfl
theorem dropJ_up {n : Tx} {ns : List Tx} {x : J} {l : List J} {t : Tx} (h : n < t) : dropJ (n :: ns) (x :: l) t = (n :: (dropJ ns l t).1, x :: (dropJ ns l t).2) := by
  have hne : t ≠ n := fun e => lt_irr _ (e ▸ h)
  unfold dropJ
  by_cases hm : t ∈ ns
  · rw [if_pos (List.mem_cons_of_mem _ hm), if_pos hm, place_cons, if_pos h]; rfl
  · rw [if_neg (by rw [List.mem_cons]; exact fun h => h.elim hne hm), if_neg hm]
theorem dropJ_none {ns : List Tx} {l : List J} {t : Tx} (h : t ∉ ns) : dropJ ns l t = (ns, l) := if_neg h
theorem dropJ_low {n : Tx} {ns : List Tx} {x : J} {l : List J} {t : Tx} (hr : Rise (n :: ns)) (h : t < n) : dropJ (n :: ns) (x :: l) t = (n :: ns, x :: l) :=
  dropJ_none fun hm => by
    rcases List.mem_cons.1 hm with e | hm
    · exact lt_irr _ (e ▸ h)
    · exact lt_irr _ (lt_tr h (rise_head hr t hm))
theorem drop_mem2 {ns : List Tx} {l : List J} {t : Tx} {x : J} (h : x ∈ (dropJ ns l t).2) : x ∈ l := by
  unfold dropJ at h
  split at h
  · exact List.mem_of_mem_eraseIdx h
  · exact h
theorem drop_rise {ns : List Tx} {l : List J} (hr : Rise ns) (t : Tx) : Rise (dropJ ns l t).1 := by
  unfold dropJ
  split
  · exact List.Pairwise.sublist (List.eraseIdx_sublist ..) hr
  · exact hr
theorem drop_len {ns : List Tx} {l : List J} (hr : Rise ns) (hl : ns.length = l.length) (t : Tx) : (dropJ ns l t).1.length = (dropJ ns l t).2.length := by
  unfold dropJ
  split
  · rename_i h
    obtain ⟨h1, _⟩ := (place_mem hr t).1 h
    show (ns.eraseIdx _).length = (l.eraseIdx _).length
    rw [List.length_eraseIdx_of_lt h1, List.length_eraseIdx_of_lt (by omega), hl]
  · exact hl
abbrev Ob := List Tx × List J
/-- Well made. -/
def WO (a : Ob) : Prop := WJ (.obj a.1 a.2)
def getO (a : Ob) (t : Tx) : Option J := getJ a.1 a.2 t
/-- What a name leads to, or nothing. -/
def valO (a : Ob) (t : Tx) : J := (getO a t).getD .null
def setO (a : Ob) (t : Tx) (j : J) : Ob := setJ a.1 a.2 t j
def dropO (a : Ob) (t : Tx) : Ob := dropJ a.1 a.2 t
def objO : J → Ob
  | .obj ns l => (ns, l)
  | .null => ([], [])
  | .bool _ => ([], [])
  | .num _ => ([], [])
  | .text _ => ([], [])
  | .list _ => ([], [])
def ofO (a : Ob) : J := .obj a.1 a.2
def bulkO (a : Ob) : Nat := sumB a.2 + namesB a.1
theorem bulk_obj (ns : List Tx) (l : List J) : bulkJ (.obj ns l) = 32 + bulkO (ns, l) := by rw [bulkJ]; simp only [bulkO, sumB]; omega
theorem bulk_of (a : Ob) : bulkJ (ofO a) = 32 + bulkO a := bulk_obj _ _
theorem bulk_low (j : J) : 32 ≤ bulkJ j := by cases j <;> rw [bulkJ] <;> omega
theorem WO.nil : WO ([], []) := WJ_obj.2 ⟨⟨rfl, List.Pairwise.nil⟩, fun x hx => by cases hx⟩
theorem WO.of {j : J} (h : WJ j) : WO (objO j) := by cases j <;> first | exact h | exact WO.nil
theorem WO.rise {a : Ob} (h : WO a) : Rise a.1 := (WJ_obj.1 h).1.2
theorem WO.len {a : Ob} (h : WO a) : a.1.length = a.2.length := (WJ_obj.1 h).1.1
theorem WO.vals {a : Ob} (h : WO a) : ∀ x ∈ a.2, WJ x := (WJ_obj.1 h).2
theorem WO.set {a : Ob} (h : WO a) (t : Tx) {j : J} (hj : WJ j) : WO (setO a t j) := setJ_wj h hj
theorem WO.drop {a : Ob} (h : WO a) (t : Tx) : WO (dropO a t) := WJ_obj.2 ⟨⟨drop_len h.rise h.len t, drop_rise h.rise t⟩, fun x hx => h.vals x (drop_mem2 hx)⟩
theorem WO.get {a : Ob} (h : WO a) {t : Tx} {x : J} (hx : getO a t = some x) : WJ x := h.vals x (getJ_in hx)
theorem WJ_null : WJ .null := by rw [WJ]; trivial
theorem WO.val {a : Ob} (h : WO a) (t : Tx) : WJ (valO a t) := by
  unfold valO
  cases hx : getO a t with
  | none => exact WJ_null
  | some x => exact h.get hx
theorem get_mem {a : Ob} (h : WO a) (t : Tx) : (getO a t).isSome = true ↔ t ∈ a.1 := getJ_mem h.rise h.len t
theorem get_none {a : Ob} {t : Tx} (h : t ∉ a.1) : getO a t = none := getJ_none h
theorem get_nil (t : Tx) : getO ([], []) t = none := getJ_nil t
theorem sum_set {l : List J} {i : Nat} (h : i < l.length) (j : J) : sumB (l.set i j) + bulkJ l[i] = sumB l + bulkJ j := by
  induction l generalizing i with
  | nil => simp at h
  | cons a r ih =>
    cases i with
    | zero => simp [sumB]; omega
    | succ i =>
      have := ih (i := i) (by simpa using h)
      simp only [List.set_cons_succ, List.getElem_cons_succ]
      unfold sumB at this ⊢
      simp only [List.map_cons, List.sum_cons]
      omega
theorem sum_erase (l : List J) (i : Nat) : sumB (l.eraseIdx i) ≤ sumB l := by
  induction l generalizing i with
  | nil => simp
  | cons a r ih =>
    cases i with
    | zero => simp [sumB]
    | succ i =>
      have := ih i
      unfold sumB at this ⊢
      simp only [List.eraseIdx_cons_succ, List.map_cons, List.sum_cons]
      omega
theorem names_erase (l : List Tx) (i : Nat) : namesB (l.eraseIdx i) ≤ namesB l := by
  induction l generalizing i with
  | nil => simp
  | cons a r ih =>
    cases i with
    | zero => simp [namesB]
    | succ i =>
      have := ih i
      unfold namesB at this ⊢
      simp only [List.eraseIdx_cons_succ, List.map_cons, List.sum_cons]
      omega
theorem bulk_drop (a : Ob) (t : Tx) : bulkO (dropO a t) ≤ bulkO a := by
  unfold bulkO dropO dropJ
  split
  · have := sum_erase a.2 (place a.1 t)
    have := names_erase a.1 (place a.1 t)
    show sumB (a.2.eraseIdx _) + namesB (a.1.eraseIdx _) ≤ _
    omega
  · exact Nat.le_refl _
/-- A field that was there is the other's; a new one comes with its name. -/
theorem bulk_put {a : Ob} (h : WO a) (t : Tx) (j : J) : bulkO (setO a t j) + bulkJ (valO a t) ≤ bulkO a + bulkJ j + 32 + (2 * t.length + 9) ∧ (t ∈ a.1 → bulkO (setO a t j) + bulkJ (valO a t) ≤ bulkO a + bulkJ j) := by
  by_cases ht : t ∈ a.1
  · obtain ⟨h1, _⟩ := (place_mem h.rise t).1 ht
    have h2 : place a.1 t < a.2.length := by rw [← h.len]; exact h1
    have hv : valO a t = a.2[place a.1 t] := by
      unfold valO getO
      rw [getJ_at ht, List.getElem?_eq_getElem h2]; rfl
    have hs := sum_set h2 j
    have e : bulkO (setO a t j) = sumB (a.2.set (place a.1 t) j) + namesB a.1 := by
      unfold bulkO setO
      rw [setJ_old ht]
    rw [hv, e]
    unfold bulkO
    exact ⟨by omega, fun _ => by omega⟩
  · have hv : valO a t = .null := by
      unfold valO
      rw [get_none ht]; rfl
    obtain ⟨b1, b2⟩ := bulk_set (x := j) ht h.len
    have e : bulkO (setO a t j) = sumB a.2 + bulkJ j + 1 + (namesB a.1 + 2 * t.length + 8) := by
      unfold bulkO setO
      rw [b1, b2]
    have hn : bulkJ .null = 32 := by rw [bulkJ]
    rw [hv, e, hn]
    unfold bulkO
    exact ⟨by omega, fun hm => absurd hm ht⟩
theorem bulk_get {a : Ob} {t : Tx} {x : J} (h : getO a t = some x) : bulkJ x + 1 ≤ bulkO a := by
  have hx := getJ_in h
  have : ∀ l : List J, x ∈ l → bulkJ x + 1 ≤ sumB l := fun l => by
    induction l with
    | nil => intro h; cases h
    | cons y r ih =>
      intro h
      unfold sumB at ih ⊢
      simp only [List.map_cons, List.sum_cons]
      rcases List.mem_cons.1 h with rfl | h
      · omega
      · have := ih h; omega
  have := this _ hx
  unfold bulkO
  omega
theorem bulk_obO (j : J) : bulkO (objO j) + 32 ≤ bulkJ j := by
  cases j with
  | obj ns l => rw [bulk_obj]; show bulkO (ns, l) + 32 ≤ _; omega
  | _ => rw [bulkJ]; simp [bulkO, objO, sumB, namesB]
theorem len_bulkO (a : Ob) : 33 * a.2.length ≤ bulkO a := by
  have : ∀ l : List J, 33 * l.length ≤ sumB l := fun l => by
    induction l with
    | nil => simp
    | cons y r ih => have := bulk_low y; unfold sumB at ih ⊢; simp only [List.map_cons, List.sum_cons, List.length_cons]; omega
  have := this a.2
  unfold bulkO
  omega
end Go.Proofs.YtahinicpceokcaaGreatDoor.Js
namespace Go.Proofs.YtahinicpceokcaaGreatDoor.Js
open Go
def isNull : J → Bool
  | .null => true
  | .bool _ => false
  | .num _ => false
  | .text _ => false
  | .list _ => false
  | .obj _ _ => false
theorem at_field {b : Ob} (hb : WO b) {q : Nat} (h1 : q < b.1.length) (h2 : q < b.2.length) : getO b b.1[q] = some b.2[q] := getJ_idx hb.rise h1 h2
def isObj : J → Bool
  | .obj _ _ => true
  | .null => false
  | .bool _ => false
  | .num _ => false
  | .text _ => false
  | .list _ => false
theorem obj_of {j : J} (h : isObj j = true) : j = ofO (objO j) := by cases j <;> first | rfl | cases h
theorem objO_not {j : J} (h : isObj j = false) : objO j = ([], []) := by cases j <;> first | rfl | cases h
theorem val_some {a : Ob} {t : Tx} {x : J} (h : getO a t = some x) : valO a t = x := by unfold valO; rw [h]; rfl
theorem val_none {a : Ob} {t : Tx} (h : getO a t = none) : valO a t = .null := by unfold valO; rw [h]; rfl
theorem some_mem {b : Ob} (hb : WO b) {u : Tx} {x : J} (h : getO b u = some x) : u ∈ b.1 := (get_mem hb u).1 (by rw [h]; rfl)
end Go.Proofs.YtahinicpceokcaaGreatDoor.Js
namespace Go.Proofs.YtahinicpceokcaaGreatDoor.Js
open Go
theorem attach_all {α : Type} (l : List α) (f : α → Bool) : (l.attach.all fun x => f x.1) = l.all f := by
  conv => rhs; rw [← List.attach_map_subtype_val l, List.all_map]
  rfl
def okT (c : UInt8) : Bool := decide (c.toNat = 10 ∨ c.toNat = 9 ∨ (32 ≤ c.toNat ∧ c.toNat ≤ 126))
def soundJ : J → Bool
  | .text s => s.all okT
  | .list l => l.attach.all fun x => soundJ x.1
  | .obj ns l => ns.all (fun n => n.all okT) && l.attach.all fun x => soundJ x.1
  | .null => true
  | .bool _ => true
  | .num _ => true
termination_by j => SizeOf.sizeOf j
decreasing_by
  · have h : SizeOf.sizeOf x.1 < SizeOf.sizeOf l := List.sizeOf_lt_of_mem x.2
    rw [J.list.sizeOf_spec]
    omega
  · have h : SizeOf.sizeOf x.1 < SizeOf.sizeOf l := List.sizeOf_lt_of_mem x.2
    rw [J.obj.sizeOf_spec]
    omega
theorem sound_list (l : List J) : soundJ (.list l) = l.all soundJ := by
  rw [soundJ]
  exact attach_all l soundJ
theorem sound_obj (ns : List Tx) (l : List J) : soundJ (.obj ns l) = (ns.all (fun n => n.all okT) && l.all soundJ) := by
  rw [soundJ]
  exact congrArg _ (attach_all l soundJ)
def tellS (j : J) : Tx × Int := if soundJ j = false then ([], 16) else if 10 < deepJ j then ([], 4) else if 200 < manyJ j then ([], 2) else if 2000 < (textJ j).length then ([], 2) else (textJ j, 0)
theorem tell_odd {j : J} (h : soundJ j = false) : tellS j = ([], 16) := if_pos h
theorem tell_deep {j : J} (h : soundJ j = true) (h2 : 10 < deepJ j) : tellS j = ([], 4) := by unfold tellS; rw [if_neg (by simp [h]), if_pos h2]
theorem tell_many {j : J} (h : soundJ j = true) (h2 : ¬ 10 < deepJ j) (h3 : 200 < manyJ j) : tellS j = ([], 2) := by unfold tellS; rw [if_neg (by simp [h]), if_neg h2, if_pos h3]
theorem tell_long {j : J} (h : soundJ j = true) (h2 : ¬ 10 < deepJ j) (h3 : ¬ 200 < manyJ j) (h4 : 2000 < (textJ j).length) : tellS j = ([], 2) := by unfold tellS; rw [if_neg (by simp [h]), if_neg h2, if_neg h3, if_pos h4]
theorem tell_ok {j : J} (h : soundJ j = true) (h2 : ¬ 10 < deepJ j) (h3 : ¬ 200 < manyJ j) (h4 : ¬ 2000 < (textJ j).length) : tellS j = (textJ j, 0) := by unfold tellS; rw [if_neg (by simp [h]), if_neg h2, if_neg h3, if_neg h4]
end Go.Proofs.YtahinicpceokcaaGreatDoor.Js
