/-
  Objects in plain words: what a name leads to; a field less; two objects with the same answers are one.
  Merges in plain words: the three functions, what they answer name by name, how great it is.
  Merges in plain words: what is between two documents, what two merges do, what may be told.
  Merges in plain words: midway through the reference's way of a merge.
-/
import Derived.Test.YtahinicpceokcaaGreatDoorJst
namespace Go.Proofs.YtahinicpceokcaaGreatDoor.Js
open Go
/-- What a name leads to. -/
def getJ (ns : List Tx) (l : List J) (t : Tx) : Option J := if t ∈ ns then l[place ns t]? else none
/-- One field less. -/
def dropJ (ns : List Tx) (l : List J) (t : Tx) : List Tx × List J := if t ∈ ns then (ns.eraseIdx (place ns t), l.eraseIdx (place ns t)) else (ns, l)
theorem getJ_nil (t : Tx) : getJ [] [] t = none := by simp [getJ]
theorem rise_head {n : Tx} {ns : List Tx} (h : Rise (n :: ns)) : ∀ x ∈ ns, n < x := (List.pairwise_cons.1 h).1
theorem rise_tail {n : Tx} {ns : List Tx} (h : Rise (n :: ns)) : Rise ns := (List.pairwise_cons.1 h).2
theorem rise_not {n : Tx} {ns : List Tx} (h : Rise (n :: ns)) : n ∉ ns := fun hm => lt_irr _ (rise_head h n hm)
theorem place_self (n : Tx) (ns : List Tx) : place (n :: ns) n = 0 := by rw [place_cons, if_neg (lt_irr n)]
theorem getJ_cons {n : Tx} {ns : List Tx} {x : J} {l : List J} (h : Rise (n :: ns)) (t : Tx) : getJ (n :: ns) (x :: l) t = if t = n then some x else getJ ns l t := by
  unfold getJ
  by_cases e : t = n
  · subst e
    rw [if_pos (List.mem_cons_self ..), if_pos rfl, place_self]; rfl
  · rw [if_neg e]
    by_cases hm : t ∈ ns
    · rw [if_pos (List.mem_cons_of_mem _ hm), if_pos hm, place_cons, if_pos (rise_head h t hm)]; rfl
    · rw [if_neg hm, if_neg (by rw [List.mem_cons]; exact fun h => h.elim e hm)]
theorem getJ_none {ns : List Tx} {l : List J} {t : Tx} (h : t ∉ ns) : getJ ns l t = none := if_neg h
theorem getJ_at {ns : List Tx} {l : List J} {t : Tx} (h : t ∈ ns) : getJ ns l t = l[place ns t]? := if_pos h
theorem getJ_mem {ns : List Tx} {l : List J} (hr : Rise ns) (hl : ns.length = l.length) (t : Tx) : (getJ ns l t).isSome = true ↔ t ∈ ns := by
  constructor
  · intro h
    by_cases hm : t ∈ ns
    · exact hm
    · rw [getJ_none hm] at h; cases h
  · intro h
    obtain ⟨h1, _⟩ := (place_mem hr t).1 h
    rw [getJ_at h, List.getElem?_eq_getElem (by omega)]
    rfl
theorem getJ_in {ns : List Tx} {l : List J} {t : Tx} {x : J} (h : getJ ns l t = some x) : x ∈ l := by
  unfold getJ at h
  split at h
  · exact List.mem_of_getElem? h
  · cases h
theorem getJ_idx {ns : List Tx} {l : List J} (hr : Rise ns) {i : Nat} (h1 : i < ns.length) (h2 : i < l.length) : getJ ns l ns[i] = some l[i] := by
  have hm : ns[i] ∈ ns := List.getElem_mem h1
  obtain ⟨h3, h4⟩ := (place_mem hr ns[i]).1 hm
  have e : place ns ns[i] = i := by
    rcases Nat.lt_trichotomy (place ns ns[i]) i with h | h | h
    · have := List.pairwise_iff_getElem.1 hr _ _ h3 h1 h
      rw [h4] at this
      exact absurd this (lt_irr _)
    · exact h
    · exact absurd ((place_spec hr ns[i] i h1).1 h) (lt_irr _)
  rw [getJ_at hm, e, List.getElem?_eq_getElem h2]
theorem setJ_same {n : Tx} {ns : List Tx} {x : J} {l : List J} (j : J) : setJ (n :: ns) (x :: l) n j = (n :: ns, j :: l) := by
  rw [setJ_old (List.mem_cons_self ..), place_self]; rfl
theorem setJ_up {n : Tx} {ns : List Tx} {x : J} {l : List J} {t : Tx} (h : n < t) (j : J) : setJ (n :: ns) (x :: l) t j = (n :: (setJ ns l t j).1, x :: (setJ ns l t j).2) := by
  have hne : t ≠ n := fun e => lt_irr _ (e ▸ h)
  by_cases hm : t ∈ ns
  · rw [setJ_old (List.mem_cons_of_mem _ hm), setJ_old hm, place_cons, if_pos h]; rfl
  · rw [setJ_new (by rw [List.mem_cons]; exact fun h => h.elim hne hm), setJ_new hm, place_cons, if_pos h]; rfl
theorem setJ_low {n : Tx} {ns : List Tx} {x : J} {l : List J} {t : Tx} (hr : Rise (n :: ns)) (h : t < n) (j : J) : setJ (n :: ns) (x :: l) t j = (t :: n :: ns, j :: x :: l) := by
  have hn : t ∉ n :: ns := fun hm => by
    rcases List.mem_cons.1 hm with e | hm
    · exact lt_irr _ (e ▸ h)
    · exact lt_irr _ (lt_tr h (rise_head hr t hm))
  rw [setJ_new hn, place_cons, if_neg (fun h2 => lt_irr _ (lt_tr h h2))]; rfl
theorem tx_cases (a b : Tx) : a < b ∨ a = b ∨ b < a := Std.lt_trichotomy (α := Tx) a b
theorem lt_ne {a b : Tx} (h : a < b) : a ≠ b := fun e => lt_irr _ (e ▸ h)
theorem set_rise {ns : List Tx} {l : List J} (hr : Rise ns) (t : Tx) (j : J) : Rise (setJ ns l t j).1 := by
  by_cases ht : t ∈ ns
  · rw [setJ_old ht]; exact hr
  · rw [setJ_new ht]; exact rise_put hr ht
theorem getJ_set (j : J) (t u : Tx) : ∀ (ns : List Tx) (l : List J), Rise ns → ns.length = l.length → getJ (setJ ns l t j).1 (setJ ns l t j).2 u = if u = t then some j else getJ ns l u
  | [], [], _, _ => by
    have e : setJ [] [] t j = ([t], [j]) := by rw [setJ_new (by simp), place_nil]; rfl
    rw [e, getJ_cons (List.pairwise_singleton _ _)]
  | n :: ns, x :: l, hr, hl => by
    rcases tx_cases n t with h | h | h
    · rw [setJ_up h]
      have hr2 : Rise (n :: (setJ ns l t j).1) := by
        have h3 := set_rise (l := x :: l) hr t j
        rw [setJ_up h] at h3
        exact h3
      rw [getJ_cons hr2, getJ_set j t u ns l (rise_tail hr) (by simpa using hl), getJ_cons hr]
      by_cases e : u = n
      · rw [if_pos e, if_pos e, if_neg (fun e2 => lt_ne h (e.symm.trans e2))]
      · rw [if_neg e, if_neg e]
    · subst h
      rw [setJ_same, getJ_cons hr, getJ_cons hr]
      by_cases e : u = n
      · rw [if_pos e, if_pos e]
      · rw [if_neg e, if_neg e, if_neg e]
    · have hr2 : Rise (t :: n :: ns) := by
        have h3 := set_rise (l := x :: l) hr t j
        rw [setJ_low hr h] at h3
        exact h3
      rw [setJ_low hr h, getJ_cons hr2]
theorem dropJ_same {n : Tx} {ns : List Tx} {x : J} {l : List J} : dropJ (n :: ns) (x :: l) n = (ns, l) := by
  unfold dropJ
  rw [if_pos (List.mem_cons_self ..), place_self]; rfl
theorem dropJ_up {n : Tx} {ns : List Tx} {x : J} {l : List J} {t : Tx} (h : n < t) : dropJ (n :: ns) (x :: l) t = (n :: (dropJ ns l t).1, x :: (dropJ ns l t).2) := by
  have hne : t ≠ n := fun e => lt_irr _ (e ▸ h)
  unfold dropJ
  by_cases hm : t ∈ ns
  · rw [if_pos (List.mem_cons_of_mem _ hm), if_pos hm, place_cons, if_pos h]; rfl
  · rw [if_neg (by rw [List.mem_cons]; exact fun h => h.elim hne hm), if_neg hm]
theorem dropJ_none {ns : List Tx} {l : List J} {t : Tx} (h : t ∉ ns) : dropJ ns l t = (ns, l) := if_neg h
theorem dropJ_low {n : Tx} {ns : List Tx} {x : J} {l : List J} {t : Tx} (hr : Rise (n :: ns)) (h : t < n) : dropJ (n :: ns) (x :: l) t = (n :: ns, x :: l) :=
  dropJ_none fun hm => by
    rcases List.mem_cons.1 hm with e | hm
    · exact lt_irr _ (e ▸ h)
    · exact lt_irr _ (lt_tr h (rise_head hr t hm))
theorem drop_mem2 {ns : List Tx} {l : List J} {t : Tx} {x : J} (h : x ∈ (dropJ ns l t).2) : x ∈ l := by
  unfold dropJ at h
  split at h
  · exact List.mem_of_mem_eraseIdx h
  · exact h
theorem drop_rise {ns : List Tx} {l : List J} (hr : Rise ns) (t : Tx) : Rise (dropJ ns l t).1 := by
  unfold dropJ
  split
  · exact List.Pairwise.sublist (List.eraseIdx_sublist ..) hr
  · exact hr
theorem drop_len {ns : List Tx} {l : List J} (hr : Rise ns) (hl : ns.length = l.length) (t : Tx) : (dropJ ns l t).1.length = (dropJ ns l t).2.length := by
  unfold dropJ
  split
  · rename_i h
    obtain ⟨h1, _⟩ := (place_mem hr t).1 h
    show (ns.eraseIdx _).length = (l.eraseIdx _).length
    rw [List.length_eraseIdx_of_lt h1, List.length_eraseIdx_of_lt (by omega), hl]
  · exact hl
theorem getJ_drop (t u : Tx) : ∀ (ns : List Tx) (l : List J), Rise ns → ns.length = l.length → getJ (dropJ ns l t).1 (dropJ ns l t).2 u = if u = t then none else getJ ns l u
  | [], [], _, _ => by
    rw [dropJ_none (by simp), getJ_nil]
    split <;> rfl
  | n :: ns, x :: l, hr, hl => by
    rcases tx_cases n t with h | h | h
    · rw [dropJ_up h]
      have hr2 : Rise (n :: (dropJ ns l t).1) := by
        have h3 := drop_rise (l := x :: l) hr t
        rw [dropJ_up h] at h3
        exact h3
      rw [getJ_cons hr2, getJ_drop t u ns l (rise_tail hr) (by simpa using hl), getJ_cons hr]
      by_cases e : u = n
      · rw [if_pos e, if_pos e, if_neg (fun e2 => lt_ne h (e.symm.trans e2))]
      · rw [if_neg e, if_neg e]
    · subst h
      rw [dropJ_same, getJ_cons hr]
      by_cases e : u = n
      · rw [if_pos e, e, getJ_none (rise_not hr)]
      · rw [if_neg e, if_neg e]
    · rw [dropJ_low hr h]
      by_cases e : u = t
      · rw [if_pos e, e]
        refine getJ_none fun hm => ?_
        rcases List.mem_cons.1 hm with e | hm
        · exact lt_irr _ (e ▸ h)
        · exact lt_irr _ (lt_tr h (rise_head hr t hm))
      · rw [if_neg e]
/-- Two objects with the same answers are one. -/
theorem obj_ext : ∀ (ns ms : List Tx) (l m : List J), Rise ns → Rise ms → ns.length = l.length → ms.length = m.length → (∀ u, getJ ns l u = getJ ms m u) → ns = ms ∧ l = m
  | [], [], [], [], _, _, _, _, _ => ⟨rfl, rfl⟩
  | [], k :: ms, [], y :: m, _, h2, _, _, h => by
    have := h k
    rw [getJ_nil, getJ_cons h2, if_pos rfl] at this
    cases this
  | n :: ns, [], x :: l, [], h1, _, _, _, h => by
    have := h n
    rw [getJ_nil, getJ_cons h1, if_pos rfl] at this
    cases this
  | n :: ns, k :: ms, x :: l, y :: m, h1, h2, h3, h4, h => by
    have hnk : n = k := by
      rcases tx_cases n k with hlt | e | hlt
      · have hn := h n
        rw [getJ_cons h1, if_pos rfl, getJ_none (fun hm => by
          rcases List.mem_cons.1 hm with e | hm
          · exact lt_ne hlt e
          · exact lt_irr _ (lt_tr hlt (rise_head h2 n hm)))] at hn
        cases hn
      · exact e
      · have hn := h k
        rw [getJ_cons h2, if_pos rfl, getJ_none (fun hm => by
          rcases List.mem_cons.1 hm with e | hm
          · exact lt_ne hlt e
          · exact lt_irr _ (lt_tr hlt (rise_head h1 k hm)))] at hn
        cases hn
    subst hnk
    have hx := h n
    rw [getJ_cons h1, getJ_cons h2, if_pos rfl, if_pos rfl] at hx
    injection hx with hx
    obtain ⟨e1, e2⟩ := obj_ext ns ms l m (rise_tail h1) (rise_tail h2) (by simpa using h3) (by simpa using h4) (fun u => by
      have hu := h u
      rw [getJ_cons h1, getJ_cons h2] at hu
      by_cases e : u = n
      · rw [e, getJ_none (rise_not h1), getJ_none (rise_not h2)]
      · rw [if_neg e, if_neg e] at hu; exact hu)
    rw [hx, e1, e2]
    exact ⟨rfl, rfl⟩
abbrev Ob := List Tx × List J
/-- Well made. -/
def WO (a : Ob) : Prop := WJ (.obj a.1 a.2)
def getO (a : Ob) (t : Tx) : Option J := getJ a.1 a.2 t
/-- What a name leads to, or nothing. -/
def valO (a : Ob) (t : Tx) : J := (getO a t).getD .null
def setO (a : Ob) (t : Tx) (j : J) : Ob := setJ a.1 a.2 t j
def dropO (a : Ob) (t : Tx) : Ob := dropJ a.1 a.2 t
def objO : J → Ob
  | .obj ns l => (ns, l)
  | .null => ([], [])
  | .bool _ => ([], [])
  | .num _ => ([], [])
  | .text _ => ([], [])
  | .list _ => ([], [])
def ofO (a : Ob) : J := .obj a.1 a.2
def bulkO (a : Ob) : Nat := sumB a.2 + namesB a.1
theorem bulk_obj (ns : List Tx) (l : List J) : bulkJ (.obj ns l) = 32 + bulkO (ns, l) := by rw [bulkJ]; simp only [bulkO, sumB]; omega
theorem bulk_of (a : Ob) : bulkJ (ofO a) = 32 + bulkO a := bulk_obj _ _
theorem bulk_low (j : J) : 32 ≤ bulkJ j := by cases j <;> rw [bulkJ] <;> omega
theorem WO.nil : WO ([], []) := WJ_obj.2 ⟨⟨rfl, List.Pairwise.nil⟩, fun x hx => by cases hx⟩
theorem WO.of {j : J} (h : WJ j) : WO (objO j) := by cases j <;> first | exact h | exact WO.nil
theorem WO.rise {a : Ob} (h : WO a) : Rise a.1 := (WJ_obj.1 h).1.2
theorem WO.len {a : Ob} (h : WO a) : a.1.length = a.2.length := (WJ_obj.1 h).1.1
theorem WO.vals {a : Ob} (h : WO a) : ∀ x ∈ a.2, WJ x := (WJ_obj.1 h).2
theorem WO.set {a : Ob} (h : WO a) (t : Tx) {j : J} (hj : WJ j) : WO (setO a t j) := setJ_wj h hj
theorem WO.drop {a : Ob} (h : WO a) (t : Tx) : WO (dropO a t) := WJ_obj.2 ⟨⟨drop_len h.rise h.len t, drop_rise h.rise t⟩, fun x hx => h.vals x (drop_mem2 hx)⟩
theorem WO.get {a : Ob} (h : WO a) {t : Tx} {x : J} (hx : getO a t = some x) : WJ x := h.vals x (getJ_in hx)
theorem WJ_null : WJ .null := by rw [WJ]; trivial
theorem WO.val {a : Ob} (h : WO a) (t : Tx) : WJ (valO a t) := by
  unfold valO
  cases hx : getO a t with
  | none => exact WJ_null
  | some x => exact h.get hx
theorem get_set {a : Ob} (h : WO a) (t u : Tx) (j : J) : getO (setO a t j) u = if u = t then some j else getO a u := getJ_set j t u _ _ h.rise h.len
theorem get_drop {a : Ob} (h : WO a) (t u : Tx) : getO (dropO a t) u = if u = t then none else getO a u := getJ_drop t u _ _ h.rise h.len
theorem get_mem {a : Ob} (h : WO a) (t : Tx) : (getO a t).isSome = true ↔ t ∈ a.1 := getJ_mem h.rise h.len t
theorem get_none {a : Ob} {t : Tx} (h : t ∉ a.1) : getO a t = none := getJ_none h
theorem get_nil (t : Tx) : getO ([], []) t = none := getJ_nil t
theorem ob_ext {a b : Ob} (ha : WO a) (hb : WO b) (h : ∀ u, getO a u = getO b u) : a = b := by
  obtain ⟨h1, h2⟩ := obj_ext _ _ _ _ ha.rise hb.rise ha.len hb.len h
  exact Prod.ext h1 h2
theorem sum_set {l : List J} {i : Nat} (h : i < l.length) (j : J) : sumB (l.set i j) + bulkJ l[i] = sumB l + bulkJ j := by
  induction l generalizing i with
  | nil => simp at h
  | cons a r ih =>
    cases i with
    | zero => simp [sumB]; omega
    | succ i =>
      have := ih (i := i) (by simpa using h)
      simp only [List.set_cons_succ, List.getElem_cons_succ]
      unfold sumB at this ⊢
      simp only [List.map_cons, List.sum_cons]
      omega
theorem sum_erase (l : List J) (i : Nat) : sumB (l.eraseIdx i) ≤ sumB l := by
  induction l generalizing i with
  | nil => simp
  | cons a r ih =>
    cases i with
    | zero => simp [sumB]
    | succ i =>
      have := ih i
      unfold sumB at this ⊢
      simp only [List.eraseIdx_cons_succ, List.map_cons, List.sum_cons]
      omega
theorem names_erase (l : List Tx) (i : Nat) : namesB (l.eraseIdx i) ≤ namesB l := by
  induction l generalizing i with
  | nil => simp
  | cons a r ih =>
    cases i with
    | zero => simp [namesB]
    | succ i =>
      have := ih i
      unfold namesB at this ⊢
      simp only [List.eraseIdx_cons_succ, List.map_cons, List.sum_cons]
      omega
theorem bulk_drop (a : Ob) (t : Tx) : bulkO (dropO a t) ≤ bulkO a := by
  unfold bulkO dropO dropJ
  split
  · have := sum_erase a.2 (place a.1 t)
    have := names_erase a.1 (place a.1 t)
    show sumB (a.2.eraseIdx _) + namesB (a.1.eraseIdx _) ≤ _
    omega
  · exact Nat.le_refl _
/-- A field that was there is the other's; a new one comes with its name. -/
theorem bulk_put {a : Ob} (h : WO a) (t : Tx) (j : J) : bulkO (setO a t j) + bulkJ (valO a t) ≤ bulkO a + bulkJ j + 32 + (2 * t.length + 9) ∧ (t ∈ a.1 → bulkO (setO a t j) + bulkJ (valO a t) ≤ bulkO a + bulkJ j) := by
  by_cases ht : t ∈ a.1
  · obtain ⟨h1, _⟩ := (place_mem h.rise t).1 ht
    have h2 : place a.1 t < a.2.length := by rw [← h.len]; exact h1
    have hv : valO a t = a.2[place a.1 t] := by
      unfold valO getO
      rw [getJ_at ht, List.getElem?_eq_getElem h2]; rfl
    have hs := sum_set h2 j
    have e : bulkO (setO a t j) = sumB (a.2.set (place a.1 t) j) + namesB a.1 := by
      unfold bulkO setO
      rw [setJ_old ht]
    rw [hv, e]
    unfold bulkO
    exact ⟨by omega, fun _ => by omega⟩
  · have hv : valO a t = .null := by
      unfold valO
      rw [get_none ht]; rfl
    obtain ⟨b1, b2⟩ := bulk_set (x := j) ht h.len
    have e : bulkO (setO a t j) = sumB a.2 + bulkJ j + 1 + (namesB a.1 + 2 * t.length + 8) := by
      unfold bulkO setO
      rw [b1, b2]
    have hn : bulkJ .null = 32 := by rw [bulkJ]
    rw [hv, e, hn]
    unfold bulkO
    exact ⟨by omega, fun hm => absurd hm ht⟩
theorem bulk_get {a : Ob} {t : Tx} {x : J} (h : getO a t = some x) : bulkJ x + 1 ≤ bulkO a := by
  have hx := getJ_in h
  have : ∀ l : List J, x ∈ l → bulkJ x + 1 ≤ sumB l := fun l => by
    induction l with
    | nil => intro h; cases h
    | cons y r ih =>
      intro h
      unfold sumB at ih ⊢
      simp only [List.map_cons, List.sum_cons]
      rcases List.mem_cons.1 h with rfl | h
      · omega
      · have := ih h; omega
  have := this _ hx
  unfold bulkO
  omega
theorem bulk_val (a : Ob) (t : Tx) : bulkJ (valO a t) ≤ bulkO a + 32 := by
  unfold valO
  cases h : getO a t with
  | none => show bulkJ .null ≤ _; rw [bulkJ]; omega
  | some x => show bulkJ x ≤ _; have := bulk_get h; omega
theorem bulk_obO (j : J) : bulkO (objO j) + 32 ≤ bulkJ j := by
  cases j with
  | obj ns l => rw [bulk_obj]; show bulkO (ns, l) + 32 ≤ _; omega
  | _ => rw [bulkJ]; simp [bulkO, objO, sumB, namesB]
theorem len_bulkO (a : Ob) : a.2.length ≤ bulkO a := by
  have : ∀ l : List J, l.length ≤ sumB l := fun l => by
    induction l with
    | nil => simp
    | cons y r ih => unfold sumB at ih ⊢; simp only [List.map_cons, List.sum_cons, List.length_cons]; omega
  have := this a.2
  unfold bulkO
  omega
end Go.Proofs.YtahinicpceokcaaGreatDoor.Js
namespace Go.Proofs.YtahinicpceokcaaGreatDoor.Js
open Go
def isNull : J → Bool
  | .null => true
  | .bool _ => false
  | .num _ => false
  | .text _ => false
  | .list _ => false
  | .obj _ _ => false
theorem isNull_iff {j : J} : isNull j = true ↔ j = .null := by cases j <;> simp [isNull]
theorem lookup_zip {ns : List Tx} {l : List J} (hr : Rise ns) (hl : ns.length = l.length) (u : Tx) : (ns.zip l).lookup u = getJ ns l u := by
  induction ns generalizing l with
  | nil => cases l with
    | nil => rw [getJ_nil]; rfl
    | cons x l => simp at hl
  | cons n ns ih => cases l with
    | nil => simp at hl
    | cons x l =>
      rw [List.zip_cons_cons, List.lookup_cons, getJ_cons hr, ih (rise_tail hr) (by simpa using hl)]
      by_cases e : u = n
      · rw [if_pos e]; simp [e]
      · rw [if_neg e, show (u == n) = false by simpa using e]
theorem rise_nodup {ns : List Tx} (hr : Rise ns) : ns.Nodup := List.Pairwise.imp (fun h => lt_ne h) hr
theorem zip_names {ns : List Tx} {l : List J} (hl : ns.length = l.length) : (ns.zip l).map Prod.fst = ns := by
  rw [List.map_fst_zip (by omega)]
theorem lookup_not {ps : List (Tx × J)} {u : Tx} (h : u ∉ ps.map Prod.fst) : ps.lookup u = none := by
  induction ps with
  | nil => rfl
  | cons p ps ih =>
    rw [List.map_cons, List.mem_cons] at h
    obtain ⟨k, x⟩ := p
    have hne : (u == k) = false := by simpa using fun e => h (.inl e)
    rw [List.lookup_cons, hne]
    exact ih (fun h2 => h (.inr h2))
abbrev foldO (step : Ob → Tx → J → Ob) (ps : List (Tx × J)) (a : Ob) : Ob := ps.foldl (fun a p => step a p.1 p.2) a
/-- What a step does: it leaves an object well made, and turns nothing but its own name's answer. -/
def Step (P : Tx → J → Prop) (step : Ob → Tx → J → Ob) (R : Option J → Tx → J → Option J) : Prop :=
  ∀ a n x, WO a → P n x → WO (step a n x) ∧ ∀ u, getO (step a n x) u = if u = n then R (getO a u) n x else getO a u
theorem fold_step {P : Tx → J → Prop} {step : Ob → Tx → J → Ob} {R : Option J → Tx → J → Option J} (hs : Step P step R) : ∀ (ps : List (Tx × J)) (a : Ob), WO a → (∀ p ∈ ps, P p.1 p.2) → (ps.map Prod.fst).Nodup →
    WO (foldO step ps a) ∧ ∀ u, getO (foldO step ps a) u = match ps.lookup u with | none => getO a u | some x => R (getO a u) u x
  | [], a, ha, _, _ => ⟨ha, fun _ => rfl⟩
  | (k, x) :: ps, a, ha, hp, hn => by
    obtain ⟨h1, h2⟩ := hs a k x ha (hp (k, x) (List.mem_cons_self ..))
    rw [List.map_cons] at hn
    obtain ⟨n1, n2⟩ := List.nodup_cons.1 hn
    obtain ⟨h3, h4⟩ := fold_step hs ps (step a k x) h1 (fun p hp' => hp p (List.mem_cons_of_mem _ hp')) n2
    refine ⟨h3, fun u => ?_⟩
    show getO (foldO step ps (step a k x)) u = _
    rw [h4 u, List.lookup_cons, h2 u]
    by_cases e : u = k
    · subst e
      rw [lookup_not n1, if_pos rfl]
      simp
    · have hne : (u == k) = false := by simpa using e
      rw [hne, if_neg e]
/-- Over an object's fields. -/
theorem fold_obj {P : Tx → J → Prop} {step : Ob → Tx → J → Ob} {R : Option J → Tx → J → Option J} (hs : Step P step R) {b : Ob} (hb : WO b) (hp : ∀ n x, getO b n = some x → P n x) {a : Ob} (ha : WO a) :
    WO (foldO step (b.1.zip b.2) a) ∧ ∀ u, getO (foldO step (b.1.zip b.2) a) u = match getO b u with | none => getO a u | some x => R (getO a u) u x := by
  obtain ⟨h1, h2⟩ := fold_step hs (b.1.zip b.2) a ha (fun p hp' => by
    obtain ⟨i, hi, e⟩ := List.mem_iff_getElem.1 hp'
    have hi' : i < b.1.length ∧ i < b.2.length := by rw [List.length_zip] at hi; omega
    rw [List.getElem_zip] at e
    rw [← e]
    exact hp _ _ (getJ_idx hb.rise hi'.1 hi'.2)) (by rw [zip_names hb.len]; exact rise_nodup hb.rise)
  refine ⟨h1, fun u => ?_⟩
  rw [h2 u, lookup_zip hb.rise hb.len]
  rfl
theorem fold_take (step : Ob → Tx → J → Ob) (b : Ob) (a : Ob) {q : Nat} (h1 : q < b.1.length) (h2 : q < b.2.length) : foldO step ((b.1.zip b.2).take (q + 1)) a = step (foldO step ((b.1.zip b.2).take q) a) b.1[q] b.2[q] := by
  have hq : q < (b.1.zip b.2).length := by rw [List.length_zip]; omega
  unfold foldO
  rw [List.take_succ_eq_append_getElem hq, List.foldl_append, List.getElem_zip]
  rfl
/-- The first fields of an object are an object. -/
theorem take_wo {b : Ob} (h : WO b) (q : Nat) : WO (b.1.take q, b.2.take q) :=
  WJ_obj.2 ⟨⟨by simp [h.len], List.Pairwise.sublist (List.take_sublist ..) h.rise⟩, fun x hx => h.vals x (List.mem_of_mem_take hx)⟩
theorem take_zip' (b : Ob) (q : Nat) : (b.1.zip b.2).take q = (b.1.take q).zip (b.2.take q) := by unfold List.zip; rw [List.take_zipWith]
theorem get_take {b : Ob} (h : WO b) (q : Nat) (u : Tx) : getO (b.1.take q, b.2.take q) u = if u ∈ b.1.take q then getO b u else none := by
  by_cases hu : u ∈ b.1.take q
  · rw [if_pos hu]
    obtain ⟨i, hi, e⟩ := List.mem_iff_getElem.1 hu
    have hi' : i < q ∧ i < b.1.length := by rw [List.length_take] at hi; omega
    rw [← e]
    have h2 : i < (b.2.take q).length := by rw [List.length_take, ← h.len]; omega
    have e1 := getJ_idx (take_wo h q).rise hi h2
    have e2 := getJ_idx h.rise (i := i) hi'.2 (by rw [← h.len]; exact hi'.2)
    rw [List.getElem_take] at e1 ⊢
    rw [List.getElem_take] at e1
    exact e1.trans e2.symm
  · rw [if_neg hu]
    exact getJ_none hu
theorem not_take {b : Ob} (h : WO b) {q : Nat} (hq : q < b.1.length) : b.1[q] ∉ b.1.take q := fun hm => by
  obtain ⟨i, hi, e⟩ := List.mem_iff_getElem.1 hm
  have hi' : i < q ∧ i < b.1.length := by rw [List.length_take] at hi; omega
  rw [List.getElem_take] at e
  have := List.pairwise_iff_getElem.1 h.rise i q hi'.2 hq hi'.1
  rw [e] at this
  exact lt_irr _ this
/-- What a name ahead leads to has not been touched. -/
theorem fold_ahead {P : Tx → J → Prop} {step : Ob → Tx → J → Ob} {R : Option J → Tx → J → Option J} (hs : Step P step R) {b : Ob} (hb : WO b) (hp : ∀ n x, getO b n = some x → P n x) {a : Ob} (ha : WO a) (q : Nat) :
    WO (foldO step ((b.1.zip b.2).take q) a) ∧ ∀ h : q < b.1.length, getO (foldO step ((b.1.zip b.2).take q) a) b.1[q] = getO a b.1[q] := by
  have hw := take_wo hb q
  obtain ⟨h1, h2⟩ := fold_obj hs hw (fun n x h => by
    rw [get_take hb] at h
    split at h
    · exact hp n x h
    · cases h) ha
  rw [take_zip']
  refine ⟨h1, fun h => ?_⟩
  rw [h2 _, get_none (not_take hb h)]
theorem at_field {b : Ob} (hb : WO b) {q : Nat} (h1 : q < b.1.length) (h2 : q < b.2.length) : getO b b.1[q] = some b.2[q] := getJ_idx hb.rise h1 h2
def stepI (f : J → J → J) (a : Ob) (n : Tx) (x : J) : Ob := if isNull x then dropO a n else setO a n (f (valO a n) x)
def mergeJ (d v : J) : J := match v with
  | .obj ns l => ofO ((ns.zip l).attach.foldl (fun a p => if isNull p.1.2 then dropO a p.1.1 else setO a p.1.1 (mergeJ (valO a p.1.1) p.1.2)) (objO d))
  | .null => .null
  | .bool b => .bool b
  | .num n => .num n
  | .text s => .text s
  | .list l => .list l
termination_by SizeOf.sizeOf v
decreasing_by
  have h : SizeOf.sizeOf p.1.2 < SizeOf.sizeOf l := List.sizeOf_lt_of_mem (List.of_mem_zip p.2).2
  rw [J.obj.sizeOf_spec]
  omega
def isObj : J → Bool
  | .obj _ _ => true
  | .null => false
  | .bool _ => false
  | .num _ => false
  | .text _ => false
  | .list _ => false
theorem obj_of {j : J} (h : isObj j = true) : j = ofO (objO j) := by cases j <;> first | rfl | cases h
theorem objO_not {j : J} (h : isObj j = false) : objO j = ([], []) := by cases j <;> first | rfl | cases h
theorem mergeJ_obj (d : J) (b : Ob) : mergeJ d (ofO b) = ofO (foldO (stepI mergeJ) (b.1.zip b.2) (objO d)) := by
  unfold ofO
  rw [mergeJ]
  show J.obj _ _ = J.obj _ _
  have := List.foldl_attach (l := b.1.zip b.2) (f := fun a p => stepI mergeJ a p.1 p.2) (b := objO d)
  unfold foldO
  rw [← this]
  rfl
theorem mergeJ_flat (d : J) {v : J} (h : isObj v = false) : mergeJ d v = v := by cases v <;> first | (rw [mergeJ]; done) | cases h
theorem val_some {a : Ob} {t : Tx} {x : J} (h : getO a t = some x) : valO a t = x := by unfold valO; rw [h]; rfl
theorem val_none {a : Ob} {t : Tx} (h : getO a t = none) : valO a t = .null := by unfold valO; rw [h]; rfl
theorem step_merge {f : J → J → J} {P : Tx → J → Prop} (hf : ∀ n x y, P n x → WJ y → WJ (f y x)) : Step P (stepI f) (fun o _ x => if isNull x then none else some (f (o.getD .null) x)) := fun a n x ha hp => by
  unfold stepI
  by_cases h : isNull x = true
  · rw [if_pos h]
    refine ⟨ha.drop n, fun u => ?_⟩
    rw [get_drop ha]
    by_cases e : u = n
    · rw [if_pos e, if_pos e]; simp [h]
    · rw [if_neg e, if_neg e]
  · rw [if_neg h]
    refine ⟨ha.set n (hf n x _ hp (ha.val n)), fun u => ?_⟩
    rw [get_set ha]
    by_cases e : u = n
    · rw [if_pos e, if_pos e, e]; simp [h, valO]
    · rw [if_neg e, if_neg e]
theorem kid_size {b : Ob} {n : Tx} {x : J} (h : getO b n = some x) : SizeOf.sizeOf x < SizeOf.sizeOf (ofO b) := by
  have := List.sizeOf_lt_of_mem (getJ_in h)
  unfold ofO
  rw [J.obj.sizeOf_spec]
  omega
theorem wj_ofO {a : Ob} : WJ (ofO a) ↔ WO a := Iff.rfl
theorem merge_wj : ∀ (m : Nat) (d v : J), SizeOf.sizeOf v ≤ m → WJ d → WJ v → WJ (mergeJ d v)
  | m, d, v, hm, hd, hv => by
    cases h : isObj v with
    | false => rw [mergeJ_flat d h]; exact hv
    | true =>
      rw [obj_of h] at hv hm ⊢
      generalize objO v = b at hv hm
      rw [mergeJ_obj]
      cases m with
      | zero => unfold ofO at hm; rw [J.obj.sizeOf_spec] at hm; omega
      | succ m => exact (fold_obj (step_merge (P := fun n x => SizeOf.sizeOf x ≤ m ∧ WJ x) fun n x y hp hy => merge_wj m y x hp.1 hy hp.2) (wj_ofO.1 hv) (fun n x hx => ⟨by have := kid_size hx; omega, (wj_ofO.1 hv).get hx⟩) (WO.of hd)).1
theorem mergeJ_wj {d v : J} (hd : WJ d) (hv : WJ v) : WJ (mergeJ d v) := merge_wj _ d v (Nat.le_refl _) hd hv
theorem step_mergeJ : Step (fun _ x => WJ x) (stepI mergeJ) (fun o _ x => if isNull x then none else some (mergeJ (o.getD .null) x)) := step_merge fun _ _ _ hp hy => mergeJ_wj hy hp
/-- The merge, name by name. -/
theorem merge_get {d : J} (hd : WJ d) {b : Ob} (hb : WO b) (u : Tx) : getO (foldO (stepI mergeJ) (b.1.zip b.2) (objO d)) u = match getO b u with | none => getO (objO d) u | some x => if isNull x then none else some (mergeJ (valO (objO d) u) x) :=
  (fold_obj step_mergeJ hb (fun _ _ hx => hb.get hx) (WO.of hd)).2 u
def stepA (vs : List Tx) (a : Ob) (n : Tx) (x : J) : Ob := if n ∈ vs then a else setO a n x
def stepB (d : Ob) (f : J → J → J) (a : Ob) (n : Tx) (x : J) : Ob := if isNull x then a else setO a n (f (valO d n) x)
theorem step_a (vs : List Tx) : Step (fun _ x => WJ x) (stepA vs) (fun o n x => if n ∈ vs then o else some x) := fun a n x ha hp => by
  unfold stepA
  by_cases h : n ∈ vs
  · rw [if_pos h]
    refine ⟨ha, fun u => ?_⟩
    by_cases e : u = n
    · rw [if_pos e]; simp [h]
    · rw [if_neg e]
  · rw [if_neg h]
    refine ⟨ha.set n hp, fun u => ?_⟩
    rw [get_set ha]
    by_cases e : u = n
    · rw [if_pos e, if_pos e]; simp [h]
    · rw [if_neg e, if_neg e]
theorem step_b {d : Ob} (hd : WO d) {f : J → J → J} {P : Tx → J → Prop} (hf : ∀ n x y, P n x → WJ y → WJ (f y x)) : Step P (stepB d f) (fun o n x => if isNull x then o else some (f (valO d n) x)) := fun a n x ha hp => by
  unfold stepB
  by_cases h : isNull x = true
  · rw [if_pos h]
    refine ⟨ha, fun u => ?_⟩
    by_cases e : u = n
    · rw [if_pos e]; simp [h]
    · rw [if_neg e]
  · rw [if_neg h]
    refine ⟨ha.set n (hf n x _ hp (hd.val n)), fun u => ?_⟩
    rw [get_set ha]
    by_cases e : u = n
    · rw [if_pos e, if_pos e]; simp [h]
    · rw [if_neg e, if_neg e]
theorem some_mem {b : Ob} (hb : WO b) {u : Tx} {x : J} (h : getO b u = some x) : u ∈ b.1 := (get_mem hb u).1 (by rw [h]; rfl)
/-- Both ways are one. -/
theorem merge_ref {d : J} (hd : WJ d) {b : Ob} (hb : WO b) : foldO (stepB (objO d) mergeJ) (b.1.zip b.2) (foldO (stepA b.1) ((objO d).1.zip (objO d).2) ([], [])) = foldO (stepI mergeJ) (b.1.zip b.2) (objO d) := by
  have hD := WO.of hd
  obtain ⟨w1, g1⟩ := fold_obj (step_a b.1) hD (fun _ _ hx => hD.get hx) WO.nil
  obtain ⟨w2, g2⟩ := fold_obj (step_b (f := mergeJ) hD (P := fun _ x => WJ x) fun _ _ _ hp hy => mergeJ_wj hy hp) hb (fun _ _ hx => hb.get hx) w1
  obtain ⟨w3, _⟩ := fold_obj step_mergeJ hb (fun _ _ hx => hb.get hx) hD
  refine ob_ext w2 w3 fun u => ?_
  rw [g2 u, merge_get hd hb u, g1 u, get_nil]
  cases hx : getO b u with
  | some x =>
    have hm := some_mem hb hx
    simp only
    by_cases hn : isNull x = true
    · rw [if_pos hn, if_pos hn]
      cases getO (objO d) u with
      | none => rfl
      | some y => simp only; rw [if_pos hm]
    · rw [if_neg hn, if_neg hn]
  | none =>
    have hm : u ∉ b.1 := fun h => by
      have := (get_mem hb u).2 h
      rw [hx] at this
      cases this
    simp only
    cases getO (objO d) u with
    | none => rfl
    | some y => simp only; rw [if_neg hm]
theorem bulk_null : bulkJ .null = 32 := by rw [bulkJ]
def feeB (n : Tx) (x : J) : Nat := bulkJ x + (2 * n.length + 9)
theorem fee_sum (b : Ob) : b.1.length = b.2.length → ((b.1.zip b.2).map fun p => feeB p.1 p.2).sum = bulkO b := by
  obtain ⟨ns, l⟩ := b
  intro h
  simp only at h ⊢
  induction ns generalizing l with
  | nil => cases l with
    | nil => simp [bulkO, sumB, namesB]
    | cons x l => simp at h
  | cons n ns ih => cases l with
    | nil => simp at h
    | cons x l =>
      have := ih l (by simpa using h)
      rw [List.zip_cons_cons, List.map_cons, List.sum_cons, this]
      unfold bulkO sumB namesB feeB
      simp only [List.map_cons, List.sum_cons]
      omega
theorem sum_take_le {α : Type} (f : α → Nat) (l : List α) (q : Nat) : ((l.take q).map f).sum ≤ (l.map f).sum := by
  conv => rhs; rw [← List.take_append_drop q l, List.map_append, List.sum_append]
  omega
theorem stepI_bulk {f : J → J → J} {a : Ob} (ha : WO a) {n : Tx} {x : J} (h : bulkJ (f (valO a n) x) + 32 ≤ bulkJ (valO a n) + bulkJ x) : bulkO (stepI f a n x) ≤ bulkO a + feeB n x := by
  unfold stepI feeB
  split
  · have := bulk_drop a n; omega
  · have := (bulk_put ha n (f (valO a n) x)).1; omega
theorem merge_bulk : ∀ (m : Nat) (d v : J), SizeOf.sizeOf v ≤ m → WJ d → WJ v → bulkJ (mergeJ d v) + 32 ≤ bulkJ d + bulkJ v
  | m, d, v, hm, hd, hv => by
    cases h : isObj v with
    | false => rw [mergeJ_flat d h]; have := bulk_low d; omega
    | true =>
      rw [obj_of h] at hv hm ⊢
      generalize objO v = b at hv hm
      rw [mergeJ_obj, bulk_of, bulk_of]
      cases m with
      | zero => unfold ofO at hm; rw [J.obj.sizeOf_spec] at hm; omega
      | succ m =>
        have hb := wj_ofO.1 hv
        have key : ∀ (ps : List (Tx × J)) (a : Ob), (∀ p ∈ ps, SizeOf.sizeOf p.2 ≤ m ∧ WJ p.2) → WO a → bulkO (foldO (stepI mergeJ) ps a) ≤ bulkO a + (ps.map fun p => feeB p.1 p.2).sum := fun ps => by
          induction ps with
          | nil => intro a _ _; simp
          | cons p ps ih =>
            intro a hp ha
            obtain ⟨p1, p2⟩ := hp p (List.mem_cons_self ..)
            have h1 := stepI_bulk ha (n := p.1) (merge_bulk m (valO a p.1) p.2 p1 (ha.val _) p2)
            have h2 := ih (stepI mergeJ a p.1 p.2) (fun q hq => hp q (List.mem_cons_of_mem _ hq)) (step_mergeJ a p.1 p.2 ha p2).1
            show bulkO (foldO (stepI mergeJ) ps (stepI mergeJ a p.1 p.2)) ≤ _
            rw [List.map_cons, List.sum_cons]
            omega
        have h1 := key (b.1.zip b.2) (objO d) (fun p hp => by
          have h2 := (List.of_mem_zip hp).2
          have h3 := List.sizeOf_lt_of_mem h2
          unfold ofO at hm
          rw [J.obj.sizeOf_spec] at hm
          exact ⟨by omega, hb.vals _ h2⟩) (WO.of hd)
        rw [fee_sum b hb.len] at h1
        have := bulk_obO d
        omega
theorem mergeJ_bulk {d v : J} (hd : WJ d) (hv : WJ v) : bulkJ (mergeJ d v) + 32 ≤ bulkJ d + bulkJ v := merge_bulk _ d v (Nat.le_refl _) hd hv
/-- Midway through a merge. -/
theorem merge_mid {d : J} (hd : WJ d) {b : Ob} (hb : WO b) (q : Nat) : bulkO (foldO (stepI mergeJ) ((b.1.zip b.2).take q) (objO d)) ≤ bulkO (objO d) + bulkO b := by
  have key : ∀ (ps : List (Tx × J)) (a : Ob), (∀ p ∈ ps, WJ p.2) → WO a → bulkO (foldO (stepI mergeJ) ps a) ≤ bulkO a + (ps.map fun p => feeB p.1 p.2).sum := fun ps => by
    induction ps with
    | nil => intro a _ _; simp
    | cons p ps ih =>
      intro a hp ha
      have p2 := hp p (List.mem_cons_self ..)
      have h1 := stepI_bulk ha (n := p.1) (mergeJ_bulk (ha.val p.1) p2)
      have h2 := ih (stepI mergeJ a p.1 p.2) (fun q hq => hp q (List.mem_cons_of_mem _ hq)) (step_mergeJ a p.1 p.2 ha p2).1
      show bulkO (foldO (stepI mergeJ) ps (stepI mergeJ a p.1 p.2)) ≤ _
      rw [List.map_cons, List.sum_cons]
      omega
  have h1 := key ((b.1.zip b.2).take q) (objO d) (fun p hp => hb.vals _ (List.of_mem_zip (List.mem_of_mem_take hp)).2) (WO.of hd)
  have h2 := sum_take_le (fun p : Tx × J => feeB p.1 p.2) (b.1.zip b.2) q
  rw [fee_sum b hb.len] at h2
  omega
end Go.Proofs.YtahinicpceokcaaGreatDoor.Js
namespace Go.Proofs.YtahinicpceokcaaGreatDoor.Js
open Go
def gO (a : Ob) (u : Tx) : Nat := match getO a u with
  | none => 0
  | some y => feeB u y
theorem gO_some {a : Ob} {u : Tx} {y : J} (h : getO a u = some y) : gO a u = feeB u y := by unfold gO; rw [h]
theorem sum_one {n : Tx} {c : Nat} {h : Tx → Nat} : ∀ us : List Tx, us.Nodup → (us.map fun u => if u = n then c else h u).sum ≤ c + (us.map h).sum
  | [], _ => by simp
  | u :: us, hn => by
    obtain ⟨n1, n2⟩ := List.nodup_cons.1 hn
    rw [List.map_cons, List.map_cons, List.sum_cons, List.sum_cons]
    by_cases e : u = n
    · rw [if_pos e]
      have : (us.map fun v => if v = n then c else h v) = us.map h := List.map_congr_left fun v hv => if_neg fun e2 => n1 (by rw [e, ← e2]; exact hv)
      rw [this]; omega
    · rw [if_neg e]
      have := sum_one (n := n) (c := c) (h := h) us n2
      omega
theorem sum_names : ∀ (ns : List Tx) (l : List J), WO (ns, l) → ∀ us : List Tx, us.Nodup → (us.map (gO (ns, l))).sum ≤ bulkO (ns, l)
  | [], [], _, us, _ => by
    have : us.map (gO ([], [])) = us.map fun _ => 0 := List.map_congr_left fun u _ => by unfold gO; rw [get_nil]
    rw [this]
    have : ∀ us : List Tx, (us.map fun _ => 0).sum = 0 := fun us => by induction us with
      | nil => rfl
      | cons u us ih => rw [List.map_cons, List.sum_cons, ih]
    rw [this]; omega
  | [], _ :: _, h, _, _ => by have := h.len; simp at this
  | _ :: _, [], h, _, _ => by have := h.len; simp at this
  | n :: ns, x :: l, h, us, hu => by
    have h2 : WO (ns, l) := WJ_obj.2 ⟨⟨by have := h.len; simpa using this, rise_tail h.rise⟩, fun y hy => h.vals y (List.mem_cons_of_mem _ hy)⟩
    have e : us.map (gO (n :: ns, x :: l)) = us.map fun u => if u = n then feeB n x else gO (ns, l) u := List.map_congr_left fun u _ => by
      unfold gO getO
      rw [getJ_cons h.rise]
      by_cases e : u = n
      · rw [if_pos e, if_pos e, e]
      · rw [if_neg e, if_neg e]
    rw [e]
    have h3 := sum_one (n := n) (c := feeB n x) (h := gO (ns, l)) us hu
    have h4 := sum_names ns l h2 us hu
    have h5 : bulkO (n :: ns, x :: l) = feeB n x + bulkO (ns, l) := by
      unfold bulkO sumB namesB feeB
      simp only [List.map_cons, List.sum_cons]
      omega
    omega
theorem sum_fee (o : Ob) (h : WO o) : (o.1.map (gO o)).sum = bulkO o := by
  rw [← fee_sum o h.len]
  have : ∀ (ns : List Tx) (l : List J), WO (ns, l) → (ns.map (gO (ns, l))).sum = ((ns.zip l).map fun p => feeB p.1 p.2).sum := fun ns => by
    induction ns with
    | nil => intro l _; simp
    | cons n ns ih =>
      intro l h
      cases l with
      | nil => have := h.len; simp at this
      | cons x l =>
        have h2 : WO (ns, l) := WJ_obj.2 ⟨⟨by have := h.len; simpa using this, rise_tail h.rise⟩, fun y hy => h.vals y (List.mem_cons_of_mem _ hy)⟩
        rw [List.map_cons, List.sum_cons, List.zip_cons_cons, List.map_cons, List.sum_cons, ← ih l h2]
        have e1 : gO (n :: ns, x :: l) n = feeB n x := gO_some (by unfold getO; rw [getJ_cons h.rise, if_pos rfl])
        have e2 : ns.map (gO (n :: ns, x :: l)) = ns.map (gO (ns, l)) := List.map_congr_left fun u hu => by
          unfold gO getO
          rw [getJ_cons h.rise, if_neg (fun e => rise_not h.rise (by rw [← e]; exact hu))]
        rw [e1, e2]
  exact this o.1 o.2 h
theorem sum_map_add (us : List Tx) (f g : Tx → Nat) : (us.map fun u => f u + g u).sum = (us.map f).sum + (us.map g).sum := by
  induction us with
  | nil => rfl
  | cons u us ih => simp only [List.map_cons, List.sum_cons, ih]; omega
theorem sum_map_mono (us : List Tx) (f g : Tx → Nat) (h : ∀ u ∈ us, f u ≤ g u) : (us.map f).sum ≤ (us.map g).sum := by
  induction us with
  | nil => simp
  | cons u us ih => simp only [List.map_cons, List.sum_cons]; have := h u (List.mem_cons_self ..); have := ih fun v hv => h v (List.mem_cons_of_mem _ hv); omega
theorem bulk_by {o A B : Ob} (ho : WO o) (hA : WO A) (hB : WO B) (h : ∀ u z, getO o u = some z → feeB u z ≤ gO A u + gO B u) : bulkO o ≤ bulkO A + bulkO B := by
  have hn := rise_nodup ho.rise
  have h1 := sum_names A.1 A.2 hA o.1 hn
  have h2 := sum_names B.1 B.2 hB o.1 hn
  have h3 := sum_map_mono o.1 (gO o) (fun u => gO A u + gO B u) fun u hu => by
    have := (get_mem ho u).2 hu
    cases hz : getO o u with
    | none => rw [hz] at this; cases this
    | some z => rw [gO_some hz]; exact h u z hz
  rw [sum_map_add, sum_fee o ho] at h3
  have e1 : (A.1, A.2) = A := rfl
  have e2 : (B.1, B.2) = B := rfl
  rw [e1] at h1
  rw [e2] at h2
  omega
theorem attach_all {α : Type} (l : List α) (f : α → Bool) : (l.attach.all fun x => f x.1) = l.all f := by
  conv => rhs; rw [← List.attach_map_subtype_val l, List.all_map]
  rfl
theorem attach_any {α : Type} (l : List α) (f : α → Bool) : (l.attach.any fun x => f x.1) = l.any f := by
  conv => rhs; rw [← List.attach_map_subtype_val l, List.any_map]
  rfl
def hasNullJ : J → Bool
  | .obj _ l => l.attach.any fun x => isNull x.1 || hasNullJ x.1
  | .null => false
  | .bool _ => false
  | .num _ => false
  | .text _ => false
  | .list _ => false
termination_by j => SizeOf.sizeOf j
decreasing_by
  have h : SizeOf.sizeOf x.1 < SizeOf.sizeOf l := List.sizeOf_lt_of_mem x.2
  rw [J.obj.sizeOf_spec]
  omega
theorem hasNull_obj (ns : List Tx) (l : List J) : hasNullJ (.obj ns l) = l.any fun x => isNull x || hasNullJ x := by
  rw [hasNullJ]
  exact attach_any l fun x => isNull x || hasNullJ x
theorem hasNull_flat {j : J} (h : isObj j = false) : hasNullJ j = false := by cases j <;> first | (rw [hasNullJ]; done) | cases h
def sameAt (A : Ob) (n : Tx) (x : J) : Bool := match getO A n with
  | none => false
  | some y => textJ y == textJ x
def okB (a b : J) : Bool := match b with
  | .obj ns l => if isObj a then (ns.zip l).attach.all (fun p => sameAt (objO a) p.1.1 p.1.2 || (!isNull p.1.2 && okB (valO (objO a) p.1.1) p.1.2)) else !hasNullJ (.obj ns l)
  | .null => true
  | .bool _ => true
  | .num _ => true
  | .text _ => true
  | .list _ => true
termination_by SizeOf.sizeOf b
decreasing_by
  have h : SizeOf.sizeOf p.1.2 < SizeOf.sizeOf l := List.sizeOf_lt_of_mem (List.of_mem_zip p.2).2
  rw [J.obj.sizeOf_spec]
  omega
def stepN (vs : List Tx) (a : Ob) (n : Tx) (_ : J) : Ob := if n ∈ vs then a else setO a n .null
def stepD (A : Ob) (f : J → J → J) (a : Ob) (n : Tx) (x : J) : Ob := if sameAt A n x then a else setO a n (f (valO A n) x)
def outB (a b : J) : J := match b with
  | .obj ns l => if isObj a then ofO ((ns.zip l).attach.foldl (fun c p => if sameAt (objO a) p.1.1 p.1.2 then c else setO c p.1.1 (outB (valO (objO a) p.1.1) p.1.2)) (foldO (stepN ns) ((objO a).1.zip (objO a).2) ([], []))) else .obj ns l
  | .null => .null
  | .bool b => .bool b
  | .num n => .num n
  | .text s => .text s
  | .list l => .list l
termination_by SizeOf.sizeOf b
decreasing_by
  have h : SizeOf.sizeOf p.1.2 < SizeOf.sizeOf l := List.sizeOf_lt_of_mem (List.of_mem_zip p.2).2
  rw [J.obj.sizeOf_spec]
  omega
theorem okB_flat {b : J} (a : J) (h : isObj b = false) : okB a b = true := by cases b <;> first | (rw [okB]; done) | cases h
theorem outB_flat {b : J} (a : J) (h : isObj b = false) : outB a b = b := by cases b <;> first | (rw [outB]; done) | cases h
theorem okB_new {a : J} (h : isObj a = false) (b : Ob) : okB a (ofO b) = !hasNullJ (ofO b) := by unfold ofO; rw [okB, h]; rfl
theorem outB_new {a : J} (h : isObj a = false) (b : Ob) : outB a (ofO b) = ofO b := by unfold ofO; rw [outB, h]; rfl
theorem okB_obj (A b : Ob) : okB (ofO A) (ofO b) = (b.1.zip b.2).all fun p => sameAt A p.1 p.2 || (!isNull p.2 && okB (valO A p.1) p.2) := by
  unfold ofO
  rw [okB]
  show ((b.1.zip b.2).attach.all fun p => _) = _
  exact attach_all (b.1.zip b.2) fun p => sameAt A p.1 p.2 || (!isNull p.2 && okB (valO A p.1) p.2)
/-- What the first fields leave: nulls for what goes. -/
def goneB (A b : Ob) : Ob := foldO (stepN b.1) (A.1.zip A.2) ([], [])
theorem outB_obj (A b : Ob) : outB (ofO A) (ofO b) = ofO (foldO (stepD A outB) (b.1.zip b.2) (goneB A b)) := by
  unfold ofO
  rw [outB]
  show J.obj _ _ = J.obj _ _
  have := List.foldl_attach (l := b.1.zip b.2) (f := fun a p => stepD A outB a p.1 p.2) (b := goneB A b)
  unfold foldO
  rw [← this]
  rfl
theorem step_n (vs : List Tx) : Step (fun _ _ => True) (stepN vs) (fun o n _ => if n ∈ vs then o else some .null) := fun a n x ha _ => by
  unfold stepN
  by_cases h : n ∈ vs
  · rw [if_pos h]
    refine ⟨ha, fun u => ?_⟩
    by_cases e : u = n
    · rw [if_pos e]; simp [h]
    · rw [if_neg e]
  · rw [if_neg h]
    refine ⟨ha.set n WJ_null, fun u => ?_⟩
    rw [get_set ha]
    by_cases e : u = n
    · rw [if_pos e, if_pos e]; simp [h]
    · rw [if_neg e, if_neg e]
theorem step_d {A : Ob} {f : J → J → J} {P : Tx → J → Prop} (hf : ∀ n x, P n x → WJ (f (valO A n) x)) : Step P (stepD A f) (fun o n x => if sameAt A n x then o else some (f (valO A n) x)) := fun a n x ha hp => by
  unfold stepD
  by_cases h : sameAt A n x = true
  · rw [if_pos h]
    refine ⟨ha, fun u => ?_⟩
    by_cases e : u = n
    · rw [if_pos e]; simp [h]
    · rw [if_neg e]
  · rw [if_neg h]
    refine ⟨ha.set n (hf n x hp), fun u => ?_⟩
    rw [get_set ha]
    by_cases e : u = n
    · rw [if_pos e, if_pos e]; simp [h]
    · rw [if_neg e, if_neg e]
/-- What a name leads to in what is between. -/
def tgtB (A b : Ob) (u : Tx) : Option J := match getO b u with
  | none => (getO A u).map fun _ => .null
  | some x => if sameAt A u x then none else some (outB (valO A u) x)
theorem gone_wo {A : Ob} (hA : WO A) (b : Ob) : WO (goneB A b) := (fold_obj (step_n b.1) hA (fun _ _ _ => trivial) WO.nil).1
theorem gone_get {A : Ob} (hA : WO A) {b : Ob} (hb : WO b) (u : Tx) : getO (goneB A b) u = match getO b u with | none => (getO A u).map fun _ => .null | some _ => none := by
  have h := (fold_obj (step_n b.1) hA (fun _ _ _ => trivial) WO.nil).2 u
  unfold goneB
  rw [h, get_nil]
  cases hx : getO b u with
  | some x =>
    have hm := some_mem hb hx
    cases getO A u with
    | none => rfl
    | some y => simp only; rw [if_pos hm]
  | none =>
    have hm : u ∉ b.1 := fun h => by
      have := (get_mem hb u).2 h
      rw [hx] at this
      cases this
    cases getO A u with
    | none => rfl
    | some y => simp only; rw [if_neg hm]; rfl
theorem out_wj : ∀ (m : Nat) (a b : J), SizeOf.sizeOf b ≤ m → WJ a → WJ b → WJ (outB a b)
  | m, a, b, hm, ha, hb => by
    cases h : isObj b with
    | false => rw [outB_flat a h]; exact hb
    | true =>
      rw [obj_of h] at hb hm ⊢
      generalize objO b = b at hb hm
      cases h2 : isObj a with
      | false => rw [outB_new h2]; exact hb
      | true =>
        rw [obj_of h2] at ha ⊢
        generalize objO a = A at ha
        rw [outB_obj]
        cases m with
        | zero => unfold ofO at hm; rw [J.obj.sizeOf_spec] at hm; omega
        | succ m => exact (fold_obj (step_d (P := fun n x => SizeOf.sizeOf x ≤ m ∧ WJ x) fun n x hp => out_wj m (valO A n) x hp.1 ((wj_ofO.1 ha).val n) hp.2) (wj_ofO.1 hb) (fun n x hx => ⟨by have := kid_size hx; omega, (wj_ofO.1 hb).get hx⟩) (gone_wo (wj_ofO.1 ha) b)).1
theorem outB_wj {a b : J} (ha : WJ a) (hb : WJ b) : WJ (outB a b) := out_wj _ a b (Nat.le_refl _) ha hb
theorem step_outB {A : Ob} (hA : WO A) : Step (fun _ x => WJ x) (stepD A outB) (fun o n x => if sameAt A n x then o else some (outB (valO A n) x)) := step_d fun n _ hp => outB_wj (hA.val n) hp
theorem between_get {A b : Ob} (hA : WO A) (hb : WO b) (u : Tx) : getO (foldO (stepD A outB) (b.1.zip b.2) (goneB A b)) u = tgtB A b u := by
  rw [(fold_obj (step_outB hA) hb (fun _ _ hx => hb.get hx) (gone_wo hA b)).2 u, gone_get hA hb]
  unfold tgtB
  cases getO b u with
  | none => rfl
  | some x => rfl
def stepS (A b : Ob) (a : Ob) (u : Tx) : Ob := match tgtB A b u with
  | none => a
  | some z => setO a u z
theorem tgt_wj {A b : Ob} (hA : WO A) (hb : WO b) {u : Tx} {z : J} (h : tgtB A b u = some z) : WJ z := by
  unfold tgtB at h
  cases hx : getO b u with
  | none =>
    rw [hx] at h
    obtain ⟨y, _, e⟩ := Option.map_eq_some_iff.1 h
    rw [← e]
    exact WJ_null
  | some x =>
    rw [hx] at h
    simp only at h
    split at h
    · cases h
    · injection h with h
      rw [← h]
      exact outB_wj (hA.val u) (hb.get hx)
theorem names_fold {A b : Ob} (hA : WO A) (hb : WO b) : ∀ (us : List Tx) (a : Ob), WO a → WO (us.foldl (stepS A b) a) ∧ ∀ u, getO (us.foldl (stepS A b) a) u = if u ∈ us then (tgtB A b u).or (getO a u) else getO a u
  | [], a, ha => ⟨ha, fun u => by simp⟩
  | k :: us, a, ha => by
    have hs : WO (stepS A b a k) ∧ ∀ u, getO (stepS A b a k) u = if u = k then (tgtB A b u).or (getO a u) else getO a u := by
      unfold stepS
      cases h : tgtB A b k with
      | none =>
        refine ⟨ha, fun u => ?_⟩
        by_cases e : u = k
        · rw [if_pos e, e, h]; rfl
        · rw [if_neg e]
      | some z =>
        refine ⟨ha.set k (tgt_wj hA hb h), fun u => ?_⟩
        simp only
        rw [get_set ha]
        by_cases e : u = k
        · rw [if_pos e, if_pos e, e, h]; rfl
        · rw [if_neg e, if_neg e]
    obtain ⟨h1, h2⟩ := names_fold hA hb us (stepS A b a k) hs.1
    refine ⟨h1, fun u => ?_⟩
    rw [List.foldl_cons, h2 u, hs.2 u]
    by_cases e : u = k
    · have hk : u ∈ k :: us := by rw [e]; exact List.mem_cons_self ..
      simp only [if_pos e, if_pos hk]
      split
      · cases tgtB A b u <;> rfl
      · rfl
    · rw [if_neg e]
      by_cases hm : u ∈ us
      · rw [if_pos hm, if_pos (List.mem_cons_of_mem _ hm)]
      · rw [if_neg hm, if_neg (by rw [List.mem_cons]; exact fun h => h.elim e hm)]
/-- Both ways are one. -/
theorem between_ref {A b : Ob} (hA : WO A) (hb : WO b) {us : List Tx} (hu : ∀ u, u ∈ us ↔ u ∈ A.1 ∨ u ∈ b.1) : us.foldl (stepS A b) ([], []) = foldO (stepD A outB) (b.1.zip b.2) (goneB A b) := by
  obtain ⟨h1, h2⟩ := names_fold hA hb us ([], []) WO.nil
  refine ob_ext h1 (fold_obj (step_outB hA) hb (fun _ _ hx => hb.get hx) (gone_wo hA b)).1 fun u => ?_
  rw [h2 u, between_get hA hb, get_nil]
  by_cases hm : u ∈ us
  · rw [if_pos hm]; cases tgtB A b u <;> rfl
  · rw [if_neg hm]
    have n1 : u ∉ A.1 := fun h => hm ((hu u).2 (.inl h))
    have n2 : u ∉ b.1 := fun h => hm ((hu u).2 (.inr h))
    unfold tgtB
    rw [get_none n1, get_none n2]; rfl
theorem bulk_pairs {A b : Ob} {f : J → J → J} {u : Tx} {x : J} (hx : getO b u = some x) (hf : bulkJ (f (valO A u) x) + 32 ≤ bulkJ (valO A u) + bulkJ x) : feeB u (f (valO A u) x) ≤ gO A u + gO b u := by
  rw [gO_some hx]
  unfold feeB gO
  cases hy : getO A u with
  | none =>
    rw [val_none hy] at hf ⊢
    rw [bulk_null] at hf
    simp only
    omega
  | some y =>
    rw [val_some hy] at hf ⊢
    simp only
    unfold feeB
    omega
theorem tgt_fee {A b : Ob} (hf : ∀ u x, getO b u = some x → bulkJ (outB (valO A u) x) + 32 ≤ bulkJ (valO A u) + bulkJ x) {u : Tx} {z : J} (h : tgtB A b u = some z) : feeB u z ≤ gO A u + gO b u := by
  unfold tgtB at h
  cases hx : getO b u with
  | none =>
    rw [hx] at h
    obtain ⟨y, hy, e⟩ := Option.map_eq_some_iff.1 h
    rw [gO_some hy, ← e]
    unfold feeB
    rw [bulk_null]
    have := bulk_low y
    omega
  | some x =>
    rw [hx] at h
    simp only at h
    split at h
    · cases h
    · injection h with h
      rw [← h]
      exact bulk_pairs hx (hf u x hx)
theorem out_bulk : ∀ (m : Nat) (a b : J), SizeOf.sizeOf b ≤ m → WJ a → WJ b → bulkJ (outB a b) + 32 ≤ bulkJ a + bulkJ b
  | m, a, b, hm, ha, hb => by
    cases h : isObj b with
    | false => rw [outB_flat a h]; have := bulk_low a; omega
    | true =>
      rw [obj_of h] at hb hm ⊢
      generalize objO b = b at hb hm
      cases h2 : isObj a with
      | false => rw [outB_new h2]; have := bulk_low a; omega
      | true =>
        rw [obj_of h2] at ha ⊢
        generalize objO a = A at ha
        have hA := wj_ofO.1 ha
        have hB := wj_ofO.1 hb
        rw [outB_obj, bulk_of, bulk_of, bulk_of]
        cases m with
        | zero => unfold ofO at hm; rw [J.obj.sizeOf_spec] at hm; omega
        | succ m =>
          have := bulk_by (o := foldO (stepD A outB) (b.1.zip b.2) (goneB A b)) (fold_obj (step_outB hA) hB (fun _ _ hx => hB.get hx) (gone_wo hA b)).1 hA hB fun u z hz => by
            rw [between_get hA hB] at hz
            exact tgt_fee (fun v x hx => out_bulk m _ x (by have := kid_size hx; omega) (hA.val v) (hB.get hx)) hz
          omega
theorem outB_bulk {a b : J} (ha : WJ a) (hb : WJ b) : bulkJ (outB a b) + 32 ≤ bulkJ a + bulkJ b := out_bulk _ a b (Nat.le_refl _) ha hb
/-- Midway, either way: what is there is what shall be. -/
theorem between_mid {A b o : Ob} (hA : WO A) (hb : WO b) (ho : WO o) (h : ∀ u z, getO o u = some z → tgtB A b u = some z) : bulkO o ≤ bulkO A + bulkO b :=
  bulk_by ho hA hb fun u z hz => tgt_fee (fun v _ hx => outB_bulk (hA.val v) (hb.get hx)) (h u z hz)
theorem gone_mid {A b : Ob} (hA : WO A) (hb : WO b) (q : Nat) : WO (foldO (stepN b.1) ((A.1.zip A.2).take q) ([], [])) ∧ bulkO (foldO (stepN b.1) ((A.1.zip A.2).take q) ([], [])) ≤ bulkO A + bulkO b := by
  obtain ⟨h1, h2⟩ := fold_obj (step_n b.1) (take_wo hA q) (fun _ _ _ => trivial) WO.nil
  rw [take_zip']
  refine ⟨h1, between_mid hA hb h1 fun u z hz => ?_⟩
  rw [h2 u, get_nil, get_take hA] at hz
  unfold tgtB
  by_cases hu : u ∈ A.1.take q
  · rw [if_pos hu] at hz
    cases hy : getO A u with
    | none => rw [hy] at hz; cases hz
    | some y =>
      rw [hy] at hz
      simp only at hz
      split at hz
      · cases hz
      · rename_i hn
        rw [get_none hn]
        exact hz
  · rw [if_neg hu] at hz; cases hz
theorem between_step_mid {A b : Ob} (hA : WO A) (hb : WO b) (q : Nat) : WO (foldO (stepD A outB) ((b.1.zip b.2).take q) (goneB A b)) ∧ bulkO (foldO (stepD A outB) ((b.1.zip b.2).take q) (goneB A b)) ≤ bulkO A + bulkO b := by
  obtain ⟨h1, h2⟩ := fold_obj (step_outB hA) (take_wo hb q) (fun _ _ hx => (take_wo hb q).get hx) (gone_wo hA b)
  rw [take_zip']
  refine ⟨h1, between_mid hA hb h1 fun u z hz => ?_⟩
  rw [h2 u, get_take hb, gone_get hA hb] at hz
  unfold tgtB
  cases hx : getO b u with
  | none =>
    rw [hx] at hz
    rw [ite_self] at hz
    exact hz
  | some x =>
    rw [hx] at hz
    by_cases hu : u ∈ b.1.take q
    · rw [if_pos hu] at hz; exact hz
    · rw [if_neg hu] at hz; cases hz
theorem names_mid {A b : Ob} (hA : WO A) (hb : WO b) (us : List Tx) : WO (us.foldl (stepS A b) ([], [])) ∧ bulkO (us.foldl (stepS A b) ([], [])) ≤ bulkO A + bulkO b := by
  obtain ⟨h1, h2⟩ := names_fold hA hb us ([], []) WO.nil
  refine ⟨h1, between_mid hA hb h1 fun u z hz => ?_⟩
  rw [h2 u, get_nil] at hz
  split at hz
  · cases ht : tgtB A b u with
    | none => rw [ht] at hz; cases hz
    | some y => rw [ht] at hz; exact hz
  · cases hz
def okM (p q : J) : Bool := match q with
  | .obj ns l => isObj p && (ns.zip l).attach.all (fun z => match getO (objO p) z.1.1 with | some v => okM v z.1.2 | none => true)
  | .null => true
  | .bool _ => true
  | .num _ => true
  | .text _ => true
  | .list _ => true
termination_by SizeOf.sizeOf q
decreasing_by
  have h : SizeOf.sizeOf z.1.2 < SizeOf.sizeOf l := List.sizeOf_lt_of_mem (List.of_mem_zip z.2).2
  rw [J.obj.sizeOf_spec]
  omega
def outM (p q : J) : J := match q with
  | .obj ns l => ofO ((ns.zip l).attach.foldl (fun a z => setO a z.1.1 (match getO (objO p) z.1.1 with | some v => outM v z.1.2 | none => z.1.2)) (objO p))
  | .null => .null
  | .bool b => .bool b
  | .num n => .num n
  | .text s => .text s
  | .list l => .list l
termination_by SizeOf.sizeOf q
decreasing_by
  have h : SizeOf.sizeOf z.1.2 < SizeOf.sizeOf l := List.sizeOf_lt_of_mem (List.of_mem_zip z.2).2
  rw [J.obj.sizeOf_spec]
  omega
def bothO (p : Ob) (n : Tx) (x : J) : J := match getO p n with | some v => outM v x | none => x
def okO (p : Ob) (n : Tx) (x : J) : Bool := match getO p n with | some v => okM v x | none => true
def stepM (p : Ob) (a : Ob) (n : Tx) (x : J) : Ob := setO a n (bothO p n x)
theorem okM_flat {q : J} (p : J) (h : isObj q = false) : okM p q = true := by cases q <;> first | (rw [okM]; done) | cases h
theorem outM_flat {q : J} (p : J) (h : isObj q = false) : outM p q = q := by cases q <;> first | (rw [outM]; done) | cases h
theorem okM_not {p : J} (h : isObj p = false) (b : Ob) : okM p (ofO b) = false := by unfold ofO; rw [okM, h]; rfl
theorem okM_obj (p b : Ob) : okM (ofO p) (ofO b) = (b.1.zip b.2).all fun z => okO p z.1 z.2 := by
  unfold ofO
  rw [okM]
  show (true && _) = _
  rw [Bool.true_and]
  exact attach_all (b.1.zip b.2) fun z => okO p z.1 z.2
theorem outM_obj (p : J) (b : Ob) : outM p (ofO b) = ofO (foldO (stepM (objO p)) (b.1.zip b.2) (objO p)) := by
  unfold ofO
  rw [outM]
  show J.obj _ _ = J.obj _ _
  have := List.foldl_attach (l := b.1.zip b.2) (f := fun a z => stepM (objO p) a z.1 z.2) (b := objO p)
  unfold foldO
  rw [← this]
  rfl
theorem step_m {p : Ob} {P : Tx → J → Prop} (hf : ∀ n x, P n x → WJ (bothO p n x)) : Step P (stepM p) (fun _ n x => some (bothO p n x)) := fun a n x ha hp => by
  unfold stepM
  refine ⟨ha.set n (hf n x hp), fun u => ?_⟩
  rw [get_set ha]
theorem outm_wj : ∀ (m : Nat) (p q : J), SizeOf.sizeOf q ≤ m → WJ p → WJ q → WJ (outM p q)
  | m, p, q, hm, hp, hq => by
    cases h : isObj q with
    | false => rw [outM_flat p h]; exact hq
    | true =>
      rw [obj_of h] at hq hm ⊢
      generalize objO q = b at hq hm
      rw [outM_obj]
      have hP := WO.of hp
      cases m with
      | zero => unfold ofO at hm; rw [J.obj.sizeOf_spec] at hm; omega
      | succ m => exact (fold_obj (step_m (P := fun n x => SizeOf.sizeOf x ≤ m ∧ WJ x) fun n x hx => by
          unfold bothO
          cases hv : getO (objO p) n with
          | none => exact hx.2
          | some v => exact outm_wj m v x hx.1 (hP.get hv) hx.2) (wj_ofO.1 hq) (fun n x hx => ⟨by have := kid_size hx; omega, (wj_ofO.1 hq).get hx⟩) hP).1
theorem outM_wj {p q : J} (hp : WJ p) (hq : WJ q) : WJ (outM p q) := outm_wj _ p q (Nat.le_refl _) hp hq
theorem bothO_wj {p : Ob} (hp : WO p) {n : Tx} {x : J} (hx : WJ x) : WJ (bothO p n x) := by
  unfold bothO
  cases hv : getO p n with
  | none => exact hx
  | some v => exact outM_wj (hp.get hv) hx
theorem step_both {p : Ob} (hp : WO p) : Step (fun _ x => WJ x) (stepM p) (fun _ n x => some (bothO p n x)) := step_m fun _ _ hx => bothO_wj hp hx
theorem both_fee {p b : Ob} (hf : ∀ u x v, getO b u = some x → getO p u = some v → bulkJ (outM v x) + 32 ≤ bulkJ v + bulkJ x) {u : Tx} {x : J} (hx : getO b u = some x) : feeB u (bothO p u x) ≤ gO p u + gO b u := by
  rw [gO_some hx]
  unfold bothO gO
  cases hv : getO p u with
  | none => simp only; omega
  | some v => simp only; have := hf u x v hx hv; unfold feeB; omega
theorem outm_bulk : ∀ (m : Nat) (p q : J), SizeOf.sizeOf q ≤ m → WJ p → WJ q → bulkJ (outM p q) + 32 ≤ bulkJ p + bulkJ q
  | m, p, q, hm, hp, hq => by
    cases h : isObj q with
    | false => rw [outM_flat p h]; have := bulk_low p; omega
    | true =>
      rw [obj_of h] at hq hm ⊢
      generalize objO q = b at hq hm
      have hP := WO.of hp
      have hB := wj_ofO.1 hq
      rw [outM_obj, bulk_of, bulk_of]
      have hbp := bulk_obO p
      cases m with
      | zero => unfold ofO at hm; rw [J.obj.sizeOf_spec] at hm; omega
      | succ m =>
        obtain ⟨h1, h2⟩ := fold_obj (step_both hP) hB (fun _ _ hx => hB.get hx) hP
        have := bulk_by h1 hP hB fun u z hz => by
          rw [h2 u] at hz
          cases hx : getO b u with
          | none =>
            rw [hx] at hz
            rw [gO_some (show getO (objO p) u = some z from hz)]
            omega
          | some x =>
            rw [hx] at hz
            injection hz with hz
            rw [← hz]
            exact both_fee (fun v y r hy hr => outm_bulk m r y (by have := kid_size hy; omega) (hP.get hr) (hB.get hy)) hx
        omega
theorem outM_bulk {p q : J} (hp : WJ p) (hq : WJ q) : bulkJ (outM p q) + 32 ≤ bulkJ p + bulkJ q := outm_bulk _ p q (Nat.le_refl _) hp hq
theorem both_mid {p b : Ob} (hP : WO p) (hB : WO b) (q : Nat) : WO (foldO (stepM p) ((b.1.zip b.2).take q) p) ∧ bulkO (foldO (stepM p) ((b.1.zip b.2).take q) p) ≤ bulkO p + bulkO b := by
  have hT := take_wo hB q
  obtain ⟨h1, h2⟩ := fold_obj (step_both hP) hT (fun _ _ hx => hT.get hx) hP
  rw [take_zip']
  refine ⟨h1, bulk_by h1 hP hB fun u z hz => ?_⟩
  rw [h2 u, get_take hB] at hz
  by_cases hu : u ∈ b.1.take q
  · rw [if_pos hu] at hz
    cases hx : getO b u with
    | none =>
      rw [hx] at hz
      rw [gO_some (show getO p u = some z from hz)]
      omega
    | some x =>
      rw [hx] at hz
      injection hz with hz
      rw [← hz]
      exact both_fee (fun v y r hy hr => outM_bulk (hP.get hr) (hB.get hy)) hx
  · rw [if_neg hu] at hz
    rw [gO_some (show getO p u = some z from hz)]
    omega
def okT (c : UInt8) : Bool := decide (c.toNat = 10 ∨ c.toNat = 9 ∨ (32 ≤ c.toNat ∧ c.toNat ≤ 126))
def soundJ : J → Bool
  | .text s => s.all okT
  | .list l => l.attach.all fun x => soundJ x.1
  | .obj ns l => ns.all (fun n => n.all okT) && l.attach.all fun x => soundJ x.1
  | .null => true
  | .bool _ => true
  | .num _ => true
termination_by j => SizeOf.sizeOf j
decreasing_by
  · have h : SizeOf.sizeOf x.1 < SizeOf.sizeOf l := List.sizeOf_lt_of_mem x.2
    rw [J.list.sizeOf_spec]
    omega
  · have h : SizeOf.sizeOf x.1 < SizeOf.sizeOf l := List.sizeOf_lt_of_mem x.2
    rw [J.obj.sizeOf_spec]
    omega
theorem sound_list (l : List J) : soundJ (.list l) = l.all soundJ := by
  rw [soundJ]
  exact attach_all l soundJ
theorem sound_obj (ns : List Tx) (l : List J) : soundJ (.obj ns l) = (ns.all (fun n => n.all okT) && l.all soundJ) := by
  rw [soundJ]
  exact congrArg _ (attach_all l soundJ)
def tellS (j : J) : Tx × Int := if soundJ j = false then ([], 16) else if 10 < deepJ j then ([], 4) else if 200 < manyJ j then ([], 2) else if 2000 < (textJ j).length then ([], 2) else (textJ j, 0)
theorem tell_odd {j : J} (h : soundJ j = false) : tellS j = ([], 16) := if_pos h
theorem tell_deep {j : J} (h : soundJ j = true) (h2 : 10 < deepJ j) : tellS j = ([], 4) := by unfold tellS; rw [if_neg (by simp [h]), if_pos h2]
theorem tell_many {j : J} (h : soundJ j = true) (h2 : ¬ 10 < deepJ j) (h3 : 200 < manyJ j) : tellS j = ([], 2) := by unfold tellS; rw [if_neg (by simp [h]), if_neg h2, if_pos h3]
theorem tell_long {j : J} (h : soundJ j = true) (h2 : ¬ 10 < deepJ j) (h3 : ¬ 200 < manyJ j) (h4 : 2000 < (textJ j).length) : tellS j = ([], 2) := by unfold tellS; rw [if_neg (by simp [h]), if_neg h2, if_neg h3, if_pos h4]
theorem tell_ok {j : J} (h : soundJ j = true) (h2 : ¬ 10 < deepJ j) (h3 : ¬ 200 < manyJ j) (h4 : ¬ 2000 < (textJ j).length) : tellS j = (textJ j, 0) := by unfold tellS; rw [if_neg (by simp [h]), if_neg h2, if_neg h3, if_neg h4]
end Go.Proofs.YtahinicpceokcaaGreatDoor.Js
namespace Go.Proofs.YtahinicpceokcaaGreatDoor.Js
open Go
theorem bulk_nil : bulkO ([], []) = 0 := by simp [bulkO, sumB, namesB]
/-- What is kept, ahead of the others. -/
def keptO (D v : Ob) : Ob := foldO (stepA v.1) (D.1.zip D.2) ([], [])
theorem kept_get {D : Ob} (hD : WO D) (v : Ob) (u : Tx) : getO (keptO D v) u = if u ∈ v.1 then none else getO D u := by
  unfold keptO
  rw [(fold_obj (step_a v.1) hD (fun _ _ hx => hD.get hx) WO.nil).2 u, get_nil]
  cases getO D u with
  | none => simp only [ite_self]
  | some y => rfl
theorem kept_wo {D : Ob} (hD : WO D) (v : Ob) : WO (keptO D v) := (fold_obj (step_a v.1) hD (fun _ _ hx => hD.get hx) WO.nil).1
theorem kept_mid {D : Ob} (hD : WO D) (v : Ob) (q : Nat) : WO (foldO (stepA v.1) ((D.1.zip D.2).take q) ([], [])) ∧ bulkO (foldO (stepA v.1) ((D.1.zip D.2).take q) ([], [])) ≤ bulkO D := by
  have hT := take_wo hD q
  obtain ⟨h1, h2⟩ := fold_obj (step_a v.1) hT (fun _ _ hx => hT.get hx) WO.nil
  rw [take_zip']
  have h3 := bulk_by h1 hD WO.nil fun u z hz => by
    rw [h2 u, get_nil, get_take hD] at hz
    by_cases hu : u ∈ D.1.take q
    · rw [if_pos hu] at hz
      cases hy : getO D u with
      | none => rw [hy] at hz; cases hz
      | some y =>
        rw [hy] at hz
        simp only at hz
        split at hz
        · cases hz
        · injection hz with hz
          rw [gO_some hy, hz]
          omega
    · rw [if_neg hu] at hz; cases hz
  rw [bulk_nil] at h3
  exact ⟨h1, by omega⟩
theorem merge_ref_mid {d : J} (hd : WJ d) {v : Ob} (hv : WO v) (q : Nat) : WO (foldO (stepB (objO d) mergeJ) ((v.1.zip v.2).take q) (keptO (objO d) v)) ∧ bulkO (foldO (stepB (objO d) mergeJ) ((v.1.zip v.2).take q) (keptO (objO d) v)) ≤ bulkO (objO d) + bulkO v := by
  have hD := WO.of hd
  have hT := take_wo hv q
  obtain ⟨h1, h2⟩ := fold_obj (step_b (f := mergeJ) hD (P := fun _ x => WJ x) fun _ _ _ hp hy => mergeJ_wj hy hp) hT (fun _ _ hx => hT.get hx) (kept_wo hD v)
  rw [take_zip']
  have old : ∀ u z, getO (keptO (objO d) v) u = some z → feeB u z ≤ gO (objO d) u + gO v u := fun u z hz => by
    rw [kept_get hD] at hz
    split at hz
    · cases hz
    · rw [gO_some hz]; omega
  refine ⟨h1, bulk_by h1 hD hv fun u z hz => ?_⟩
  rw [h2 u, get_take hv] at hz
  by_cases hu : u ∈ v.1.take q
  · rw [if_pos hu] at hz
    cases hx : getO v u with
    | none => rw [hx] at hz; exact old u z hz
    | some x =>
      rw [hx] at hz
      simp only at hz
      split at hz
      · exact old u z hz
      · injection hz with hz
        rw [← hz]
        exact bulk_pairs hx (mergeJ_bulk (hD.val u) (hv.get hx))
  · rw [if_neg hu] at hz; exact old u z hz
theorem merge_ref' {d : J} (hd : WJ d) {v : Ob} (hv : WO v) : mergeJ d (ofO v) = ofO (foldO (stepB (objO d) mergeJ) (v.1.zip v.2) (keptO (objO d) v)) := by
  rw [mergeJ_obj]
  exact congrArg ofO (merge_ref hd hv).symm
end Go.Proofs.YtahinicpceokcaaGreatDoor.Js
