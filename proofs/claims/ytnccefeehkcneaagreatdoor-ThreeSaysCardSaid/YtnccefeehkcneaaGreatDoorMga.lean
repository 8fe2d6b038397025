/-
  Objects in plain words: what a name leads to; a field less; two objects with the same answers are one.
  Merges in plain words: the three functions, what they answer name by name, how great it is.
  Merges in plain words: what is between two documents, what two merges do, what may be told.
  Merges in plain words: midway through the reference's way of a merge.
-/
import Derived.Test.YtnccefeehkcneaaGreatDoorJst
namespace Go.Proofs.YtnccefeehkcneaaGreatDoor.Js
open Go
/-- What a name leads to. -/
def getJ (ns : List Tx) (l : List J) (t : Tx) : Option J := if t ∈ ns then l[place ns t]? else none
/-- One field less. -/
def dropJ (ns : List Tx) (l : List J) (t : Tx) : List Tx × List J := if t ∈ ns then (ns.eraseIdx (place ns t), l.eraseIdx (place ns t)) else (ns, l)
theorem getJ_nil (t : Tx) : getJ [] [] t = none := by simp [getJ]
theorem rise_head {n : Tx} {ns : List Tx} (h : Rise (n :: ns)) : ∀ x ∈ ns, n < x := (List.pairwise_cons.1 h).1
theorem rise_tail {n : Tx} {ns : List Tx} (h : Rise (n :: ns)) : Rise ns := (List.pairwise_cons.1 h).2
theorem rise_not {n : Tx} {ns : List Tx} (h : Rise (n :: ns)) : n ∉ ns := fun hm => lt_irr _ (rise_head h n hm)
theorem place_self (n : Tx) (ns : List Tx) : place (n :: ns) n = 0 := by rw [place_cons, if_neg (lt_irr n)]
theorem getJ_cons {n : Tx} {ns : List Tx} {x : J} {l : List J} (h : Rise (n :: ns)) (t : Tx) : getJ (n :: ns) (x :: l) t = if t = n then some x else getJ ns l t := by
  unfold getJ
  by_cases e : t = n
  · subst e
    rw [if_pos (List.mem_cons_self ..), if_pos rfl, place_self]; rfl
  · rw [if_neg e]
    by_cases hm : t ∈ ns
    · rw [if_pos (List.mem_cons_of_mem _ hm), if_pos hm, place_cons, if_pos (rise_head h t hm)]; rfl
    · rw [if_neg hm, if_neg (by rw [List.mem_cons]; exact fun h => h.elim e hm)]
theorem getJ_none {ns : List Tx} {l : List J} {t : Tx} (h : t ∉ ns) : getJ ns l t = none := if_neg h
theorem getJ_at {ns : List Tx} {l : List J} {t : Tx} (h : t ∈ ns) : getJ ns l t = l[place ns t]? := if_pos h
theorem getJ_mem {ns : List Tx} {l : List J} (hr : Rise ns) (hl : ns.length = l.length) (t : Tx) : (getJ ns l t).isSome = true ↔ t ∈ ns := by
  constructor
  · intro h
    by_cases hm : t ∈ ns
    · exact hm
    · rw [getJ_none hm] at h; cases h
  · intro h
    obtain ⟨h1, _⟩ := (place_mem hr t).1 h
    rw [getJ_at h, List.getElem?_eq_getElem (by omega)]
    rfl
theorem getJ_in {ns : List Tx} {l : List J} {t : Tx} {x : J} (h : getJ ns l t = some x) : x ∈ l := by
  unfold getJ at h
  split at h
  · exact List.mem_of_getElem? h
  · cases h
theorem getJ_idx {ns : List Tx} {l : List J} (hr : Rise ns) {i : Nat} (h1 : i < ns.length) (h2 : i < l.length) : getJ ns l ns[i] = some l[i] := by
  have hm : ns[i] ∈ ns := List.getElem_mem h1
  obtain ⟨h3, h4⟩ := (place_mem hr ns[i]).1 hm
  have e : place ns ns[i] = i := by
    rcases Nat.lt_trichotomy (place ns ns[i]) i with h | h | h
    · have := List.pairwise_iff_getElem.1 hr _ _ h3 h1 h
      rw [h4] at this
      exact absurd this (lt_irr _)
    · exact h
    · exact absurd ((place_spec hr ns[i] i h1).1 h) (lt_irr _)
  rw [getJ_at hm, e, List.getElem?_eq_getElem h2]
theorem setJ_same {n : Tx} {ns : List Tx} {x : J} {l : List J} (j : J) : setJ (n :: ns) (x :: l) n j = (n :: ns, j :: l) := by
  rw [setJ_old (List.mem_cons_self ..), place_self]; rfl
theorem setJ_up {n : Tx} {ns : List Tx} {x : J} {l : List J} {t : Tx} (h : n < t) (j : J) : setJ (n :: ns) (x :: l) t j = (n :: (setJ ns l t j).1, x :: (setJ ns l t j).2) := by
  have hne : t ≠ n := fun e => lt_irr _ (e ▸ h)
  by_cases hm : t ∈ ns
  · rw [setJ_old (List.mem_cons_of_mem _ hm), setJ_old hm, place_cons, if_pos h]; rfl
  · rw [setJ_new (by rw [List.mem_cons]; exact fun h => h.elim hne hm), setJ_new hm, place_cons, if_pos h]; rfl
theorem setJ_low {n : Tx} {ns : List Tx} {x : J} {l : List J} {t : Tx} (hr : Rise (n :: ns)) (h : t < n) (j : J) : setJ (n :: ns) (x :: l) t j = (t :: n :: ns, j :: x :: l) := by
  have hn : t ∉ n :: ns := fun hm => by
    rcases List.mem_cons.1 hm with e | hm
    · exact lt_irr _ (e ▸ h)
    · exact lt_irr _ (lt_tr h (rise_head hr t hm))
  rw [setJ_new hn, place_cons, if_neg (fun h2 => lt_irr _ (lt_tr h h2))]; rfl
theorem tx_cases (a b : Tx) : a < b ∨ a = b ∨ b < a := Std.lt_trichotomy (α := Tx) a b
theorem lt_ne {a b : Tx} (h : a < b) : a ≠ b := fun e => lt_irr _ (e ▸ h)
theorem set_rise {ns : List Tx} {l : List J} (hr : Rise ns) (t : Tx) (j : J) : Rise (setJ ns l t j).1 := by
  by_cases ht : t ∈ ns
  · rw [setJ_old ht]; exact hr
  · rw [setJ_new ht]; exact rise_put hr ht
theorem getJ_set (j : J) (t u : Tx) : ∀ (ns : List Tx) (l : List J), Rise ns → ns.length = l.length → getJ (setJ ns l t j).1 (setJ ns l t j).2 u = if u = t then some j else getJ ns l u
  | [], [], _, _ => by
    have e : setJ [] [] t j = ([t], [j]) := by rw [setJ_new (by simp), place_nil]; rfl
    rw [e, getJ_cons (List.pairwise_singleton _ _)]
  | n :: ns, x :: l, hr, hl => by
    rcases tx_cases n t with h | h | h
    · rw [setJ_up h]
      have hr2 : Rise (n :: (setJ ns l t j).1) := by
        have h3 := set_rise (l := x :: l) hr t j
        rw [setJ_up h] at h3
        exact h3
      rw [getJ_cons hr2, getJ_set j t u ns l (rise_tail hr) (by simpa using hl), getJ_cons hr]
      by_cases e : u = n
      · rw [if_pos e, if_pos e, if_neg (fun e2 => lt_ne h (e.symm.trans e2))]
      · rw [if_neg e, if_neg e]
    · subst h
      rw [setJ_same, getJ_cons hr, getJ_cons hr]
      by_cases e : u = n
      · rw [if_pos e, if_pos e]
      · rw [if_neg e, if_neg e, if_neg e]
    · have hr2 : Rise (t :: n :: ns) := by
        have h3 := set_rise (l := x :: l) hr t j
        rw [setJ_low hr h] at h3
        exact h3
      rw [setJ_low hr h, getJ_cons hr2]
theorem dropJ_same {n : Tx} {ns : List Tx} {x : J} {l : List J} : dropJ (n :: ns) (x :: l) n = (ns, l) := by
  unfold dropJ
  rw [if_pos (List.mem_cons_self ..), place_self]; rfl
theorem dropJ_up {n : Tx} {ns : List Tx} {x : J} {l : List J} {t : Tx} (h : n < t) : dropJ (n :: ns) (x :: l) t = (n :: (dropJ ns l t).1, x :: (dropJ ns l t).2) := by
  have hne : t ≠ n := fun e => lt_irr _ (e ▸ h)
  unfold dropJ
  by_cases hm : t ∈ ns
  · rw [if_pos (List.mem_cons_of_mem _ hm), if_pos hm, place_cons, if_pos h]; rfl
  · rw [if_neg (by rw [List.mem_cons]; exact fun h => h.elim hne hm), if_neg hm]
theorem dropJ_none {ns : List Tx} {l : List J} {t : Tx} (h : t ∉ ns) : dropJ ns l t = (ns, l) := if_neg h
theorem dropJ_low {n : Tx} {ns : List Tx} {x : J} {l : List J} {t : Tx} (hr : Rise (n :: ns)) (h : t < n) : dropJ (n :: ns) (x :: l) t = (n :: ns, x :: l) :=
  dropJ_none fun hm => by
    rcases List.mem_cons.1 hm with e | hm
    · exact lt_irr _ (e ▸ h)
    · exact lt_irr _ (lt_tr h (rise_head hr t hm))
theorem drop_mem2 {ns : List Tx} {l : List J} {t : Tx} {x : J} (h : x ∈ (dropJ ns l t).2) : x ∈ l := by
  unfold dropJ at h
  split at h
  · exact List.mem_of_mem_eraseIdx h
  · exact h
theorem drop_rise {ns : List Tx} {l : List J} (hr : Rise ns) (t : Tx) : Rise (dropJ ns l t).1 := by
  unfold dropJ
  split
  · exact List.Pairwise.sublist (List.eraseIdx_sublist ..) hr
  · exact hr
theorem drop_len {ns : List Tx} {l : List J} (hr : Rise ns) (hl : ns.length = l.length) (t : Tx) : (dropJ ns l t).1.length = (dropJ ns l t).2.length := by
  unfold dropJ
  split
  · rename_i h
    obtain ⟨h1, _⟩ := (place_mem hr t).1 h
    show (ns.eraseIdx _).length = (l.eraseIdx _).length
    rw [List.length_eraseIdx_of_lt h1, List.length_eraseIdx_of_lt (by omega), hl]
  · exact hl
theorem getJ_drop (t u : Tx) : ∀ (ns : List Tx) (l : List J), Rise ns → ns.length = l.length → getJ (dropJ ns l t).1 (dropJ ns l t).2 u = if u = t then none else getJ ns l u
  | [], [], _, _ => by
    rw [dropJ_none (by simp), getJ_nil]
    split <;> rfl
  | n :: ns, x :: l, hr, hl => by
    rcases tx_cases n t with h | h | h
    · rw [dropJ_up h]
      have hr2 : Rise (n :: (dropJ ns l t).1) := by
        have h3 := drop_rise (l := x :: l) hr t
        rw [dropJ_up h] at h3
        exact h3
      rw [getJ_cons hr2, getJ_drop t u ns l (rise_tail hr) (by simpa using hl), getJ_cons hr]
      by_cases e : u = n
      · rw [if_pos e, if_pos e, if_neg (fun e2 => lt_ne h (e.symm.trans e2))]
      · rw [if_neg e, if_neg e]
    · subst h
      rw [dropJ_same, getJ_cons hr]
      by_cases e : u = n
      · rw [if_pos e, e, getJ_none (rise_not hr)]
      · rw [if_neg e, if_neg e]
    · rw [dropJ_low hr h]
      by_cases e : u = t
      · rw [if_pos e, e]
        refine getJ_none fun hm => ?_
        rcases List.mem_cons.1 hm with e | hm
        · exact lt_irr _ (e ▸ h)
        · exact lt_irr _ (lt_tr h (rise_head hr t hm))
      · rw [if_neg e]
/-- Two objects with the same answers are one. -/
theorem obj_ext : ∀ (ns ms : List Tx) (l m : List J), Rise ns → Rise ms → ns.length = l.length → ms.length = m.length → (∀ u, getJ ns l u = getJ ms m u) → ns = ms ∧ l = m
  | [], [], [], [], _, _, _, _, _ => ⟨rfl, rfl⟩
  | [], k :: ms, [], y :: m, _, h2, _, _, h => by
    have := h k
    rw [getJ_nil, getJ_cons h2, if_pos rfl] at this
    cases this
  | n :: ns, [], x :: l, [], h1, _, _, _, h => by
    have := h n
    rw [getJ_nil, getJ_cons h1, if_pos rfl] at this
    cases this
  | n :: ns, k :: ms, x :: l, y :: m, h1, h2, h3, h4, h => by
    have hnk : n = k := by
      rcases tx_cases n k with hlt | e | hlt
      · have hn := h n
        rw [getJ_cons h1, if_pos rfl, getJ_none (fun hm => by
          rcases List.mem_cons.1 hm with e | hm
          · exact lt_ne hlt e
          · exact lt_irr _ (lt_tr hlt (rise_head h2 n hm)))] at hn
        cases hn
      · exact e
      · have hn := h k
        rw [getJ_cons h2, if_pos rfl, getJ_none (fun hm => by
          rcases List.mem_cons.1 hm with e | hm
          · exact lt_ne hlt e
          · exact lt_irr _ (lt_tr hlt (rise_head h1 k hm)))] at hn
        cases hn
    subst hnk
    have hx := h n
    rw [getJ_cons h1, getJ_cons h2, if_pos rfl, if_pos rfl] at hx
    injection hx with hx
    obtain ⟨e1, e2⟩ := obj_ext ns ms l m (rise_tail h1) (rise_tail h2) (by simpa using h3) (by simpa using h4) (fun u => by
      have hu := h u
      rw [getJ_cons h1, getJ_cons h2] at hu
      by_cases e : u = n
      · rw [e, getJ_none (rise_not h1), getJ_none (rise_not h2)]
      · rw [if_neg e, if_neg e] at hu; exact hu)
    rw [hx, e1, e2]
    exact ⟨rfl, rfl⟩
abbrev Ob := List Tx × List J
/-- Well made. -/
def WO (a : Ob) : Prop := WJ (.obj a.1 a.2)
def getO (a : Ob) (t : Tx) : Option J := getJ a.1 a.2 t
/-- What a name leads to, or nothing. -/
def valO (a : Ob) (t : Tx) : J := (getO a t).getD .null
def setO (a : Ob) (t : Tx) (j : J) : Ob := setJ a.1 a.2 t j
def dropO (a : Ob) (t : Tx) : Ob := dropJ a.1 a.2 t
def objO : J → Ob
  | .obj ns l => (ns, l)
  | .null => ([], [])
  | .bool _ => ([], [])
  | .num _ => ([], [])
  | .text _ => ([], [])
  | .list _ => ([], [])
def ofO (a : Ob) : J := .obj a.1 a.2
def bulkO (a : Ob) : Nat := sumB a.2 + namesB a.1
theorem bulk_obj (ns : List Tx) (l : List J) : bulkJ (.obj ns l) = 32 + bulkO (ns, l) := by rw [bulkJ]; simp only [bulkO, sumB]; omega
theorem bulk_of (a : Ob) : bulkJ (ofO a) = 32 + bulkO a := bulk_obj _ _
theorem bulk_low (j : J) : 32 ≤ bulkJ j := by cases j <;> rw [bulkJ] <;> omega
theorem WO.nil : WO ([], []) := WJ_obj.2 ⟨⟨rfl, List.Pairwise.nil⟩, fun x hx => by cases hx⟩
theorem WO.of {j : J} (h : WJ j) : WO (objO j) := by cases j <;> first | exact h | exact WO.nil
theorem WO.rise {a : Ob} (h : WO a) : Rise a.1 := (WJ_obj.1 h).1.2
theorem WO.len {a : Ob} (h : WO a) : a.1.length = a.2.length := (WJ_obj.1 h).1.1
theorem WO.vals {a : Ob} (h : WO a) : ∀ x ∈ a.2, WJ x := (WJ_obj.1 h).2
theorem WO.set {a : Ob} (h : WO a) (t : Tx) {j : J} (hj : WJ j) : WO (setO a t j) := setJ_wj h hj
theorem WO.drop {a : Ob} (h : WO a) (t : Tx) : WO (dropO a t) := WJ_obj.2 ⟨⟨drop_len h.rise h.len t, drop_rise h.rise t⟩, fun x hx => h.vals x (drop_mem2 hx)⟩
theorem WO.get {a : Ob} (h : WO a) {t : Tx} {x : J} (hx : getO a t = some x) : WJ x := h.vals x (getJ_in hx)
theorem WJ_null : WJ .null := by rw [WJ]; trivial
theorem WO.val {a : Ob} (h : WO a) (t : Tx) : WJ (valO a t) := by
  unfold valO
  cases hx : getO a t with
  | none => exact WJ_null
  | some x => exact h.get hx
theorem get_set {a : Ob} (h : WO a) (t u : Tx) (j : J) : getO (setO a t j) u = if u = t then some j else getO a u := getJ_set j t u _ _ h.rise h.len
theorem get_drop {a : Ob} (h : WO a) (t u : Tx) : getO (dropO a t) u = if u = t then none else getO a u := getJ_drop t u _ _ h.rise h.len
theorem get_mem {a : Ob} (h : WO a) (t : Tx) : (getO a t).isSome = true ↔ t ∈ a.1 := getJ_mem h.rise h.len t
theorem get_none {a : Ob} {t : Tx} (h : t ∉ a.1) : getO a t = none := getJ_none h
theorem get_nil (t : Tx) : getO ([], []) t = none := getJ_nil t
theorem ob_ext {a b : Ob} (ha : WO a) (hb : WO b) (h : ∀ u, getO a u = getO b u) : a = b := by
  obtain ⟨h1, h2⟩ := obj_ext _ _ _ _ ha.rise hb.rise ha.len hb.len h
  exact Prod.ext h1 h2
theorem sum_set {l : List J} {i : Nat} (h : i < l.length) (j : J) : sumB (l.set i j) + bulkJ l[i] = sumB l + bulkJ j := by
  induction l generalizing i with
  | nil => simp at h
  | cons a r ih =>
    cases i with
    | zero => simp [sumB]; omega
    | succ i =>
      have := ih (i := i) (by simpa using h)
      simp only [List.set_cons_succ, List.getElem_cons_succ]
      unfold sumB at this ⊢
      simp only [List.map_cons, List.sum_cons]
      omega
theorem sum_erase (l : List J) (i : Nat) : sumB (l.eraseIdx i) ≤ sumB l := by
  induction l generalizing i with
  | nil => simp
  | cons a r ih =>
    cases i with
    | zero => simp [sumB]
    | succ i =>
      have := ih i
      unfold sumB at this ⊢
      simp only [List.eraseIdx_cons_succ, List.map_cons, List.sum_cons]
      omega
theorem names_erase (l : List Tx) (i : Nat) : namesB (l.eraseIdx i) ≤ namesB l := by
  induction l generalizing i with
  | nil => simp
  | cons a r ih =>
    cases i with
    | zero => simp [namesB]
    | succ i =>
      have := ih i
      unfold namesB at this ⊢
      simp only [List.eraseIdx_cons_succ, List.map_cons, List.sum_cons]
      omega
theorem bulk_drop (a : Ob) (t : Tx) : bulkO (dropO a t) ≤ bulkO a := by
  unfold bulkO dropO dropJ
  split
  · have := sum_erase a.2 (place a.1 t)
    have := names_erase a.1 (place a.1 t)
    show sumB (a.2.eraseIdx _) + namesB (a.1.eraseIdx _) ≤ _
    omega
  · exact Nat.le_refl _
/-- A field that was there is the other's; a new one comes with its name. -/
theorem bulk_put {a : Ob} (h : WO a) (t : Tx) (j : J) : bulkO (setO a t j) + bulkJ (valO a t) ≤ bulkO a + bulkJ j + 32 + (2 * t.length + 9) ∧ (t ∈ a.1 → bulkO (setO a t j) + bulkJ (valO a t) ≤ bulkO a + bulkJ j) := by
  by_cases ht : t ∈ a.1
  · obtain ⟨h1, _⟩ := (place_mem h.rise t).1 ht
    have h2 : place a.1 t < a.2.length := by rw [← h.len]; exact h1
    have hv : valO a t = a.2[place a.1 t] := by
      unfold valO getO
      rw [getJ_at ht, List.getElem?_eq_getElem h2]; rfl
    have hs := sum_set h2 j
    have e : bulkO (setO a t j) = sumB (a.2.set (place a.1 t) j) + namesB a.1 := by
      unfold bulkO setO
      rw [setJ_old ht]
    rw [hv, e]
    unfold bulkO
    exact ⟨by omega, fun _ => by omega⟩
  · have hv : valO a t = .null := by
      unfold valO
      rw [get_none ht]; rfl
    obtain ⟨b1, b2⟩ := bulk_set (x := j) ht h.len
    have e : bulkO (setO a t j) = sumB a.2 + bulkJ j + 1 + (namesB a.1 + 2 * t.length + 8) := by
      unfold bulkO setO
      rw [b1, b2]
    have hn : bulkJ .null = 32 := by rw [bulkJ]
    rw [hv, e, hn]
    unfold bulkO
    exact ⟨by omega, fun hm => absurd hm ht⟩
theorem bulk_get {a : Ob} {t : Tx} {x : J} (h : getO a t = some x) : bulkJ x + 1 ≤ bulkO a := by
  have hx := getJ_in h
  have : ∀ l : List J, x ∈ l → bulkJ x + 1 ≤ sumB l := fun l => by
    induction l with
    | nil => intro h; cases h
    | cons y r ih =>
      intro h
      unfold sumB at ih ⊢
      simp only [List.map_cons, List.sum_cons]
      rcases List.mem_cons.1 h with rfl | h
      · omega
      · have := ih h; omega
  have := this _ hx
  unfold bulkO
  omega
theorem bulk_val (a : Ob) (t : Tx) : bulkJ (valO a t) ≤ bulkO a + 32 := by
  unfold valO
  cases h : getO a t with
  | none => show bulkJ .null ≤ _; rw [bulkJ]; omega
  | some x => show bulkJ x ≤ _; have := bulk_get h; omega
theorem bulk_obO (j : J) : bulkO (objO j) + 32 ≤ bulkJ j := by
  cases j with
  | obj ns l => rw [bulk_obj]; show bulkO (ns, l) + 32 ≤ _; omega
  | _ => rw [bulkJ]; simp [bulkO, objO, sumB, namesB]
theorem len_bulkO (a : Ob) : 33 * a.2.length ≤ bulkO a := by
  have : ∀ l : List J, 33 * l.length ≤ sumB l := fun l => by
    induction l with
    | nil => simp
    | cons y r ih => have := bulk_low y; unfold sumB at ih ⊢; simp only [List.map_cons, List.sum_cons, List.length_cons]; omega
  have := this a.2
  unfold bulkO
  omega
end Go.Proofs.YtnccefeehkcneaaGreatDoor.Js
namespace Go.Proofs.YtnccefeehkcneaaGreatDoor.Js
open Go
def isNull : J → Bool
  | .null => true
  | .bool _ => false
  | .num _ => false
  | .text _ => false
  | .list _ => false
  | .obj _ _ => false
theorem lookup_zip {ns : List Tx} {l : List J} (hr : Rise ns) (hl : ns.length = l.length) (u : Tx) : (ns.zip l).lookup u = getJ ns l u := by
  induction ns generalizing l with
  | nil => cases l with
    | nil => rw [getJ_nil]; rfl
    | cons x l => simp at hl
  | cons n ns ih => cases l with
    | nil => simp at hl
    | cons x l =>
      rw [List.zip_cons_cons, List.lookup_cons, getJ_cons hr, ih (rise_tail hr) (by simpa using hl)]
      by_cases e : u = n
      · rw [if_pos e]; simp [e]
      · rw [if_neg e, show (u == n) = false by simpa using e]
theorem rise_nodup {ns : List Tx} (hr : Rise ns) : ns.Nodup := List.Pairwise.imp (fun h => lt_ne h) hr
theorem zip_names {ns : List Tx} {l : List J} (hl : ns.length = l.length) : (ns.zip l).map Prod.fst = ns := by
  rw [List.map_fst_zip (by omega)]
theorem lookup_not {ps : List (Tx × J)} {u : Tx} (h : u ∉ ps.map Prod.fst) : ps.lookup u = none := by
  induction ps with
  | nil => rfl
  | cons p ps ih =>
    rw [List.map_cons, List.mem_cons] at h
    obtain ⟨k, x⟩ := p
    have hne : (u == k) = false := by simpa using fun e => h (.inl e)
    rw [List.lookup_cons, hne]
    exact ih (fun h2 => h (.inr h2))
abbrev foldO (step : Ob → Tx → J → Ob) (ps : List (Tx × J)) (a : Ob) : Ob := ps.foldl (fun a p => step a p.1 p.2) a
/-- What a step does: it leaves an object well made, and turns nothing but its own name's answer. -/
def Step (P : Tx → J → Prop) (step : Ob → Tx → J → Ob) (R : Option J → Tx → J → Option J) : Prop :=
  ∀ a n x, WO a → P n x → WO (step a n x) ∧ ∀ u, getO (step a n x) u = if u = n then R (getO a u) n x else getO a u
theorem fold_step {P : Tx → J → Prop} {step : Ob → Tx → J → Ob} {R : Option J → Tx → J → Option J} (hs : Step P step R) : ∀ (ps : List (Tx × J)) (a : Ob), WO a → (∀ p ∈ ps, P p.1 p.2) → (ps.map Prod.fst).Nodup →
    WO (foldO step ps a) ∧ ∀ u, getO (foldO step ps a) u = match ps.lookup u with | none => getO a u | some x => R (getO a u) u x
  | [], a, ha, _, _ => ⟨ha, fun _ => rfl⟩
  | (k, x) :: ps, a, ha, hp, hn => by
    obtain ⟨h1, h2⟩ := hs a k x ha (hp (k, x) (List.mem_cons_self ..))
    rw [List.map_cons] at hn
    obtain ⟨n1, n2⟩ := List.nodup_cons.1 hn
    obtain ⟨h3, h4⟩ := fold_step hs ps (step a k x) h1 (fun p hp' => hp p (List.mem_cons_of_mem _ hp')) n2
    refine ⟨h3, fun u => ?_⟩
    show getO (foldO step ps (step a k x)) u = _
    rw [h4 u, List.lookup_cons, h2 u]
    by_cases e : u = k
    · subst e
      rw [lookup_not n1, if_pos rfl]
      simp
    · have hne : (u == k) = false := by simpa using e
      rw [hne, if_neg e]
/-- Over an object's fields. -/
theorem fold_obj {P : Tx → J → Prop} {step : Ob → Tx → J → Ob} {R : Option J → Tx → J → Option J} (hs : Step P step R) {b : Ob} (hb : WO b) (hp : ∀ n x, getO b n = some x → P n x) {a : Ob} (ha : WO a) :
    WO (foldO step (b.1.zip b.2) a) ∧ ∀ u, getO (foldO step (b.1.zip b.2) a) u = match getO b u with | none => getO a u | some x => R (getO a u) u x := by
  obtain ⟨h1, h2⟩ := fold_step hs (b.1.zip b.2) a ha (fun p hp' => by
    obtain ⟨i, hi, e⟩ := List.mem_iff_getElem.1 hp'
    have hi' : i < b.1.length ∧ i < b.2.length := by rw [List.length_zip] at hi; omega
    rw [List.getElem_zip] at e
    rw [← e]
    exact hp _ _ (getJ_idx hb.rise hi'.1 hi'.2)) (by rw [zip_names hb.len]; exact rise_nodup hb.rise)
  refine ⟨h1, fun u => ?_⟩
  rw [h2 u, lookup_zip hb.rise hb.len]
  rfl
theorem fold_take (step : Ob → Tx → J → Ob) (b : Ob) (a : Ob) {q : Nat} (h1 : q < b.1.length) (h2 : q < b.2.length) : foldO step ((b.1.zip b.2).take (q + 1)) a = step (foldO step ((b.1.zip b.2).take q) a) b.1[q] b.2[q] := by
  have hq : q < (b.1.zip b.2).length := by rw [List.length_zip]; omega
  unfold foldO
  rw [List.take_succ_eq_append_getElem hq, List.foldl_append, List.getElem_zip]
  rfl
/-- The first fields of an object are an object. -/
theorem take_wo {b : Ob} (h : WO b) (q : Nat) : WO (b.1.take q, b.2.take q) :=
  WJ_obj.2 ⟨⟨by simp [h.len], List.Pairwise.sublist (List.take_sublist ..) h.rise⟩, fun x hx => h.vals x (List.mem_of_mem_take hx)⟩
theorem take_zip' (b : Ob) (q : Nat) : (b.1.zip b.2).take q = (b.1.take q).zip (b.2.take q) := by unfold List.zip; rw [List.take_zipWith]
theorem get_take {b : Ob} (h : WO b) (q : Nat) (u : Tx) : getO (b.1.take q, b.2.take q) u = if u ∈ b.1.take q then getO b u else none := by
  by_cases hu : u ∈ b.1.take q
  · rw [if_pos hu]
    obtain ⟨i, hi, e⟩ := List.mem_iff_getElem.1 hu
    have hi' : i < q ∧ i < b.1.length := by rw [List.length_take] at hi; omega
    rw [← e]
    have h2 : i < (b.2.take q).length := by rw [List.length_take, ← h.len]; omega
    have e1 := getJ_idx (take_wo h q).rise hi h2
    have e2 := getJ_idx h.rise (i := i) hi'.2 (by rw [← h.len]; exact hi'.2)
    rw [List.getElem_take] at e1 ⊢
    rw [List.getElem_take] at e1
    exact e1.trans e2.symm
  · rw [if_neg hu]
    exact getJ_none hu
theorem not_take {b : Ob} (h : WO b) {q : Nat} (hq : q < b.1.length) : b.1[q] ∉ b.1.take q := fun hm => by
  obtain ⟨i, hi, e⟩ := List.mem_iff_getElem.1 hm
  have hi' : i < q ∧ i < b.1.length := by rw [List.length_take] at hi; omega
  rw [List.getElem_take] at e
  have := List.pairwise_iff_getElem.1 h.rise i q hi'.2 hq hi'.1
  rw [e] at this
  exact lt_irr _ this
/-- What a name ahead leads to has not been touched. -/
theorem fold_ahead {P : Tx → J → Prop} {step : Ob → Tx → J → Ob} {R : Option J → Tx → J → Option J} (hs : Step P step R) {b : Ob} (hb : WO b) (hp : ∀ n x, getO b n = some x → P n x) {a : Ob} (ha : WO a) (q : Nat) :
    WO (foldO step ((b.1.zip b.2).take q) a) ∧ ∀ h : q < b.1.length, getO (foldO step ((b.1.zip b.2).take q) a) b.1[q] = getO a b.1[q] := by
  have hw := take_wo hb q
  obtain ⟨h1, h2⟩ := fold_obj hs hw (fun n x h => by
    rw [get_take hb] at h
    split at h
    · exact hp n x h
    · cases h) ha
  rw [take_zip']
  refine ⟨h1, fun h => ?_⟩
  rw [h2 _, get_none (not_take hb h)]
theorem at_field {b : Ob} (hb : WO b) {q : Nat} (h1 : q < b.1.length) (h2 : q < b.2.length) : getO b b.1[q] = some b.2[q] := getJ_idx hb.rise h1 h2
def isObj : J → Bool
  | .obj _ _ => true
  | .null => false
  | .bool _ => false
  | .num _ => false
  | .text _ => false
  | .list _ => false
theorem obj_of {j : J} (h : isObj j = true) : j = ofO (objO j) := by cases j <;> first | rfl | cases h
theorem objO_not {j : J} (h : isObj j = false) : objO j = ([], []) := by cases j <;> first | rfl | cases h
theorem val_some {a : Ob} {t : Tx} {x : J} (h : getO a t = some x) : valO a t = x := by unfold valO; rw [h]; rfl
theorem val_none {a : Ob} {t : Tx} (h : getO a t = none) : valO a t = .null := by unfold valO; rw [h]; rfl
theorem kid_size {b : Ob} {n : Tx} {x : J} (h : getO b n = some x) : SizeOf.sizeOf x < SizeOf.sizeOf (ofO b) := by
  have := List.sizeOf_lt_of_mem (getJ_in h)
  unfold ofO
  rw [J.obj.sizeOf_spec]
  omega
theorem wj_ofO {a : Ob} : WJ (ofO a) ↔ WO a := Iff.rfl
theorem some_mem {b : Ob} (hb : WO b) {u : Tx} {x : J} (h : getO b u = some x) : u ∈ b.1 := (get_mem hb u).1 (by rw [h]; rfl)
theorem bulk_null : bulkJ .null = 32 := by rw [bulkJ]
def feeB (n : Tx) (x : J) : Nat := bulkJ x + (2 * n.length + 9)
theorem fee_sum (b : Ob) : b.1.length = b.2.length → ((b.1.zip b.2).map fun p => feeB p.1 p.2).sum = bulkO b := by
  obtain ⟨ns, l⟩ := b
  intro h
  simp only at h ⊢
  induction ns generalizing l with
  | nil => cases l with
    | nil => simp [bulkO, sumB, namesB]
    | cons x l => simp at h
  | cons n ns ih => cases l with
    | nil => simp at h
    | cons x l =>
      have := ih l (by simpa using h)
      rw [List.zip_cons_cons, List.map_cons, List.sum_cons, this]
      unfold bulkO sumB namesB feeB
      simp only [List.map_cons, List.sum_cons]
      omega
theorem sum_take_le {α : Type} (f : α → Nat) (l : List α) (q : Nat) : ((l.take q).map f).sum ≤ (l.map f).sum := by
  conv => rhs; rw [← List.take_append_drop q l, List.map_append, List.sum_append]
  omega
end Go.Proofs.YtnccefeehkcneaaGreatDoor.Js
namespace Go.Proofs.YtnccefeehkcneaaGreatDoor.Js
open Go
def gO (a : Ob) (u : Tx) : Nat := match getO a u with
  | none => 0
  | some y => feeB u y
theorem gO_some {a : Ob} {u : Tx} {y : J} (h : getO a u = some y) : gO a u = feeB u y := by unfold gO; rw [h]
theorem sum_one {n : Tx} {c : Nat} {h : Tx → Nat} : ∀ us : List Tx, us.Nodup → (us.map fun u => if u = n then c else h u).sum ≤ c + (us.map h).sum
  | [], _ => by simp
  | u :: us, hn => by
    obtain ⟨n1, n2⟩ := List.nodup_cons.1 hn
    rw [List.map_cons, List.map_cons, List.sum_cons, List.sum_cons]
    by_cases e : u = n
    · rw [if_pos e]
      have : (us.map fun v => if v = n then c else h v) = us.map h := List.map_congr_left fun v hv => if_neg fun e2 => n1 (by rw [e, ← e2]; exact hv)
      rw [this]; omega
    · rw [if_neg e]
      have := sum_one (n := n) (c := c) (h := h) us n2
      omega
theorem sum_names : ∀ (ns : List Tx) (l : List J), WO (ns, l) → ∀ us : List Tx, us.Nodup → (us.map (gO (ns, l))).sum ≤ bulkO (ns, l)
  | [], [], _, us, _ => by
    have : us.map (gO ([], [])) = us.map fun _ => 0 := List.map_congr_left fun u _ => by unfold gO; rw [get_nil]
    rw [this]
    have : ∀ us : List Tx, (us.map fun _ => 0).sum = 0 := fun us => by induction us with
      | nil => rfl
      | cons u us ih => rw [List.map_cons, List.sum_cons, ih]
    rw [this]; omega
  | [], _ :: _, h, _, _ => by have := h.len; simp at this
  | _ :: _, [], h, _, _ => by have := h.len; simp at this
  | n :: ns, x :: l, h, us, hu => by
    have h2 : WO (ns, l) := WJ_obj.2 ⟨⟨by have := h.len; simpa using this, rise_tail h.rise⟩, fun y hy => h.vals y (List.mem_cons_of_mem _ hy)⟩
    have e : us.map (gO (n :: ns, x :: l)) = us.map fun u => if u = n then feeB n x else gO (ns, l) u := List.map_congr_left fun u _ => by
      unfold gO getO
      rw [getJ_cons h.rise]
      by_cases e : u = n
      · rw [if_pos e, if_pos e, e]
      · rw [if_neg e, if_neg e]
    rw [e]
    have h3 := sum_one (n := n) (c := feeB n x) (h := gO (ns, l)) us hu
    have h4 := sum_names ns l h2 us hu
    have h5 : bulkO (n :: ns, x :: l) = feeB n x + bulkO (ns, l) := by
      unfold bulkO sumB namesB feeB
      simp only [List.map_cons, List.sum_cons]
      omega
    omega
theorem attach_all {α : Type} (l : List α) (f : α → Bool) : (l.attach.all fun x => f x.1) = l.all f := by
  conv => rhs; rw [← List.attach_map_subtype_val l, List.all_map]
  rfl
def okT (c : UInt8) : Bool := decide (c.toNat = 10 ∨ c.toNat = 9 ∨ (32 ≤ c.toNat ∧ c.toNat ≤ 126))
def soundJ : J → Bool
  | .text s => s.all okT
  | .list l => l.attach.all fun x => soundJ x.1
  | .obj ns l => ns.all (fun n => n.all okT) && l.attach.all fun x => soundJ x.1
  | .null => true
  | .bool _ => true
  | .num _ => true
termination_by j => SizeOf.sizeOf j
decreasing_by
  · have h : SizeOf.sizeOf x.1 < SizeOf.sizeOf l := List.sizeOf_lt_of_mem x.2
    rw [J.list.sizeOf_spec]
    omega
  · have h : SizeOf.sizeOf x.1 < SizeOf.sizeOf l := List.sizeOf_lt_of_mem x.2
    rw [J.obj.sizeOf_spec]
    omega
theorem sound_list (l : List J) : soundJ (.list l) = l.all soundJ := by
  rw [soundJ]
  exact attach_all l soundJ
theorem sound_obj (ns : List Tx) (l : List J) : soundJ (.obj ns l) = (ns.all (fun n => n.all okT) && l.all soundJ) := by
  rw [soundJ]
  exact congrArg _ (attach_all l soundJ)
def tellS (j : J) : Tx × Int := if soundJ j = false then ([], 16) else if 10 < deepJ j then ([], 4) else if 200 < manyJ j then ([], 2) else if 2000 < (textJ j).length then ([], 2) else (textJ j, 0)
theorem tell_odd {j : J} (h : soundJ j = false) : tellS j = ([], 16) := if_pos h
theorem tell_deep {j : J} (h : soundJ j = true) (h2 : 10 < deepJ j) : tellS j = ([], 4) := by unfold tellS; rw [if_neg (by simp [h]), if_pos h2]
theorem tell_many {j : J} (h : soundJ j = true) (h2 : ¬ 10 < deepJ j) (h3 : 200 < manyJ j) : tellS j = ([], 2) := by unfold tellS; rw [if_neg (by simp [h]), if_neg h2, if_pos h3]
theorem tell_long {j : J} (h : soundJ j = true) (h2 : ¬ 10 < deepJ j) (h3 : ¬ 200 < manyJ j) (h4 : 2000 < (textJ j).length) : tellS j = ([], 2) := by unfold tellS; rw [if_neg (by simp [h]), if_neg h2, if_neg h3, if_pos h4]
theorem tell_ok {j : J} (h : soundJ j = true) (h2 : ¬ 10 < deepJ j) (h3 : ¬ 200 < manyJ j) (h4 : ¬ 2000 < (textJ j).length) : tellS j = (textJ j, 0) := by unfold tellS; rw [if_neg (by simp [h]), if_neg h2, if_neg h3, if_neg h4]
end Go.Proofs.YtnccefeehkcneaaGreatDoor.Js
