/-
  Ways into documents in plain words: a step as a place of a list, what a step leads to, what is made of a document at the end of a way.
  The program's index, place, child, At.
  A row of names without its first, as a slice.
  The program's replaced, under, Put, Cut.
  The program's Put.
  The program's Put.
  The program's Cut.
-/
import Derived.Test.YtahinicpceokcaaGreatDoorMga
import Derived.Test.YtahinicpceokcaaGreatDoorAto
import Derived.Test.YtahinicpceokcaaGreatDoorMpa
import Derived.Test.YtahinicpceokcaaGreatDoorJm0
import Derived.Laws.Slices
namespace Go.Proofs.YtahinicpceokcaaGreatDoor.Js
open Go
theorem numT_nat (n : Nat) : numT (n : Int) = Lib.decDigits n := by
  unfold numT Lib.itoa
  rw [if_neg (by omega)]
  simp
/-- A step as a place of a list of so many. -/
def idxS (s : Tx) (many : Nat) : Option Nat := (List.range many).find? fun n => Lib.decDigits n == s
theorem idxS_some {s : Tx} {m k : Nat} (h : idxS s m = some k) : k < m ∧ Lib.decDigits k = s := by
  unfold idxS at h
  have h1 := List.find?_some h
  have h2 := List.mem_of_find?_eq_some h
  exact ⟨List.mem_range.1 h2, by simpa using h1⟩
theorem idxS_none {s : Tx} {m : Nat} (h : idxS s m = none) : ∀ k, k < m → Lib.decDigits k ≠ s := fun k hk e => by
  unfold idxS at h
  have h1 := List.find?_eq_none.1 h k (List.mem_range.2 hk)
  simp [e] at h1
theorem idxS_of {s : Tx} {m k : Nat} (hk : k < m) (h : Lib.decDigits k = s) : idxS s m = some k := by
  cases hi : idxS s m with
  | none => exact absurd h (idxS_none hi k hk)
  | some j =>
    obtain ⟨_, h2⟩ := idxS_some hi
    rw [Dc.dec_inj (h2.trans h.symm)]
theorem idxS_more {s : Tx} {m k : Nat} (h : idxS s m = some k) : idxS s (m + 1) = some k := by
  obtain ⟨h1, h2⟩ := idxS_some h
  exact idxS_of (by omega) h2
theorem idxS_dash (m : Nat) : idxS [45] m = none := by
  cases h : idxS [45] m with
  | none => rfl
  | some k =>
    obtain ⟨_, h2⟩ := idxS_some h
    have h3 := dec_all k k (Nat.le_refl _) 45 (by rw [h2]; exact List.mem_singleton.2 rfl)
    exact absurd h3 (by decide)
/-- A place of a list, its end too. -/
def placeS (s : Tx) (m : Nat) : Option Nat := if s = [45] then some m else idxS s (m + 1)
theorem placeS_le {s : Tx} {m k : Nat} (h : placeS s m = some k) : k ≤ m := by
  unfold placeS at h
  split at h
  · injection h with h; omega
  · have := (idxS_some h).1; omega
theorem placeS_idx {s : Tx} {m k : Nat} (h : idxS s m = some k) : placeS s m = some k := by
  unfold placeS
  split
  · rename_i e
    rw [e, idxS_dash] at h
    cases h
  · exact idxS_more h
theorem placeS_low {s : Tx} {m k : Nat} (h : placeS s m = some k) (hk : k < m) : idxS s m = some k := by
  unfold placeS at h
  split at h
  · injection h with h; omega
  · exact idxS_of hk (idxS_some h).2
/-- What a step leads to. -/
def childJ (v : J) (s : Tx) : Option J := match v with
  | .obj ns l => getO (ns, l) s
  | .list l => match idxS s l.length with
    | some k => l[k]?
    | none => none
  | .null => none
  | .bool _ => none
  | .num _ => none
  | .text _ => none
def atJ (v : J) : List Tx → Option J
  | [] => some v
  | s :: r => match childJ v s with
    | none => none
    | some u => atJ u r
def listOp (how : Nat) (w : J) (l : List J) (k : Nat) : List J := l.take k ++ (if how = 2 then [] else [w]) ++ l.drop (if how ≠ 1 ∧ k < l.length then k + 1 else k)
/-- What is made at the last step: a field set or cut, a place of a list set (0), put ahead of (1), cut (2). -/
def opJ (how : Nat) (w v : J) (s : Tx) : Option J := match v with
  | .obj ns l => if how = 2 then (if (getO (ns, l) s).isSome = true then some (ofO (dropO (ns, l) s)) else none) else some (ofO (setO (ns, l) s w))
  | .list l => match placeS s l.length with
    | none => none
    | some k => if how = 2 ∧ k = l.length then none else some (.list (listOp how w l k))
  | .null => none
  | .bool _ => none
  | .num _ => none
  | .text _ => none
def putG (how : Nat) (w : J) : J → List Tx → Option J
  | _, [] => some w
  | v, [s] => opJ how w v s
  | v, s :: t :: r => match childJ v s with
    | none => none
    | some u => match putG how w u (t :: r) with
      | none => none
      | some x => opJ 0 x v s
theorem putG_one (how : Nat) (w v : J) (s : Tx) : putG how w v [s] = opJ how w v s := by rw [putG]
theorem putG_more (how : Nat) (w v : J) (s : Tx) {r : List Tx} (h : r ≠ []) : putG how w v (s :: r) = match childJ v s with | none => none | some u => match putG how w u r with | none => none | some x => opJ 0 x v s := by
  cases r with
  | nil => exact absurd rfl h
  | cons t r => rw [putG]
theorem child_wj {v u : J} {s : Tx} (hv : WJ v) (h : childJ v s = some u) : WJ u := by
  unfold childJ at h
  split at h
  · exact WO.get (a := (_, _)) hv h
  · split at h
    · exact WJ_list.1 hv u (List.mem_of_getElem? h)
    · cases h
  all_goals cases h
theorem child_bulk {v u : J} {s : Tx} (h : childJ v s = some u) : bulkJ u + 1 ≤ bulkJ v := by
  unfold childJ at h
  split at h
  · rename_i ns l
    have := bulk_get (a := (ns, l)) h
    rw [bulk_obj]
    omega
  · rename_i l
    split at h
    · have hx := List.mem_of_getElem? h
      have : ∀ l : List J, u ∈ l → bulkJ u + 1 ≤ sumB l := fun l => by
        induction l with
        | nil => intro h; cases h
        | cons y r ih =>
          intro h
          unfold sumB at ih ⊢
          simp only [List.map_cons, List.sum_cons]
          rcases List.mem_cons.1 h with rfl | h
          · omega
          · have := ih h; omega
      have := this l hx
      rw [bulkJ_list]
      unfold sumB at this
      omega
    · cases h
  all_goals cases h
theorem listOp_mem {how : Nat} {w : J} {l : List J} {k : Nat} {x : J} (h : x ∈ listOp how w l k) : x ∈ l ∨ (x = w ∧ how ≠ 2) := by
  unfold listOp at h
  rw [List.mem_append, List.mem_append] at h
  rcases h with (h | h) | h
  · exact .inl (List.mem_of_mem_take h)
  · split at h
    · cases h
    · rw [List.mem_singleton] at h; exact .inr ⟨h, by assumption⟩
  · exact .inl (List.mem_of_mem_drop h)
theorem op_wj {how : Nat} {w v x : J} {s : Tx} (hv : WJ v) (hw : how ≠ 2 → WJ w) (h : opJ how w v s = some x) : WJ x := by
  unfold opJ at h
  split at h
  · rename_i ns l
    have hO : WO (ns, l) := hv
    split at h
    · split at h
      · injection h with h; rw [← h]; exact hO.drop s
      · cases h
    · injection h with h; rw [← h]; exact hO.set s (hw (by assumption))
  · rename_i l
    split at h
    · cases h
    · split at h
      · cases h
      · injection h with h
        rw [← h]
        exact WJ_list.2 fun y hy => by
          rcases listOp_mem hy with hy | ⟨rfl, h2⟩
          · exact WJ_list.1 hv y hy
          · exact hw h2
  all_goals cases h
theorem sumB_append (a b : List J) : sumB (a ++ b) = sumB a + sumB b := by unfold sumB; rw [List.map_append, List.sum_append]
theorem sumB_take_drop (l : List J) (k : Nat) : sumB (l.take k) + sumB (l.drop k) = sumB l := by rw [← sumB_append, List.take_append_drop]
theorem sumB_drop_succ (l : List J) (k : Nat) : sumB (l.drop (k + 1)) ≤ sumB (l.drop k) := by
  by_cases h : k < l.length
  · rw [List.drop_eq_getElem_cons h]
    unfold sumB
    simp only [List.map_cons, List.sum_cons]
    omega
  · rw [List.drop_eq_nil_of_le (by omega), List.drop_eq_nil_of_le (by omega)]
    exact Nat.le_refl _
theorem bulk_lst (l : List J) : bulkJ (.list l) = 32 + sumB l := by rw [bulkJ_list]; rfl
/-- How great what is made is. -/
theorem op_bulk {how : Nat} {w v x : J} {s : Tx} (hv : WJ v) (h : opJ how w v s = some x) : bulkJ x ≤ bulkJ v + bulkJ w + 2 * s.length + 9 := by
  unfold opJ at h
  split at h
  · rename_i ns l
    have hO : WO (ns, l) := hv
    rw [bulk_obj]
    split at h
    · split at h
      · injection h with h
        rw [← h, bulk_of]
        have := bulk_drop (ns, l) s
        omega
      · cases h
    · injection h with h
      rw [← h, bulk_of]
      have := (bulk_put hO s w).1
      have := bulk_low (valO (ns, l) s)
      omega
  · rename_i l
    split at h
    · cases h
    · split at h
      · cases h
      · injection h with h
        rw [← h, bulk_lst, bulk_lst]
        unfold listOp
        rw [sumB_append, sumB_append]
        rename_i k _ _
        have h1 := sumB_take_drop l k
        have h2 := sumB_drop_succ l k
        have h3 : sumB (if how = 2 then [] else [w]) ≤ bulkJ w + 1 := by
          split
          · simp [sumB]
          · simp [sumB]
        have h4 : sumB (l.drop (if how ≠ 1 ∧ k < l.length then k + 1 else k)) ≤ sumB (l.drop k) := by split <;> omega
        omega
  all_goals cases h
/-- Where something was, the other takes its place. -/
theorem op_bulk_in {x v u y : J} {s : Tx} (hv : WJ v) (hu : childJ v s = some u) (h : opJ 0 x v s = some y) : bulkJ y + bulkJ u ≤ bulkJ v + bulkJ x := by
  unfold opJ at h
  unfold childJ at hu
  split at h
  · rename_i ns l
    have hO : WO (ns, l) := hv
    simp only at hu
    rw [if_neg (by decide)] at h
    injection h with h
    rw [← h, bulk_of, bulk_obj]
    have h1 := (bulk_put hO s x).2 (some_mem hO hu)
    rw [val_some hu] at h1
    omega
  · rename_i l
    simp only at hu
    cases hi : idxS s l.length with
    | none => rw [hi] at hu; cases hu
    | some k =>
      rw [hi] at hu
      simp only at hu
      rw [placeS_idx hi] at h
      simp only at h
      rw [if_neg (by simp)] at h
      injection h with h
      have hk := (idxS_some hi).1
      have e : listOp 0 x l k = l.set k x := by
        unfold listOp
        rw [if_neg (by decide), if_pos ⟨by decide, hk⟩, List.set_eq_take_append_cons_drop, if_pos hk]
        simp
      rw [← h, bulk_lst, bulk_lst, e]
      have h1 := sum_set hk x
      rw [List.getElem?_eq_getElem hk] at hu
      injection hu with hu
      rw [hu] at h1
      omega
  all_goals cases h
theorem put_wj {how : Nat} {w : J} : ∀ (steps : List Tx) (v x : J), steps ≠ [] ∨ how ≠ 2 → WJ v → (how ≠ 2 → WJ w) → putG how w v steps = some x → WJ x
  | [], v, x, h0, _, hw, h => by
    rw [putG] at h
    injection h with h
    rw [← h]
    exact hw (h0.resolve_left fun h => h rfl)
  | [s], v, x, _, hv, hw, h => by
    rw [putG_one] at h
    exact op_wj hv hw h
  | s :: t :: r, v, x, h0, hv, hw, h => by
    rw [putG] at h
    split at h
    · cases h
    · rename_i u hu
      split at h
      · cases h
      · rename_i y hy
        exact op_wj hv (fun _ => put_wj (t :: r) u y (.inl (by simp)) (child_wj hv hu) hw hy) h
theorem put_bulk {how : Nat} {w : J} {m : Nat} : ∀ (steps : List Tx) (v x : J), WJ v → (how ≠ 2 → WJ w) → (∀ s ∈ steps, s.length ≤ m) → putG how w v steps = some x → bulkJ x ≤ bulkJ v + bulkJ w + 2 * m + 9
  | [], v, x, _, _, _, h => by
    rw [putG] at h
    injection h with h
    rw [← h]
    omega
  | [s], v, x, hv, _, hm, h => by
    rw [putG_one] at h
    have := op_bulk hv h
    have := hm s (List.mem_cons_self ..)
    omega
  | s :: t :: r, v, x, hv, hw, hm, h => by
    rw [putG] at h
    split at h
    · cases h
    · rename_i u hu
      split at h
      · cases h
      · rename_i y hy
        have h1 := put_bulk (t :: r) u y (child_wj hv hu) hw (fun s hs => hm s (List.mem_cons_of_mem _ hs)) hy
        have h2 := op_bulk_in hv hu h
        omega
theorem at_wj : ∀ (steps : List Tx) (v x : J), WJ v → atJ v steps = some x → WJ x ∧ bulkJ x ≤ bulkJ v
  | [], v, x, hv, h => by
    rw [atJ] at h
    injection h with h
    rw [← h]
    exact ⟨hv, Nat.le_refl _⟩
  | s :: r, v, x, hv, h => by
    rw [atJ] at h
    split at h
    · cases h
    · rename_i u hu
      obtain ⟨h1, h2⟩ := at_wj r u x (child_wj hv hu) h
      have := child_bulk hu
      exact ⟨h1, by omega⟩
end Go.Proofs.YtahinicpceokcaaGreatDoor.Js
namespace Go.Proofs.YtahinicpceokcaaGreatDoor.Jm
open Go Go.RowKit Go.Proofs.YtahinicpceokcaaGreatDoor.Sx Go.Proofs.YtahinicpceokcaaGreatDoor.Js
theorem idx_bad {s : Tx} {m : Nat} (hm : m ≤ 1099511627776) (h : ∀ x, Lib.atoiAll s ≠ .ok x) : idxS s m = none := by
  cases hi : idxS s m with
  | none => rfl
  | some k =>
    obtain ⟨h1, h2⟩ := idxS_some hi
    exact absurd (by rw [← h2]; exact Tk.atoi_dec (by omega)) (h (k : Int))
theorem idx_good {s : Tx} {m : Nat} {v : Int} (hm : m ≤ 1099511627776) (h : Lib.atoiAll s = .ok v) {k : Nat} (hi : idxS s m = some k) : v = k := by
  obtain ⟨h1, h2⟩ := idxS_some hi
  have := Tk.atoi_dec (u := k) (by omega)
  rw [h2, h] at this
  injection this
/-- What index gives. -/
def IdxPost (o : Option Nat) (w : World) (e : Ending) (w' : World) : Prop := ∃ n : Int, e = .returned (.tuple #[.int .i64 n, .bool o.isSome]) ∧ (∀ k, o = some k → n = (k : Int)) ∧ Ext w w'
theorem itoa_call (k : Nat) (hk : k ≤ 1099511627776) (w : World) (ht : Tab10 w) : Calls Tryz.prog 127 #[.int .i64 (k : Int)] w fun e w' => e = .returned (.string (bx (Lib.decDigits k))) ∧ Ext w w' :=
  (Tryz.strconv_Itoa (k : Int) (by omega) (by omega) w ht).mono fun e w' ⟨he, n, os, hw⟩ => ⟨by rw [he]; exact congrArg (fun l => Ending.returned (.string (bx l))) (numT_nat k), by rw [hw]; exact ext_grow w n os⟩
set_option maxRecDepth 100000 in
set_option maxHeartbeats 4000000 in
theorem index_any (s : Tx) (m : Nat) (w : World) (hs : s.length ≤ 1048576) (hm : m ≤ 1000000) (hE : Errs w) (ht : Tab10 w) :
    Calls Tryz.prog 100 #[.string (bx s), .int .i64 (m : Int)] w (IdxPost (idxS s m) w) := by
  have CA := Lib.hid (Tk.atoi_any (bx s) w (by rw [bx_size]; exact hs) hE)
  have HT := Lib.hid ht
  have HX : Hid ((bx s).data.toList = s) := bx_data s
  have HBAD : Hid ((∀ x, Lib.atoiAll s ≠ .ok x) → idxS s m = none) := fun h => idx_bad (by omega) h
  have HGOOD : Hid (∀ v k, Lib.atoiAll s = .ok v → idxS s m = some k → v = k) := fun v k h hi => idx_good (by omega) h hi
  have HOF : Hid (∀ k, k < m → Lib.decDigits k = s → idxS s m = some k) := fun k h1 h2 => idxS_of h1 h2
  have HLT : Hid (∀ k, idxS s m = some k → k < m ∧ Lib.decDigits k = s) := fun k h => idxS_some h
  obtain ⟨sx, hsx⟩ : ∃ x, x = bx s := ⟨_, rfl⟩
  have HSX := Lib.hid hsx
  rw [← hsx] at CA HX ⊢
  obtain ⟨o, ho⟩ : ∃ o, o = idxS s m := ⟨_, rfl⟩
  rw [← ho] at HBAD HGOOD HOF HLT ⊢
  clear hE ht hsx ho hs
  go_enter Tryz.func100, Tryz.ntmps100
  go_wp2_with fail
  refine Calls.mono CA.out ?_
  rintro e w2 ⟨v, er, rfl, hr, x2⟩
  have X2 := Lib.hid x2
  clear x2
  rcases hr with ⟨ha, rfl⟩ | ⟨ha, t, p, rfl⟩
  · rw [HX.out] at ha
    have HA := Lib.hid ha
    clear ha
    by_cases h0 : 0 ≤ v
    · obtain ⟨k, rfl⟩ : ∃ k : Nat, v = (k : Int) := ⟨v.toNat, by omega⟩
      by_cases h1 : k < m
      · have d1 : decide ((k : Int) < (m : Int)) = true := decide_eq_true (by omega)
        have d2 : decide (k < m) = true := decide_eq_true h1
        have CI := Lib.hid (itoa_call k (by omega) w2 (HT.out.ext X2.out))
        by_cases he : Lib.decDigits k = s
        · have HO := Lib.hid (HOF.out k h1 he)
          obtain rfl := HO.out
          have e1 : (sx.toList == sx.toList) = true := beq_self_eq_true _
          rw [he, ← HSX.out] at CI
          clear he h0 h1
          go_wp2_with (go_at_call 127; refine CI.out.mono ?_; rintro e w3 ⟨rfl, x3⟩; have X3 := Lib.hid x3; clear x3)
          go_ret2
          exact ⟨k, rfl, fun j h => by injection h with h; rw [h], X2.out.trans X3.out⟩
        · have HO : Hid (o = none) := by
            unfold Hid
            cases ho : o with
            | none => rfl
            | some j =>
              have h2 := HGOOD.out (k : Int) j HA.out ho
              have h3 := (HLT.out j ho).2
              have : k = j := by omega
              rw [← this] at h3
              exact absurd h3 he
          obtain rfl := HO.out
          obtain ⟨y, hy⟩ : ∃ y, y = bx (Lib.decDigits k) := ⟨_, rfl⟩
          have e1 : (y.toList == sx.toList) = false := by
            rw [beq_eq_false_iff_ne, hy, HSX.out, bx_list, bx_list]
            exact he
          rw [← hy] at CI
          clear he h0 h1 hy
          go_wp2_with (go_at_call 127; refine CI.out.mono ?_; rintro e w3 ⟨rfl, x3⟩; have X3 := Lib.hid x3; clear x3)
          go_ret2
          exact ⟨k, rfl, fun j h => (by cases h), X2.out.trans X3.out⟩
      · have d1 : decide ((k : Int) < (m : Int)) = false := decide_eq_false (by omega)
        have d2 : decide (k < m) = false := decide_eq_false h1
        have HO : Hid (o = none) := by
          unfold Hid
          cases ho : o with
          | none => rfl
          | some j =>
            have h2 := HGOOD.out (k : Int) j HA.out ho
            have h3 := (HLT.out j ho).1
            omega
        obtain rfl := HO.out
        clear h0 h1
        go_wp2_with fail
        go_ret2
        exact ⟨k, rfl, fun j h => (by cases h), X2.out⟩
    · have d1 : decide (0 ≤ v) = false := decide_eq_false h0
      have HO : Hid (o = none) := by
        unfold Hid
        cases ho : o with
        | none => rfl
        | some j =>
          have h2 := HGOOD.out v j HA.out ho
          omega
      obtain rfl := HO.out
      clear h0
      go_wp2_with fail
      go_ret2
      exact ⟨v, rfl, fun j h => (by cases h), X2.out⟩
  · have HO : Hid (o = none) := HBAD.out (by rw [HX.out] at ha; exact ha)
    obtain rfl := HO.out
    clear ha
    go_wp2_with fail
    go_ret2
    exact ⟨v, rfl, fun j h => (by cases h), X2.out⟩
set_option maxRecDepth 100000 in
set_option maxHeartbeats 4000000 in
theorem place_any (s : Tx) (m : Nat) (w : World) (hs : s.length ≤ 1048576) (hm : m ≤ 900000) (hE : Errs w) (ht : Tab10 w) :
    Calls Tryz.prog 94 #[.string (bx s), .int .i64 (m : Int)] w (IdxPost (placeS s m) w) := by
  have CI := Lib.hid (index_any s (m + 1) w hs (by omega) hE ht)
  obtain ⟨sx, hsx⟩ : ∃ x, x = bx s := ⟨_, rfl⟩
  have HSX := Lib.hid hsx
  rw [← hsx] at CI ⊢
  have hmc : ((m + 1 : Nat) : Int) = (m : Int) + 1 := by omega
  by_cases h : s = [45]
  · have HO : Hid (placeS s m = some m) := if_pos h
    have e1 : sx.toList = [45] := by rw [HSX.out, bx_list, h]
    have e2 : (sx.toList == [45]) = true := by rw [e1]; rfl
    rw [HO.out]
    clear h hsx e1
    go_enter Tryz.func94, Tryz.ntmps94
    go_wp2_with fail
    go_ret2
    exact ⟨m, rfl, fun j h => by injection h with h; rw [h], Below.refl _ _⟩
  · have HO : Hid (placeS s m = idxS s (m + 1)) := if_neg h
    have e2 : (sx.toList == [45]) = false := by rw [beq_eq_false_iff_ne, HSX.out, bx_list]; exact h
    rw [HO.out]
    obtain ⟨o, ho⟩ : ∃ o, o = idxS s (m + 1) := ⟨_, rfl⟩
    rw [← ho, hmc] at CI
    rw [← ho]
    clear h hsx ho hmc
    go_enter Tryz.func94, Tryz.ntmps94
    go_wp2_with fail
    refine Calls.mono CI.out ?_
    rintro e w2 ⟨n, rfl, hn, x2⟩
    have H2 := Lib.hid (And.intro hn x2)
    clear hn x2
    go_wp2_with fail
    go_ret2
    exact ⟨n, rfl, H2.out.1, H2.out.2⟩
/-- What is found, or nothing. -/
def SomePost (o : Option J) (w : World) (e : Ending) (w' : World) : Prop := ∃ x, e = .returned (.tuple #[x, .bool o.isSome]) ∧ PJ w' (o.getD .null) x ∧ Ext w w'
theorem list_of {v : J} (h : isObj v = false) : (∃ l, v = .list l) ∨ (∀ s, childJ v s = none) ∧ ∀ {w : World} {u : Value}, PJ w v u → ∀ W : World, (Instr.typeAssert u valT valsT true).run Tryz.prog W = .ok (.tuple #[.slice none 0 0, .bool false]) W := by
  cases v with
  | null => exact .inr ⟨fun _ => rfl, fun h W => by rw [PV_null.1 h]; exact ta_nil_vals W⟩
  | bool b => exact .inr ⟨fun _ => rfl, fun h W => by rw [PV_bool.1 h]; exact ta_bool_vals _ W⟩
  | num n => exact .inr ⟨fun _ => rfl, fun h W => by rw [(PV_num.1 h).1]; exact ta_int_vals _ W⟩
  | text s => exact .inr ⟨fun _ => rfl, fun h W => by rw [PV_text.1 h]; exact ta_str_vals _ W⟩
  | list l => exact .inl ⟨l, rfl⟩
  | obj ns l => cases h
set_option maxRecDepth 100000 in
set_option maxHeartbeats 4000000 in
theorem child_any (v : J) (u : Value) (s : Tx) (w : World) (hu : PJ w v u) (hw : WJ v) (hb : bulkJ v ≤ 16000000) (hs : s.length ≤ 1048576) (hE : Errs w) (ht : Tab10 w) :
    Calls Tryz.prog 90 #[u, .string (bx s)] w (SomePost (childJ v s) w) := by
  cases hob : isObj v with
  | true =>
    rw [obj_of hob] at hu hw hb ⊢
    generalize objO v = a at hu hw hb
    obtain ⟨b, rfl, ho⟩ := PJ_obj.1 hu
    have CG := Lib.hid (getO_any b a s w ho hw (by rw [bulk_of] at hb; omega))
    have HC : Hid (childJ (ofO a) s = getO a s) := rfl
    rw [HC.out]
    have a5 := ta_obj_obj (.pointer (some ⟨b, 0, none⟩))
    obtain ⟨sx, hsx⟩ : ∃ x, x = bx s := ⟨_, rfl⟩
    rw [← hsx] at CG ⊢
    clear hu hw hb hs hE ht ho hsx hob
    go_enter Tryz.func90, Tryz.ntmps90
    go_wp2_with fail
    refine Calls.mono CG.out ?_
    rintro e w2 ⟨x, rfl, hx, rfl⟩
    have HX := Lib.hid hx
    clear hx
    go_wp2_with fail
    go_ret2
    exact ⟨x, rfl, HX.out, Below.refl _ _⟩
  | false =>
    have a6 := not_obj hu hob
    rcases list_of hob with ⟨l, rfl⟩ | ⟨hn, h2⟩
    · obtain ⟨A, c, rfl, hc, hv⟩ := PV_list.1 hu
      have hlen : 33 * l.length ≤ bulkJ (.list l) := by
        rw [bulk_lst]
        have : ∀ l : List J, 33 * l.length ≤ sumB l := fun l => by
          induction l with
          | nil => simp
          | cons y r ih => have := bulk_low y; unfold sumB at ih ⊢; simp only [List.map_cons, List.sum_cons, List.length_cons]; omega
        have := this l
        omega
      have CI := Lib.hid (index_any s l.length w hs (by omega) hE ht)
      have HC : Hid (childJ (.list l) s = match idxS s l.length with | some k => l[k]? | none => none) := rfl
      have HIS : Hid (∀ k, idxS s l.length = some k → k < l.length) := fun k h => (idxS_some h).1
      obtain ⟨o, ho⟩ : ∃ o, o = idxS s l.length := ⟨_, rfl⟩
      rw [← ho] at CI HC HIS
      obtain ⟨N, hN⟩ : ∃ N, N = l.length := ⟨_, rfl⟩
      have HN := Lib.hid hN
      have HV := Lib.hid hv
      rw [← hN] at CI HIS a6 ⊢
      have a5 := ta_vals_vals (.slice A N c)
      obtain ⟨sx, hsx⟩ : ∃ x, x = bx s := ⟨_, rfl⟩
      rw [← hsx] at CI ⊢
      have hNs : N ≤ 1000000 := by omega
      clear hu hw hb hs hE ht hv hc hlen ho hN hsx hob
      go_enter Tryz.func90, Tryz.ntmps90
      go_wp2_with fail
      refine Calls.mono CI.out ?_
      rintro e w2 ⟨n, rfl, hn, x2⟩
      have X2 := Lib.hid x2
      clear x2
      cases o with
      | none =>
        have HE : Hid (childJ (.list l) s = none) := HC.out
        clear hn
        go_wp2_with fail
        go_ret2
        rw [HE.out]
        exact ⟨_, rfl, PJ.null, X2.out⟩
      | some k =>
        obtain rfl := hn k rfl
        have hk := HIS.out k rfl
        have hkl : k < l.length := by rw [← HN.out]; exact hk
        obtain ⟨g, off, x, rfl, _, hcell, hp⟩ := HV.out k hkl
        have hcell2 := (cell_keep (X2.out.block g (cell_lt hcell))).trans hcell
        have HE : Hid (childJ (.list l) s = some l[k]) := by unfold Hid; rw [HC.out]; exact List.getElem?_eq_getElem hkl
        have HP : Hid (PJ w2 l[k] x) := PJ.ext hp X2.out
        have hk0 : (0 : Int) ≤ (k : Int) := by omega
        have hkI : (k : Int) < (N : Int) := by omega
        clear hn hcell hp
        go_wp2_with fail
        go_ret2
        rw [HE.out]
        exact ⟨x, rfl, HP.out, X2.out⟩
    · have a7 := h2 hu
      rw [hn s]
      clear hu hw hb hs hE ht hob hn h2
      go_enter Tryz.func90, Tryz.ntmps90
      go_wp2_with fail
      go_ret2
      exact ⟨_, rfl, PJ.null, Below.refl _ _⟩
set_option maxRecDepth 100000 in
set_option maxHeartbeats 4000000 in
theorem at_any (v : J) (u : Value) (A : Option Addr) (c : Nat) (steps : List Tx) (w : World) (hu : PJ w v u) (hw : WJ v) (hb : bulkJ v ≤ 16000000) (hn : NamesAt (fun _ => True) w A steps) (hl : steps.length ≤ 1000) (hs : ∀ s ∈ steps, s.length ≤ 1048576) (hE : Errs w) (ht : Tab10 w) :
    Calls Tryz.prog 53 #[u, .slice A steps.length c] w (SomePost (atJ v steps) w) := by
  obtain ⟨N, hN⟩ : ∃ N, N = steps.length := ⟨_, rfl⟩
  have HN := Lib.hid hN
  have hNs : N ≤ 1000 := by omega
  have HNA := Lib.hid hn
  have CC : Hid (∀ q (hq : q < steps.length) (y : J) (x : Value) W, Ext w W → PJ W y x → WJ y → bulkJ y ≤ bulkJ v → Calls Tryz.prog 90 #[x, .string (bx steps[q])] W (SomePost (childJ y steps[q]) W)) := fun q hq y x W hW hx hy hby =>
    child_any y x _ W hx hy (by omega) (hs _ (List.getElem_mem hq)) (hE.ext hW) (ht.ext hW)
  have H0 : Hid (PJ w v u ∧ WJ v) := ⟨hu, hw⟩
  rw [← hN]
  clear hu hw hb hn hl hs hE ht hN
  go_enter Tryz.func53, Tryz.ntmps53
  go_wp2_with fail
  go_loopw [0, 12] (fun vx ix wr => ∃ (q : Nat) (y : J), q ≤ N ∧ ix = .int .i64 (q : Int) ∧ Hid (PJ wr y vx ∧ WJ y ∧ bulkJ y ≤ bulkJ v ∧ atJ v steps = atJ y (steps.drop q) ∧ Ext w wr)) (fun _ ix _ => N - (intOf ix).toNat)
  case atStart => exact ⟨0, v, Nat.zero_le _, rfl, H0.out.1, H0.out.2, Nat.le_refl _, rfl, Below.refl _ _⟩
  case round =>
    obtain ⟨q, y, hq, rfl, hR⟩ := hrel
    have hq0 : (0 : Int) ≤ (q : Int) := by omega
    by_cases hlt : q < N
    · have hqs : q < steps.length := by rw [← HN.out]; exact hlt
      obtain ⟨ga, oa, rfl, -, hca0⟩ := HNA.out q hqs
      have hca := (cell_keep (hR.out.2.2.2.2.block ga (cell_lt hca0))).trans hca0
      have CC1 := Lib.hid (CC.out q hqs y _ wr hR.out.2.2.2.2 hR.out.1 hR.out.2.1 hR.out.2.2.1)
      have HST : Hid (atJ v steps = match childJ y steps[q] with | none => none | some x => atJ x (steps.drop (q + 1))) := by
        unfold Hid
        rw [hR.out.2.2.2.1, List.drop_eq_getElem_cons hqs, atJ]
        all_goals (cases childJ y steps[q] <;> rfl)
      have HCW : Hid (∀ x, childJ y steps[q] = some x → WJ x ∧ bulkJ x ≤ bulkJ v) := fun x h => ⟨child_wj hR.out.2.1 h, by have := child_bulk h; have := hR.out.2.2.1; omega⟩
      generalize hn : steps[q] = n at *
      obtain ⟨nx, hnx⟩ : ∃ s, s = bx n := ⟨_, rfl⟩
      rw [← hnx] at hca CC1
      have hltI : (q : Int) < (N : Int) := by omega
      obtain ⟨o, ho⟩ : ∃ o, o = childJ y n := ⟨_, rfl⟩
      rw [← ho] at CC1 HST HCW
      clear hca0 hn hnx CC ho
      go_wp2_with fail
      refine Calls.mono CC1.out ?_
      rintro e w2 ⟨x, rfl, hx, x2⟩
      have X2 := Lib.hid (hR.out.2.2.2.2.trans x2)
      cases o with
      | none =>
        have HE : Hid (atJ v steps = none) := HST.out
        clear hx x2
        go_wp2_with fail
        go_ret2
        rw [HE.out]
        exact ⟨_, rfl, PJ.null, X2.out⟩
      | some z =>
        have HZ := Lib.hid (HCW.out z rfl)
        have HX : Hid (PJ w2 z x) := hx
        have HE : Hid (atJ v steps = atJ z (steps.drop (q + 1))) := HST.out
        clear hx x2
        go_wp2_with fail
        go_roundw
        case rel => exact ⟨q + 1, z, hlt, by go_num, HX.out, HZ.out.1, HZ.out.2, HE.out, X2.out⟩
        case measure => simp [intOf]; omega
    · have HE : Hid (atJ v steps = some y) := by
        have := HN.out
        unfold Hid
        rw [hR.out.2.2.2.1, List.drop_eq_nil_of_le (by omega)]
        rfl
      have bl : decide ((q : Int) < (N : Int)) = false := decide_eq_false (by omega)
      have bl2 : decide (q < N) = false := decide_eq_false hlt
      clear hlt CC
      go_wp2_with fail
      go_ret2
      rw [HE.out]
      exact ⟨_, rfl, hR.out.1, hR.out.2.2.2.2⟩
end Go.Proofs.YtahinicpceokcaaGreatDoor.Jm
namespace Go.Proofs.YtahinicpceokcaaGreatDoor.Jm
open Go Go.RowKit Go.Proofs.YtahinicpceokcaaGreatDoor.Sx Go.Proofs.YtahinicpceokcaaGreatDoor.Js
set_option maxRecDepth 100000 in
/-- The names behind the first. -/
theorem names_tail {F : Nat → Prop} {w : World} {g off c : Nat} {s : Tx} {r : List Tx} (h : NamesAt F w (some ⟨g, off, none⟩) (s :: r)) (hc : r.length + 1 ≤ c) :
    ∃ A', (∀ W : World, (Instr.slice 26 (.slice (some ⟨g, off, none⟩) (r.length + 1) c) (some (.int .i64 1)) none none).run Tryz.prog W = .ok (.slice A' r.length (c - 1)) W) ∧ NamesAt F w A' r ∧ r.length ≤ c - 1 := by
  refine ⟨(if c = 1 then some ⟨g, off, none⟩ else some ⟨g, off + 1, none⟩), fun W => ?_, fun i hi => ?_, by omega⟩
  · have h := run_slice_l (P := Tryz.prog) (w := W) 26 (some ⟨g, off, none⟩) (r.length + 1) c Tryz.underlying26 .i64 1 (by omega) (by omega)
    rw [h]
    have e1 : (sizeOf (Tryz.prog.elem 26)).run Tryz.prog W = .ok 1 W := by kernel_rfl
    rw [e1]
    simp only [Result.andThen, sliced]
    by_cases hc1 : c = 1
    · simp [hc1]
    · have hc2 : ¬ c = (1 : Int).toNat := by simpa using hc1
      simp [hc1]
      rfl
  · have hc1 : ¬ c = 1 := by omega
    obtain ⟨g', off', e, hg, hcell⟩ := h (i + 1) (by simpa using hi)
    injection e with e
    injection e with e1 e2
    subst e1 e2
    refine ⟨g, off + 1, by rw [if_neg hc1], hg, ?_⟩
    rw [show off + 1 + i = off + (i + 1) by omega]
    simpa using hcell
end Go.Proofs.YtahinicpceokcaaGreatDoor.Jm
namespace Go.Proofs.YtahinicpceokcaaGreatDoor.Jm
open Go Go.RowKit Go.Proofs.YtahinicpceokcaaGreatDoor.Sx Go.Proofs.YtahinicpceokcaaGreatDoor.Js Go.Proofs.YtahinicpceokcaaGreatDoor.Gr
theorem len_list {l : List J} : 33 * l.length ≤ bulkJ (.list l) := by
  rw [bulk_lst]
  have : ∀ l : List J, 33 * l.length ≤ sumB l := fun l => by
    induction l with
    | nil => simp
    | cons y r ih => have := bulk_low y; unfold sumB at ih ⊢; simp only [List.map_cons, List.sum_cons, List.length_cons]; omega
  have := this l
  omega
theorem listOp_set {x : J} {l : List J} {k : Nat} (hk : k < l.length) : listOp 0 x l k = l.set k x := by
  unfold listOp
  rw [if_neg (by decide), if_pos ⟨by decide, hk⟩, List.set_eq_take_append_cons_drop, if_pos hk]
  simp
theorem listOp_end {x : J} {l : List J} : listOp 0 x l l.length = l ++ [x] := by
  unfold listOp
  rw [if_neg (by decide), if_neg (by simp), List.take_length, List.drop_length]
  simp
theorem listOp_cut {x : J} {l : List J} {k : Nat} (hk : k < l.length) : listOp 2 x l k = l.eraseIdx k := by
  unfold listOp
  rw [if_pos rfl, if_pos ⟨by decide, hk⟩, List.eraseIdx_eq_take_drop_succ]
  simp
/-- What is made, or that there is nothing there. -/
def ErrPost (o : Option J) (w : World) (e : Ending) (w' : World) : Prop := ((∃ j x, o = some j ∧ e = .returned (.tuple #[x, .int .i64 0]) ∧ PJ w' j x) ∨ o = none ∧ e = .returned (.tuple #[.nilIface, .int .i64 7])) ∧ Ext w w'
theorem PJ_lst {w : World} {l : List J} {A : Option Addr} {n c : Nat} (hn : n = l.length) (hc : l.length ≤ c) (hv : ValsAt (fun _ => True) w A l) : PJ w (.list l) (.iface valsT (.slice A n c)) := PV_list.2 ⟨A, c, by rw [hn], hc, hv⟩
set_option maxRecDepth 100000 in
set_option maxHeartbeats 8000000 in
theorem replaced_any (v x y r : J) (u xv : Value) (s : Tx) (w : World) (hu : PJ w v u) (hx : PJ w x xv) (hw : WJ v) (hb : bulkJ v ≤ 16000000) (hs : s.length ≤ 1048576) (hE : Errs w) (ht : Tab10 w) (hc : childJ v s = some y) (hr : opJ 0 x v s = some r) :
    Calls Tryz.prog 96 #[u, .string (bx s), xv] w (MadePost r w) := by
  cases hob : isObj v with
  | true =>
    rw [obj_of hob] at hu hw hb hr
    generalize objO v = a at hu hw hb hr
    obtain ⟨b, rfl, ho⟩ := PJ_obj.1 hu
    obtain rfl : r = ofO (setO a s x) := by
      unfold opJ ofO at hr
      simp only at hr
      rw [if_neg (by decide)] at hr
      injection hr with hr
      exact hr.symm
    have CW := Lib.hid (withO_any b a s x xv w ho hw (by rw [bulk_of] at hb; omega) hx)
    have a5 := ta_obj_obj (.pointer (some ⟨b, 0, none⟩))
    obtain ⟨sx, hsx⟩ : ∃ x, x = bx s := ⟨_, rfl⟩
    rw [← hsx] at CW ⊢
    clear hu hx hw hb hs hE ht ho hsx hob hc hr
    go_enter Tryz.func96, Tryz.ntmps96
    go_wp2_with fail
    refine Calls.mono CW.out ?_
    rintro e w2 ⟨b2, rfl, ho2, x2⟩
    have H2 := Lib.hid (And.intro ho2 x2)
    clear ho2 x2
    go_wp2_with fail
    go_ret
    exact ⟨_, rfl, PJ_obj.2 ⟨b2, rfl, H2.out.1⟩, H2.out.2⟩
  | false =>
    have a6 := not_obj hu hob
    rcases list_of hob with ⟨l, rfl⟩ | ⟨hn, _⟩
    · obtain ⟨A, c, rfl, hcl, hv⟩ := PV_list.1 hu
      have hlen := len_list (l := l)
      unfold childJ at hc
      simp only at hc
      cases hi : idxS s l.length with
      | none => rw [hi] at hc; cases hc
      | some k =>
        have hk := (idxS_some hi).1
        obtain rfl : r = .list (l.set k x) := by
          unfold opJ at hr
          simp only at hr
          rw [placeS_idx hi] at hr
          simp only at hr
          rw [if_neg (by simp), listOp_set hk] at hr
          injection hr with hr
          exact hr.symm
        have CI := Lib.hid (index_any s l.length w hs (by omega) hE ht)
        rw [hi] at CI
        obtain ⟨us, hus, hcu, hpu⟩ := cells_vals hv
        have h1u : ∀ u ∈ us, u.oneCell' = true := fun u hu => by
          obtain ⟨i, hi, rfl⟩ := List.mem_iff_getElem.1 hu
          exact (hpu i (by omega) hi).one
        obtain ⟨N, hN⟩ : ∃ N, N = l.length := ⟨_, rfl⟩
        have CC : Hid (∀ W, Ext w W → Calls Tryz.prog 95 #[.slice A N c] W fun e w' => ∃ A' c', e = .returned (.slice A' N c') ∧ Ext W w' ∧ GRow valT 1 W.heap.size w' (.slice A' N c') (one us)) := fun W hW =>
          (clone_vals A N c us W (by omega) h1u (hcu.ext hW) (by omega)).mono fun e w' ⟨A', c', he, hr, hx⟩ => ⟨A', c', he, hx, hr⟩
        have HPV : Hid (PVs (fun _ => True) w (l.set k x) (us.set k xv)) := PVs.set ⟨hus, hpu⟩ hx k
        have HUL : Hid (us.length = N ∧ N = l.length ∧ k < us.length) := ⟨by omega, hN, by omega⟩
        have HX1 : Hid (xv.oneCell' = true) := PV.one hx
        have HVS := Lib.hid (PV.shape hx)
        have hkN : k < N := by omega
        have hk0 : (0 : Int) ≤ (k : Int) := by omega
        have hkI : (k : Int) < (N : Int) := by omega
        rw [← hN] at CI a6 ⊢
        have a5 := ta_vals_vals (.slice A N c)
        obtain ⟨sx, hsx⟩ : ∃ x, x = bx s := ⟨_, rfl⟩
        rw [← hsx] at CI ⊢
        clear hu hx hw hb hs hE ht hv hcl hlen hN hsx hob hc hr hi hus hcu hpu h1u hk
        go_enter Tryz.func96, Tryz.ntmps96
        go_wp2_with fail
        refine Calls.mono CI.out ?_
        rintro e w2 ⟨n, rfl, hn, x2⟩
        obtain rfl := hn k rfl
        have X2 := Lib.hid x2
        clear x2 hn
        go_wp2_with fail
        refine Calls.mono (CC.out w2 X2.out) ?_
        rintro e w3 ⟨A9, c9, rfl, x3, hr3⟩
        have HX3 := Lib.hid x3
        obtain ⟨g9, rfl, hb9, hlt9, hcell9, hfr9, hg9⟩ := grow_set hr3 (p := k) (v := xv) (HUL.out.2.2) HX1.out
        have HG9 := Lib.hid hg9
        have HB9 := Lib.hid hb9
        obtain ⟨y9, hy9⟩ : ∃ y, y = us[k]'(HUL.out.2.2) := ⟨_, rfl⟩
        rw [← hy9] at hcell9
        clear x3 hr3 hb9 hg9 hy9
        obtain ⟨vs, hvs⟩ : ∃ vs, vs = us.set k xv := ⟨_, rfl⟩
        have HVL : Hid (vs.length = N) := by unfold Hid; rw [hvs, List.length_set]; exact HUL.out.1
        rw [← hvs] at HG9 HPV
        clear hvs HX1
        rcases HVS.out with rfl | ⟨tv, xx, rfl⟩
        all_goals
          go_upto_region 10 with (fail)
          generalize hW : World.setCell w3 _ _ = w4
          have HX4 : Hid (Ext w2 w4) := by unfold Hid; rw [← hW]; exact ext_setCell HX3.out HB9.out
          have HR4 : Hid (GRow valT 1 w2.heap.size w4 (.slice (some ⟨g9, 0, none⟩) N c9) (one vs)) := by unfold Hid; rw [← hW]; exact HG9.out
          clear hW hcell9 hfr9 hlt9
          go_wp2_with fail
          go_ret
          have hV := vals_grow (w := w) (F' := fun _ => True) HR4.out HPV.out (X2.out.trans HX4.out) (fun g hg => trivial) (fun g hg => trivial)
          exact ⟨_, rfl, PJ_lst hV.1 hV.2.1 hV.2.2, X2.out.trans HX4.out⟩
    · rw [hn s] at hc
      cases hc
def UnderC (how : Nat) (x : J) (f : Nat) (caps : Array Value) (w0 : World) (steps : List Tx) : Prop := ∀ (v : J) (u : Value) (A : Option Addr) (c : Nat) (w : World), Ext w0 w → PJ w v u → WJ v → bulkJ v ≤ 16000000 → NamesAt (fun _ => True) w A steps → steps.length ≤ c →
  Calls Tryz.prog 92 #[u, .slice A steps.length c, .func (.func f) #[] caps] w (ErrPost (putG how x v steps) w)
def DoesC (how : Nat) (x : J) (f : Nat) (caps : Array Value) (w0 : World) (m : Nat) : Prop := ∀ (v : J) (u : Value) (s : Tx) (w : World), Ext w0 w → PJ w v u → WJ v → bulkJ v ≤ 16000000 → s.length ≤ m → Calls Tryz.prog f (#[u, .string (bx s)] ++ caps) w (ErrPost (opJ how x v s) w)
/-- A function's number is entered as it is. -/
def EnterC (f : Nat) : Prop := ∀ (args : Array Value) (W : World), Sem.run Tryz.prog (callFunc f args) W = .ok (.enter f args) W
set_option maxRecDepth 100000 in
set_option maxHeartbeats 4000000 in
theorem under_one (how : Nat) (x : J) (f : Nat) (caps : Array Value) (w0 : World) (hf : EnterC f) (hd : DoesC how x f caps w0 1048576) (s : Tx) (hs : s.length ≤ 1048576) : UnderC how x f caps w0 [s] := by
  intro v u A c w h0 hu hw hb hn hc
  rw [putG_one]
  obtain ⟨g, off, rfl, -, hca⟩ := hn 0 (by simp)
  rw [Nat.add_zero] at hca
  have CD := Lib.hid (hd v u s w h0 hu hw hb hs)
  have hca' : w.cell? ⟨g, off, none⟩ = some (.string (bx s)) := hca
  obtain ⟨sx, hsx⟩ : ∃ x, x = bx s := ⟨_, rfl⟩
  rw [← hsx] at CD hca'
  show Calls Tryz.prog 92 #[u, .slice (some ⟨g, off, none⟩) 1 c, .func (.func f) #[] caps] w _
  have hf2 : ∀ (args : Array Value) (W : World), Sem.run Tryz.prog (callFunc f args) W = .ok (.enter f args) W := hf
  clear hd h0 hu hw hb hn hca hs hsx hc hf
  go_enter Tryz.func92, Tryz.ntmps92
  go_wp2_with fail
  refine Calls.mono CD.out ?_
  rintro e w2 ⟨h, x2⟩
  have X2 := Lib.hid x2
  clear x2
  rcases h with ⟨j, z, hj, rfl, hz⟩ | ⟨hj, rfl⟩
  · have HJ := Lib.hid (And.intro hj hz)
    clear hj hz
    go_wp2_with fail
    go_ret2
    exact ⟨.inl ⟨j, z, HJ.out.1, rfl, HJ.out.2⟩, X2.out⟩
  · have HJ := Lib.hid hj
    clear hj
    go_wp2_with fail
    go_ret2
    exact ⟨.inr ⟨HJ.out, rfl⟩, X2.out⟩
theorem op_in {x v u : J} {s : Tx} (h : childJ v s = some u) : ∃ y, opJ 0 x v s = some y := by
  unfold childJ at h
  unfold opJ
  split at h
  · exact ⟨_, if_neg (by decide)⟩
  · rename_i l
    cases hi : idxS s l.length with
    | none => rw [hi] at h; cases h
    | some k =>
      rw [placeS_idx hi]
      exact ⟨_, if_neg (by simp)⟩
  all_goals cases h
set_option maxRecDepth 100000 in
set_option maxHeartbeats 4000000 in
theorem under_more (how : Nat) (x : J) (f : Nat) (caps : Array Value) (w0 : World) (hE0 : Errs w0) (ht0 : Tab10 w0) (s : Tx) (r : List Tx) (hr : r ≠ []) (hs : s.length ≤ 1048576) (ih : UnderC how x f caps w0 r) : UnderC how x f caps w0 (s :: r) := by
  intro v u A c w h0 hu hw hb hn hc
  obtain ⟨P, hP⟩ : ∃ P, P = putG how x v (s :: r) := ⟨_, rfl⟩
  rw [← hP]
  rw [putG_more how x v s hr] at hP
  have hE := hE0.ext h0
  have ht := ht0.ext h0
  obtain ⟨gs, off, rfl, -, hca0⟩ := hn 0 (by simp)
  have hca0' : w.cell? ⟨gs, off, none⟩ = some (.string (bx s)) := hca0
  obtain ⟨A9, hsl, hn9, hc9⟩ := names_tail hn (by simpa using hc)
  obtain ⟨N, hN⟩ : ∃ N, N = r.length := ⟨_, rfl⟩
  have hN0 : ¬ N = 0 := by rw [hN]; exact fun h => hr (List.length_eq_zero_iff.1 h)
  rw [← hN] at hsl
  have HCA : Hid (∀ W, Ext w W → W.cell? ⟨gs, off, none⟩ = some (.string (bx s))) := fun W hW => (cell_keep (hW.block gs (cell_lt hca0'))).trans hca0'
  have CC := Lib.hid (child_any v u s w hu hw hb hs hE ht)
  have CU : Hid (∀ y x' W, Ext w W → PJ W y x' → childJ v s = some y → Calls Tryz.prog 92 #[x', .slice A9 N (c - 1), .func (.func f) #[] caps] W (ErrPost (putG how x y r) W)) := fun y x' W hW hy hc2 => by
    rw [hN]
    exact ih y x' A9 (c - 1) W (h0.trans hW) hy (child_wj hw hc2) (by have := child_bulk hc2; omega) (hn9.ext hW) hc9
  have CR : Hid (∀ y z z' t W, Ext w W → PJ W z z' → childJ v s = some y → opJ 0 z v s = some t → Calls Tryz.prog 96 #[u, .string (bx s), z'] W (MadePost t W)) := fun y z z' t W hW hz hc2 ho => replaced_any v z y t u z' s W (hu.ext hW) hz hw hb hs (hE.ext hW) (ht.ext hW) hc2 ho
  have HIN : Hid (∀ y z, childJ v s = some y → ∃ t, opJ 0 z v s = some t) := fun y z h => op_in h
  show Calls Tryz.prog 92 #[u, .slice (some ⟨gs, off, none⟩) (r.length + 1) c, .func (.func f) #[] caps] w _
  rw [← hN]
  obtain ⟨sx, hsx⟩ : ∃ x, x = bx s := ⟨_, rfl⟩
  rw [← hsx] at CC CR HCA
  have ca := HCA.out w (Below.refl _ _)
  obtain ⟨o, ho⟩ : ∃ o, o = childJ v s := ⟨_, rfl⟩
  rw [← ho] at CC CU CR HIN hP
  have HP := Lib.hid hP
  have hN1 : ¬ (N : Int) + 1 = 1 := by omega
  clear hE ht hE0 ht0 hr hs ih h0 hu hw hb hn hc hca0 hca0' hn9 hc9 hsx hP ho hN
  go_enter Tryz.func92, Tryz.ntmps92
  go_wp2_with fail
  refine Calls.mono CC.out ?_
  rintro e w2 ⟨x', rfl, hx, x2⟩
  have X2 := Lib.hid x2
  have ca2 := HCA.out w2 x2
  clear x2 ca
  cases o with
  | none =>
    obtain rfl : P = none := HP.out
    clear hx
    go_wp2_with fail
    go_ret2
    exact ⟨.inr ⟨rfl, rfl⟩, X2.out⟩
  | some y =>
    have HX : Hid (PJ w2 y x') := hx
    clear hx
    go_wp2_with fail
    refine Calls.mono (CU.out y x' w2 X2.out HX.out rfl) ?_
    rintro e w3 ⟨hres, x3⟩
    have X3 := Lib.hid (X2.out.trans x3)
    have ca3 := HCA.out w3 X3.out
    clear x3
    rcases hres with ⟨z, z', hz, rfl, hpz⟩ | ⟨hz, rfl⟩
    · obtain ⟨t, ht⟩ := HIN.out y z rfl
      obtain rfl : P = some t := by have h := HP.out; rw [hz] at h; exact h.trans ht
      have HT := Lib.hid (And.intro hpz ht)
      clear hpz ht hz
      go_wp2_with fail
      refine Calls.mono (CR.out y z z' t w3 X3.out HT.out.1 rfl HT.out.2) ?_
      rintro e w4 ⟨q, rfl, hq, x4⟩
      have HQ := Lib.hid (And.intro hq x4)
      clear hq x4
      go_wp2_with fail
      go_ret2
      exact ⟨.inl ⟨t, q, rfl, rfl, HQ.out.1⟩, X3.out.trans HQ.out.2⟩
    · obtain rfl : P = none := by have h := HP.out; rw [hz] at h; exact h
      clear hz
      go_wp2_with fail
      go_ret2
      exact ⟨.inr ⟨rfl, rfl⟩, X3.out⟩
theorem under_any (how : Nat) (x : J) (f : Nat) (caps : Array Value) (w0 : World) (hf : EnterC f) (hE0 : Errs w0) (ht0 : Tab10 w0) (hd : DoesC how x f caps w0 1048576) : ∀ steps : List Tx, steps ≠ [] → (∀ s ∈ steps, s.length ≤ 1048576) → UnderC how x f caps w0 steps
  | [], h, _ => absurd rfl h
  | [s], _, hs => under_one how x f caps w0 hf hd s (hs s (List.mem_cons_self ..))
  | s :: t :: r, _, hs => under_more how x f caps w0 hE0 ht0 s (t :: r) (by simp) (hs s (List.mem_cons_self ..)) (under_any how x f caps w0 hf hE0 ht0 hd (t :: r) (by simp) fun y hy => hs y (List.mem_cons_of_mem _ hy))
end Go.Proofs.YtahinicpceokcaaGreatDoor.Jm
namespace Go.Proofs.YtahinicpceokcaaGreatDoor.Jm
open Go Go.RowKit Go.Proofs.YtahinicpceokcaaGreatDoor.Sx Go.Proofs.YtahinicpceokcaaGreatDoor.Js Go.Proofs.YtahinicpceokcaaGreatDoor.Gr
theorem enter_put : EnterC 93 := fun _ _ => by kernel_rfl
theorem enter_cut : EnterC 99 := fun _ _ => by kernel_rfl
/-- A list, or neither that nor an object. -/
theorem list_or {v : J} (h : isObj v = false) : (∃ l, v = .list l) ∨ (∀ how x s, opJ how x v s = none) ∧ (∀ s, childJ v s = none) ∧ ∀ {w : World} {u : Value}, PJ w v u → ∀ W : World, (Instr.typeAssert u valT valsT true).run Tryz.prog W = .ok (.tuple #[.slice none 0 0, .bool false]) W := by
  rcases list_of h with h1 | ⟨h1, h2⟩
  · exact .inl h1
  · cases v with
    | obj ns l => cases h
    | list l => exact .inl ⟨l, rfl⟩
    | null => exact .inr ⟨fun _ _ _ => rfl, h1, h2⟩
    | bool b => exact .inr ⟨fun _ _ _ => rfl, h1, h2⟩
    | num n => exact .inr ⟨fun _ _ _ => rfl, h1, h2⟩
    | text t => exact .inr ⟨fun _ _ _ => rfl, h1, h2⟩
theorem undrew {a b : World} (h : Ext a.drew b) : Ext a b := ⟨h.os, h.tape, h.output, h.size, h.block⟩
theorem PVs.snoc {F : Nat → Prop} {w : World} {l : List J} {us : List Value} (h : PVs F w l us) {j : J} {v : Value} (hv : PV F w j v) : PVs F w (l ++ [j]) (us ++ [v]) := by
  refine ⟨by rw [List.length_append, List.length_append, h.1]; rfl, fun i hi hu => ?_⟩
  by_cases hl : i < l.length
  · rw [List.getElem_append_left hl, List.getElem_append_left (by rw [h.1]; exact hl)]
    exact h.2 i hl _
  · have hi2 : i = l.length := by rw [List.length_append] at hi; simp at hi; omega
    have hi3 : i = us.length := by rw [h.1]; exact hi2
    have e1 : (l ++ [j])[i]? = some j := by rw [hi2]; simp
    have e2 : (us ++ [v])[i]? = some v := by rw [hi3]; simp
    rw [List.getElem?_eq_getElem hi] at e1
    rw [List.getElem?_eq_getElem hu] at e2
    injection e1 with e1
    injection e2 with e2
    rw [e1, e2]
    exact hv
theorem op_list (how : Nat) (x : J) (l : List J) (s : Tx) : opJ how x (.list l) s = match placeS s l.length with | none => none | some k => if how = 2 ∧ k = l.length then none else some (.list (listOp how x l k)) := rfl
set_option maxRecDepth 100000 in
set_option maxHeartbeats 8000000 in
theorem does_put (x : J) (xv : Value) (b : Nat) (w0 : World) (hcb : w0.cell? ⟨b, 0, none⟩ = some xv) (hx : PJ w0 x xv) (hE0 : Errs w0) (ht0 : Tab10 w0) : DoesC 0 x 93 #[.pointer (some ⟨b, 0, none⟩)] w0 1048576 := by
  intro v u s w h0 hu hw hb hs
  have hE := hE0.ext h0
  have ht := ht0.ext h0
  have hx1 := hx.ext h0
  show Calls Tryz.prog 93 #[u, .string (bx s), .pointer (some ⟨b, 0, none⟩)] w _
  have HCB : Hid (∀ W, Ext w W → W.cell? ⟨b, 0, none⟩ = some xv) := fun W hW => (cell_keep ((h0.trans hW).block b (cell_lt hcb))).trans hcb
  have cb := HCB.out w (Below.refl _ _)
  cases hob : isObj v with
  | true =>
    rw [obj_of hob] at hu hw hb ⊢
    generalize objO v = a at hu hw hb ⊢
    obtain ⟨b1, rfl, ho⟩ := PJ_obj.1 hu
    have HR : Hid (opJ 0 x (ofO a) s = some (ofO (setO a s x))) := by unfold Hid opJ ofO; exact if_neg (by decide)
    rw [HR.out]
    have CW := Lib.hid (withO_any b1 a s x xv w ho hw (by rw [bulk_of] at hb; omega) hx1)
    have a5 := ta_obj_obj (.pointer (some ⟨b1, 0, none⟩))
    obtain ⟨sx, hsx⟩ : ∃ x, x = bx s := ⟨_, rfl⟩
    rw [← hsx] at CW ⊢
    clear hu hx hx1 hw hb hs hE ht hE0 ht0 ho hsx hob h0 hcb
    go_enter Tryz.func93, Tryz.ntmps93
    go_wp2_with fail
    refine Calls.mono CW.out ?_
    rintro e w2 ⟨b2, rfl, ho2, x2⟩
    have H2 := Lib.hid (And.intro ho2 x2)
    clear ho2 x2
    go_wp2_with fail
    go_ret2
    exact ⟨.inl ⟨_, _, rfl, rfl, PJ_obj.2 ⟨b2, rfl, H2.out.1⟩⟩, H2.out.2⟩
  | false =>
    have a6 := not_obj hu hob
    rcases list_or hob with ⟨l, rfl⟩ | ⟨hn, _, h2⟩
    · obtain ⟨A, c, rfl, hcl, hv⟩ := PV_list.1 hu
      have hlen := len_list (l := l)
      have CP := Lib.hid (place_any s l.length w hs (by omega) hE ht)
      have HOP := Lib.hid (op_list 0 x l s)
      have CR : Hid (∀ k, placeS s l.length = some k → k < l.length → ∀ W, Ext w W → Calls Tryz.prog 96 #[.iface valsT (.slice A l.length c), .string (bx s), xv] W (MadePost (.list (l.set k x)) W)) := fun k hk hkl W hW => by
        have hi := placeS_low hk hkl
        have hc : childJ (.list l) s = some l[k] := by
          unfold childJ
          simp only
          rw [hi]
          exact List.getElem?_eq_getElem hkl
        refine replaced_any (.list l) x _ _ _ xv s W (hu.ext hW) (hx1.ext hW) hw hb hs (hE.ext hW) (ht.ext hW) hc ?_
        rw [op_list, hk]
        simp only
        rw [if_neg (by simp), listOp_set hkl]
      obtain ⟨us, hus, hcu, hpu⟩ := cells_vals hv
      have h1u : ∀ u ∈ us, u.oneCell' = true := fun u hu => by
        obtain ⟨i, hi, rfl⟩ := List.mem_iff_getElem.1 hu
        exact (hpu i (by omega) hi).one
      obtain ⟨N, hN⟩ : ∃ N, N = l.length := ⟨_, rfl⟩
      have CC : Hid (∀ W, Ext w W → Calls Tryz.prog 95 #[.slice A N c] W fun e w' => ∃ A' c', e = .returned (.slice A' N c') ∧ Ext w w' ∧ Ext W w' ∧ w'.cell? ⟨b, 0, none⟩ = some xv ∧ Hid (GRow valT 1 w.heap.size w' (.slice A' N c') (one us))) := fun W hW =>
        (clone_vals A N c us W (by omega) h1u (hcu.ext hW) (by omega)).mono fun e w' ⟨A', c', he, hr, hx⟩ => ⟨A', c', he, hW.trans hx, hx, HCB.out _ (hW.trans hx), GRow.low hr hW.size⟩
      have HPV : Hid (PVs (fun _ => True) w (l ++ [x]) (us ++ [xv])) := PVs.snoc ⟨hus, hpu⟩ hx1
      have HUL : Hid (us.length = N ∧ N = l.length ∧ N ≤ 900000) := ⟨by omega, hN, by omega⟩
      have HX1 : Hid (xv.oneCell' = true) := PV.one hx1
      have HVS := Lib.hid (PV.shape hx1)
      obtain ⟨o, ho⟩ : ∃ o, o = placeS s l.length := ⟨_, rfl⟩
      have HLE : Hid (∀ k, o = some k → k ≤ N) := fun k hk => by rw [hN]; exact placeS_le (ho.symm.trans hk)
      obtain ⟨P, hP⟩ : ∃ P, P = opJ 0 x (.list l) s := ⟨_, rfl⟩
      rw [← hP] at HOP ⊢
      rw [← ho] at CP CR HOP
      rw [← hN] at CP CR a6 ⊢
      have a5 := ta_vals_vals (.slice A N c)
      obtain ⟨sx, hsx⟩ : ∃ x, x = bx s := ⟨_, rfl⟩
      rw [← hsx] at CP CR ⊢
      clear hu hx hx1 hw hb hs hE ht hE0 ht0 hv hcl hlen hN hsx hob hus hcu hpu h1u ho hP h0 hcb
      go_enter Tryz.func93, Tryz.ntmps93
      go_wp2_with fail
      refine Calls.mono CP.out ?_
      rintro e w2 ⟨n, rfl, hn, x2⟩
      have X2 := Lib.hid x2
      have cb2 := HCB.out w2 x2
      clear x2 cb
      cases o with
      | none =>
        obtain rfl : P = none := HOP.out
        clear hn
        go_wp2_with fail
        go_ret2
        exact ⟨.inr ⟨rfl, rfl⟩, X2.out⟩
      | some k =>
        obtain rfl := hn k rfl
        have hkN := HLE.out k rfl
        clear hn
        by_cases hk : k = N
        · subst hk
          obtain rfl : P = some (.list (l ++ [x])) := by
            have h := HOP.out
            simp only at h
            rw [if_neg (by simp), HUL.out.2.1, listOp_end] at h
            exact h
          have hxx : Ext w w2 := X2.out
          clear hkN
          rcases HVS.out with rfl | ⟨tv, xx, rfl⟩
          · go_upto_region 9 with (fail)
            go_region_held3 (fun W => Ext w W ∧ W.cell? ⟨b, 0, none⟩ = some (.nilIface))
              (first | (refine ⟨by assumption, by assumption⟩) | (refine (fun h => ⟨h, HCB.out _ h⟩) ?_; repeat (first | assumption | apply ext_al | apply ext_dr)))
              (first
                | (go_at_call 95; with_reducible refine (CC.out _ (by repeat (first | assumption | apply ext_al | apply ext_dr))).mono ?_; rintro r w5 ⟨A9, c9, rfl, x5, y5, cb5, q5⟩)
                | (refine step_append_g ty_vals rfl _ _ (by rfl) w.heap.size k 1 _ (.slice A9 k c9) (.slice (some ⟨w5.heap.size, 0, none⟩) 1 1) (one us) [[_]] (by rfl) (by rfl) (GRow.ext q5.out (by repeat (first | exact Below.refl _ _ | apply ext_al | apply ext_dr))) (GSrc.one rfl (fun q hq => by rw [List.mem_singleton] at hq; rw [hq]; exact HX1.out) (heap_new rfl)) (by rw [one_len]; exact HUL.out.1) rfl (by have := HUL.out.2.2; omega) (by exact (show Ext w _ by repeat (first | assumption | apply ext_al | apply ext_dr)).size) ?_; intro A6 c6 w6 r6 g6 o6; have x6 : Ext w w6 := ext_row (by repeat (first | assumption | apply ext_al | apply ext_dr)) g6 (fun j e => (q5.out.block j e).1); have cb6 := HCB.out w6 x6; have R6 := Lib.hid r6; clear r6 g6 o6)
                | (refine step_append_g ty_vals rfl _ _ (by rfl) w.heap.size k 1 _ (.slice A9 k c9) (.slice (some ⟨w2.heap.size, 0, none⟩) 1 1) (one us) [[_]] (by rfl) (by rfl) (GRow.ext q5.out (by repeat (first | exact Below.refl _ _ | apply ext_al | apply ext_dr))) (GSrc.ext (GSrc.one rfl (fun q hq => by rw [List.mem_singleton] at hq; rw [hq]; exact HX1.out) (heap_new rfl)) (by first | exact y5 | exact undrew y5 | exact y5.drew | exact (undrew y5).drew)) (by rw [one_len]; exact HUL.out.1) rfl (by have := HUL.out.2.2; omega) (by exact (show Ext w _ by repeat (first | assumption | apply ext_al | apply ext_dr)).size) ?_; intro A6 c6 w6 r6 g6 o6; have x6 : Ext w w6 := ext_row (by repeat (first | assumption | apply ext_al | apply ext_dr)) g6 (fun j e => (q5.out.block j e).1); have cb6 := HCB.out w6 x6; have R6 := Lib.hid r6; clear r6 g6 o6))
            all_goals
              have X6 := Lib.hid x6
              clear x6 cb6 x5 y5 cb5 q5 hxx cb2
              go_wp2_with fail
              go_ret2
              have h6 := R6.out
              rw [show (one us ++ [[.nilIface]] : List (List Value)) = one (us ++ [.nilIface]) by rw [one_app]; rfl] at h6
              have hV := vals_grow (w := w) (F' := fun _ => True) h6 HPV.out X6.out (fun g hg => trivial) (fun g hg => trivial)
              exact ⟨.inl ⟨_, _, rfl, rfl, PJ_lst hV.1 hV.2.1 hV.2.2⟩, X6.out⟩
          · go_upto_region 9 with (fail)
            go_region_held3 (fun W => Ext w W ∧ W.cell? ⟨b, 0, none⟩ = some (.iface tv xx))
              (first | (refine ⟨by assumption, by assumption⟩) | (refine (fun h => ⟨h, HCB.out _ h⟩) ?_; repeat (first | assumption | apply ext_al | apply ext_dr)))
              (first
                | (go_at_call 95; with_reducible refine (CC.out _ (by repeat (first | assumption | apply ext_al | apply ext_dr))).mono ?_; rintro r w5 ⟨A9, c9, rfl, x5, y5, cb5, q5⟩)
                | (refine step_append_g ty_vals rfl _ _ (by rfl) w.heap.size k 1 _ (.slice A9 k c9) (.slice (some ⟨w5.heap.size, 0, none⟩) 1 1) (one us) [[_]] (by rfl) (by rfl) (GRow.ext q5.out (by repeat (first | exact Below.refl _ _ | apply ext_al | apply ext_dr))) (GSrc.one rfl (fun q hq => by rw [List.mem_singleton] at hq; rw [hq]; exact HX1.out) (heap_new rfl)) (by rw [one_len]; exact HUL.out.1) rfl (by have := HUL.out.2.2; omega) (by exact (show Ext w _ by repeat (first | assumption | apply ext_al | apply ext_dr)).size) ?_; intro A6 c6 w6 r6 g6 o6; have x6 : Ext w w6 := ext_row (by repeat (first | assumption | apply ext_al | apply ext_dr)) g6 (fun j e => (q5.out.block j e).1); have cb6 := HCB.out w6 x6; have R6 := Lib.hid r6; clear r6 g6 o6)
                | (refine step_append_g ty_vals rfl _ _ (by rfl) w.heap.size k 1 _ (.slice A9 k c9) (.slice (some ⟨w2.heap.size, 0, none⟩) 1 1) (one us) [[_]] (by rfl) (by rfl) (GRow.ext q5.out (by repeat (first | exact Below.refl _ _ | apply ext_al | apply ext_dr))) (GSrc.ext (GSrc.one rfl (fun q hq => by rw [List.mem_singleton] at hq; rw [hq]; exact HX1.out) (heap_new rfl)) (by first | exact y5 | exact undrew y5 | exact y5.drew | exact (undrew y5).drew)) (by rw [one_len]; exact HUL.out.1) rfl (by have := HUL.out.2.2; omega) (by exact (show Ext w _ by repeat (first | assumption | apply ext_al | apply ext_dr)).size) ?_; intro A6 c6 w6 r6 g6 o6; have x6 : Ext w w6 := ext_row (by repeat (first | assumption | apply ext_al | apply ext_dr)) g6 (fun j e => (q5.out.block j e).1); have cb6 := HCB.out w6 x6; have R6 := Lib.hid r6; clear r6 g6 o6))
            all_goals
              have X6 := Lib.hid x6
              clear x6 cb6 x5 y5 cb5 q5 hxx cb2
              go_wp2_with fail
              go_ret2
              have h6 := R6.out
              rw [show (one us ++ [[.iface tv xx]] : List (List Value)) = one (us ++ [.iface tv xx]) by rw [one_app]; rfl] at h6
              have hV := vals_grow (w := w) (F' := fun _ => True) h6 HPV.out X6.out (fun g hg => trivial) (fun g hg => trivial)
              exact ⟨.inl ⟨_, _, rfl, rfl, PJ_lst hV.1 hV.2.1 hV.2.2⟩, X6.out⟩
        · have hkl : k < N := by omega
          have hkI : ¬ (k : Int) = (N : Int) := by omega
          obtain rfl : P = some (.list (l.set k x)) := by
            have h := HOP.out
            simp only at h
            rw [if_neg (by simp), listOp_set (by rw [← HUL.out.2.1]; exact hkl)] at h
            exact h
          have CR1 := Lib.hid (CR.out k rfl hkl w2 X2.out)
          clear hkN
          go_wp2_with fail
          refine Calls.mono CR1.out ?_
          rintro e w3 ⟨q, rfl, hq, x3⟩
          have HQ := Lib.hid (And.intro hq x3)
          clear hq x3
          go_wp2_with fail
          go_ret2
          exact ⟨.inl ⟨_, q, rfl, rfl, HQ.out.1⟩, X2.out.trans HQ.out.2⟩
    · have a7 := h2 hu
      have HN : Hid (opJ 0 x v s = none) := hn _ _ _
      rw [HN.out]
      clear hu hx hx1 hw hb hs hE ht hE0 ht0 hob hn h2 h0 hcb
      go_enter Tryz.func93, Tryz.ntmps93
      go_wp2_with fail
      go_ret2
      exact ⟨.inr ⟨rfl, rfl⟩, Below.refl _ _⟩
end Go.Proofs.YtahinicpceokcaaGreatDoor.Jm
namespace Go.Proofs.YtahinicpceokcaaGreatDoor.Jm
open Go Go.RowKit Go.Proofs.YtahinicpceokcaaGreatDoor.Sx Go.Proofs.YtahinicpceokcaaGreatDoor.Js Go.Proofs.YtahinicpceokcaaGreatDoor.Gr
theorem box_cell {w : World} {v : Value} {ty : TypeId} {f : Nat × Nat} : (w.alloc (.cells #[v] ty f)).cell? ⟨w.heap.size, 0, none⟩ = some v := cell_of (heap_new rfl) 0
set_option maxRecDepth 100000 in
set_option maxHeartbeats 4000000 in
theorem put_any (x v : J) (xv u : Value) (A : Option Addr) (c : Nat) (steps : List Tx) (w : World) (hu : PJ w v u) (hx : PJ w x xv) (hw : WJ v) (hb : bulkJ v ≤ 16000000) (hn : NamesAt (fun _ => True) w A steps) (hc : steps.length ≤ c) (hs : ∀ s ∈ steps, s.length ≤ 1048576) (hE : Errs w) (ht : Tab10 w) :
    Calls Tryz.prog 57 #[u, .slice A steps.length c, xv] w (ErrPost (putG 0 x v steps) w) := by
  obtain ⟨w1, hw1⟩ : ∃ w1, w1 = w.alloc (.cells #[xv] 45 (0, 0)) := ⟨_, rfl⟩
  have x1 : Ext w w1 := by rw [hw1]; exact new_ext _ _
  have hcell : w1.cell? ⟨w.heap.size, 0, none⟩ = some xv := by rw [hw1]; exact box_cell
  have HX := Lib.hid (And.intro (hx.ext x1) x1)
  have CU : Hid (steps ≠ [] → Calls Tryz.prog 92 #[u, .slice A steps.length c, .func (.func 93) #[] #[.pointer (some ⟨w.heap.size, 0, none⟩)]] w1 (ErrPost (putG 0 x v steps) w1)) := fun h =>
    under_any 0 x _ _ w1 enter_put (hE.ext x1) (ht.ext x1) (does_put x xv _ w1 hcell (hx.ext x1) (hE.ext x1) (ht.ext x1)) steps h hs v u A c w1 (Below.refl _ _) (hu.ext x1) hw hb (hn.ext x1) hc
  obtain ⟨N, hN⟩ : ∃ N, N = steps.length := ⟨_, rfl⟩
  obtain ⟨b, hbb⟩ : ∃ b, b = w.heap.size := ⟨_, rfl⟩
  rw [← hN] at CU ⊢
  rw [← hbb] at CU hcell
  have HVS := Lib.hid (PV.shape hx)
  clear hu hx hw hb hn hc hs hE ht x1
  cases steps with
  | nil =>
    subst hN
    have HP : Hid (putG 0 x v [] = some x) := by unfold Hid; rw [putG]
    rw [HP.out]
    clear CU
    rcases HVS.out with rfl | ⟨tv, xx, rfl⟩
    all_goals
      go_enter Tryz.func57, Tryz.ntmps57
      go_upto_region 2 with (fail)
      rw [← hw1, ← hbb]
      clear hw1 hbb
      go_wp2_with fail
      go_ret2
      exact ⟨.inl ⟨x, _, rfl, rfl, HX.out.1⟩, HX.out.2⟩
  | cons s r =>
    have CU1 := Lib.hid (CU.out (by simp))
    have hN0 : ¬ N = 0 := by rw [hN]; simp
    have hN1 : ¬ (N : Int) = 0 := by omega
    obtain ⟨P, hP⟩ : ∃ P, P = putG 0 x v (s :: r) := ⟨_, rfl⟩
    rw [← hP] at CU1 ⊢
    clear CU hN hP
    rcases HVS.out with rfl | ⟨tv, xx, rfl⟩
    all_goals
      go_enter Tryz.func57, Tryz.ntmps57
      go_upto_region 3 with (fail)
      rw [← hw1, ← hbb]
      clear hw1 hbb
      go_wp2_with fail
      refine Calls.mono CU1.out ?_
      rintro e w2 ⟨h, x2⟩
      have X2 := Lib.hid (HX.out.2.trans x2)
      clear x2
      rcases h with ⟨j, z, hj, rfl, hz⟩ | ⟨hj, rfl⟩
      · have HJ := Lib.hid (And.intro hj hz)
        clear hj hz
        go_wp2_with fail
        go_ret2
        exact ⟨.inl ⟨j, z, HJ.out.1, rfl, HJ.out.2⟩, X2.out⟩
      · have HJ := Lib.hid hj
        clear hj
        go_wp2_with fail
        go_ret2
        exact ⟨.inr ⟨HJ.out, rfl⟩, X2.out⟩
end Go.Proofs.YtahinicpceokcaaGreatDoor.Jm
namespace Go.Proofs.YtahinicpceokcaaGreatDoor.Jm
open Go Go.RowKit Go.Proofs.YtahinicpceokcaaGreatDoor.Sx Go.Proofs.YtahinicpceokcaaGreatDoor.Js Go.Proofs.YtahinicpceokcaaGreatDoor.Gr
theorem op_cut_none {x v : J} {s : Tx} (h : childJ v s = none) : opJ 2 x v s = none := by
  cases v with
  | obj ns l =>
    have h1 : getO (ns, l) s = none := h
    unfold opJ
    simp only
    rw [if_pos trivial, h1]
    rfl
  | list l =>
    rw [op_list]
    cases hp : placeS s l.length with
    | none => rfl
    | some k =>
      simp only
      by_cases hk : k = l.length
      · rw [if_pos ⟨trivial, hk⟩]
      · have hkl : k < l.length := by have := placeS_le hp; omega
        have hi := placeS_low hp hkl
        unfold childJ at h
        simp only at h
        rw [hi] at h
        simp only at h
        rw [List.getElem?_eq_getElem hkl] at h
        cases h
  | null => rfl
  | bool b => rfl
  | num n => rfl
  | text t => rfl
theorem op_cut_obj {x : J} {a : Ob} {s : Tx} (h : (getO a s).isSome = true) : opJ 2 x (ofO a) s = some (ofO (dropO a s)) := by
  unfold opJ ofO
  simp only
  rw [if_pos trivial, if_pos h]
theorem op_cut_list {x : J} {l : List J} {s : Tx} {k : Nat} (h : idxS s l.length = some k) : opJ 2 x (.list l) s = some (.list (l.eraseIdx k)) := by
  have hk := (idxS_some h).1
  rw [op_list, placeS_idx h]
  simp only
  rw [if_neg (by omega), listOp_cut hk]
set_option maxRecDepth 100000 in
set_option maxHeartbeats 8000000 in
theorem does_cut (x : J) (w0 : World) (hE0 : Errs w0) (ht0 : Tab10 w0) : DoesC 2 x 99 #[] w0 1048576 := by
  intro v u s w h0 hu hw hb hs
  have hE := hE0.ext h0
  have ht := ht0.ext h0
  show Calls Tryz.prog 99 #[u, .string (bx s)] w _
  have CH := Lib.hid (child_any v u s w hu hw hb hs hE ht)
  obtain ⟨o, ho⟩ : ∃ o, o = childJ v s := ⟨_, rfl⟩
  cases o with
  | none =>
    have HP : Hid (opJ 2 x v s = none) := op_cut_none ho.symm
    rw [HP.out]
    rw [← ho] at CH
    obtain ⟨sx, hsx⟩ : ∃ x, x = bx s := ⟨_, rfl⟩
    rw [← hsx] at CH ⊢
    clear hu hw hb hs hE ht hE0 ht0 h0 ho hsx
    go_enter Tryz.func99, Tryz.ntmps99
    go_wp2_with fail
    refine Calls.mono CH.out ?_
    rintro e w2 ⟨z, rfl, hz, x2⟩
    have X2 := Lib.hid x2
    clear x2 hz
    go_wp2_with fail
    go_ret2
    exact ⟨.inr ⟨rfl, rfl⟩, X2.out⟩
  | some y =>
    rw [← ho] at CH
    cases hob : isObj v with
    | true =>
      rw [obj_of hob] at hu hw hb ho ⊢
      generalize objO v = a at hu hw hb ho ⊢
      obtain ⟨b1, rfl, hoa⟩ := PJ_obj.1 hu
      have hg : getO a s = some y := ho.symm
      have HR : Hid (opJ 2 x (ofO a) s = some (ofO (dropO a s))) := op_cut_obj (by rw [hg]; rfl)
      rw [HR.out]
      have CW : Hid (∀ W, Ext w W → Calls Tryz.prog 80 #[.pointer (some ⟨b1, 0, none⟩), .string (bx s)] W fun e w' => ∃ b', e = .returned (.pointer (some ⟨b', 0, none⟩)) ∧ OA w' b' (dropO a s) ∧ Ext W w') := fun W hW =>
        withoutO_any b1 a s W (OA.ext hoa hW) hw (by rw [bulk_of] at hb; omega)
      have a5 := ta_obj_obj (.pointer (some ⟨b1, 0, none⟩))
      obtain ⟨sx, hsx⟩ : ∃ x, x = bx s := ⟨_, rfl⟩
      rw [← hsx] at CW CH ⊢
      clear hu hw hb hs hE ht hE0 ht0 hsx hob h0 ho hoa hg
      go_enter Tryz.func99, Tryz.ntmps99
      go_wp2_with fail
      refine Calls.mono CH.out ?_
      rintro e w2 ⟨z, rfl, hz, x2⟩
      have X2 := Lib.hid x2
      clear x2 hz
      go_wp2_with fail
      refine Calls.mono (CW.out w2 X2.out) ?_
      rintro e w3 ⟨b2, rfl, ho2, x3⟩
      have H2 := Lib.hid (And.intro ho2 (X2.out.trans x3))
      clear ho2 x3
      go_wp2_with fail
      go_ret2
      exact ⟨.inl ⟨_, _, rfl, rfl, PJ_obj.2 ⟨b2, rfl, H2.out.1⟩⟩, H2.out.2⟩
    | false =>
      have a6 := not_obj hu hob
      rcases list_or hob with ⟨l, rfl⟩ | ⟨_, hn, _⟩
      · obtain ⟨A, c, rfl, hcl, hv⟩ := PV_list.1 hu
        have hlen := len_list (l := l)
        have CI : Hid (∀ W, Ext w W → Calls Tryz.prog 100 #[.string (bx s), .int .i64 (l.length : Int)] W (IdxPost (idxS s l.length) W)) := fun W hW => index_any s l.length W hs (by omega) (hE.ext hW) (ht.ext hW)
        cases hi : idxS s l.length with
        | none =>
          unfold childJ at ho
          simp only at ho
          rw [hi] at ho
          cases ho
        | some k =>
          have hk := (idxS_some hi).1
          have HR : Hid (opJ 2 x (.list l) s = some (.list (l.eraseIdx k))) := op_cut_list hi
          rw [HR.out]
          rw [hi] at CI
          obtain ⟨us, hus, hcu, hpu⟩ := cells_vals hv
          have h1u : ∀ u ∈ us, u.oneCell' = true := fun u hu => by
            obtain ⟨i, hi, rfl⟩ := List.mem_iff_getElem.1 hu
            exact (hpu i (by omega) hi).one
          obtain ⟨N, hN⟩ : ∃ N, N = l.length := ⟨_, rfl⟩
          obtain ⟨M, hM⟩ : ∃ M, N = M + 1 := ⟨N - 1, by omega⟩
          have CC : Hid (∀ W, Ext w W → Calls Tryz.prog 95 #[.slice A N c] W fun e w' => ∃ g c', e = .returned (.slice (some ⟨g, 0, none⟩) N c') ∧ Ext w w' ∧ Hid (∃ rest, w.heap.size ≤ g ∧ w'.heap[g]? = some (.cells (us ++ rest).toArray valT (0, 0)) ∧ N + rest.length = c' ∧ c' ≤ maxLen)) := fun W hW =>
            (clone_vals A N c us W (by omega) h1u (hcu.ext hW) (by omega)).mono fun e w' ⟨A', c', he, hr, hx⟩ => by
              obtain ⟨-, ⟨-, h0, -⟩ | ⟨g, rest, rfl, h1, h2, h3, h4⟩⟩ := grow_to hr
              · rw [h0] at hus; simp at hus; omega
              · exact ⟨g, c', he, hW.trans hx, rest, Nat.le_trans hW.size h1, h2, h3, h4⟩
          have CD : Hid (∀ g c' W, Ext w W → (∃ rest, w.heap.size ≤ g ∧ W.heap[g]? = some (.cells (us ++ rest).toArray valT (0, 0)) ∧ N + rest.length = c' ∧ c' ≤ maxLen) → Calls Tryz.prog 101 #[.slice (some ⟨g, 0, none⟩) N c', .int .i64 (k : Int), .int .i64 ((k : Int) + 1)] W fun e w' => e = .returned (.slice (some ⟨g, 0, none⟩) M c') ∧ Ext w w' ∧ Hid (GRow valT 1 w.heap.size w' (.slice (some ⟨g, 0, none⟩) M c') (one (us.eraseIdx k)))) := fun g c' W hW ⟨rest, h1, h2, h3, h4⟩ => by
            rw [hM]
            exact (delete_vals w.heap.size g M c' k us rest W h1u h1 h2 (by omega) (by omega) h4 (by omega) (by omega)).mono fun e w' ⟨he, hr, hg⟩ => ⟨he, ext_row hW hg (fun j e => by injection e with e; omega), hr⟩
          have HPV : Hid (PVs (fun _ => True) w (l.eraseIdx k) (us.eraseIdx k)) := PVs.del ⟨hus, hpu⟩ k
          have hk0 : (0 : Int) ≤ (k : Int) := by omega
          have hkS : (k : Int) < 1000000 := by omega
          rw [← hN] at CI CH a6 ⊢
          have a5 := ta_vals_vals (.slice A N c)
          obtain ⟨sx, hsx⟩ : ∃ x, x = bx s := ⟨_, rfl⟩
          rw [← hsx] at CI CH ⊢
          clear hu hw hb hs hE ht hE0 ht0 hv hcl hlen hM hN hsx hob h0 ho hi hus hcu hpu h1u hk
          go_enter Tryz.func99, Tryz.ntmps99
          go_wp2_with fail
          refine Calls.mono CH.out ?_
          rintro e w2 ⟨z, rfl, hz, x2⟩
          have X2 := Lib.hid x2
          clear x2 hz
          go_wp2_with fail
          refine Calls.mono (CI.out w2 X2.out) ?_
          rintro e w3 ⟨n, rfl, hn, x3⟩
          obtain rfl := hn k rfl
          have X3 := Lib.hid (X2.out.trans x3)
          clear x3 hn
          go_wp2_with fail
          refine Calls.mono (CC.out w3 X3.out) ?_
          rintro e w4 ⟨g, c', rfl, x4, q4⟩
          have X4 := Lib.hid x4
          clear x4
          go_wp2_with fail
          refine Calls.mono (CD.out g c' w4 X4.out q4.out) ?_
          rintro e w5 ⟨rfl, x5, q5⟩
          have X5 := Lib.hid x5
          clear x5
          go_wp2_with fail
          go_ret2
          have hV := vals_grow (w := w) (F' := fun _ => True) q5.out HPV.out X5.out (fun g hg => trivial) (fun g hg => trivial)
          exact ⟨.inl ⟨_, _, rfl, rfl, PJ_lst hV.1 hV.2.1 hV.2.2⟩, X5.out⟩
      · rw [hn s] at ho
        cases ho
set_option maxRecDepth 100000 in
set_option maxHeartbeats 4000000 in
theorem cut_any (v : J) (u : Value) (A : Option Addr) (c : Nat) (steps : List Tx) (w : World) (hu : PJ w v u) (hw : WJ v) (hb : bulkJ v ≤ 16000000) (hn : NamesAt (fun _ => True) w A steps) (hc : steps.length ≤ c) (h0 : steps ≠ []) (hs : ∀ s ∈ steps, s.length ≤ 1048576) (hE : Errs w) (ht : Tab10 w) :
    Calls Tryz.prog 59 #[u, .slice A steps.length c] w (ErrPost (putG 2 .null v steps) w) := by
  have CU := Lib.hid (under_any 2 .null _ _ w enter_cut hE ht (does_cut .null w hE ht) steps h0 hs v u A c w (Below.refl _ _) hu hw hb hn hc)
  obtain ⟨N, hN⟩ : ∃ N, N = steps.length := ⟨_, rfl⟩
  obtain ⟨P, hP⟩ : ∃ P, P = putG 2 .null v steps := ⟨_, rfl⟩
  rw [← hN, ← hP] at CU ⊢
  clear hu hw hb hn hc hs hE ht h0 hN hP
  go_enter Tryz.func59, Tryz.ntmps59
  go_wp2_with fail
  refine Calls.mono CU.out ?_
  rintro e w2 ⟨h, x2⟩
  have X2 := Lib.hid x2
  clear x2
  rcases h with ⟨j, z, hj, rfl, hz⟩ | ⟨hj, rfl⟩
  · have HJ := Lib.hid (And.intro hj hz)
    clear hj hz
    go_wp2_with fail
    go_ret2
    exact ⟨.inl ⟨j, z, HJ.out.1, rfl, HJ.out.2⟩, X2.out⟩
  · have HJ := Lib.hid hj
    clear hj
    go_wp2_with fail
    go_ret2
    exact ⟨.inr ⟨HJ.out, rfl⟩, X2.out⟩
end Go.Proofs.YtahinicpceokcaaGreatDoor.Jm
