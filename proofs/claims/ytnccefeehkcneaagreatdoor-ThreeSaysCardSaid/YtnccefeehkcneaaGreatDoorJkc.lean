/-
  Type assertions of values, kind against kind (printed by gen/tas.py).
  Kind and Size of the program's values.
  Size of the reference's values.
  The reference's Eq of rows of names: are they the same?.
  The reference's Same of two values.
-/
import Derived.Test.YtnccefeehkcneaaGreatDoorJm0
import Derived.Test.YtnccefeehkcneaaGreatDoorJqe
namespace Go.Proofs.YtnccefeehkcneaaGreatDoor.Jm
open Go Go.RowKit
theorem ta_nil_bool (w : World) : (Instr.typeAssert .nilIface valT 4 true).run Tryz.prog w = .ok (.tuple #[.bool false, .bool false]) w := by kernel_rfl
theorem ta_nil_int (w : World) : (Instr.typeAssert .nilIface valT 2 true).run Tryz.prog w = .ok (.tuple #[.int .i64 0, .bool false]) w := by kernel_rfl
theorem ta_nil_str (w : World) : (Instr.typeAssert .nilIface valT 9 true).run Tryz.prog w = .ok (.tuple #[.string ⟨#[]⟩, .bool false]) w := by kernel_rfl
theorem ta_nil_vals (w : World) : (Instr.typeAssert .nilIface valT valsT true).run Tryz.prog w = .ok (.tuple #[.slice none 0 0, .bool false]) w := by kernel_rfl
theorem ta_nil_obj (w : World) : (Instr.typeAssert .nilIface valT objPT true).run Tryz.prog w = .ok (.tuple #[.pointer none, .bool false]) w := by kernel_rfl
theorem ta_bool_bool (x : Value) (w : World) : (Instr.typeAssert (.iface 4 x) valT 4 true).run Tryz.prog w = .ok (.tuple #[x, .bool true]) w := by kernel_rfl
theorem ta_bool_str (x : Value) (w : World) : (Instr.typeAssert (.iface 4 x) valT 9 true).run Tryz.prog w = .ok (.tuple #[.string ⟨#[]⟩, .bool false]) w := by kernel_rfl
theorem ta_bool_vals (x : Value) (w : World) : (Instr.typeAssert (.iface 4 x) valT valsT true).run Tryz.prog w = .ok (.tuple #[.slice none 0 0, .bool false]) w := by kernel_rfl
theorem ta_bool_obj (x : Value) (w : World) : (Instr.typeAssert (.iface 4 x) valT objPT true).run Tryz.prog w = .ok (.tuple #[.pointer none, .bool false]) w := by kernel_rfl
theorem ta_int_bool (x : Value) (w : World) : (Instr.typeAssert (.iface 2 x) valT 4 true).run Tryz.prog w = .ok (.tuple #[.bool false, .bool false]) w := by kernel_rfl
theorem ta_int_int (x : Value) (w : World) : (Instr.typeAssert (.iface 2 x) valT 2 true).run Tryz.prog w = .ok (.tuple #[x, .bool true]) w := by kernel_rfl
theorem ta_int_str (x : Value) (w : World) : (Instr.typeAssert (.iface 2 x) valT 9 true).run Tryz.prog w = .ok (.tuple #[.string ⟨#[]⟩, .bool false]) w := by kernel_rfl
theorem ta_int_vals (x : Value) (w : World) : (Instr.typeAssert (.iface 2 x) valT valsT true).run Tryz.prog w = .ok (.tuple #[.slice none 0 0, .bool false]) w := by kernel_rfl
theorem ta_int_obj (x : Value) (w : World) : (Instr.typeAssert (.iface 2 x) valT objPT true).run Tryz.prog w = .ok (.tuple #[.pointer none, .bool false]) w := by kernel_rfl
theorem ta_str_bool (x : Value) (w : World) : (Instr.typeAssert (.iface 9 x) valT 4 true).run Tryz.prog w = .ok (.tuple #[.bool false, .bool false]) w := by kernel_rfl
theorem ta_str_int (x : Value) (w : World) : (Instr.typeAssert (.iface 9 x) valT 2 true).run Tryz.prog w = .ok (.tuple #[.int .i64 0, .bool false]) w := by kernel_rfl
theorem ta_str_str (x : Value) (w : World) : (Instr.typeAssert (.iface 9 x) valT 9 true).run Tryz.prog w = .ok (.tuple #[x, .bool true]) w := by kernel_rfl
theorem ta_str_vals (x : Value) (w : World) : (Instr.typeAssert (.iface 9 x) valT valsT true).run Tryz.prog w = .ok (.tuple #[.slice none 0 0, .bool false]) w := by kernel_rfl
theorem ta_str_obj (x : Value) (w : World) : (Instr.typeAssert (.iface 9 x) valT objPT true).run Tryz.prog w = .ok (.tuple #[.pointer none, .bool false]) w := by kernel_rfl
theorem ta_vals_bool (x : Value) (w : World) : (Instr.typeAssert (.iface valsT x) valT 4 true).run Tryz.prog w = .ok (.tuple #[.bool false, .bool false]) w := by kernel_rfl
theorem ta_vals_int (x : Value) (w : World) : (Instr.typeAssert (.iface valsT x) valT 2 true).run Tryz.prog w = .ok (.tuple #[.int .i64 0, .bool false]) w := by kernel_rfl
theorem ta_vals_str (x : Value) (w : World) : (Instr.typeAssert (.iface valsT x) valT 9 true).run Tryz.prog w = .ok (.tuple #[.string ⟨#[]⟩, .bool false]) w := by kernel_rfl
theorem ta_vals_vals (x : Value) (w : World) : (Instr.typeAssert (.iface valsT x) valT valsT true).run Tryz.prog w = .ok (.tuple #[x, .bool true]) w := by kernel_rfl
theorem ta_vals_obj (x : Value) (w : World) : (Instr.typeAssert (.iface valsT x) valT objPT true).run Tryz.prog w = .ok (.tuple #[.pointer none, .bool false]) w := by kernel_rfl
theorem ta_obj_bool (x : Value) (w : World) : (Instr.typeAssert (.iface objPT x) valT 4 true).run Tryz.prog w = .ok (.tuple #[.bool false, .bool false]) w := by kernel_rfl
theorem ta_obj_int (x : Value) (w : World) : (Instr.typeAssert (.iface objPT x) valT 2 true).run Tryz.prog w = .ok (.tuple #[.int .i64 0, .bool false]) w := by kernel_rfl
theorem ta_obj_str (x : Value) (w : World) : (Instr.typeAssert (.iface objPT x) valT 9 true).run Tryz.prog w = .ok (.tuple #[.string ⟨#[]⟩, .bool false]) w := by kernel_rfl
theorem ta_obj_vals (x : Value) (w : World) : (Instr.typeAssert (.iface objPT x) valT valsT true).run Tryz.prog w = .ok (.tuple #[.slice none 0 0, .bool false]) w := by kernel_rfl
theorem ta_obj_obj (x : Value) (w : World) : (Instr.typeAssert (.iface objPT x) valT objPT true).run Tryz.prog w = .ok (.tuple #[x, .bool true]) w := by kernel_rfl
end Go.Proofs.YtnccefeehkcneaaGreatDoor.Jm
namespace Go.Proofs.YtnccefeehkcneaaGreatDoor.Jm
open Go Go.RowKit Go.Proofs.YtnccefeehkcneaaGreatDoor.Sx Go.Proofs.YtnccefeehkcneaaGreatDoor.Js
theorem maxL_snoc (l : List Nat) (x : Nat) : maxL (l ++ [x]) = max (maxL l) x := by
  unfold maxL
  induction l with
  | nil => simp
  | cons a r ih => rw [List.cons_append, List.foldr_cons, List.foldr_cons, ih]; omega
theorem maxL_le {l : List Nat} {n : Nat} (h : ∀ x ∈ l, x ≤ n) : maxL l ≤ n := by
  unfold maxL
  induction l with
  | nil => simp
  | cons a r ih => rw [List.foldr_cons]; have := h a (by simp); have := ih (fun x hx => h x (by simp [hx])); omega
theorem sum_le_map (l : List J) (f g : J → Nat) (h : ∀ x ∈ l, f x ≤ g x) : (l.map f).sum ≤ (l.map g).sum := by
  induction l with
  | nil => simp
  | cons a r ih => simp only [List.map_cons, List.sum_cons]; have := h a (by simp); have := ih (fun x hx => h x (by simp [hx])); omega
theorem le_sum {l : List J} {f : J → Nat} {x : J} (h : x ∈ l) : f x ≤ (l.map f).sum := by
  induction l with
  | nil => simp at h
  | cons a r ih =>
    simp only [List.map_cons, List.sum_cons]
    rcases List.mem_cons.1 h with rfl | h
    · omega
    · have := ih h; omega
theorem bulk_len (l : List J) : l.length ≤ (l.map fun x => bulkJ x + 1).sum := by
  induction l with
  | nil => simp
  | cons a r ih => simp only [List.map_cons, List.sum_cons, List.length_cons]; omega
theorem many_deep (j : J) : manyJ j ≤ bulkJ j ∧ deepJ j ≤ bulkJ j := by
  induction j using J.ind with
  | hn => rw [manyJ, deepJ, bulkJ]; omega
  | hb b => rw [manyJ, deepJ, bulkJ]; omega
  | hi n => rw [manyJ, deepJ, bulkJ]; omega
  | ht s => rw [manyJ, deepJ, bulkJ]; omega
  | hl l ih =>
    rw [manyJ, deepJ, bulkJ]
    have h1 := sum_le_map l manyJ (fun x => bulkJ x + 1) (fun x hx => by have := (ih x hx).1; omega)
    have h2 : maxL (l.map deepJ) ≤ (l.map fun x => bulkJ x + 1).sum := maxL_le (fun x hx => by
      obtain ⟨y, hy, rfl⟩ := List.mem_map.1 hx
      have h3 := (ih y hy).2
      have h4 := le_sum (f := fun x => bulkJ x + 1) hy
      omega)
    omega
  | ho ns l ih =>
    rw [manyJ, deepJ, bulkJ]
    have h1 := sum_le_map l manyJ (fun x => bulkJ x + 1) (fun x hx => by have := (ih x hx).1; omega)
    have h2 : maxL (l.map deepJ) ≤ (l.map fun x => bulkJ x + 1).sum := maxL_le (fun x hx => by
      obtain ⟨y, hy, rfl⟩ := List.mem_map.1 hx
      have h3 := (ih y hy).2
      have h4 := le_sum (f := fun x => bulkJ x + 1) hy
      omega)
    omega
theorem take_many {l : List J} {q : Nat} (hq : q < l.length) : ((l.take (q + 1)).map manyJ).sum = ((l.take q).map manyJ).sum + manyJ l[q] := by
  rw [List.take_succ_eq_append_getElem hq, List.map_append, List.sum_append]; simp
theorem take_deep {l : List J} {q : Nat} (hq : q < l.length) : maxL ((l.take (q + 1)).map deepJ) = max (maxL ((l.take q).map deepJ)) (deepJ l[q]) := by
  rw [List.take_succ_eq_append_getElem hq, List.map_append]; exact maxL_snoc _ _
theorem take_sum_le (l : List J) (q : Nat) : ((l.take q).map manyJ).sum ≤ (l.map manyJ).sum := by
  conv => rhs; rw [← List.take_append_drop q l, List.map_append, List.sum_append]
  omega
theorem take_max_le (l : List J) (q : Nat) : maxL ((l.take q).map deepJ) ≤ maxL (l.map deepJ) := by
  refine maxL_le (fun x hx => ?_)
  obtain ⟨y, hy, rfl⟩ := List.mem_map.1 hx
  have : ∀ (l : List Nat) (x : Nat), x ∈ l → x ≤ maxL l := fun l x h => by
    unfold maxL
    induction l with
    | nil => simp at h
    | cons a r ih =>
      rw [List.foldr_cons]
      rcases List.mem_cons.1 h with rfl | h
      · omega
      · have := ih h; omega
  exact this _ _ (List.mem_map_of_mem (List.mem_of_mem_take hy))
/-- Two numbers. -/
theorem ret_two {a b c d : Int} (h : a = c) (h2 : b = d) : Ending.returned (.tuple #[.int .i64 a, .int .i64 b]) = .returned (.tuple #[.int .i64 c, .int .i64 d]) := by rw [h, h2]
def SizeC (j : J) : Prop := ∀ (F : Nat → Prop) (u : Value) (w : World), PV F w j u → bulkJ j ≤ 16777216 → Calls Tryz.prog 91 #[u] w fun e w' => e = .returned (.tuple #[.int .i64 (manyJ j), .int .i64 (deepJ j)]) ∧ w = w'
set_option maxRecDepth 100000 in
set_option maxHeartbeats 2000000 in
theorem tsize_list (l : List J) (ih : ∀ x ∈ l, SizeC x) : SizeC (.list l) := by
  intro F u w h hb
  obtain ⟨A, c, rfl, hc, hv⟩ := PV_list.1 h
  have hmd := many_deep (.list l)
  rw [manyJ_list, deepJ_list] at hmd
  have hbl := hb
  rw [bulkJ_list] at hbl
  obtain ⟨N, hN⟩ : ∃ N, N = l.length := ⟨_, rfl⟩
  have HN := Lib.hid hN
  have HV := Lib.hid hv
  have HIH : Hid (∀ q (hq : q < l.length) (u : Value), PV F w l[q] u → Calls Tryz.prog 91 #[u] w fun e w' => e = .returned (.tuple #[.int .i64 (manyJ l[q]), .int .i64 (deepJ l[q])]) ∧ w = w') := fun q hq u hp =>
    ih _ (List.getElem_mem hq) F u w hp (by have := le_sum (f := fun x => bulkJ x + 1) (List.getElem_mem hq); omega)
  have hcount := bulk_len l
  have hNs : N ≤ 16777216 := by omega
  have hsm : (l.map manyJ).sum ≤ 16777216 := by omega
  have hsd : maxL (l.map deepJ) ≤ 16777216 := by omega
  rw [← hN, manyJ_list, deepJ_list]
  clear h hb hv hbl hN hc ih hmd hcount
  have a1 := ta_vals_bool (.slice A N c)
  have a2 := ta_vals_int (.slice A N c)
  have a3 := ta_vals_str (.slice A N c)
  have a4 := ta_vals_vals (.slice A N c)
  go_enter Tryz.func91, Tryz.ntmps91
  go_wp2_with fail
  clear a1 a2 a3 a4
  go_loopw [2, 3, 26] (fun m d ix wr => ∃ q : Nat, q ≤ N ∧ ix = .int .i64 (q : Int) ∧ m = .int .i64 ((1 + ((l.take q).map manyJ).sum : Nat) : Int) ∧ d = .int .i64 ((maxL ((l.take q).map deepJ) : Nat) : Int) ∧ w = wr) (fun _ _ ix _ => N - (intOf ix).toNat)
  case atStart => exact ⟨0, Nat.zero_le _, rfl, rfl, rfl, rfl⟩
  case round =>
    obtain ⟨q, hq, rfl, rfl, rfl, rfl⟩ := hrel
    have hq0 : (0 : Int) ≤ (q : Int) := by omega
    by_cases hlt : q < N
    · have hql : q < l.length := by rw [← HN.out]; exact hlt
      obtain ⟨g, off, u, rfl, _, hcell, hp⟩ := HV.out q hql
      have CT := Lib.hid (HIH.out q hql u hp)
      have HT1 := Lib.hid (take_many hql)
      have HT2 := Lib.hid (take_deep hql)
      have hltI : (q : Int) < (N : Int) := by omega
      have B1 := take_sum_le l (q + 1)
      have B2 := take_max_le l (q + 1)
      rw [HT1.out] at B1
      rw [HT2.out] at B2
      clear hp
      generalize hM : ((l.take q).map manyJ).sum = M at *
      generalize hD : maxL ((l.take q).map deepJ) = D at *
      generalize hm : manyJ l[q] = m at *
      generalize hd : deepJ l[q] = d at *
      have B3 : M + m ≤ 16777216 := by omega
      have B4 : D ≤ 16777216 := by omega
      have B5 : d ≤ 16777216 := by omega
      clear B1 B2
      go_wp2_with fail
      refine Calls.mono CT.out ?_
      rintro e w2 ⟨rfl, rfl⟩
      go_wp2_with fail
      go_roundw
      case rel => exact ⟨q + 1, hlt, by go_num, congrArg (Value.int .i64) (by rw [HT1.out]; omega), congrArg (Value.int .i64) (by rw [HT2.out]; first | omega | (split <;> omega)), trivial⟩
      case measure => simp [intOf]; omega
    · have hqN : q = N := by omega
      have HE : Hid (l.take q = l) := List.take_of_length_le (by rw [← HN.out]; omega)
      rw [HE.out]
      generalize hM : (l.map manyJ).sum = M at *
      generalize hD : maxL (l.map deepJ) = D at *
      have bl : decide ((q : Int) < (N : Int)) = false := decide_eq_false (by omega)
      have bl2 : decide (q < N) = false := decide_eq_false hlt
      clear hqN hlt HIH
      go_wp2_with fail
      go_ret2
      exact ⟨ret_two (by omega) (by omega), rfl⟩
theorem manyJ_obj (ns : List Tx) (l : List J) : manyJ (.obj ns l) = 1 + (l.map manyJ).sum := by rw [manyJ]
theorem deepJ_obj (ns : List Tx) (l : List J) : deepJ (.obj ns l) = maxL (l.map deepJ) + 1 := by rw [deepJ]
set_option maxRecDepth 100000 in
set_option maxHeartbeats 2000000 in
theorem tsize_obj (ns : List Tx) (l : List J) (ih : ∀ x ∈ l, SizeC x) : SizeC (.obj ns l) := by
  intro F u w h hb
  obtain ⟨b, rfl, hFb, A0, c0, A, c, hh, _, hc, _, hv⟩ := PV_obj.1 h
  have hmd := many_deep (.obj ns l)
  rw [manyJ_obj, deepJ_obj] at hmd
  have hbl := hb
  rw [bulkJ] at hbl
  obtain ⟨N, hN⟩ : ∃ N, N = l.length := ⟨_, rfl⟩
  have HN := Lib.hid hN
  have HV := Lib.hid hv
  have HIH : Hid (∀ q (hq : q < l.length) (u : Value), PV F w l[q] u → Calls Tryz.prog 91 #[u] w fun e w' => e = .returned (.tuple #[.int .i64 (manyJ l[q]), .int .i64 (deepJ l[q])]) ∧ w = w') := fun q hq u hp =>
    ih _ (List.getElem_mem hq) F u w hp (by have := le_sum (f := fun x => bulkJ x + 1) (List.getElem_mem hq); omega)
  have hcount := bulk_len l
  have hNs : N ≤ 16777216 := by omega
  have hsm : (l.map manyJ).sum ≤ 16777216 := by omega
  have hsd : maxL (l.map deepJ) ≤ 16777216 := by omega
  rw [← hN] at hh
  rw [manyJ_obj, deepJ_obj]
  obtain ⟨N0, hN0⟩ : ∃ n, n = ns.length := ⟨_, rfl⟩
  rw [← hN0] at hh
  have h0 : w.cell? ⟨b, 0, none⟩ = some (.slice A0 N0 c0) := cell_of hh 0
  have h1 : w.cell? ⟨b, 1, none⟩ = some (.slice A N c) := cell_of hh 1
  clear h hb hv hbl hN hc ih hmd hcount hh hN0
  have a1 := ta_obj_bool (.pointer (some ⟨b, 0, none⟩))
  have a2 := ta_obj_int (.pointer (some ⟨b, 0, none⟩))
  have a3 := ta_obj_str (.pointer (some ⟨b, 0, none⟩))
  have a4 := ta_obj_vals (.pointer (some ⟨b, 0, none⟩))
  have a5 := ta_obj_obj (.pointer (some ⟨b, 0, none⟩))
  go_enter Tryz.func91, Tryz.ntmps91
  go_wp2_with fail
  clear a1 a2 a3 a4 a5
  go_loopw [2, 3, 26] (fun m d ix wr => ∃ q : Nat, q ≤ N ∧ ix = .int .i64 (q : Int) ∧ m = .int .i64 ((1 + ((l.take q).map manyJ).sum : Nat) : Int) ∧ d = .int .i64 ((maxL ((l.take q).map deepJ) : Nat) : Int) ∧ w = wr) (fun _ _ ix _ => N - (intOf ix).toNat)
  case atStart => exact ⟨0, Nat.zero_le _, rfl, rfl, rfl, rfl⟩
  case round =>
    obtain ⟨q, hq, rfl, rfl, rfl, rfl⟩ := hrel
    have hq0 : (0 : Int) ≤ (q : Int) := by omega
    by_cases hlt : q < N
    · have hql : q < l.length := by rw [← HN.out]; exact hlt
      obtain ⟨g, off, u, rfl, _, hcell, hp⟩ := HV.out q hql
      have CT := Lib.hid (HIH.out q hql u hp)
      have HT1 := Lib.hid (take_many hql)
      have HT2 := Lib.hid (take_deep hql)
      have hltI : (q : Int) < (N : Int) := by omega
      have B1 := take_sum_le l (q + 1)
      have B2 := take_max_le l (q + 1)
      rw [HT1.out] at B1
      rw [HT2.out] at B2
      clear hp
      generalize hM : ((l.take q).map manyJ).sum = M at *
      generalize hD : maxL ((l.take q).map deepJ) = D at *
      generalize hm : manyJ l[q] = m at *
      generalize hd : deepJ l[q] = d at *
      have B3 : M + m ≤ 16777216 := by omega
      have B4 : D ≤ 16777216 := by omega
      have B5 : d ≤ 16777216 := by omega
      clear B1 B2
      go_wp2_with fail
      refine Calls.mono CT.out ?_
      rintro e w2 ⟨rfl, rfl⟩
      go_wp2_with fail
      go_roundw
      case rel => exact ⟨q + 1, hlt, by go_num, congrArg (Value.int .i64) (by rw [HT1.out]; omega), congrArg (Value.int .i64) (by rw [HT2.out]; first | omega | (split <;> omega)), trivial⟩
      case measure => simp [intOf]; omega
    · have hqN : q = N := by omega
      have HE : Hid (l.take q = l) := List.take_of_length_le (by rw [← HN.out]; omega)
      rw [HE.out]
      generalize hM : (l.map manyJ).sum = M at *
      generalize hD : maxL (l.map deepJ) = D at *
      have bl : decide ((q : Int) < (N : Int)) = false := decide_eq_false (by omega)
      have bl2 : decide (q < N) = false := decide_eq_false hlt
      clear hqN hlt HIH
      go_wp2_with fail
      go_ret2
      exact ⟨ret_two (by omega) (by omega), rfl⟩
set_option maxRecDepth 100000 in
set_option maxHeartbeats 2000000 in
/-- Size of any value. -/
theorem size_val (j : J) : SizeC j := by
  induction j using J.ind with
  | hn =>
    intro F u w h _
    obtain rfl := PV_null.1 h
    have a1 := ta_nil_vals
    have a2 := ta_nil_obj
    go_enter Tryz.func91, Tryz.ntmps91
    go_wp2_with fail
    go_ret2
    exact ⟨ret_two (by rw [manyJ]; rfl) (by rw [deepJ]; rfl), rfl⟩
  | hb b =>
    intro F u w h _
    obtain rfl := PV_bool.1 h
    have a1 := ta_bool_vals (.bool b)
    have a2 := ta_bool_obj (.bool b)
    have HM : Hid ((1 : Int) = (manyJ (.bool b) : Int)) := by unfold Hid; rw [manyJ]; rfl
    have HD : Hid ((0 : Int) = (deepJ (.bool b) : Int)) := by unfold Hid; rw [deepJ]; rfl
    clear h
    go_enter Tryz.func91, Tryz.ntmps91
    go_wp2_with fail
    go_ret2
    exact ⟨ret_two HM.out HD.out, rfl⟩
  | hi n =>
    intro F u w h _
    obtain ⟨rfl, _⟩ := PV_num.1 h
    have a1 := ta_int_vals (.int .i64 n)
    have a2 := ta_int_obj (.int .i64 n)
    have HM : Hid ((1 : Int) = (manyJ (.num n) : Int)) := by unfold Hid; rw [manyJ]; rfl
    have HD : Hid ((0 : Int) = (deepJ (.num n) : Int)) := by unfold Hid; rw [deepJ]; rfl
    clear h
    go_enter Tryz.func91, Tryz.ntmps91
    go_wp2_with fail
    go_ret2
    exact ⟨ret_two HM.out HD.out, rfl⟩
  | ht s =>
    intro F u w h _
    obtain rfl := PV_text.1 h
    obtain ⟨sx, hsx⟩ : ∃ sx, sx = bx s := ⟨_, rfl⟩
    rw [← hsx]
    have a1 := ta_str_vals (.string sx)
    have a2 := ta_str_obj (.string sx)
    have HM : Hid ((1 : Int) = (manyJ (.text s) : Int)) := by unfold Hid; rw [manyJ]; rfl
    have HD : Hid ((0 : Int) = (deepJ (.text s) : Int)) := by unfold Hid; rw [deepJ]; rfl
    clear h hsx
    go_enter Tryz.func91, Tryz.ntmps91
    go_wp2_with fail
    go_ret2
    exact ⟨ret_two HM.out HD.out, rfl⟩
  | hl l ih => exact tsize_list l ih
  | ho ns l ih => exact tsize_obj ns l ih
end Go.Proofs.YtnccefeehkcneaaGreatDoor.Jm
namespace Go.Proofs.YtnccefeehkcneaaGreatDoor.Jm
open Go Go.RowKit Go.Proofs.YtnccefeehkcneaaGreatDoor.Sx Go.Proofs.YtnccefeehkcneaaGreatDoor.Js
def RSizeC (j : J) : Prop := ∀ (F : Nat → Prop) (cs : List Value) (w : World), RV F w j cs → bulkJ j ≤ 16777216 → Calls Tryz.prog 94 #[.agg cs.toArray] w fun e w' => e = .returned (.tuple #[.int .i64 (manyJ j), .int .i64 (deepJ j)]) ∧ Ext w w'
set_option maxRecDepth 100000 in
set_option maxHeartbeats 4000000 in
theorem rsize_core (F : Nat → Prop) (w : World) (l : List J) (ih : ∀ x ∈ l, RSizeC x) (K : Int) (B0 : Bool) (z0 : Int) (s0 : ByteArray) (A0 : Option Addr) (m0 k0 : Nat) (A : Option Addr) (c d1 : Nat) (hK : (K = 5 ∨ K = 6) ∧ d1 = 1 ∨ (K = 0 ∨ K = 1 ∨ K = 2 ∨ K = 3 ∨ K = 4) ∧ d1 = 0) (hv : RValsAt F w A l) (hb : (l.map fun x => bulkJ x + 1).sum ≤ 16777216) :
    Calls Tryz.prog 94 #[.agg #[.int .i64 K, .bool B0, .int .i64 z0, .string s0, .slice A0 m0 k0, .slice A l.length c]] w fun e w' => e = .returned (.tuple #[.int .i64 ((1 + (l.map manyJ).sum : Nat) : Int), .int .i64 ((maxL (l.map deepJ) + d1 : Nat) : Int)]) ∧ Ext w w' := by
  obtain ⟨N, hN⟩ : ∃ N, N = l.length := ⟨_, rfl⟩
  have HN := Lib.hid hN
  have HV := Lib.hid hv
  have HK := Lib.hid hK
  have HIH : Hid (∀ q (hq : q < l.length) (W : World) (u : List Value), Ext w W → RV F w l[q] u → Calls Tryz.prog 94 #[.agg u.toArray] W fun e w' => e = .returned (.tuple #[.int .i64 (manyJ l[q]), .int .i64 (deepJ l[q])]) ∧ Ext W w') := fun q hq W u hx hp =>
    ih _ (List.getElem_mem hq) F u W (hp.ext hx) (by have := le_sum (f := fun x => bulkJ x + 1) (List.getElem_mem hq); omega)
  have hcount := bulk_len l
  have hNs : N ≤ 16777216 := by omega
  have hsm : (l.map manyJ).sum ≤ 16777216 := by
    have := sum_le_map l manyJ (fun x => bulkJ x + 1) (fun x _ => by have := (many_deep x).1; omega)
    omega
  have hsd : maxL (l.map deepJ) ≤ 16777216 := maxL_le (fun x hx => by
    obtain ⟨y, hy, rfl⟩ := List.mem_map.1 hx
    have h3 := (many_deep y).2
    have h4 := le_sum (f := fun x => bulkJ x + 1) hy
    omega)
  obtain ⟨g, hg⟩ : ∃ g, g = w.heap.size := ⟨_, rfl⟩
  obtain ⟨w1, hw1⟩ : ∃ w1, w1 = w.alloc (.cells #[.int .i64 K, .bool B0, .int .i64 z0, .string s0, .slice A0 m0 k0, .slice A N c] vT (0, 0)) := ⟨_, rfl⟩
  have HX1 : Hid (Ext w w1) := by rw [hw1]; exact new_ext _ _
  have HV1 : Hid (VIn w1 g K B0 z0 s0 (.slice A0 m0 k0) (.slice A N c)) := by rw [hw1]; exact heap_new hg
  rw [← hN]
  clear hb hv hcount hN ih hK
  go_enter Tryz.func94, Tryz.ntmps94
  go_upto_region 1 with (fail)
  rw [← hw1, ← hg]
  clear hw1 hg
  obtain ⟨c0, c1, c2, c3, c4, c5⟩ := HV1.out.cells
  go_wp2_with fail
  clear c0 c1 c2 c3 c4 c5
  go_loopw [4, 5, 13] (fun m d ix wr => ∃ q : Nat, q ≤ N ∧ ix = .int .i64 (q : Int) ∧ m = .int .i64 ((1 + ((l.take q).map manyJ).sum : Nat) : Int) ∧ d = .int .i64 ((maxL ((l.take q).map deepJ) : Nat) : Int) ∧ Hid (Ext w1 wr)) (fun _ _ ix _ => N - (intOf ix).toNat)
  case atStart => exact ⟨0, Nat.zero_le _, rfl, rfl, rfl, Below.refl _ _⟩
  case round =>
    obtain ⟨q, hq, rfl, rfl, rfl, hR⟩ := hrel
    have hq0 : (0 : Int) ≤ (q : Int) := by omega
    by_cases hlt : q < N
    · have hql : q < l.length := by rw [← HN.out]; exact hlt
      obtain ⟨gb, ob, u, rfl, -, -, hu, hrv⟩ := HV.out q hql
      obtain ⟨K2, Bb, z, sv, A3, m3, k3, A4, m4, k4, rfl⟩ := RV.shape hrv
      have hxr := HX1.out.trans hR.out
      have hk : ∀ k x, (v6 K2 Bb z sv (.slice A3 m3 k3) (.slice A4 m4 k4))[k]? = some x → wr.cell? ⟨gb, ob + q * 6 + k, none⟩ = some x := fun k x h => (cell_keep (hxr.block gb (cell_lt (hu k x h)))).trans (hu k x h)
      have e0 := hk 0 _ rfl
      have e1 := hk 1 _ rfl
      have e2 := hk 2 _ rfl
      have e3 := hk 3 _ rfl
      have e4 := hk 4 _ rfl
      have e5 := hk 5 _ rfl
      rw [Nat.add_zero] at e0
      have HT1 := Lib.hid (take_many hql)
      have HT2 := Lib.hid (take_deep hql)
      have hltI : (q : Int) < (N : Int) := by omega
      have B1 := take_sum_le l (q + 1)
      have B2 := take_max_le l (q + 1)
      rw [HT1.out] at B1
      rw [HT2.out] at B2
      have CT : Hid (∀ W, Ext w W → Calls Tryz.prog 94 #[.agg #[.int .i64 K2, .bool Bb, .int .i64 z, .string sv, .slice A3 m3 k3, .slice A4 m4 k4]] W fun e w' => e = .returned (.tuple #[.int .i64 (manyJ l[q]), .int .i64 (deepJ l[q])]) ∧ Ext W w') := fun W hx => HIH.out q hql W _ hx hrv
      have HXR := Lib.hid hxr
      clear hu hrv hk hxr HIH
      generalize hM : ((l.take q).map manyJ).sum = M at *
      generalize hD : maxL ((l.take q).map deepJ) = D at *
      generalize hm : manyJ l[q] = m at *
      generalize hd : deepJ l[q] = d at *
      have B3 : M + m ≤ 16777216 := by omega
      have B4 : D ≤ 16777216 := by omega
      have B5 : d ≤ 16777216 := by omega
      clear B1 B2
      go_upto_region 5 with (fail)
      obtain ⟨t5, ht5⟩ : ∃ t5, t5 = wr.heap.size := ⟨_, rfl⟩
      rw [← ht5]
      generalize hW : World.alloc wr _ = w2
      have HX2 : Hid (Ext wr w2) := by rw [← hW]; exact new_ext _ _
      have HU2 : Hid (VIn w2 t5 K2 Bb z sv (.slice A3 m3 k3) (.slice A4 m4 k4)) := by rw [← hW]; exact heap_new ht5
      clear hW ht5 e0 e1 e2 e3 e4 e5
      obtain ⟨e0, e1, e2, e3, e4, e5⟩ := HU2.out.cells
      go_wp2_with fail
      refine Calls.mono (CT.out w2 (HXR.out.trans HX2.out)) ?_
      rintro e w3 ⟨rfl, x3⟩
      have X3 := Lib.hid (hR.out.trans (HX2.out.trans x3))
      clear x3
      go_wp2_with fail
      go_roundw
      case rel => exact ⟨q + 1, hlt, by go_num, congrArg (Value.int .i64) (by rw [HT1.out]; omega), congrArg (Value.int .i64) (by rw [HT2.out]; omega), X3.out⟩
      case measure => simp [intOf]; omega
    · have hqN : q = N := by omega
      have HE : Hid (l.take q = l) := List.take_of_length_le (by rw [← HN.out]; omega)
      rw [HE.out]
      generalize hM : (l.map manyJ).sum = M at *
      generalize hD : maxL (l.map deepJ) = D at *
      have bl : decide ((q : Int) < (N : Int)) = false := decide_eq_false (by omega)
      have bl2 : decide (q < N) = false := decide_eq_false hlt
      have HX := Lib.hid (HX1.out.trans hR.out)
      clear hqN hlt HIH
      obtain ⟨c0, c1, c2, c3, c4, c5⟩ := (HV1.out.ext hR.out).cells
      rcases HK.out with ⟨rfl | rfl, rfl⟩ | ⟨rfl | rfl | rfl | rfl | rfl, rfl⟩ <;>
      · go_wp2_with fail
        go_ret2
        exact ⟨ret_two (by omega) (by omega), HX.out⟩
theorem rsize_val (j : J) : RSizeC j := by
  induction j using J.ind with
  | hn => intro F cs w h _; obtain rfl := RV_null.1 h; rw [manyJ, deepJ]; exact rsize_core F w [] (by simp) 1 _ _ _ _ _ _ none 0 0 (by simp) (fun i hi => absurd hi (Nat.not_lt_zero _)) (by simp)
  | hb b => intro F cs w h _; obtain rfl := RV_bool.1 h; rw [manyJ, deepJ]; exact rsize_core F w [] (by simp) 2 _ _ _ _ _ _ none 0 0 (by simp) (fun i hi => absurd hi (Nat.not_lt_zero _)) (by simp)
  | hi n => intro F cs w h _; obtain ⟨rfl, _⟩ := RV_num.1 h; rw [manyJ, deepJ]; exact rsize_core F w [] (by simp) 3 _ _ _ _ _ _ none 0 0 (by simp) (fun i hi => absurd hi (Nat.not_lt_zero _)) (by simp)
  | ht s => intro F cs w h _; obtain rfl := RV_text.1 h; rw [manyJ, deepJ]; exact rsize_core F w [] (by simp) 4 _ _ _ _ _ _ none 0 0 (by simp) (fun i hi => absurd hi (Nat.not_lt_zero _)) (by simp)
  | hl l ih =>
    intro F cs w h hb
    obtain ⟨A, c, rfl, _, hv⟩ := RV_list.1 h
    rw [bulkJ] at hb
    rw [manyJ_list, deepJ_list]
    exact rsize_core F w l ih 5 _ _ _ _ _ _ A c 1 (by simp) hv (by omega)
  | ho ns l ih =>
    intro F cs w h hb
    obtain ⟨A, c, B, d, rfl, _, _, _, hv⟩ := RV_obj.1 h
    rw [bulkJ] at hb
    rw [manyJ_obj, deepJ_obj]
    exact rsize_core F w l ih 6 _ _ _ _ _ _ B d 1 (by simp) hv (by omega)
end Go.Proofs.YtnccefeehkcneaaGreatDoor.Jm
namespace Go.Proofs.YtnccefeehkcneaaGreatDoor.Jm
open Go Go.RowKit Go.Proofs.YtnccefeehkcneaaGreatDoor.Sx Go.Proofs.YtnccefeehkcneaaGreatDoor.Js
theorem bx_toList_inj {a b : Tx} (h : (bx a).toList = (bx b).toList) : a = b := by
  rw [bx_list, bx_list] at h
  exact h
set_option maxRecDepth 100000 in
set_option maxHeartbeats 2000000 in
theorem eq_names {F F' : Nat → Prop} {w : World} {A A' : Option Addr} {c c' : Nat} {ns ns' : List Tx} (h : NamesAt F w A ns) (h' : NamesAt F' w A' ns') (hz : ns.length ≤ 16777216) :
    Calls Tryz.prog 19 #[.slice A ns.length c, .slice A' ns'.length c'] w fun e w' => ∃ b, e = .returned (.bool b) ∧ (b = true ↔ ns = ns') ∧ w = w' := by
  obtain ⟨N, hN⟩ : ∃ N, N = ns.length := ⟨_, rfl⟩
  obtain ⟨M, hM⟩ : ∃ M, M = ns'.length := ⟨_, rfl⟩
  have HN := Lib.hid hN
  have HM := Lib.hid hM
  have H1 := Lib.hid h
  have H2 := Lib.hid h'
  have hNs : N ≤ 16777216 := by omega
  rw [← hN, ← hM]
  clear h h' hz hN hM
  by_cases hl : N = M
  · subst hl
    have b0 : ((N : Int) != (N : Int)) = false := by simp
    go_enter Tryz.func19, Tryz.ntmps19
    go_wp2_with fail
    go_loopw [14] (fun k wr => ∃ q : Nat, q ≤ N ∧ k = .int .i64 (q : Int) ∧ Hid (ns.take q = ns'.take q) ∧ w = wr) (fun k _ => N - (intOf k).toNat)
    case atStart => exact ⟨0, Nat.zero_le _, rfl, rfl, rfl⟩
    case round =>
      obtain ⟨q, hq, rfl, hT, rfl⟩ := hrel
      have hq0 : (0 : Int) ≤ (q : Int) := by omega
      by_cases hlt : q < N
      · have hq1 : q < ns.length := by rw [← HN.out]; exact hlt
        have hq2 : q < ns'.length := by rw [← HM.out]; exact hlt
        obtain ⟨g, off, rfl, _, e1⟩ := H1.out q hq1
        obtain ⟨g', off', rfl, _, e2⟩ := H2.out q hq2
        have hltI : (q : Int) < (N : Int) := by omega
        have HTQ : Hid (ns.take (q + 1) = ns'.take (q + 1) ↔ ns[q] = ns'[q]) := by
          unfold Hid
          rw [List.take_succ_eq_append_getElem hq1, List.take_succ_eq_append_getElem hq2, hT.out]
          exact ⟨fun h => by have := List.append_cancel_left h; simpa using this, fun h => by rw [h]⟩
        have HNE : Hid (ns = ns' → ns[q] = ns'[q]) := fun e => by subst e; rfl
        obtain ⟨x, hx⟩ : ∃ x, x = bx ns[q] := ⟨_, rfl⟩
        obtain ⟨y, hy⟩ : ∃ y, y = bx ns'[q] := ⟨_, rfl⟩
        rw [← hx] at e1
        rw [← hy] at e2
        by_cases hxy : ns[q] = ns'[q]
        · have hyx : y = x := by rw [hx, hy, hxy]
          subst hyx
          have b1 : (y.toList != y.toList) = false := by simp
          have HT2 := Lib.hid (HTQ.out.2 hxy)
          clear hx hy hxy
          go_wp2_with fail
          exact ⟨⟨q + 1, hlt, by simp, HT2, trivial⟩, by simp [intOf]; omega⟩
        · have b1 : (x.toList != y.toList) = true := by
            rw [bne_iff_ne]
            intro e
            rw [hx, hy] at e
            exact hxy (bx_toList_inj e)
          have b2 : (x.toList == y.toList) = false := by simpa using b1
          have b3 : x ≠ y := fun e => by rw [e] at b1; simp at b1
          have HF : Hid (¬ ns = ns') := fun e => hxy (HNE.out e)
          clear hx hy hxy
          go_wp2_with fail
          go_ret
          exact ⟨false, rfl, by simp [HF.out], rfl⟩
      · have HE : Hid (ns = ns') := by
          have h := hT.out
          have a1 := HN.out
          have a2 := HM.out
          rw [List.take_of_length_le (by omega), List.take_of_length_le (by omega)] at h
          exact h
        have bl : decide ((q : Int) < (N : Int)) = false := decide_eq_false (by omega)
        have bl2 : decide (q < N) = false := decide_eq_false hlt
        clear hlt
        go_wp2_with fail
        go_ret
        exact ⟨true, rfl, by simp [HE.out], rfl⟩
  · have b0 : ((N : Int) != (M : Int)) = true := by rw [bne_iff_ne]; omega
    have b1 : (N != M) = true := by rw [bne_iff_ne]; exact hl
    have HF : Hid (¬ ns = ns') := fun e => hl (by rw [HN.out, HM.out, e])
    clear hl
    go_enter Tryz.func19, Tryz.ntmps19
    go_wp2_with fail
    go_ret
    exact ⟨false, rfl, by simp [HF.out], rfl⟩
end Go.Proofs.YtnccefeehkcneaaGreatDoor.Jm
namespace Go.Proofs.YtnccefeehkcneaaGreatDoor.Jm
open Go Go.RowKit Go.Proofs.YtnccefeehkcneaaGreatDoor.Sx Go.Proofs.YtnccefeehkcneaaGreatDoor.Js
def boolJ : J → Bool
  | .bool b => b
  | _ => false
def numJ : J → Int
  | .num n => n
  | _ => 0
def txtJ : J → Tx
  | .text s => s
  | _ => []
def namesJ : J → List Tx
  | .obj ns _ => ns
  | _ => []
def kidsJ : J → List J
  | .list l => l
  | .obj _ l => l
  | _ => []
theorem RV.parts {F : Nat → Prop} {w : World} {j : J} {cs : List Value} (h : RV F w j cs) :
    ∃ A c B d, cs = v6 (kindJ j) (boolJ j) (numJ j) (bx (txtJ j)) (.slice A (namesJ j).length c) (.slice B (kidsJ j).length d) ∧ NamesAt F w A (namesJ j) ∧ RValsAt F w B (kidsJ j) := by
  have nn : ∀ A, NamesAt F w A [] := fun _ i hi => absurd hi (Nat.not_lt_zero _)
  have nv : ∀ A, RValsAt F w A [] := fun _ i hi => absurd hi (Nat.not_lt_zero _)
  cases j with
  | null => exact ⟨none, 0, none, 0, RV_null.1 h, nn _, nv _⟩
  | bool b => exact ⟨none, 0, none, 0, RV_bool.1 h, nn _, nv _⟩
  | num n => exact ⟨none, 0, none, 0, (RV_num.1 h).1, nn _, nv _⟩
  | text s => exact ⟨none, 0, none, 0, RV_text.1 h, nn _, nv _⟩
  | list l => obtain ⟨A, c, e, _, hv⟩ := RV_list.1 h; exact ⟨none, 0, A, c, e, nn _, hv⟩
  | obj ns l => obtain ⟨A, c, B, d, e, _, _, hn, hv⟩ := RV_obj.1 h; exact ⟨A, c, B, d, e, hn, hv⟩
theorem kids_size {j x : J} (h : x ∈ kidsJ j) : SizeOf.sizeOf x < SizeOf.sizeOf j := by
  cases j with
  | list l => have := List.sizeOf_lt_of_mem h; rw [J.list.sizeOf_spec]; simp only [kidsJ] at this; omega
  | obj ns l => have := List.sizeOf_lt_of_mem h; rw [J.obj.sizeOf_spec]; simp only [kidsJ] at this; omega
  | _ => simp [kidsJ] at h
theorem kids_bulk {j x : J} (h : x ∈ kidsJ j) : bulkJ x ≤ bulkJ j := by
  cases j with
  | list l => rw [bulkJ]; have := le_sum (f := fun x => bulkJ x + 1) h; simp only [kidsJ] at this; omega
  | obj ns l => rw [bulkJ]; have := le_sum (f := fun x => bulkJ x + 1) h; simp only [kidsJ] at this; omega
  | _ => simp [kidsJ] at h
theorem namesB_len (ns : List Tx) : ns.length ≤ namesB ns := by
  unfold namesB
  induction ns with
  | nil => simp
  | cons a r ih => simp only [List.map_cons, List.sum_cons, List.length_cons]; omega
theorem parts_few (j : J) : (namesJ j).length ≤ bulkJ j ∧ (kidsJ j).length ≤ bulkJ j := by
  cases j with
  | list l => rw [bulkJ]; have := bulk_len l; simp only [kidsJ, namesJ, List.length_nil]; omega
  | obj ns l => rw [bulkJ]; have := bulk_len l; have := namesB_len ns; simp only [kidsJ, namesJ]; omega
  | _ => simp [kidsJ, namesJ]
end Go.Proofs.YtnccefeehkcneaaGreatDoor.Jm
