/-
  Type assertions of values, kind against kind (printed by gen/tas.py).
  Kind and Size of the program's values.
  Size of the reference's values.
  The reference's Eq of rows of names: are they the same?.
  The reference's Same of two values.
-/
import Derived.Test.YtnccefeehkcneaaGreatDoorJm0
import Derived.Test.YtnccefeehkcneaaGreatDoorJqe
namespace Go.Proofs.YtnccefeehkcneaaGreatDoor.Jm
open Go Go.RowKit
theorem ta_nil_bool (w : World) : (Instr.typeAssert .nilIface valT 4 true).run Tryz.prog w = .ok (.tuple #[.bool false, .bool false]) w := by kernel_rfl
theorem ta_nil_int (w : World) : (Instr.typeAssert .nilIface valT 2 true).run Tryz.prog w = .ok (.tuple #[.int .i64 0, .bool false]) w := by kernel_rfl
theorem ta_nil_str (w : World) : (Instr.typeAssert .nilIface valT 9 true).run Tryz.prog w = .ok (.tuple #[.string ⟨#[]⟩, .bool false]) w := by kernel_rfl
theorem ta_nil_vals (w : World) : (Instr.typeAssert .nilIface valT valsT true).run Tryz.prog w = .ok (.tuple #[.slice none 0 0, .bool false]) w := by kernel_rfl
theorem ta_nil_obj (w : World) : (Instr.typeAssert .nilIface valT objPT true).run Tryz.prog w = .ok (.tuple #[.pointer none, .bool false]) w := by kernel_rfl
theorem ta_bool_bool (x : Value) (w : World) : (Instr.typeAssert (.iface 4 x) valT 4 true).run Tryz.prog w = .ok (.tuple #[x, .bool true]) w := by kernel_rfl
theorem ta_bool_int (x : Value) (w : World) : (Instr.typeAssert (.iface 4 x) valT 2 true).run Tryz.prog w = .ok (.tuple #[.int .i64 0, .bool false]) w := by kernel_rfl
theorem ta_bool_str (x : Value) (w : World) : (Instr.typeAssert (.iface 4 x) valT 9 true).run Tryz.prog w = .ok (.tuple #[.string ⟨#[]⟩, .bool false]) w := by kernel_rfl
theorem ta_bool_vals (x : Value) (w : World) : (Instr.typeAssert (.iface 4 x) valT valsT true).run Tryz.prog w = .ok (.tuple #[.slice none 0 0, .bool false]) w := by kernel_rfl
theorem ta_bool_obj (x : Value) (w : World) : (Instr.typeAssert (.iface 4 x) valT objPT true).run Tryz.prog w = .ok (.tuple #[.pointer none, .bool false]) w := by kernel_rfl
theorem ta_int_bool (x : Value) (w : World) : (Instr.typeAssert (.iface 2 x) valT 4 true).run Tryz.prog w = .ok (.tuple #[.bool false, .bool false]) w := by kernel_rfl
theorem ta_int_int (x : Value) (w : World) : (Instr.typeAssert (.iface 2 x) valT 2 true).run Tryz.prog w = .ok (.tuple #[x, .bool true]) w := by kernel_rfl
theorem ta_str_bool (x : Value) (w : World) : (Instr.typeAssert (.iface 9 x) valT 4 true).run Tryz.prog w = .ok (.tuple #[.bool false, .bool false]) w := by kernel_rfl
theorem ta_str_int (x : Value) (w : World) : (Instr.typeAssert (.iface 9 x) valT 2 true).run Tryz.prog w = .ok (.tuple #[.int .i64 0, .bool false]) w := by kernel_rfl
theorem ta_str_str (x : Value) (w : World) : (Instr.typeAssert (.iface 9 x) valT 9 true).run Tryz.prog w = .ok (.tuple #[x, .bool true]) w := by kernel_rfl
theorem ta_vals_bool (x : Value) (w : World) : (Instr.typeAssert (.iface valsT x) valT 4 true).run Tryz.prog w = .ok (.tuple #[.bool false, .bool false]) w := by kernel_rfl
theorem ta_vals_int (x : Value) (w : World) : (Instr.typeAssert (.iface valsT x) valT 2 true).run Tryz.prog w = .ok (.tuple #[.int .i64 0, .bool false]) w := by kernel_rfl
theorem ta_vals_str (x : Value) (w : World) : (Instr.typeAssert (.iface valsT x) valT 9 true).run Tryz.prog w = .ok (.tuple #[.string ⟨#[]⟩, .bool false]) w := by kernel_rfl
theorem ta_vals_vals (x : Value) (w : World) : (Instr.typeAssert (.iface valsT x) valT valsT true).run Tryz.prog w = .ok (.tuple #[x, .bool true]) w := by kernel_rfl
theorem ta_obj_bool (x : Value) (w : World) : (Instr.typeAssert (.iface objPT x) valT 4 true).run Tryz.prog w = .ok (.tuple #[.bool false, .bool false]) w := by kernel_rfl
theorem ta_obj_int (x : Value) (w : World) : (Instr.typeAssert (.iface objPT x) valT 2 true).run Tryz.prog w = .ok (.tuple #[.int .i64 0, .bool false]) w := by kernel_rfl
theorem ta_obj_str (x : Value) (w : World) : (Instr.typeAssert (.iface objPT x) valT 9 true).run Tryz.prog w = .ok (.tuple #[.string ⟨#[]⟩, .bool false]) w := by kernel_rfl
theorem ta_obj_vals (x : Value) (w : World) : (Instr.typeAssert (.iface objPT x) valT valsT true).run Tryz.prog w = .ok (.tuple #[.slice none 0 0, .bool false]) w := by kernel_rfl
theorem ta_obj_obj (x : Value) (w : World) : (Instr.typeAssert (.iface objPT x) valT objPT true).run Tryz.prog w = .ok (.tuple #[x, .bool true]) w := by kernel_rfl
end Go.Proofs.YtnccefeehkcneaaGreatDoor.Jm
namespace Go.Proofs.YtnccefeehkcneaaGreatDoor.Jm
open Go Go.RowKit Go.Proofs.YtnccefeehkcneaaGreatDoor.Sx Go.Proofs.YtnccefeehkcneaaGreatDoor.Js
theorem le_sum {l : List J} {f : J → Nat} {x : J} (h : x ∈ l) : f x ≤ (l.map f).sum := by
  induction l with
  | nil => simp at h
  | cons a r ih =>
    simp only [List.map_cons, List.sum_cons]
    rcases List.mem_cons.1 h with rfl | h
    · omega
    · have := ih h; omega
theorem bulk_len (l : List J) : l.length ≤ (l.map fun x => bulkJ x + 1).sum := by
  induction l with
  | nil => simp
  | cons a r ih => simp only [List.map_cons, List.sum_cons, List.length_cons]; omega
set_option maxRecDepth 100000 in
set_option maxHeartbeats 2000000 in
/-- Kind of any value. -/
theorem kind_val (F : Nat → Prop) (u : Value) (w : World) (j : J) (h : PV F w j u) : Calls Tryz.prog 68 #[u] w fun e w' => e = .returned (.int .i64 (kindJ j)) ∧ w = w' := by
  cases j with
  | null =>
    obtain rfl := PV_null.1 h
    have a1 := ta_nil_bool
    have a2 := ta_nil_int
    have a3 := ta_nil_str
    have a4 := ta_nil_vals
    have a5 := ta_nil_obj
    go_enter Tryz.func68, Tryz.ntmps68
    go_wp2_with fail
    go_ret
    exact ⟨rfl, rfl⟩
  | bool b =>
    obtain rfl := PV_bool.1 h
    have a1 := ta_bool_bool (.bool b)
    clear h
    go_enter Tryz.func68, Tryz.ntmps68
    go_wp2_with fail
    go_ret
    exact ⟨rfl, rfl⟩
  | num n =>
    obtain ⟨rfl, _⟩ := PV_num.1 h
    have a1 := ta_int_bool (.int .i64 n)
    have a2 := ta_int_int (.int .i64 n)
    clear h
    go_enter Tryz.func68, Tryz.ntmps68
    go_wp2_with fail
    go_ret
    exact ⟨rfl, rfl⟩
  | text s =>
    obtain rfl := PV_text.1 h
    obtain ⟨sx, hsx⟩ : ∃ sx, sx = bx s := ⟨_, rfl⟩
    rw [← hsx]
    have a1 := ta_str_bool (.string sx)
    have a2 := ta_str_int (.string sx)
    have a3 := ta_str_str (.string sx)
    clear h hsx
    go_enter Tryz.func68, Tryz.ntmps68
    go_wp2_with fail
    go_ret
    exact ⟨rfl, rfl⟩
  | list l =>
    obtain ⟨A, c, rfl, _, _⟩ := PV_list.1 h
    obtain ⟨N, hN⟩ : ∃ N, N = l.length := ⟨_, rfl⟩
    rw [← hN]
    have a1 := ta_vals_bool (.slice A N c)
    have a2 := ta_vals_int (.slice A N c)
    have a3 := ta_vals_str (.slice A N c)
    have a4 := ta_vals_vals (.slice A N c)
    clear h hN
    go_enter Tryz.func68, Tryz.ntmps68
    go_wp2_with fail
    go_ret
    exact ⟨rfl, rfl⟩
  | obj ns l =>
    obtain ⟨b, rfl, _⟩ := PV_obj.1 h
    have a1 := ta_obj_bool (.pointer (some ⟨b, 0, none⟩))
    have a2 := ta_obj_int (.pointer (some ⟨b, 0, none⟩))
    have a3 := ta_obj_str (.pointer (some ⟨b, 0, none⟩))
    have a4 := ta_obj_vals (.pointer (some ⟨b, 0, none⟩))
    have a5 := ta_obj_obj (.pointer (some ⟨b, 0, none⟩))
    clear h
    go_enter Tryz.func68, Tryz.ntmps68
    go_wp2_with fail
    go_ret
    exact ⟨rfl, rfl⟩
end Go.Proofs.YtnccefeehkcneaaGreatDoor.Jm
namespace Go.Proofs.YtnccefeehkcneaaGreatDoor.Jm
open Go Go.RowKit Go.Proofs.YtnccefeehkcneaaGreatDoor.Sx Go.Proofs.YtnccefeehkcneaaGreatDoor.Js
theorem bx_toList_inj {a b : Tx} (h : (bx a).toList = (bx b).toList) : a = b := by
  rw [bx_list, bx_list] at h
  exact h
set_option maxRecDepth 100000 in
set_option maxHeartbeats 2000000 in
theorem eq_names {F F' : Nat → Prop} {w : World} {A A' : Option Addr} {c c' : Nat} {ns ns' : List Tx} (h : NamesAt F w A ns) (h' : NamesAt F' w A' ns') (hz : ns.length ≤ 16777216) :
    Calls Tryz.prog 19 #[.slice A ns.length c, .slice A' ns'.length c'] w fun e w' => ∃ b, e = .returned (.bool b) ∧ (b = true ↔ ns = ns') ∧ w = w' := by
  obtain ⟨N, hN⟩ : ∃ N, N = ns.length := ⟨_, rfl⟩
  obtain ⟨M, hM⟩ : ∃ M, M = ns'.length := ⟨_, rfl⟩
  have HN := Lib.hid hN
  have HM := Lib.hid hM
  have H1 := Lib.hid h
  have H2 := Lib.hid h'
  have hNs : N ≤ 16777216 := by omega
  rw [← hN, ← hM]
  clear h h' hz hN hM
  by_cases hl : N = M
  · subst hl
    have b0 : ((N : Int) != (N : Int)) = false := by simp
    go_enter Tryz.func19, Tryz.ntmps19
    go_wp2_with fail
    go_loopw [14] (fun k wr => ∃ q : Nat, q ≤ N ∧ k = .int .i64 (q : Int) ∧ Hid (ns.take q = ns'.take q) ∧ w = wr) (fun k _ => N - (intOf k).toNat)
    case atStart => exact ⟨0, Nat.zero_le _, rfl, rfl, rfl⟩
    case round =>
      obtain ⟨q, hq, rfl, hT, rfl⟩ := hrel
      have hq0 : (0 : Int) ≤ (q : Int) := by omega
      by_cases hlt : q < N
      · have hq1 : q < ns.length := by rw [← HN.out]; exact hlt
        have hq2 : q < ns'.length := by rw [← HM.out]; exact hlt
        obtain ⟨g, off, rfl, _, e1⟩ := H1.out q hq1
        obtain ⟨g', off', rfl, _, e2⟩ := H2.out q hq2
        have hltI : (q : Int) < (N : Int) := by omega
        have HTQ : Hid (ns.take (q + 1) = ns'.take (q + 1) ↔ ns[q] = ns'[q]) := by
          unfold Hid
          rw [List.take_succ_eq_append_getElem hq1, List.take_succ_eq_append_getElem hq2, hT.out]
          exact ⟨fun h => by have := List.append_cancel_left h; simpa using this, fun h => by rw [h]⟩
        have HNE : Hid (ns = ns' → ns[q] = ns'[q]) := fun e => by subst e; rfl
        obtain ⟨x, hx⟩ : ∃ x, x = bx ns[q] := ⟨_, rfl⟩
        obtain ⟨y, hy⟩ : ∃ y, y = bx ns'[q] := ⟨_, rfl⟩
        rw [← hx] at e1
        rw [← hy] at e2
        by_cases hxy : ns[q] = ns'[q]
        · have hyx : y = x := by rw [hx, hy, hxy]
          subst hyx
          have b1 : (y.toList != y.toList) = false := by simp
          have HT2 := Lib.hid (HTQ.out.2 hxy)
          clear hx hy hxy
          go_wp2_with fail
          exact ⟨⟨q + 1, hlt, by simp, HT2, trivial⟩, by simp [intOf]; omega⟩
        · have b1 : (x.toList != y.toList) = true := by
            rw [bne_iff_ne]
            intro e
            rw [hx, hy] at e
            exact hxy (bx_toList_inj e)
          have b2 : (x.toList == y.toList) = false := by simpa using b1
          have b3 : x ≠ y := fun e => by rw [e] at b1; simp at b1
          have HF : Hid (¬ ns = ns') := fun e => hxy (HNE.out e)
          clear hx hy hxy
          go_wp2_with fail
          go_ret
          exact ⟨false, rfl, by simp [HF.out], rfl⟩
      · have HE : Hid (ns = ns') := by
          have h := hT.out
          have a1 := HN.out
          have a2 := HM.out
          rw [List.take_of_length_le (by omega), List.take_of_length_le (by omega)] at h
          exact h
        have bl : decide ((q : Int) < (N : Int)) = false := decide_eq_false (by omega)
        have bl2 : decide (q < N) = false := decide_eq_false hlt
        clear hlt
        go_wp2_with fail
        go_ret
        exact ⟨true, rfl, by simp [HE.out], rfl⟩
  · have b0 : ((N : Int) != (M : Int)) = true := by rw [bne_iff_ne]; omega
    have b1 : (N != M) = true := by rw [bne_iff_ne]; exact hl
    have HF : Hid (¬ ns = ns') := fun e => hl (by rw [HN.out, HM.out, e])
    clear hl
    go_enter Tryz.func19, Tryz.ntmps19
    go_wp2_with fail
    go_ret
    exact ⟨false, rfl, by simp [HF.out], rfl⟩
end Go.Proofs.YtnccefeehkcneaaGreatDoor.Jm
namespace Go.Proofs.YtnccefeehkcneaaGreatDoor.Jm
open Go Go.RowKit Go.Proofs.YtnccefeehkcneaaGreatDoor.Sx Go.Proofs.YtnccefeehkcneaaGreatDoor.Js
def boolJ : J → Bool
  | .bool b => b
  | _ => false
def numJ : J → Int
  | .num n => n
  | _ => 0
def txtJ : J → Tx
  | .text s => s
  | _ => []
def namesJ : J → List Tx
  | .obj ns _ => ns
  | _ => []
def kidsJ : J → List J
  | .list l => l
  | .obj _ l => l
  | _ => []
theorem parts_eq {j k : J} : j = k ↔ kindJ j = kindJ k ∧ boolJ j = boolJ k ∧ numJ j = numJ k ∧ txtJ j = txtJ k ∧ namesJ j = namesJ k ∧ kidsJ j = kidsJ k := by
  cases j <;> cases k <;> simp [kindJ, boolJ, numJ, txtJ, namesJ, kidsJ]
theorem RV.parts {F : Nat → Prop} {w : World} {j : J} {cs : List Value} (h : RV F w j cs) :
    ∃ A c B d, cs = v6 (kindJ j) (boolJ j) (numJ j) (bx (txtJ j)) (.slice A (namesJ j).length c) (.slice B (kidsJ j).length d) ∧ NamesAt F w A (namesJ j) ∧ RValsAt F w B (kidsJ j) := by
  have nn : ∀ A, NamesAt F w A [] := fun _ i hi => absurd hi (Nat.not_lt_zero _)
  have nv : ∀ A, RValsAt F w A [] := fun _ i hi => absurd hi (Nat.not_lt_zero _)
  cases j with
  | null => exact ⟨none, 0, none, 0, RV_null.1 h, nn _, nv _⟩
  | bool b => exact ⟨none, 0, none, 0, RV_bool.1 h, nn _, nv _⟩
  | num n => exact ⟨none, 0, none, 0, (RV_num.1 h).1, nn _, nv _⟩
  | text s => exact ⟨none, 0, none, 0, RV_text.1 h, nn _, nv _⟩
  | list l => obtain ⟨A, c, e, _, hv⟩ := RV_list.1 h; exact ⟨none, 0, A, c, e, nn _, hv⟩
  | obj ns l => obtain ⟨A, c, B, d, e, _, _, hn, hv⟩ := RV_obj.1 h; exact ⟨A, c, B, d, e, hn, hv⟩
theorem kids_size {j x : J} (h : x ∈ kidsJ j) : SizeOf.sizeOf x < SizeOf.sizeOf j := by
  cases j with
  | list l => have := List.sizeOf_lt_of_mem h; rw [J.list.sizeOf_spec]; simp only [kidsJ] at this; omega
  | obj ns l => have := List.sizeOf_lt_of_mem h; rw [J.obj.sizeOf_spec]; simp only [kidsJ] at this; omega
  | _ => simp [kidsJ] at h
theorem kids_bulk {j x : J} (h : x ∈ kidsJ j) : bulkJ x ≤ bulkJ j := by
  cases j with
  | list l => rw [bulkJ]; have := le_sum (f := fun x => bulkJ x + 1) h; simp only [kidsJ] at this; omega
  | obj ns l => rw [bulkJ]; have := le_sum (f := fun x => bulkJ x + 1) h; simp only [kidsJ] at this; omega
  | _ => simp [kidsJ] at h
theorem namesB_len (ns : List Tx) : ns.length ≤ namesB ns := by
  unfold namesB
  induction ns with
  | nil => simp
  | cons a r ih => simp only [List.map_cons, List.sum_cons, List.length_cons]; omega
theorem parts_few (j : J) : (namesJ j).length ≤ bulkJ j ∧ (kidsJ j).length ≤ bulkJ j := by
  cases j with
  | list l => rw [bulkJ]; have := bulk_len l; simp only [kidsJ, namesJ, List.length_nil]; omega
  | obj ns l => rw [bulkJ]; have := bulk_len l; have := namesB_len ns; simp only [kidsJ, namesJ]; omega
  | _ => simp [kidsJ, namesJ]
def SameC (j : J) : Prop := ∀ (k : J) (F F' : Nat → Prop) (cs ds : List Value) (w : World), RV F w j cs → RV F' w k ds → bulkJ j ≤ 16777216 → bulkJ k ≤ 16777216 → Calls Tryz.prog 81 #[.agg cs.toArray, .agg ds.toArray] w fun e w' => ∃ b, e = .returned (.bool b) ∧ (b = true ↔ j = k) ∧ Ext w w'
set_option maxRecDepth 100000 in
set_option maxHeartbeats 4000000 in
theorem same_core (j : J) (ih : ∀ x ∈ kidsJ j, SameC x) : SameC j := by
  intro k F F' cs ds w h h' hb hb'
  obtain ⟨A, c, B, d, rfl, hn, hv⟩ := h.parts
  obtain ⟨A', c', B', d', rfl, hn', hv'⟩ := h'.parts
  have hf := parts_few j
  have hf' := parts_few k
  have HP : Hid (j = k ↔ kindJ j = kindJ k ∧ boolJ j = boolJ k ∧ numJ j = numJ k ∧ txtJ j = txtJ k ∧ namesJ j = namesJ k ∧ kidsJ j = kidsJ k) := parts_eq
  have HIH : Hid (∀ q (h1 : q < (kidsJ j).length) (h2 : q < (kidsJ k).length) (W : World) (u u' : List Value), Ext w W → RV F w (kidsJ j)[q] u → RV F' w (kidsJ k)[q] u' → Calls Tryz.prog 81 #[.agg u.toArray, .agg u'.toArray] W fun e w' => ∃ b, e = .returned (.bool b) ∧ (b = true ↔ (kidsJ j)[q] = (kidsJ k)[q]) ∧ Ext W w') := fun q h1 h2 W u u' hx p p' =>
    ih _ (List.getElem_mem h1) _ F F' u u' W (p.ext hx) (p'.ext hx) (by have := kids_bulk (List.getElem_mem h1); omega) (by have := kids_bulk (List.getElem_mem h2); omega)
  have HV := Lib.hid hv
  have HV' := Lib.hid hv'
  have CE : Hid (∀ W, Ext w W → Calls Tryz.prog 19 #[.slice A (namesJ j).length c, .slice A' (namesJ k).length c'] W fun e w' => ∃ b, e = .returned (.bool b) ∧ (b = true ↔ namesJ j = namesJ k) ∧ W = w') := fun W hx => eq_names (hn.ext hx) (hn'.ext hx) (by omega)
  unfold v6
  obtain ⟨g, hg⟩ : ∃ g, g = w.heap.size := ⟨_, rfl⟩
  obtain ⟨w1, hw1⟩ : ∃ w1, w1 = w.alloc (.cells #[.int .i64 (kindJ j), .bool (boolJ j), .int .i64 (numJ j), .string (bx (txtJ j)), .slice A (namesJ j).length c, .slice B (kidsJ j).length d] vT (0, 0)) := ⟨_, rfl⟩
  have hsz : w1.heap.size = g + 1 := by rw [hw1, hg]; show (w.heap.push _).size = _; rw [Array.size_push]
  obtain ⟨g', hg'⟩ : ∃ g', g' = g + 1 := ⟨_, rfl⟩
  obtain ⟨w2, hw2⟩ : ∃ w2, w2 = w1.alloc (.cells #[.int .i64 (kindJ k), .bool (boolJ k), .int .i64 (numJ k), .string (bx (txtJ k)), .slice A' (namesJ k).length c', .slice B' (kidsJ k).length d'] vT (0, 0)) := ⟨_, rfl⟩
  have HX1 : Hid (Ext w w1) := by rw [hw1]; exact new_ext _ _
  have HX12 : Hid (Ext w1 w2) := by rw [hw2]; exact new_ext _ _
  have HX2 : Hid (Ext w w2) := HX1.out.trans HX12.out
  have HU1 : Hid (VIn w1 g (kindJ j) (boolJ j) (numJ j) (bx (txtJ j)) (.slice A (namesJ j).length c) (.slice B (kidsJ j).length d)) := by rw [hw1]; exact heap_new hg
  have HA : Hid (VIn w2 g (kindJ j) (boolJ j) (numJ j) (bx (txtJ j)) (.slice A (namesJ j).length c) (.slice B (kidsJ j).length d)) := HU1.out.ext HX12.out
  have HB : Hid (VIn w2 g' (kindJ k) (boolJ k) (numJ k) (bx (txtJ k)) (.slice A' (namesJ k).length c') (.slice B' (kidsJ k).length d')) := by rw [hw2]; exact heap_new (hg'.trans hsz.symm)
  have CE2 := Lib.hid (CE.out w2 HX2.out)
  obtain ⟨K, hK⟩ : ∃ x, x = kindJ j := ⟨_, rfl⟩
  obtain ⟨K', hK'⟩ : ∃ x, x = kindJ k := ⟨_, rfl⟩
  obtain ⟨o, ho⟩ : ∃ x, x = boolJ j := ⟨_, rfl⟩
  obtain ⟨o', ho'⟩ : ∃ x, x = boolJ k := ⟨_, rfl⟩
  obtain ⟨n, hnu⟩ : ∃ x, x = numJ j := ⟨_, rfl⟩
  obtain ⟨n', hnu'⟩ : ∃ x, x = numJ k := ⟨_, rfl⟩
  obtain ⟨x, hx⟩ : ∃ x, x = bx (txtJ j) := ⟨_, rfl⟩
  obtain ⟨y, hy⟩ : ∃ x, x = bx (txtJ k) := ⟨_, rfl⟩
  obtain ⟨nl, hnl⟩ : ∃ x, x = (namesJ j).length := ⟨_, rfl⟩
  obtain ⟨nl', hnl'⟩ : ∃ x, x = (namesJ k).length := ⟨_, rfl⟩
  obtain ⟨N, hN⟩ : ∃ x, x = (kidsJ j).length := ⟨_, rfl⟩
  obtain ⟨M, hM⟩ : ∃ x, x = (kidsJ k).length := ⟨_, rfl⟩
  have HXY : Hid (txtJ j = txtJ k ↔ x = y) := by
    unfold Hid
    rw [hx, hy]
    exact ⟨fun h => by rw [h], fun h => bx_inj h⟩
  have HN := Lib.hid hN
  have HM := Lib.hid hM
  have hNs : N ≤ 16777216 := by omega
  rw [← hK, ← ho, ← hnu, ← hx, ← hnl, ← hN] at hw1 HU1 HA
  rw [← hK', ← ho', ← hnu', ← hy, ← hnl', ← hM] at hw2 HB
  rw [← hK, ← hK', ← ho, ← ho', ← hnu, ← hnu'] at HP
  rw [← hnl, ← hnl'] at CE2
  rw [← hK, ← hK', ← ho, ← ho', ← hnu, ← hnu', ← hx, ← hy, ← hnl, ← hnl', ← hN, ← hM]
  clear h h' hb hb' hn hn' hv hv' hf hf' hK hK' ho ho' hnu hnu' hx hy hnl hnl' hN hM ih CE HU1 hsz
  go_enter Tryz.func81, Tryz.ntmps81
  go_upto_region 1 with (fail)
  rw [← hw1, ← hg, ← hw2, ← hg']
  clear hw1 hg hw2 hg' HX1 HX12
  obtain ⟨a0, a1, a2, a3, a4, a5⟩ := HA.out.cells
  obtain ⟨b0, b1, b2, b3, b4, b5⟩ := HB.out.cells
  by_cases eK : K = K'
  · subst eK
    have t0 : (K != K) = false := by simp
    by_cases eo : o = o'
    · subst eo
      have t1 : (o != o) = false := by simp
      by_cases en : n = n'
      · subst en
        have t2 : (n != n) = false := by simp
        by_cases ex : x = y
        · subst ex
          have t3 : (x.toList != x.toList) = false := by simp
          go_wp2_with fail
          refine Calls.mono CE2.out ?_
          rintro e w3 ⟨bb, rfl, hbb, rfl⟩
          have HBB := Lib.hid hbb
          clear hbb
          cases bb with
          | false =>
            have HF : Hid (¬ j = k) := fun e => Bool.false_ne_true (HBB.out.2 (HP.out.1 e).2.2.2.2.1)
            clear HP HXY HBB
            go_wp2_with fail
            go_ret
            exact ⟨false, rfl, by simp [HF.out], HX2.out⟩
          | true =>
            by_cases eN : N = M
            · subst eN
              have HJK : Hid (j = k ↔ kidsJ j = kidsJ k) := ⟨fun e => by rw [e], fun e => HP.out.2 ⟨by trivial, by trivial, by trivial, HXY.out.2 (by trivial), HBB.out.1 (by trivial), e⟩⟩
              clear HP HXY HBB
              have t5 : ((N : Int) != (N : Int)) = false := by simp
              go_wp2_with fail
              clear a0 a1 a2 a3 a4 a5 b0 b1 b2 b3 b4 b5 t0 t1 t2 t3 t5
              go_loopw [52] (fun ix wr => ∃ q : Nat, q ≤ N ∧ ix = .int .i64 (q : Int) ∧ Hid ((kidsJ j).take q = (kidsJ k).take q) ∧ Hid (Ext w2 wr)) (fun ix _ => N - (intOf ix).toNat)
              case atStart => exact ⟨0, Nat.zero_le _, rfl, rfl, Below.refl _ _⟩
              case round =>
                obtain ⟨q, hq, rfl, hT, hR⟩ := hrel
                have hq0 : (0 : Int) ≤ (q : Int) := by omega
                by_cases hlt : q < N
                · have h1 : q < (kidsJ j).length := by rw [← HN.out]; exact hlt
                  have h2 : q < (kidsJ k).length := by rw [← HM.out]; exact hlt
                  obtain ⟨gb, ob, u, rfl, -, -, hu, hrv⟩ := HV.out q h1
                  obtain ⟨gd, od, u', rfl, -, -, hu', hrv'⟩ := HV'.out q h2
                  obtain ⟨K1, B1, z1, s1, A1, m1, k1, A2, m2, k2, rfl⟩ := RV.shape hrv
                  obtain ⟨K3, B3, z3, s3, A3, m3, k3, A4, m4, k4, rfl⟩ := RV.shape hrv'
                  have hxr := HX2.out.trans hR.out
                  have hk : ∀ i x, (v6 K1 B1 z1 s1 (.slice A1 m1 k1) (.slice A2 m2 k2))[i]? = some x → wr.cell? ⟨gb, ob + q * 6 + i, none⟩ = some x := fun i x h => (cell_keep (hxr.block gb (cell_lt (hu i x h)))).trans (hu i x h)
                  have hk' : ∀ i x, (v6 K3 B3 z3 s3 (.slice A3 m3 k3) (.slice A4 m4 k4))[i]? = some x → wr.cell? ⟨gd, od + q * 6 + i, none⟩ = some x := fun i x h => (cell_keep (hxr.block gd (cell_lt (hu' i x h)))).trans (hu' i x h)
                  have e0 := hk 0 _ rfl
                  have e1 := hk 1 _ rfl
                  have e2 := hk 2 _ rfl
                  have e3 := hk 3 _ rfl
                  have e4 := hk 4 _ rfl
                  have e5 := hk 5 _ rfl
                  have f0 := hk' 0 _ rfl
                  have f1 := hk' 1 _ rfl
                  have f2 := hk' 2 _ rfl
                  have f3 := hk' 3 _ rfl
                  have f4 := hk' 4 _ rfl
                  have f5 := hk' 5 _ rfl
                  rw [Nat.add_zero] at e0 f0
                  have CT : Hid (∀ W, Ext wr W → Calls Tryz.prog 81 #[.agg #[.int .i64 K1, .bool B1, .int .i64 z1, .string s1, .slice A1 m1 k1, .slice A2 m2 k2], .agg #[.int .i64 K3, .bool B3, .int .i64 z3, .string s3, .slice A3 m3 k3, .slice A4 m4 k4]] W fun e w' => ∃ b, e = .returned (.bool b) ∧ (b = true ↔ (kidsJ j)[q] = (kidsJ k)[q]) ∧ Ext W w') := fun W hx => HIH.out q h1 h2 W _ _ (hxr.trans hx) hrv hrv'
                  have HTQ : Hid ((kidsJ j).take (q + 1) = (kidsJ k).take (q + 1) ↔ (kidsJ j)[q] = (kidsJ k)[q]) := by
                    unfold Hid
                    rw [List.take_succ_eq_append_getElem h1, List.take_succ_eq_append_getElem h2, hT.out]
                    exact ⟨fun h => by have := List.append_cancel_left h; simpa using this, fun h => by rw [h]⟩
                  have HNE : Hid (kidsJ j = kidsJ k → (kidsJ j)[q] = (kidsJ k)[q]) := fun e => by simp [e]
                  have a5 := (HA.out.ext hR.out).cells.2.2.2.2.2
                  have b5 := (HB.out.ext hR.out).cells.2.2.2.2.2
                  have hltI : (q : Int) < (N : Int) := by omega
                  have hxx : Ext wr wr := Below.refl _ _
                  have SX : Hid (∀ W, Ext wr W → (Ext wr W ∧ W.cell? ⟨g, 5, none⟩ = some (.slice (some ⟨gb, ob, none⟩) N d) ∧ W.cell? ⟨g', 5, none⟩ = some (.slice (some ⟨gd, od, none⟩) N d') ∧ W.cell? ⟨gb, ob + q * 6, none⟩ = some (.int .i64 K1) ∧ W.cell? ⟨gb, ob + q * 6 + 1, none⟩ = some (.bool B1) ∧ W.cell? ⟨gb, ob + q * 6 + 2, none⟩ = some (.int .i64 z1) ∧ W.cell? ⟨gb, ob + q * 6 + 3, none⟩ = some (.string s1) ∧ W.cell? ⟨gb, ob + q * 6 + 4, none⟩ = some (.slice A1 m1 k1) ∧ W.cell? ⟨gb, ob + q * 6 + 5, none⟩ = some (.slice A2 m2 k2) ∧ W.cell? ⟨gd, od + q * 6, none⟩ = some (.int .i64 K3) ∧ W.cell? ⟨gd, od + q * 6 + 1, none⟩ = some (.bool B3) ∧ W.cell? ⟨gd, od + q * 6 + 2, none⟩ = some (.int .i64 z3) ∧ W.cell? ⟨gd, od + q * 6 + 3, none⟩ = some (.string s3) ∧ W.cell? ⟨gd, od + q * 6 + 4, none⟩ = some (.slice A3 m3 k3) ∧ W.cell? ⟨gd, od + q * 6 + 5, none⟩ = some (.slice A4 m4 k4))) := fun W hx => ⟨hx, (cell_keep (hx.block _ (cell_lt a5))).trans a5, (cell_keep (hx.block _ (cell_lt b5))).trans b5, (cell_keep (hx.block _ (cell_lt e0))).trans e0, (cell_keep (hx.block _ (cell_lt e1))).trans e1, (cell_keep (hx.block _ (cell_lt e2))).trans e2, (cell_keep (hx.block _ (cell_lt e3))).trans e3, (cell_keep (hx.block _ (cell_lt e4))).trans e4, (cell_keep (hx.block _ (cell_lt e5))).trans e5, (cell_keep (hx.block _ (cell_lt f0))).trans f0, (cell_keep (hx.block _ (cell_lt f1))).trans f1, (cell_keep (hx.block _ (cell_lt f2))).trans f2, (cell_keep (hx.block _ (cell_lt f3))).trans f3, (cell_keep (hx.block _ (cell_lt f4))).trans f4, (cell_keep (hx.block _ (cell_lt f5))).trans f5⟩
                  have CT2 : Hid (∀ W, Ext wr W → Calls Tryz.prog 81 #[.agg #[.int .i64 K1, .bool B1, .int .i64 z1, .string s1, .slice A1 m1 k1, .slice A2 m2 k2], .agg #[.int .i64 K3, .bool B3, .int .i64 z3, .string s3, .slice A3 m3 k3, .slice A4 m4 k4]] W fun e w' => ∃ b, e = .returned (.bool b) ∧ (b = true ↔ (kidsJ j)[q] = (kidsJ k)[q]) ∧ Ext wr w' ∧ w'.cell? ⟨g, 5, none⟩ = some (.slice (some ⟨gb, ob, none⟩) N d) ∧ w'.cell? ⟨g', 5, none⟩ = some (.slice (some ⟨gd, od, none⟩) N d') ∧ w'.cell? ⟨gb, ob + q * 6, none⟩ = some (.int .i64 K1) ∧ w'.cell? ⟨gb, ob + q * 6 + 1, none⟩ = some (.bool B1) ∧ w'.cell? ⟨gb, ob + q * 6 + 2, none⟩ = some (.int .i64 z1) ∧ w'.cell? ⟨gb, ob + q * 6 + 3, none⟩ = some (.string s1) ∧ w'.cell? ⟨gb, ob + q * 6 + 4, none⟩ = some (.slice A1 m1 k1) ∧ w'.cell? ⟨gb, ob + q * 6 + 5, none⟩ = some (.slice A2 m2 k2) ∧ w'.cell? ⟨gd, od + q * 6, none⟩ = some (.int .i64 K3) ∧ w'.cell? ⟨gd, od + q * 6 + 1, none⟩ = some (.bool B3) ∧ w'.cell? ⟨gd, od + q * 6 + 2, none⟩ = some (.int .i64 z3) ∧ w'.cell? ⟨gd, od + q * 6 + 3, none⟩ = some (.string s3) ∧ w'.cell? ⟨gd, od + q * 6 + 4, none⟩ = some (.slice A3 m3 k3) ∧ w'.cell? ⟨gd, od + q * 6 + 5, none⟩ = some (.slice A4 m4 k4)) := fun W hx => (CT.out W hx).mono fun e w' ⟨b, h1, h2, h3⟩ => ⟨b, h1, h2, SX.out w' (hx.trans h3)⟩
                  clear hu hu' hrv hrv' hk hk' hxr HIH
                  go_wp2_with fail
                  go_region_held3 (fun W => Ext wr W ∧ W.cell? ⟨g, 5, none⟩ = some (.slice (some ⟨gb, ob, none⟩) N d) ∧ W.cell? ⟨g', 5, none⟩ = some (.slice (some ⟨gd, od, none⟩) N d') ∧ W.cell? ⟨gb, ob + q * 6, none⟩ = some (.int .i64 K1) ∧ W.cell? ⟨gb, ob + q * 6 + 1, none⟩ = some (.bool B1) ∧ W.cell? ⟨gb, ob + q * 6 + 2, none⟩ = some (.int .i64 z1) ∧ W.cell? ⟨gb, ob + q * 6 + 3, none⟩ = some (.string s1) ∧ W.cell? ⟨gb, ob + q * 6 + 4, none⟩ = some (.slice A1 m1 k1) ∧ W.cell? ⟨gb, ob + q * 6 + 5, none⟩ = some (.slice A2 m2 k2) ∧ W.cell? ⟨gd, od + q * 6, none⟩ = some (.int .i64 K3) ∧ W.cell? ⟨gd, od + q * 6 + 1, none⟩ = some (.bool B3) ∧ W.cell? ⟨gd, od + q * 6 + 2, none⟩ = some (.int .i64 z3) ∧ W.cell? ⟨gd, od + q * 6 + 3, none⟩ = some (.string s3) ∧ W.cell? ⟨gd, od + q * 6 + 4, none⟩ = some (.slice A3 m3 k3) ∧ W.cell? ⟨gd, od + q * 6 + 5, none⟩ = some (.slice A4 m4 k4))
                    (first | (refine ⟨by assumption, by assumption, by assumption, by assumption, by assumption, by assumption, by assumption, by assumption, by assumption, by assumption, by assumption, by assumption, by assumption, by assumption, by assumption⟩) | (refine ⟨Below.drew (by assumption), ?_, ?_, ?_, ?_, ?_, ?_, ?_, ?_, ?_, ?_, ?_, ?_, ?_, ?_⟩ <;> go_keep) | go_keep)
                    (first | (go_at_call 81; refine (CT2.out _ (by first | assumption | (apply Below.drew; assumption))).mono ?_; rintro r w5 ⟨bb, rfl, q0, q1, y0, y1, y2, y3, y4, y5, y6, y7, y8, y9, y10, y11, y12, y13⟩))
                  all_goals
                    have Q0 := Lib.hid q0
                    have Q1 := Lib.hid (hR.out.trans q1)
                    clear q0 q1 y0 y1 y2 y3 y4 y5 y6 y7 y8 y9 y10 y11 y12 y13
                    cases bb with
                    | false =>
                      have HF : Hid (¬ j = k) := fun e => Bool.false_ne_true (Q0.out.2 (HNE.out (HJK.out.1 e)))
                      clear Q0
                      go_wp2_with fail
                      go_ret
                      exact ⟨false, rfl, by simp [HF.out], HX2.out.trans Q1.out⟩
                    | true =>
                      have HT2 := Lib.hid (HTQ.out.2 (Q0.out.1 rfl))
                      clear Q0
                      go_wp2_with fail
                      go_roundw
                      case rel => exact ⟨q + 1, hlt, by go_num, HT2, Q1.out⟩
                      case measure => simp [intOf]; omega
                · have HE : Hid (kidsJ j = kidsJ k) := by
                    have h := hT.out
                    have a1 := HN.out
                    have a2 := HM.out
                    rw [List.take_of_length_le (by omega), List.take_of_length_le (by omega)] at h
                    exact h
                  have bl : decide ((q : Int) < (N : Int)) = false := decide_eq_false (by omega)
                  have bl2 : decide (q < N) = false := decide_eq_false hlt
                  clear hlt HIH
                  have HX := Lib.hid (HX2.out.trans hR.out)
                  go_wp2_with fail
                  go_ret
                  exact ⟨true, rfl, by simp [HJK.out, HE.out], HX.out⟩
            · have t5 : ((N : Int) != (M : Int)) = true := by rw [bne_iff_ne]; omega
              have t6 : (N != M) = true := by rw [bne_iff_ne]; exact eN
              have HF : Hid (¬ j = k) := fun e => eN (by rw [HN.out, HM.out, (HP.out.1 e).2.2.2.2.2])
              clear HP HXY HBB
              go_wp2_with fail
              go_ret
              exact ⟨false, rfl, by simp [HF.out], HX2.out⟩
        · have t3 : (x.toList != y.toList) = true := by
            rw [bne_iff_ne]
            intro e
            rw [ByteArray.toList_eq, ByteArray.toList_eq] at e
            exact ex (ByteArray.ext (Array.toList_inj.1 e))
          have t4 : (x.toList == y.toList) = false := by simpa using t3
          have HF : Hid (¬ j = k) := fun e => ex (HXY.out.1 (HP.out.1 e).2.2.2.1)
          clear HP HXY
          go_wp2_with fail
          go_ret
          exact ⟨false, rfl, by simp [HF.out], HX2.out⟩
      · have t2 : (n != n') = true := by rw [bne_iff_ne]; exact en
        have HF : Hid (¬ j = k) := fun e => en (HP.out.1 e).2.2.1
        clear HP HXY
        go_wp2_with fail
        go_ret
        exact ⟨false, rfl, by simp [HF.out], HX2.out⟩
    · have HF : Hid (¬ j = k) := fun e => eo (HP.out.1 e).2.1
      clear HP HXY
      cases o <;> cases o' <;> first
        | exact absurd rfl eo
        | (go_wp2_with fail
           go_ret
           exact ⟨false, rfl, by simp [HF.out], HX2.out⟩)
  · have t0 : (K != K') = true := by rw [bne_iff_ne]; exact eK
    have HF : Hid (¬ j = k) := fun e => eK (HP.out.1 e).1
    clear HP HXY
    go_wp2_with fail
    go_ret
    exact ⟨false, rfl, by simp [HF.out], HX2.out⟩
/-- Same of any two values. -/
theorem same_val (j : J) : SameC j := by
  induction h : SizeOf.sizeOf j using Nat.strongRecOn generalizing j with
  | ind n ih => exact same_core j fun x hx => ih _ (by rw [← h]; exact kids_size hx) x rfl
end Go.Proofs.YtnccefeehkcneaaGreatDoor.Jm
