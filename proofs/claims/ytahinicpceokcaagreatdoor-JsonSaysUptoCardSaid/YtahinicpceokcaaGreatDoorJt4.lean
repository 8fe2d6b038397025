/-
  The reference's Text (printed by gen/jt4.py).
-/
import Derived.Test.YtahinicpceokcaaGreatDoorJq11
import Derived.Test.YtahinicpceokcaaGreatDoorJt3
namespace Go.Proofs.YtahinicpceokcaaGreatDoor.Jm
open Go Go.RowKit Go.Proofs.YtahinicpceokcaaGreatDoor.Sx Go.Proofs.YtahinicpceokcaaGreatDoor.Js Go.Proofs.YtahinicpceokcaaGreatDoor.Gr

theorem sum_take {α : Type} (f : α → Nat) : ∀ (l : List α) (q : Nat), ((l.take q).map f).sum ≤ (l.map f).sum
  | [], q => by simp
  | a :: l, 0 => by simp
  | a :: l, q + 1 => by
    have := sum_take f l q
    rw [List.take_succ_cons, List.map_cons, List.map_cons, List.sum_cons, List.sum_cons]
    omega
theorem take_zips {α β : Type} : ∀ (a : List α) (b : List β) (q : Nat), (a.zip b).take q = (a.take q).zip (b.take q)
  | [], b, q => by simp
  | x :: a, [], q => by simp
  | x :: a, y :: b, 0 => by simp
  | x :: a, y :: b, q + 1 => by rw [List.zip_cons_cons, List.take_succ_cons, List.take_succ_cons, List.take_succ_cons, List.zip_cons_cons, take_zips a b q]
theorem join_snoc : ∀ (ts : List Tx) (x : Tx), ts ≠ [] → Lib.join (ts ++ [x]) [44] = Lib.join ts [44] ++ 44 :: x
  | [], _, h => absurd rfl h
  | [t], x, _ => by rw [List.cons_append, List.nil_append, join_two, join_one, join_one]
  | t :: y :: r, x, _ => by
    have := join_snoc (y :: r) x (List.cons_ne_nil _ _)
    rw [List.cons_append, List.cons_append, join_two, ← List.cons_append, this, join_two, List.append_assoc, List.cons_append]
theorem join_next (ts : List Tx) (q : Nat) (x : Tx) (hx : (ts.take (q + 1)) = ts.take q ++ [x]) (hq : q ≤ ts.length) : (q = 0 → bx (Lib.join (ts.take (0 + 1)) [44]) = bx (Lib.join (ts.take 0) [44]) ++ bx x) ∧ (q ≠ 0 → bx (Lib.join (ts.take (q + 1)) [44]) = bx (Lib.join (ts.take q) [44]) ++ ⟨#[44]⟩ ++ bx x) := by
  refine ⟨fun e => ?_, fun e => ?_⟩
  · subst e
    rw [hx, List.take_zero, List.nil_append, join_one, join_nil, ← bx_app, List.nil_append]
  · have hne : ts.take q ≠ [] := fun h => by
      have := congrArg List.length h
      have h0 : ([] : List Tx).length = 0 := rfl
      rw [List.length_take, h0] at this
      omega
    rw [hx, join_snoc _ _ hne]
    show bx (_ ++ ([44] ++ x)) = _
    rw [bx_app, bx_app, ByteArray.append_assoc]
    rfl
theorem join_texts (l : List J) (q : Nat) (h : q < l.length) : (q = 0 → bx (Lib.join ((l.take (0 + 1)).map textJ) [44]) = bx (Lib.join ((l.take 0).map textJ) [44]) ++ bx (textJ l[q])) ∧ (q ≠ 0 → bx (Lib.join ((l.take (q + 1)).map textJ) [44]) = bx (Lib.join ((l.take q).map textJ) [44]) ++ ⟨#[44]⟩ ++ bx (textJ l[q])) := by
  have h1 := join_next (l.map textJ) q (textJ l[q]) (by rw [← List.map_take, ← List.map_take, List.take_succ_eq_append_getElem h, List.map_append]; rfl) (by rw [List.length_map]; omega)
  simpa only [List.map_take] using h1
theorem join_fields (ns : List Tx) (l : List J) (q : Nat) (h0 : q < ns.length) (h : q < l.length) : (q = 0 → bx (Lib.join (((ns.zip l).take (0 + 1)).map fieldT) [44]) = bx (Lib.join (((ns.zip l).take 0).map fieldT) [44]) ++ (bx (quoteS ns[q]) ++ ⟨#[58]⟩) ++ bx (textJ l[q])) ∧ (q ≠ 0 → bx (Lib.join (((ns.zip l).take (q + 1)).map fieldT) [44]) = bx (Lib.join (((ns.zip l).take q).map fieldT) [44]) ++ ⟨#[44]⟩ ++ (bx (quoteS ns[q]) ++ ⟨#[58]⟩) ++ bx (textJ l[q])) := by
  have hz : q < (ns.zip l).length := by rw [List.length_zip]; omega
  have h1 := join_next ((ns.zip l).map fieldT) q (fieldT (ns[q], l[q])) (by rw [← List.map_take, ← List.map_take, List.take_succ_eq_append_getElem hz, List.map_append, List.getElem_zip]; rfl) (by rw [List.length_map]; omega)
  have e : bx (fieldT (ns[q], l[q])) = (bx (quoteS ns[q]) ++ ⟨#[58]⟩) ++ bx (textJ l[q]) := by
    show bx (quoteS ns[q] ++ ([58] ++ textJ l[q])) = _
    rw [bx_app, bx_app, ← ByteArray.append_assoc]
    rfl
  rw [e] at h1
  simp only [List.map_take, ByteArray.append_assoc] at h1 ⊢
  exact h1
def RTextC (j : J) : Prop := ∀ (F : Nat → Prop) (cs : List Value) (w : World), RV F w j cs → IJ j → MaxC w → bulkJ j ≤ 524288 → Calls Tryz.prog 31 #[.agg cs.toArray] w fun e w' => e = .returned (.string (bx (textJ j))) ∧ Ext w w'
set_option maxRecDepth 100000 in
set_option maxHeartbeats 4000000 in
theorem rtext_list (l : List J) (ih : ∀ x ∈ l, RTextC x) : RTextC (.list l) := by
  intro F cs w h hij hm hb
  obtain ⟨A, c, rfl, hc, hv⟩ := RV_list.1 h
  have hbl := hb
  rw [bulkJ] at hbl
  have hcount := bulk_count l
  obtain ⟨N, hN⟩ : ∃ N, N = l.length := ⟨_, rfl⟩
  have HN : Hid (N = l.length) := hN
  have hNs : N ≤ 1048576 := by omega
  have HV := Lib.hid hv
  have HM := Lib.hid hm
  have HIH : Hid (∀ q (hq : q < l.length) (W : World) (u : List Value), Ext w W → RV F w l[q] u → Calls Tryz.prog 31 #[.agg u.toArray] W fun e w' => e = .returned (.string (bx (textJ l[q]))) ∧ Ext W w') := fun q hq W u hx hp =>
    ih _ (List.getElem_mem hq) F u W (hp.ext hx) (IJ_list.1 hij _ (List.getElem_mem hq)) (hm.ext hx) (by have := bulk_in (List.getElem_mem hq); omega)
  have HTL : Hid (bx (textJ (.list l)) = ⟨#[91]⟩ ++ bx (Lib.join (l.map textJ) [44]) ++ ⟨#[93]⟩) := by
    unfold Hid
    rw [textJ_list]
    show bx ([91] ++ (_ ++ [93])) = _
    rw [bx_app, bx_app, ByteArray.append_assoc]
    rfl
  have HPL : Hid (∀ q, (bx (Lib.join ((l.take q).map textJ) [44])).size ≤ 1048576) := fun q => by
    rw [bx_size]
    have h1 := join_len ((l.take q).map textJ)
    have h2 := sum_map_le (fun x => (textJ x).length + 1) (fun x => bulkJ x + 1) (l.take q) (fun x hx => by have := text_len x (IJ_list.1 hij x (List.mem_of_mem_take hx)); show (textJ x).length + 1 ≤ bulkJ x + 1; omega)
    rw [List.map_map] at h1
    have e : ((fun t : Tx => t.length + 1) ∘ textJ) = fun x => (textJ x).length + 1 := rfl
    rw [e] at h1
    have h3 := sum_take (fun x : J => bulkJ x + 1) l q
    omega
  have HSZ : Hid (∀ q (h2 : q < l.length), (bx (textJ l[q])).size ≤ 1048576) := fun q h2 => by
    have e2 := bulk_in (List.getElem_mem h2)
    have e4 := text_len l[q] (IJ_list.1 hij _ (List.getElem_mem h2))
    rw [bx_size]
    omega
  obtain ⟨g, hg⟩ : ∃ g, g = w.heap.size := ⟨_, rfl⟩
  obtain ⟨w1, hw1⟩ : ∃ w1, w1 = w.alloc (.cells #[.int .i64 5, .bool false, .int .i64 0, .string ⟨#[]⟩, .slice none 0 0, .slice A N c] vT (0, 0)) := ⟨_, rfl⟩
  have HX1 : Hid (Ext w w1) := by rw [hw1]; exact new_ext _ _
  have HV1 : Hid (VIn w1 g 5 false 0 ⟨#[]⟩ (.slice none 0 0) (.slice A N c)) := by rw [hw1]; exact heap_new hg
  rw [← hN]
  clear h hij hb hv hbl hcount hN hm hc ih
  go_enter Tryz.func31, Tryz.ntmps31
  go_upto_region 1 with (fail)
  rw [← hw1, ← hg]
  clear hw1 hg
  obtain ⟨c0, c1, c2, c3, c4, c5⟩ := HV1.out.cells
  go_wp2_with fail
  clear c0 c1 c2 c3 c4 c5
  go_loopw [3, 28] (fun o ix wr => ∃ (q : Nat) (a : ByteArray), q ≤ N ∧ ix = .int .i64 (q : Int) ∧ o = .string a ∧ a.size ≤ 1048576 ∧ Hid (a = bx (Lib.join ((l.take q).map textJ) [44]) ∧ Ext w1 wr)) (fun _ ix _ => N - (intOf ix).toNat)
  case atStart => exact ⟨0, ⟨#[]⟩, Nat.zero_le _, rfl, rfl, Nat.zero_le _, rfl, Below.refl _ _⟩
  case round =>
    obtain ⟨q, a, hq, rfl, rfl, ha, hR⟩ := hrel
    have hq0 : (0 : Int) ≤ (q : Int) := by omega
    have hvr := HV1.out.ext hR.out.2
    obtain ⟨c0, c1, c2, c3, c4, c5⟩ := hvr.cells
    have hgr := hvr.lt
    clear hvr
    by_cases hlt : q < N
    · have hql : q < l.length := by rw [← HN.out]; exact hlt
      obtain ⟨gb, ob, u, rfl, -, -, hu, hrv⟩ := HV.out q hql
      obtain ⟨K, Bb, z, sv, A3, m3, k3, A4, m4, k4, rfl⟩ := RV.shape hrv
      have hxr := HX1.out.trans hR.out.2
      have hk : ∀ k x, (v6 K Bb z sv (.slice A3 m3 k3) (.slice A4 m4 k4))[k]? = some x → wr.cell? ⟨gb, ob + q * 6 + k, none⟩ = some x := fun k x h => (cell_keep (hxr.block gb (cell_lt (hu k x h)))).trans (hu k x h)
      have e0 := hk 0 _ rfl
      have e1 := hk 1 _ rfl
      have e2 := hk 2 _ rfl
      have e3 := hk 3 _ rfl
      have e4 := hk 4 _ rfl
      have e5 := hk 5 _ rfl
      rw [Nat.add_zero] at e0
      obtain ⟨tx, htx⟩ : ∃ tx, tx = bx (textJ l[q]) := ⟨_, rfl⟩
      have HTX := Lib.hid htx
      have CT : Hid (∀ W, Ext w W → Calls Tryz.prog 31 #[.agg #[.int .i64 K, .bool Bb, .int .i64 z, .string sv, .slice A3 m3 k3, .slice A4 m4 k4]] W fun e w' => e = .returned (.string tx) ∧ Ext W w') := fun W hx => by
        rw [htx]
        exact HIH.out q hql W _ hx hrv
      have htz : tx.size ≤ 1048576 := by rw [htx]; exact HSZ.out q hql
      have HJS := Lib.hid (join_texts l q hql)
      have hltI : (q : Int) < (N : Int) := by omega
      have HXR := Lib.hid hxr
      clear hu hrv hk htx hxr
      go_upto_region 16 with (fail)
      obtain ⟨t5, ht5⟩ : ∃ t5, t5 = wr.heap.size := ⟨_, rfl⟩
      rw [← ht5]
      generalize hW : World.alloc wr _ = w2
      have HX2 : Hid (Ext wr w2) := by rw [← hW]; exact new_ext _ _
      have HU2 : Hid (VIn w2 t5 K Bb z sv (.slice A3 m3 k3) (.slice A4 m4 k4)) := by rw [← hW]; exact heap_new ht5
      clear hW ht5 c0 c1 c2 c3 c4 c5 e0 e1 e2 e3 e4 e5 hgr
      obtain ⟨c0, c1, c2, c3, c4, c5⟩ := ((HV1.out.ext hR.out.2).ext HX2.out).cells
      obtain ⟨e0, e1, e2, e3, e4, e5⟩ := HU2.out.cells
      by_cases hq1 : q = 0
      · obtain rfl : q = 0 := hq1
        have HJ2 := Lib.hid (HJS.out.1 rfl)
        go_wp2_with fail
        refine Calls.mono (CT.out w2 (HXR.out.trans HX2.out)) ?_
        rintro e w3 ⟨rfl, x3⟩
        have X3 := Lib.hid (hR.out.2.trans (HX2.out.trans x3))
        clear x3
        go_wp2_with fail
        have hnext := HPL.out (0 + 1)
        rw [HJ2.out] at hnext
        go_roundw
        case rel => exact ⟨0 + 1, _, hlt, by go_num, rfl, by rw [HTX.out, hR.out.1]; exact hnext, by rw [HJ2.out, hR.out.1, HTX.out], X3.out⟩
        case measure => simp [intOf]; omega
      · have b0 : decide ((0 : Int) < (q : Int)) = true := decide_eq_true (by omega)
        have b1 : decide (0 < q) = true := decide_eq_true (by omega)
        have HJ2 := Lib.hid (HJS.out.2 hq1)
        clear hq1
        go_wp2_with fail
        refine Calls.mono (CT.out w2 (HXR.out.trans HX2.out)) ?_
        rintro e w3 ⟨rfl, x3⟩
        have X3 := Lib.hid (hR.out.2.trans (HX2.out.trans x3))
        clear x3
        go_wp2_with fail
        have hnext := HPL.out (q + 1)
        rw [HJ2.out] at hnext
        go_roundw
        case rel => exact ⟨q + 1, _, hlt, by go_num, rfl, by rw [HTX.out, hR.out.1]; exact hnext, by rw [HJ2.out, hR.out.1, HTX.out], X3.out⟩
        case measure => simp [intOf]; omega
    · have hqN : q = N := by omega
      have bl : decide ((q : Int) < (N : Int)) = false := decide_eq_false (by omega)
      have bl2 : decide (q < N) = false := decide_eq_false hlt
      have HA : Hid (a = bx (Lib.join (l.map textJ) [44])) := by
        unfold Hid
        rw [hR.out.1, List.take_of_length_le (by rw [← HN.out]; omega)]
      clear hlt hqN
      go_wp2_with fail
      go_ret
      exact ⟨ret_str (by rw [HTL.out, ← HA.out]), HX1.out.trans hR.out.2⟩
set_option maxRecDepth 100000 in
set_option maxHeartbeats 4000000 in
theorem rtext_obj (ns : List Tx) (l : List J) (ih : ∀ x ∈ l, RTextC x) : RTextC (.obj ns l) := by
  intro F cs w h hij hm hb
  obtain ⟨A1, k1, A, c, rfl, hk1, hc, hns, hv⟩ := RV_obj.1 h
  have hnl := (IJ_obj.1 hij).1
  have hbl := hb
  rw [bulkJ] at hbl
  have hcount := bulk_count l
  obtain ⟨N, hN⟩ : ∃ N, N = l.length := ⟨_, rfl⟩
  have HN : Hid (N = l.length) := hN
  have HNN : Hid (N = ns.length) := hN.trans hnl.symm
  have HNA := Lib.hid hns
  have hNs : N ≤ 1048576 := by omega
  have HV := Lib.hid hv
  have HM := Lib.hid hm
  have HIH : Hid (∀ q (hq : q < l.length) (W : World) (u : List Value), Ext w W → RV F w l[q] u → Calls Tryz.prog 31 #[.agg u.toArray] W fun e w' => e = .returned (.string (bx (textJ l[q]))) ∧ Ext W w') := fun q hq W u hx hp =>
    ih _ (List.getElem_mem hq) F u W (hp.ext hx) ((IJ_obj.1 hij).2 _ (List.getElem_mem hq)) (hm.ext hx) (by have := bulk_in (List.getElem_mem hq); omega)
  have HTL : Hid (bx (textJ (.obj ns l)) = ⟨#[123]⟩ ++ bx (Lib.join ((ns.zip l).map fieldT) [44]) ++ ⟨#[125]⟩) := by
    unfold Hid
    rw [textJ_obj]
    show bx ([123] ++ (_ ++ [125])) = _
    rw [bx_app, bx_app, ByteArray.append_assoc]
    rfl
  have HPL : Hid (∀ q, (bx (Lib.join (((ns.zip l).take q).map fieldT) [44])).size ≤ 1048576) := fun q => by
    rw [bx_size]
    have h1 := join_len (((ns.zip l).take q).map fieldT)
    have h2 := field_sum (ns.take q) (l.take q) (fun x hx => text_len x ((IJ_obj.1 hij).2 x (List.mem_of_mem_take hx)))
    rw [← take_zips] at h2
    have h3 := sum_take (fun x : J => bulkJ x + 1) l q
    have h4 := sum_take (fun n : Tx => 2 * n.length + 8) ns q
    unfold namesB at h2 hbl
    omega
  have HSZ : Hid (∀ q (h2 : q < l.length), (bx (textJ l[q])).size ≤ 1048576) := fun q h2 => by
    have e2 := bulk_in (List.getElem_mem h2)
    have e4 := text_len l[q] ((IJ_obj.1 hij).2 _ (List.getElem_mem h2))
    rw [bx_size]
    omega
  have HSN : Hid (∀ q (h1 : q < ns.length), ns[q].length ≤ 1048576 ∧ (bx (quoteS ns[q])).size ≤ 1048576) := fun q h1 => by
    have e1 := bulk_name (List.getElem_mem h1)
    have e3 := quote_len ns[q]
    rw [bx_size]
    omega
  obtain ⟨g, hg⟩ : ∃ g, g = w.heap.size := ⟨_, rfl⟩
  obtain ⟨w1, hw1⟩ : ∃ w1, w1 = w.alloc (.cells #[.int .i64 6, .bool false, .int .i64 0, .string ⟨#[]⟩, .slice A1 N k1, .slice A N c] vT (0, 0)) := ⟨_, rfl⟩
  have HX1 : Hid (Ext w w1) := by rw [hw1]; exact new_ext _ _
  have HV1 : Hid (VIn w1 g 6 false 0 ⟨#[]⟩ (.slice A1 N k1) (.slice A N c)) := by rw [hw1]; exact heap_new hg
  have hNn : ns.length = N := HNN.out.symm
  rw [hNn, ← hN]
  clear h hij hb hv hbl hcount hN hm hc ih hnl hns hk1 hNn
  go_enter Tryz.func31, Tryz.ntmps31
  go_upto_region 1 with (fail)
  rw [← hw1, ← hg]
  clear hw1 hg
  obtain ⟨c0, c1, c2, c3, c4, c5⟩ := HV1.out.cells
  go_wp2_with fail
  clear c0 c1 c2 c3 c4 c5
  go_loopw [3, 28] (fun o ix wr => ∃ (q : Nat) (a : ByteArray), q ≤ N ∧ ix = .int .i64 (q : Int) ∧ o = .string a ∧ a.size ≤ 1048576 ∧ Hid (a = bx (Lib.join (((ns.zip l).take q).map fieldT) [44]) ∧ Ext w1 wr)) (fun _ ix _ => N - (intOf ix).toNat)
  case atStart => exact ⟨0, ⟨#[]⟩, Nat.zero_le _, rfl, rfl, Nat.zero_le _, rfl, Below.refl _ _⟩
  case round =>
    obtain ⟨q, a, hq, rfl, rfl, ha, hR⟩ := hrel
    have hq0 : (0 : Int) ≤ (q : Int) := by omega
    have hvr := HV1.out.ext hR.out.2
    obtain ⟨c0, c1, c2, c3, c4, c5⟩ := hvr.cells
    have hgr := hvr.lt
    clear hvr
    by_cases hlt : q < N
    · have hql : q < l.length := by rw [← HN.out]; exact hlt
      have hqn : q < ns.length := by rw [← HNN.out]; exact hlt
      obtain ⟨ga, oa, rfl, -, hca⟩ := HNA.out q hqn
      obtain ⟨gb, ob, u, rfl, -, -, hu, hrv⟩ := HV.out q hql
      obtain ⟨K, Bb, z, sv, A3, m3, k3, A4, m4, k4, rfl⟩ := RV.shape hrv
      have hxr := HX1.out.trans hR.out.2
      have hk : ∀ k x, (v6 K Bb z sv (.slice A3 m3 k3) (.slice A4 m4 k4))[k]? = some x → wr.cell? ⟨gb, ob + q * 6 + k, none⟩ = some x := fun k x h => (cell_keep (hxr.block gb (cell_lt (hu k x h)))).trans (hu k x h)
      have e0 := hk 0 _ rfl
      have e1 := hk 1 _ rfl
      have e2 := hk 2 _ rfl
      have e3 := hk 3 _ rfl
      have e4 := hk 4 _ rfl
      have e5 := hk 5 _ rfl
      rw [Nat.add_zero] at e0
      obtain ⟨tx, htx⟩ : ∃ tx, tx = bx (textJ l[q]) := ⟨_, rfl⟩
      have HTX := Lib.hid htx
      have CT : Hid (∀ W, Ext w W → Calls Tryz.prog 31 #[.agg #[.int .i64 K, .bool Bb, .int .i64 z, .string sv, .slice A3 m3 k3, .slice A4 m4 k4]] W fun e w' => e = .returned (.string tx) ∧ Ext W w') := fun W hx => by
        rw [htx]
        exact HIH.out q hql W _ hx hrv
      have htz : tx.size ≤ 1048576 := by rw [htx]; exact HSZ.out q hql
      have HJS := Lib.hid (join_fields ns l q hqn hql)
      have hltI : (q : Int) < (N : Int) := by omega
      have HXR := Lib.hid hxr
      clear hu hrv hk htx hxr
      go_upto_region 16 with (fail)
      obtain ⟨t5, ht5⟩ : ∃ t5, t5 = wr.heap.size := ⟨_, rfl⟩
      rw [← ht5]
      generalize hW : World.alloc wr _ = w2
      have HX2 : Hid (Ext wr w2) := by rw [← hW]; exact new_ext _ _
      have HU2 : Hid (VIn w2 t5 K Bb z sv (.slice A3 m3 k3) (.slice A4 m4 k4)) := by rw [← hW]; exact heap_new ht5
      clear hW ht5 c0 c1 c2 c3 c4 c5 e0 e1 e2 e3 e4 e5 hgr
      obtain ⟨c0, c1, c2, c3, c4, c5⟩ := ((HV1.out.ext hR.out.2).ext HX2.out).cells
      obtain ⟨e0, e1, e2, e3, e4, e5⟩ := HU2.out.cells
      have hcn := (cell_keep ((HXR.out.trans HX2.out).block ga (cell_lt hca))).trans hca
      obtain ⟨nx, hnx⟩ : ∃ nx, nx = bx ns[q] := ⟨_, rfl⟩
      obtain ⟨qx, hqx⟩ : ∃ qx, qx = bx (quoteS ns[q]) := ⟨_, rfl⟩
      have HQX := Lib.hid hqx
      have hqz : qx.size ≤ 1048576 := by rw [hqx]; exact (HSN.out q hqn).2
      have CQ : Hid (Calls Tryz.prog 37 #[.string nx] w2 fun e w' => e = .returned (.string qx) ∧ Ext w2 w') := by
        rw [hqx, hnx]
        exact rquoted_any ns[q] w2 (HM.out.ext (HXR.out.trans HX2.out)) (HSN.out q hqn).1
      rw [← hnx] at hcn
      clear hnx hqx hca
      by_cases hq1 : q = 0
      · obtain rfl : q = 0 := hq1
        have HJ2 := Lib.hid (HJS.out.1 rfl)
        rw [Nat.add_zero] at hcn
        go_wp2_with fail
        refine Calls.mono CQ.out ?_
        rintro e w4 ⟨rfl, x4⟩
        have X4 := Lib.hid x4
        obtain ⟨e0', e1', e2', e3', e4', e5'⟩ := (HU2.out.ext x4).cells
        clear x4 e0 e1 e2 e3 e4 e5 c0 c1 c2 c3 c4 c5 hcn
        go_wp2_with fail
        refine Calls.mono (CT.out w4 (HXR.out.trans (HX2.out.trans X4.out))) ?_
        rintro e w3 ⟨rfl, x3⟩
        have X3 := Lib.hid (hR.out.2.trans (HX2.out.trans (X4.out.trans x3)))
        clear x3
        go_wp2_with fail
        have hnext := HPL.out (0 + 1)
        rw [HJ2.out] at hnext
        go_roundw
        case rel => exact ⟨0 + 1, _, hlt, by go_num, rfl, by rw [HTX.out, HQX.out, hR.out.1]; exact hnext, by rw [HJ2.out, hR.out.1, HTX.out, HQX.out], X3.out⟩
        case measure => simp [intOf]; omega
      · have b0 : decide ((0 : Int) < (q : Int)) = true := decide_eq_true (by omega)
        have b1 : decide (0 < q) = true := decide_eq_true (by omega)
        have HJ2 := Lib.hid (HJS.out.2 hq1)
        clear hq1
        go_wp2_with fail
        refine Calls.mono CQ.out ?_
        rintro e w4 ⟨rfl, x4⟩
        have X4 := Lib.hid x4
        obtain ⟨e0', e1', e2', e3', e4', e5'⟩ := (HU2.out.ext x4).cells
        clear x4 e0 e1 e2 e3 e4 e5 c0 c1 c2 c3 c4 c5 hcn
        go_wp2_with fail
        refine Calls.mono (CT.out w4 (HXR.out.trans (HX2.out.trans X4.out))) ?_
        rintro e w3 ⟨rfl, x3⟩
        have X3 := Lib.hid (hR.out.2.trans (HX2.out.trans (X4.out.trans x3)))
        clear x3
        go_wp2_with fail
        have hnext := HPL.out (q + 1)
        rw [HJ2.out] at hnext
        go_roundw
        case rel => exact ⟨q + 1, _, hlt, by go_num, rfl, by rw [HTX.out, HQX.out, hR.out.1]; exact hnext, by rw [HJ2.out, hR.out.1, HTX.out, HQX.out], X3.out⟩
        case measure => simp [intOf]; omega
    · have hqN : q = N := by omega
      have bl : decide ((q : Int) < (N : Int)) = false := decide_eq_false (by omega)
      have bl2 : decide (q < N) = false := decide_eq_false hlt
      have HA : Hid (a = bx (Lib.join ((ns.zip l).map fieldT) [44])) := by
        unfold Hid
        rw [hR.out.1, List.take_of_length_le (by rw [List.length_zip]; have := HN.out; have := HNN.out; omega)]
      clear hlt hqN
      go_wp2_with fail
      go_ret
      exact ⟨ret_str (by rw [HTL.out, ← HA.out]), HX1.out.trans hR.out.2⟩
set_option maxRecDepth 100000 in
set_option maxHeartbeats 4000000 in
theorem rtext_val (j : J) : RTextC j := by
  induction j using J.ind with
  | hn =>
    intro F cs w h _ _ _
    obtain rfl := RV_null.1 h
    clear h
    have HE : Hid (bx (textJ .null) = ⟨#[110, 117, 108, 108]⟩) := by unfold Hid; rw [textJ]; rfl
    have HX : Hid (Ext w (w.alloc (.cells #[.int .i64 1, .bool false, .int .i64 0, .string ⟨#[]⟩, .slice none 0 0, .slice none 0 0] vT (0, 0)))) := new_ext _ _
    go_enter Tryz.func31, Tryz.ntmps31
    go_wp2_with fail
    go_ret
    exact ⟨ret_str HE.out.symm, HX.out⟩
  | hb b =>
    intro F cs w h _ _ _
    obtain rfl := RV_bool.1 h
    clear h
    have HE : Hid (bx (textJ (.bool b)) = if b then ⟨#[116, 114, 117, 101]⟩ else ⟨#[102, 97, 108, 115, 101]⟩) := by unfold Hid; rw [textJ]; cases b <;> rfl
    have HX : Hid (Ext w (w.alloc (.cells #[.int .i64 2, .bool b, .int .i64 0, .string ⟨#[]⟩, .slice none 0 0, .slice none 0 0] vT (0, 0)))) := new_ext _ _
    cases b with
    | true =>
      go_enter Tryz.func31, Tryz.ntmps31
      go_wp2_with fail
      go_ret
      exact ⟨ret_str HE.out.symm, HX.out⟩
    | false =>
      go_enter Tryz.func31, Tryz.ntmps31
      go_wp2_with fail
      go_ret
      exact ⟨ret_str HE.out.symm, HX.out⟩
  | hi n =>
    intro F cs w h _ _ _
    obtain ⟨rfl, h64⟩ := RV_num.1 h
    clear h
    have HE : Hid (bx (textJ (.num n)) = bx (numT n)) := by unfold Hid; rw [textJ]
    obtain ⟨fx, hfx⟩ : ∃ fx : ByteArray, fx = bx (numT n) := ⟨_, rfl⟩
    have HX : Hid (Ext w (w.alloc (.cells #[.int .i64 3, .bool false, .int .i64 n, .string ⟨#[]⟩, .slice none 0 0, .slice none 0 0] vT (0, 0)))) := new_ext _ _
    have CF : Hid (∀ W, Calls Tryz.prog 67 #[.int .i64 n] W fun e w' => e = .returned (.string fx) ∧ Ext W w') := fun W => by
      rw [hfx]
      exact rnum_any n W h64
    rw [← hfx] at HE
    clear hfx h64
    go_enter Tryz.func31, Tryz.ntmps31
    go_wp2_with fail
    refine Calls.mono (CF.out _) ?_
    rintro e w2 ⟨rfl, x2⟩
    have X2 := Lib.hid (HX.out.trans x2)
    clear x2
    go_wp2_with fail
    go_ret
    exact ⟨ret_str HE.out.symm, X2.out⟩
  | ht s =>
    intro F cs w h _ hm hb
    obtain rfl := RV_text.1 h
    clear h
    have HE : Hid (bx (textJ (.text s)) = bx (quoteS s)) := by unfold Hid; rw [textJ]
    rw [bulkJ] at hb
    obtain ⟨fx, hfx⟩ : ∃ fx : ByteArray, fx = bx (quoteS s) := ⟨_, rfl⟩
    obtain ⟨sx, hsx⟩ : ∃ sx : ByteArray, sx = bx s := ⟨_, rfl⟩
    rw [← hsx]
    have HX : Hid (Ext w (w.alloc (.cells #[.int .i64 4, .bool false, .int .i64 0, .string sx, .slice none 0 0, .slice none 0 0] vT (0, 0)))) := new_ext _ _
    have CF : Hid (∀ W, Ext w W → Calls Tryz.prog 37 #[.string sx] W fun e w' => e = .returned (.string fx) ∧ Ext W w') := fun W hx => by
      rw [hfx, hsx]
      exact rquoted_any s W (hm.ext hx) (by omega)
    rw [← hfx] at HE
    clear hfx hsx hb hm
    go_enter Tryz.func31, Tryz.ntmps31
    go_wp2_with fail
    refine Calls.mono (CF.out _ HX.out) ?_
    rintro e w2 ⟨rfl, x2⟩
    have X2 := Lib.hid (HX.out.trans x2)
    clear x2
    go_wp2_with fail
    go_ret
    exact ⟨ret_str HE.out.symm, X2.out⟩
  | hl l ih => exact rtext_list l ih
  | ho ns l ih => exact rtext_obj ns l ih
end Go.Proofs.YtahinicpceokcaaGreatDoor.Jm
