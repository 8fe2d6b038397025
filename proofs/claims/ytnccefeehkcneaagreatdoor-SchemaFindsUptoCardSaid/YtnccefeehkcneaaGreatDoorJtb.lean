/-
  The program's Text.
  The reference's Text (printed by gen/jt4.py).
-/
import Derived.Test.YtnccefeehkcneaaGreatDoorJpb
import Derived.Test.YtnccefeehkcneaaGreatDoorJta
import Derived.Test.YtnccefeehkcneaaGreatDoorDit
import Derived.Test.YtnccefeehkcneaaGreatDoorJkc
import Derived.Test.YtnccefeehkcneaaGreatDoorJqf
namespace Go.Proofs.YtnccefeehkcneaaGreatDoor.Jm
open Go Go.RowKit Go.Proofs.YtnccefeehkcneaaGreatDoor.Sx Go.Proofs.YtnccefeehkcneaaGreatDoor.Js Go.Proofs.YtnccefeehkcneaaGreatDoor.Gr
theorem joinR_any {base : Nat} (A : Option Addr) (n c : Nat) (ts : List Tx) (w : World) (h : GRow strT' 1 base w (.slice A n c) (one (ts.map strW))) (hz : (Lib.join ts [44]).length ≤ 140737488355328) (hn : n ≤ 16777216) :
    Calls Tryz.prog 107 #[.slice A n c, .string ⟨#[44]⟩] w fun e w' => e = .returned (.string (bx (Lib.join ts [44]))) ∧ Ext w w' := by
  have hl : (one (ts.map strW)).length = ts.length := by rw [one_len, List.length_map]
  obtain ⟨A', c', e, hc⟩ := h.slice
  injection e with e1 e2 e3
  rw [hl] at e2 hc
  subst e2
  cases ts with
  | nil =>
    exact (Tryz.strings_Join_none A c ⟨#[44]⟩ w).mono fun e w' ⟨he, hw⟩ => ⟨he, by rw [hw]; exact Below.refl _ _⟩
  | cons t r =>
    obtain ⟨g, hA, hlt, _, _, _⟩ := h.at_ (k := 0) (by rw [hl]; simp)
    have hx : ((t :: r).map bx).map (·.data.toList) = t :: r := by
      have e : ((fun x : ByteArray => x.data.toList) ∘ bx) = id := funext bx_data
      rw [List.map_map, e, List.map_id]
    have hj := Tryz.strings_Join g 0 c ((t :: r).map bx) ⟨#[44]⟩ w (fun j x hjx => by
      obtain ⟨hj1, hj2⟩ := List.getElem?_eq_some_iff.1 hjx
      rw [List.length_map] at hj1
      obtain ⟨g', hA', _, _, _, hcell⟩ := h.at_ (k := j) (by rw [hl]; exact hj1)
      rw [hA] at hA'
      injection hA' with hA'
      injection hA' with hA'
      subst hA'
      have h1 : (one ((t :: r).map strW))[j]'(by rw [hl]; exact hj1) = [strW (t :: r)[j]] := by unfold one; rw [List.getElem_map, List.getElem_map]
      have := hcell 0 (strW (t :: r)[j]) (by rw [h1]; rfl)
      rw [Nat.mul_one, Nat.add_zero] at this
      rw [Nat.zero_add, this, ← hj2, List.getElem_map]
      rfl) hlt (by rw [List.length_map]; omega) (by rw [List.length_map, e3]; exact hc) (by rw [hx]; exact hz)
    rw [hx, List.length_map] at hj
    rw [hA]
    exact hj
def TextC (j : J) : Prop := ∀ (F : Nat → Prop) (u : Value) (w : World), PV F w j u → IJ j → Tab10 w → bulkJ j ≤ 16777216 → Calls Tryz.prog 55 #[u] w fun e w' => e = .returned (.string (bx (textJ j))) ∧ Ext w w'
theorem ret_str {a b : ByteArray} (h : a = b) : Ending.returned (.string a) = .returned (.string b) := by rw [h]
set_option maxRecDepth 100000 in
set_option maxHeartbeats 4000000 in
theorem text_list (l : List J) (ih : ∀ x ∈ l, TextC x) : TextC (.list l) := by
  intro F u w h hij ht hb
  obtain ⟨A, c, rfl, hc, hv⟩ := PV_list.1 h
  have hbl := hb
  rw [bulkJ_list] at hbl
  have hcount := bulk_count l
  obtain ⟨N, hN⟩ : ∃ N, N = l.length := ⟨_, rfl⟩
  have HN := Lib.hid hN
  have hNs : N ≤ 16777216 := by omega
  have HV := Lib.hid hv
  have HIH : Hid (∀ q (hq : q < l.length) (W : World) (u : Value), Ext w W → PV F w l[q] u → Calls Tryz.prog 55 #[u] W fun e w' => e = .returned (.string (bx (textJ l[q]))) ∧ Ext W w') := fun q hq W u hx hp =>
    ih _ (List.getElem_mem hq) F u W (hp.ext hx) (IJ_list.1 hij _ (List.getElem_mem hq)) (ht.ext hx) (by have := bulk_in (List.getElem_mem hq); omega)
  have HTL : Hid (bx (textJ (.list l)) = ⟨#[91]⟩ ++ bx (Lib.join (l.map textJ) [44]) ++ ⟨#[93]⟩) := by
    unfold Hid
    rw [textJ_list]
    show bx ([91] ++ (_ ++ [93])) = _
    rw [bx_app, bx_app, ByteArray.append_assoc]
    rfl
  have hlen := text_len (.list l) hij
  rw [textJ_list, List.length_cons, List.length_append] at hlen
  have hjl : (Lib.join (l.map textJ) [44]).length ≤ 16777216 := by omega
  have hjs : (bx (Lib.join (l.map textJ) [44])).size ≤ 16777216 := by rw [bx_size]; exact hjl
  rw [← hN]
  clear h hij ht hb hv hbl hcount hN hlen hc ih
  have a1 := ta_vals_bool (.slice A N c)
  have a2 := ta_vals_int (.slice A N c)
  have a3 := ta_vals_str (.slice A N c)
  have a4 := ta_vals_vals (.slice A N c)
  go_enter Tryz.func55, Tryz.ntmps55
  go_wp2_with fail
  clear a1 a2 a3 a4
  go_loopw [7, 35] (fun o ix wr => ∃ (q : Nat) (B : Option Addr) (c2 : Nat), q ≤ N ∧ ix = .int .i64 (q : Int) ∧ o = .slice B q c2 ∧ Hid (GRow strT' 1 w.heap.size wr (.slice B q c2) (one (((l.take q).map textJ).map strW)) ∧ Ext w wr)) (fun _ ix _ => N - (intOf ix).toNat)
  case atStart => exact ⟨0, none, 0, Nat.zero_le _, rfl, rfl, GRow.nil, Below.refl _ _⟩
  case round =>
    obtain ⟨q, B, c2, hq, rfl, rfl, hR⟩ := hrel
    have hq0 : (0 : Int) ≤ (q : Int) := by omega
    by_cases hlt : q < N
    · have hql : q < l.length := by rw [← HN.out]; exact hlt
      obtain ⟨g, off, u, rfl, _, hu, hp⟩ := HV.out q hql
      have hcell := (cell_keep (hR.out.2.block g (cell_lt hu))).trans hu
      have CT := Lib.hid (HIH.out q hql wr u hR.out.2 hp)
      have HTK : Hid (((l.take (q + 1)).map textJ).map strW = ((l.take q).map textJ).map strW ++ [strW (textJ l[q])]) := by
        unfold Hid
        rw [List.take_succ_eq_append_getElem hql, List.map_append, List.map_append]
        rfl
      have HTQ : Hid ((one (((l.take q).map textJ).map strW)).length = q) := by
        unfold Hid
        rw [one_len, List.length_map, List.length_map, List.length_take]
        omega
      have hltI : (q : Int) < (N : Int) := by omega
      clear hu hp
      go_wp2_with fail
      refine Calls.mono CT.out ?_
      rintro e w2 ⟨rfl, x2⟩
      have X2 := Lib.hid (hR.out.2.trans x2)
      have HR2 := Lib.hid (hR.out.1.ext x2)
      clear x2
      obtain ⟨tx, htx⟩ : ∃ tx, tx = bx (textJ l[q]) := ⟨_, rfl⟩
      have HTX := Lib.hid htx
      rw [← htx]
      clear htx
      go_wp2_with (at_builtin; refine append_g ty_strs rfl _ _ (by rfl) w.heap.size q 1 _ (.slice B q c2) (.slice (some ⟨w2.heap.size, 0, none⟩) 1 1) (one (((l.take q).map textJ).map strW)) [[.string tx]] (by rfl) (by rfl) (HR2.out.ext (new_ext _ _)) (GSrc.one rfl (fun z hz => by rw [List.mem_singleton] at hz; rw [hz]; rfl) (heap_new rfl)) HTQ.out rfl (by omega) (Nat.le_trans X2.out.size (new_ext _ _).size) ?_; intro A9 c9 w9 h9 g9 _; have HX9 : Hid (Ext w w9) := ext_row (X2.out.trans (new_ext _ _)) g9 (fun b e => (HR2.out.block b e).1); have H9 := Lib.hid h9; clear h9 g9)
      go_roundw
      case rel => exact ⟨q + 1, A9, c9, hlt, by go_num, rfl, by rw [HTK.out, one_app]; have h := H9.out; rw [HTX.out] at h; exact h, HX9.out⟩
      case measure => simp [intOf]; omega
    · have hqN : q = N := by omega
      have HRow : Hid (GRow strT' 1 w.heap.size wr (.slice B q c2) (one ((l.map textJ).map strW))) := by
        have h := hR.out.1
        rw [List.take_of_length_le (by rw [← HN.out]; omega)] at h
        exact h
      have CJ := Lib.hid (joinR_any B q c2 (l.map textJ) wr HRow.out (by omega) (by omega))
      have bl : decide ((q : Int) < (N : Int)) = false := decide_eq_false (by omega)
      have bl2 : decide (q < N) = false := decide_eq_false hlt
      obtain ⟨jx, hjx⟩ : ∃ jx, jx = bx (Lib.join (l.map textJ) [44]) := ⟨_, rfl⟩
      rw [← hjx] at CJ hjs HTL
      clear hqN hlt hjx
      go_wp2_with fail
      refine Calls.mono CJ.out ?_
      rintro e w2 ⟨rfl, x2⟩
      have X2 := Lib.hid (hR.out.2.trans x2)
      clear x2
      go_wp2_with fail
      go_ret
      exact ⟨ret_str (by rw [HTL.out]), X2.out⟩
theorem drop_field (ns : List Tx) (l : List J) (q : Nat) (h1 : q < ns.length) (h2 : q < l.length) : (((ns.zip l).take (q + 1)).map fieldT).map strW = (((ns.zip l).take q).map fieldT).map strW ++ [strW (fieldT (ns[q], l[q]))] := by
  rw [List.take_succ_eq_append_getElem (by rw [List.length_zip]; omega), List.map_append, List.map_append, List.getElem_zip]
  rfl
set_option maxRecDepth 100000 in
set_option maxHeartbeats 4000000 in
theorem text_obj (ns : List Tx) (l : List J) (ih : ∀ x ∈ l, TextC x) : TextC (.obj ns l) := by
  intro F u w h hij ht hb
  obtain ⟨b, rfl, hFb, A, c, B, d, hh, hc, hd, hn, hv⟩ := PV_obj.1 h
  have hnl := (IJ_obj.1 hij).1
  have hbl := hb
  rw [bulkJ] at hbl
  have hcount := bulk_count l
  obtain ⟨N, hN⟩ : ∃ N, N = ns.length := ⟨_, rfl⟩
  have HN : Hid (N = ns.length ∧ N = l.length) := ⟨hN, hN.trans hnl⟩
  have hNs : N ≤ 16777216 := by omega
  have HNA := Lib.hid hn
  have HV := Lib.hid hv
  have HIH : Hid (∀ q (hq : q < l.length) (W : World) (u : Value), Ext w W → PV F w l[q] u → Calls Tryz.prog 55 #[u] W fun e w' => e = .returned (.string (bx (textJ l[q]))) ∧ Ext W w') := fun q hq W u hx hp =>
    ih _ (List.getElem_mem hq) F u W (hp.ext hx) ((IJ_obj.1 hij).2 _ (List.getElem_mem hq)) (ht.ext hx) (by have := bulk_in (List.getElem_mem hq); omega)
  have HTL : Hid (bx (textJ (.obj ns l)) = ⟨#[123]⟩ ++ bx (Lib.join ((ns.zip l).map fieldT) [44]) ++ ⟨#[125]⟩) := by
    unfold Hid
    rw [textJ_obj]
    show bx ([123] ++ (_ ++ [125])) = _
    rw [bx_app, bx_app, ByteArray.append_assoc]
    rfl
  have hlen := text_len (.obj ns l) hij
  rw [textJ_obj, List.length_cons, List.length_append] at hlen
  have hjl : (Lib.join ((ns.zip l).map fieldT) [44]).length ≤ 16777216 := by omega
  have hjs : (bx (Lib.join ((ns.zip l).map fieldT) [44])).size ≤ 16777216 := by rw [bx_size]; exact hjl
  have HSZ : Hid (∀ q (h1 : q < ns.length) (h2 : q < l.length), ns[q].length ≤ 16777216 ∧ (bx (quoteS ns[q])).size ≤ 67108864 ∧ (bx (textJ l[q])).size ≤ 16777216) := fun q h1 h2 => by
    have e1 := bulk_name (List.getElem_mem h1)
    have e2 := bulk_in (List.getElem_mem h2)
    have e3 := quote_len ns[q]
    have e4 := text_len l[q] ((IJ_obj.1 hij).2 _ (List.getElem_mem h2))
    refine ⟨by omega, by rw [bx_size]; omega, by rw [bx_size]; omega⟩
  have HO : Hid (∀ W, Ext w W → W.cell? ⟨b, 0, none⟩ = some (.slice A N c) ∧ W.cell? ⟨b, 1, none⟩ = some (.slice B N d)) := fun W hW => by
    have h0 : w.cell? ⟨b, 0, none⟩ = some (.slice A N c) := by rw [hN]; exact cell_of hh 0
    have h1 : w.cell? ⟨b, 1, none⟩ = some (.slice B N d) := by rw [hN, hnl]; exact cell_of hh 1
    exact ⟨(cell_keep (hW.block b (heap_lt hh))).trans h0, (cell_keep (hW.block b (heap_lt hh))).trans h1⟩
  clear h hij ht hb hn hv hbl hcount hN hnl hlen hc hd hh hFb ih
  obtain ⟨o0, o1⟩ := HO.out w (Below.refl _ _)
  have a1 := ta_obj_bool (.pointer (some ⟨b, 0, none⟩))
  have a2 := ta_obj_int (.pointer (some ⟨b, 0, none⟩))
  have a3 := ta_obj_str (.pointer (some ⟨b, 0, none⟩))
  have a4 := ta_obj_vals (.pointer (some ⟨b, 0, none⟩))
  have a5 := ta_obj_obj (.pointer (some ⟨b, 0, none⟩))
  go_enter Tryz.func55, Tryz.ntmps55
  go_wp2_with fail
  clear a1 a2 a3 a4 a5 o0 o1
  go_loopw [11, 57] (fun o ix wr => ∃ (q : Nat) (C : Option Addr) (c2 : Nat), q ≤ N ∧ ix = .int .i64 (q : Int) ∧ o = .slice C q c2 ∧ Hid (GRow strT' 1 w.heap.size wr (.slice C q c2) (one ((((ns.zip l).take q).map fieldT).map strW)) ∧ Ext w wr)) (fun _ ix _ => N - (intOf ix).toNat)
  case atStart => exact ⟨0, none, 0, Nat.zero_le _, rfl, rfl, GRow.nil, Below.refl _ _⟩
  case round =>
    obtain ⟨q, C, c2, hq, rfl, rfl, hR⟩ := hrel
    have hq0 : (0 : Int) ≤ (q : Int) := by omega
    by_cases hlt : q < N
    · have hqn : q < ns.length := by rw [← HN.out.1]; exact hlt
      have hql : q < l.length := by rw [← HN.out.2]; exact hlt
      obtain ⟨ga, oa, rfl, _, hca⟩ := HNA.out q hqn
      have hcella := (cell_keep (hR.out.2.block ga (cell_lt hca))).trans hca
      obtain ⟨g, off, u, rfl, _, hu, hp⟩ := HV.out q hql
      have HS : Hid (∀ W, Ext w W → W.cell? ⟨b, 1, none⟩ = some (.slice (some ⟨g, off, none⟩) N d) ∧ W.cell? ⟨g, off + q, none⟩ = some u) := fun W hW => by
        exact ⟨(HO.out W hW).2, (cell_keep (hW.block g (cell_lt hu))).trans hu⟩
      obtain ⟨tx, htx⟩ : ∃ tx, tx = bx (textJ l[q]) := ⟨_, rfl⟩
      obtain ⟨qx, hqx⟩ : ∃ qx, qx = bx (quoteS ns[q]) := ⟨_, rfl⟩
      obtain ⟨nx, hnx⟩ : ∃ nx, nx = bx ns[q] := ⟨_, rfl⟩
      have CT : Hid (∀ W, Ext wr W → Calls Tryz.prog 55 #[u] W fun e w' => e = .returned (.string tx) ∧ Ext wr w' ∧ Ext w w') := fun W hx => by
        rw [htx]
        exact (HIH.out q hql W u (hR.out.2.trans hx) hp).mono fun e w' ⟨h1, h2⟩ => ⟨h1, hx.trans h2, hR.out.2.trans (hx.trans h2)⟩
      have hsz := HSZ.out q hqn hql
      have CQ : Hid (∀ W, Ext wr W → Calls Tryz.prog 106 #[.string nx] W fun e w' => e = .returned (.string qx) ∧ Ext wr w' ∧ Ext w w') := fun W hx => by
        rw [hqx, hnx]
        exact (quote_any ns[q] W hsz.1).mono fun e w' ⟨h1, h2⟩ => ⟨h1, hx.trans h2, hR.out.2.trans (hx.trans h2)⟩
      have HFT : Hid (bx (fieldT (ns[q], l[q])) = qx ++ ⟨#[58]⟩ ++ tx) := by
        unfold Hid
        rw [htx, hqx]
        show bx (quoteS ns[q] ++ ([58] ++ textJ l[q])) = _
        rw [bx_app, bx_app, ByteArray.append_assoc]
        rfl
      rw [← htx, ← hqx] at hsz
      have s1 : (9223372036854775807 < qx.size + 1) = False := eq_false (by omega)
      have s2 : (9223372036854775807 < qx.size + 1 + tx.size) = False := eq_false (by omega)
      rw [← hnx] at hcella
      have HTK := Lib.hid (drop_field ns l q hqn hql)
      have HTQ : Hid ((one ((((ns.zip l).take q).map fieldT).map strW)).length = q) := by
        unfold Hid
        rw [one_len, List.length_map, List.length_map, List.length_take, List.length_zip]
        omega
      have hltI : (q : Int) < (N : Int) := by omega
      have hxr : Ext wr wr := Below.refl _ _
      have hxw : Ext w wr := hR.out.2
      have HRG : Hid (∀ W, Ext wr W → GRow strT' 1 w.heap.size W (.slice C q c2) (one ((((ns.zip l).take q).map fieldT).map strW)) ∧ w.heap.size ≤ W.heap.size) := fun W hx => ⟨hR.out.1.ext hx, Nat.le_trans hR.out.2.size hx.size⟩
      clear hu hp hca htx hqx hnx hsz
      go_upto_region 26 with (fail)
      go_region_held3 (fun w' => w'.cell? ⟨b, 1, none⟩ = some (.slice (some ⟨g, off, none⟩) N d) ∧ w'.cell? ⟨g, off + q, none⟩ = some u)
        (exact HS.out _ (by repeat (first | assumption | apply ext_al | apply ext_dr)))
        (first
          | (go_at_call 106; refine Calls.mono (CQ.out _ (by repeat (first | assumption | apply ext_al | apply ext_dr))) ?_; rintro e w2 ⟨rfl, x2, y2⟩)
          | (go_at_call 55; refine Calls.mono (CT.out _ (by repeat (first | assumption | apply ext_al | apply ext_dr))) ?_; rintro e w3 ⟨rfl, x3, y3⟩)
          | (refine step_append_g ty_strs rfl (.tmp 62) (.tmp 75) (by rfl) w.heap.size q 1 _ (.slice C q c2) _ (one ((((ns.zip l).take q).map fieldT).map strW)) [[_]] (by rfl) (by rfl) (HRG.out _ (by repeat (first | assumption | apply ext_al | apply ext_dr))).1 (GSrc.one rfl (fun z hz => by rw [List.mem_singleton] at hz; rw [hz]; rfl) (heap_new rfl)) HTQ.out rfl (by omega) (HRG.out _ (by repeat (first | assumption | apply ext_al | apply ext_dr))).2 ?_; intro A9 c9 w9 h9 g9 _; have hx9 : Ext w w9 := ext_row (by repeat (first | assumption | apply ext_al | apply ext_dr)) g9 (fun b e => (hR.out.1.block b e).1)))
      clear hxr hxw
      have H9 := Lib.hid h9
      clear h9
      go_wp2_with fail
      go_roundw
      case rel => exact ⟨q + 1, A9, c9, hlt, by go_num, rfl, by rw [HTK.out, one_app]; have h := H9.out; rw [← HFT.out] at h; exact h, hx9⟩
      case measure => simp [intOf]; omega
    · have hqN : q = N := by omega
      have HRow : Hid (GRow strT' 1 w.heap.size wr (.slice C q c2) (one (((ns.zip l).map fieldT).map strW))) := by
        have h := hR.out.1
        rw [List.take_of_length_le (by rw [List.length_zip]; have := HN.out; omega)] at h
        exact h
      have CJ := Lib.hid (joinR_any C q c2 ((ns.zip l).map fieldT) wr HRow.out (by omega) (by omega))
      have bl : decide ((q : Int) < (N : Int)) = false := decide_eq_false (by omega)
      have bl2 : decide (q < N) = false := decide_eq_false hlt
      obtain ⟨jx, hjx⟩ : ∃ jx, jx = bx (Lib.join ((ns.zip l).map fieldT) [44]) := ⟨_, rfl⟩
      rw [← hjx] at CJ hjs HTL
      clear hqN hlt hjx
      go_wp2_with fail
      refine Calls.mono CJ.out ?_
      rintro e w2 ⟨rfl, x2⟩
      have X2 := Lib.hid (hR.out.2.trans x2)
      clear x2
      go_wp2_with fail
      go_ret
      exact ⟨ret_str (by rw [HTL.out]), X2.out⟩
set_option maxRecDepth 100000 in
set_option maxHeartbeats 4000000 in
/-- Text of any value. -/
theorem text_val (j : J) : TextC j := by
  induction j using J.ind with
  | hn =>
    intro F u w h _ _ _
    obtain rfl := PV_null.1 h
    clear h
    have HE : Hid (bx (textJ .null) = ⟨#[110, 117, 108, 108]⟩) := by unfold Hid; rw [textJ]; rfl
    have a1 := ta_nil_bool
    have a2 := ta_nil_int
    have a3 := ta_nil_str
    have a4 := ta_nil_vals
    have a5 := ta_nil_obj
    go_enter Tryz.func55, Tryz.ntmps55
    go_wp2_with fail
    go_ret
    exact ⟨ret_str HE.out.symm, Below.refl _ _⟩
  | hb b =>
    intro F u w h _ _ _
    obtain rfl := PV_bool.1 h
    clear h
    have HE : Hid (bx (textJ (.bool b)) = ⟨(Lib.formatBool b).toArray⟩) := by
      unfold Hid
      rw [textJ]
      cases b <;> rfl
    obtain ⟨fx, hfx⟩ : ∃ fx : ByteArray, fx = ⟨(Lib.formatBool b).toArray⟩ := ⟨_, rfl⟩
    have CF : Hid (Calls Tryz.prog 104 #[.bool b] w fun e w' => e = .returned (.string fx) ∧ w = w') := by
      rw [hfx]
      exact (Tryz.strconv_FormatBool b w).mono fun e w' ⟨h1, h2⟩ => ⟨h1, h2.symm⟩
    rw [← hfx] at HE
    clear hfx
    have a1 := ta_bool_bool (.bool b)
    go_enter Tryz.func55, Tryz.ntmps55
    go_wp2_with fail
    refine Calls.mono CF.out ?_
    rintro e w2 ⟨rfl, rfl⟩
    go_wp2_with fail
    go_ret
    exact ⟨ret_str HE.out.symm, Below.refl _ _⟩
  | hi n =>
    intro F u w h _ ht _
    obtain ⟨rfl, h1, h2⟩ := PV_num.1 h
    clear h
    have HE : Hid (bx (textJ (.num n)) = ⟨(Lib.itoa n).toArray⟩) := by unfold Hid; rw [textJ]; rfl
    obtain ⟨fx, hfx⟩ : ∃ fx : ByteArray, fx = ⟨(Lib.itoa n).toArray⟩ := ⟨_, rfl⟩
    have CF : Hid (Calls Tryz.prog 105 #[.int .i64 n, .int .i64 10] w fun e w' => e = .returned (.string fx) ∧ Ext w w') := by
      rw [hfx]
      exact (Tryz.strconv_FormatInt_10 n h1 h2 w ht).mono fun e w' ⟨he, k, os, hw⟩ => ⟨he, by rw [hw]; exact ext_grow w k os⟩
    rw [← hfx] at HE
    clear hfx h1 h2 ht
    have a1 := ta_int_bool (.int .i64 n)
    have a2 := ta_int_int (.int .i64 n)
    go_enter Tryz.func55, Tryz.ntmps55
    go_wp2_with fail
    refine Calls.mono CF.out ?_
    rintro e w2 ⟨rfl, x2⟩
    have X2 := Lib.hid x2
    clear x2
    go_wp2_with fail
    go_ret
    exact ⟨ret_str HE.out.symm, X2.out⟩
  | ht s =>
    intro F u w h _ _ hb
    obtain rfl := PV_text.1 h
    clear h
    have HE : Hid (bx (textJ (.text s)) = bx (quoteS s)) := by unfold Hid; rw [textJ]
    rw [bulkJ] at hb
    obtain ⟨fx, hfx⟩ : ∃ fx : ByteArray, fx = bx (quoteS s) := ⟨_, rfl⟩
    obtain ⟨sx, hsx⟩ : ∃ sx : ByteArray, sx = bx s := ⟨_, rfl⟩
    have CF : Hid (Calls Tryz.prog 106 #[.string sx] w fun e w' => e = .returned (.string fx) ∧ Ext w w') := by
      rw [hfx, hsx]
      exact quote_any s w (by omega)
    rw [← hfx] at HE
    rw [← hsx]
    clear hfx hsx hb
    have a1 := ta_str_bool (.string sx)
    have a2 := ta_str_int (.string sx)
    have a3 := ta_str_str (.string sx)
    go_enter Tryz.func55, Tryz.ntmps55
    go_wp2_with fail
    refine Calls.mono CF.out ?_
    rintro e w2 ⟨rfl, x2⟩
    have X2 := Lib.hid x2
    clear x2
    go_wp2_with fail
    go_ret
    exact ⟨ret_str HE.out.symm, X2.out⟩
  | hl l ih => exact text_list l ih
  | ho ns l ih => exact text_obj ns l ih
end Go.Proofs.YtnccefeehkcneaaGreatDoor.Jm
namespace Go.Proofs.YtnccefeehkcneaaGreatDoor.Jm
open Go Go.RowKit Go.Proofs.YtnccefeehkcneaaGreatDoor.Sx Go.Proofs.YtnccefeehkcneaaGreatDoor.Js Go.Proofs.YtnccefeehkcneaaGreatDoor.Gr
theorem RV.ij {F : Nat → Prop} {w : World} (j : J) : ∀ v, RV F w j v → WJ j → IJ j := by
  induction j using J.ind with
  | hn => intro v _ _; rw [IJ]; trivial
  | hb b => intro v _ _; rw [IJ]; trivial
  | hi n => intro v h _; exact IJ_num.2 (RV_num.1 h).2
  | ht s => intro v _ _; rw [IJ]; trivial
  | hl l ih =>
    intro v h hw
    obtain ⟨A, c, _, _, hv⟩ := RV_list.1 h
    refine IJ_list.2 (fun x hx => ?_)
    obtain ⟨i, hi, rfl⟩ := List.mem_iff_getElem.1 hx
    obtain ⟨g, off, u, _, _, _, _, hp⟩ := hv i hi
    exact ih _ hx u hp (WJ_list.1 hw _ hx)
  | ho ns l ih =>
    intro v h hw
    obtain ⟨A, c, B, d, _, _, _, _, hv⟩ := RV_obj.1 h
    refine IJ_obj.2 ⟨(WJ_obj.1 hw).1.1, fun x hx => ?_⟩
    obtain ⟨i, hi, rfl⟩ := List.mem_iff_getElem.1 hx
    obtain ⟨g, off, u, _, _, _, _, hp⟩ := hv i hi
    exact ih _ hx u hp ((WJ_obj.1 hw).2 _ hx)
end Go.Proofs.YtnccefeehkcneaaGreatDoor.Jm
