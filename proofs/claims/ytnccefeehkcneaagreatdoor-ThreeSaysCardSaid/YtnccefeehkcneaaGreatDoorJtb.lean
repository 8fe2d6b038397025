/-
  The program's Text.
  The reference's Text (printed by gen/jt4.py).
-/
import Derived.Test.YtnccefeehkcneaaGreatDoorJpb
import Derived.Test.YtnccefeehkcneaaGreatDoorJta
import Derived.Test.YtnccefeehkcneaaGreatDoorDit
import Derived.Test.YtnccefeehkcneaaGreatDoorJkc
import Derived.Test.YtnccefeehkcneaaGreatDoorJqf
namespace Go.Proofs.YtnccefeehkcneaaGreatDoor.Jm
open Go Go.RowKit Go.Proofs.YtnccefeehkcneaaGreatDoor.Sx Go.Proofs.YtnccefeehkcneaaGreatDoor.Js Go.Proofs.YtnccefeehkcneaaGreatDoor.Gr
theorem joinR_any {base : Nat} (A : Option Addr) (n c : Nat) (ts : List Tx) (w : World) (h : GRow strT' 1 base w (.slice A n c) (one (ts.map strW))) (hz : (Lib.join ts [44]).length ≤ 140737488355328) (hn : n ≤ 16777216) :
    Calls Tryz.prog 107 #[.slice A n c, .string ⟨#[44]⟩] w fun e w' => e = .returned (.string (bx (Lib.join ts [44]))) ∧ Ext w w' := by
  have hl : (one (ts.map strW)).length = ts.length := by rw [one_len, List.length_map]
  obtain ⟨A', c', e, hc⟩ := h.slice
  injection e with e1 e2 e3
  rw [hl] at e2 hc
  subst e2
  cases ts with
  | nil =>
    exact (Tryz.strings_Join_none A c ⟨#[44]⟩ w).mono fun e w' ⟨he, hw⟩ => ⟨he, by rw [hw]; exact Below.refl _ _⟩
  | cons t r =>
    obtain ⟨g, hA, hlt, _, _, _⟩ := h.at_ (k := 0) (by rw [hl]; simp)
    have hx : ((t :: r).map bx).map (·.data.toList) = t :: r := by
      have e : ((fun x : ByteArray => x.data.toList) ∘ bx) = id := funext bx_data
      rw [List.map_map, e, List.map_id]
    have hj := Tryz.strings_Join g 0 c ((t :: r).map bx) ⟨#[44]⟩ w (fun j x hjx => by
      obtain ⟨hj1, hj2⟩ := List.getElem?_eq_some_iff.1 hjx
      rw [List.length_map] at hj1
      obtain ⟨g', hA', _, _, _, hcell⟩ := h.at_ (k := j) (by rw [hl]; exact hj1)
      rw [hA] at hA'
      injection hA' with hA'
      injection hA' with hA'
      subst hA'
      have h1 : (one ((t :: r).map strW))[j]'(by rw [hl]; exact hj1) = [strW (t :: r)[j]] := by unfold one; rw [List.getElem_map, List.getElem_map]
      have := hcell 0 (strW (t :: r)[j]) (by rw [h1]; rfl)
      rw [Nat.mul_one, Nat.add_zero] at this
      rw [Nat.zero_add, this, ← hj2, List.getElem_map]
      rfl) hlt (by rw [List.length_map]; omega) (by rw [List.length_map, e3]; exact hc) (by rw [hx]; exact hz)
    rw [hx, List.length_map] at hj
    rw [hA]
    exact hj
def TextC (j : J) : Prop := ∀ (F : Nat → Prop) (u : Value) (w : World), PV F w j u → IJ j → Tab10 w → bulkJ j ≤ 16777216 → Calls Tryz.prog 55 #[u] w fun e w' => e = .returned (.string (bx (textJ j))) ∧ Ext w w'
theorem ret_str {a b : ByteArray} (h : a = b) : Ending.returned (.string a) = .returned (.string b) := by rw [h]
set_option maxRecDepth 100000 in
set_option maxHeartbeats 4000000 in
theorem text_list (l : List J) (ih : ∀ x ∈ l, TextC x) : TextC (.list l) := by
  intro F u w h hij ht hb
  obtain ⟨A, c, rfl, hc, hv⟩ := PV_list.1 h
  have hbl := hb
  rw [bulkJ_list] at hbl
  have hcount := bulk_count l
  obtain ⟨N, hN⟩ : ∃ N, N = l.length := ⟨_, rfl⟩
  have HN := Lib.hid hN
  have hNs : N ≤ 16777216 := by omega
  have HV := Lib.hid hv
  have HIH : Hid (∀ q (hq : q < l.length) (W : World) (u : Value), Ext w W → PV F w l[q] u → Calls Tryz.prog 55 #[u] W fun e w' => e = .returned (.string (bx (textJ l[q]))) ∧ Ext W w') := fun q hq W u hx hp =>
    ih _ (List.getElem_mem hq) F u W (hp.ext hx) (IJ_list.1 hij _ (List.getElem_mem hq)) (ht.ext hx) (by have := bulk_in (List.getElem_mem hq); omega)
  have HTL : Hid (bx (textJ (.list l)) = ⟨#[91]⟩ ++ bx (Lib.join (l.map textJ) [44]) ++ ⟨#[93]⟩) := by
    unfold Hid
    rw [textJ_list]
    show bx ([91] ++ (_ ++ [93])) = _
    rw [bx_app, bx_app, ByteArray.append_assoc]
    rfl
  have hlen := text_len (.list l) hij
  rw [textJ_list, List.length_cons, List.length_append] at hlen
  have hjl : (Lib.join (l.map textJ) [44]).length ≤ 16777216 := by omega
  have hjs : (bx (Lib.join (l.map textJ) [44])).size ≤ 16777216 := by rw [bx_size]; exact hjl
  rw [← hN]
  clear h hij ht hb hv hbl hcount hN hlen hc ih
  have a1 := ta_vals_bool (.slice A N c)
  have a2 := ta_vals_int (.slice A N c)
  have a3 := ta_vals_str (.slice A N c)
  have a4 := ta_vals_vals (.slice A N c)
  go_enter Tryz.func55, Tryz.ntmps55
  go_wp2_with fail
  clear a1 a2 a3 a4
  go_loopw [7, 35] (fun o ix wr => ∃ (q : Nat) (B : Option Addr) (c2 : Nat), q ≤ N ∧ ix = .int .i64 (q : Int) ∧ o = .slice B q c2 ∧ Hid (GRow strT' 1 w.heap.size wr (.slice B q c2) (one (((l.take q).map textJ).map strW)) ∧ Ext w wr)) (fun _ ix _ => N - (intOf ix).toNat)
  case atStart => exact ⟨0, none, 0, Nat.zero_le _, rfl, rfl, GRow.nil, Below.refl _ _⟩
  case round =>
    obtain ⟨q, B, c2, hq, rfl, rfl, hR⟩ := hrel
    have hq0 : (0 : Int) ≤ (q : Int) := by omega
    by_cases hlt : q < N
    · have hql : q < l.length := by rw [← HN.out]; exact hlt
      obtain ⟨g, off, u, rfl, _, hu, hp⟩ := HV.out q hql
      have hcell := (cell_keep (hR.out.2.block g (cell_lt hu))).trans hu
      have CT := Lib.hid (HIH.out q hql wr u hR.out.2 hp)
      have HTK : Hid (((l.take (q + 1)).map textJ).map strW = ((l.take q).map textJ).map strW ++ [strW (textJ l[q])]) := by
        unfold Hid
        rw [List.take_succ_eq_append_getElem hql, List.map_append, List.map_append]
        rfl
      have HTQ : Hid ((one (((l.take q).map textJ).map strW)).length = q) := by
        unfold Hid
        rw [one_len, List.length_map, List.length_map, List.length_take]
        omega
      have hltI : (q : Int) < (N : Int) := by omega
      clear hu hp
      go_wp2_with fail
      refine Calls.mono CT.out ?_
      rintro e w2 ⟨rfl, x2⟩
      have X2 := Lib.hid (hR.out.2.trans x2)
      have HR2 := Lib.hid (hR.out.1.ext x2)
      clear x2
      obtain ⟨tx, htx⟩ : ∃ tx, tx = bx (textJ l[q]) := ⟨_, rfl⟩
      have HTX := Lib.hid htx
      rw [← htx]
      clear htx
      go_wp2_with (at_builtin; refine append_g ty_strs rfl _ _ (by rfl) w.heap.size q 1 _ (.slice B q c2) (.slice (some ⟨w2.heap.size, 0, none⟩) 1 1) (one (((l.take q).map textJ).map strW)) [[.string tx]] (by rfl) (by rfl) (HR2.out.ext (new_ext _ _)) (GSrc.one rfl (fun z hz => by rw [List.mem_singleton] at hz; rw [hz]; rfl) (heap_new rfl)) HTQ.out rfl (by omega) (Nat.le_trans X2.out.size (new_ext _ _).size) ?_; intro A9 c9 w9 h9 g9 _; have HX9 : Hid (Ext w w9) := ext_row (X2.out.trans (new_ext _ _)) g9 (fun b e => (HR2.out.block b e).1); have H9 := Lib.hid h9; clear h9 g9)
      go_roundw
      case rel => exact ⟨q + 1, A9, c9, hlt, by go_num, rfl, by rw [HTK.out, one_app]; have h := H9.out; rw [HTX.out] at h; exact h, HX9.out⟩
      case measure => simp [intOf]; omega
    · have hqN : q = N := by omega
      have HRow : Hid (GRow strT' 1 w.heap.size wr (.slice B q c2) (one ((l.map textJ).map strW))) := by
        have h := hR.out.1
        rw [List.take_of_length_le (by rw [← HN.out]; omega)] at h
        exact h
      have CJ := Lib.hid (joinR_any B q c2 (l.map textJ) wr HRow.out (by omega) (by omega))
      have bl : decide ((q : Int) < (N : Int)) = false := decide_eq_false (by omega)
      have bl2 : decide (q < N) = false := decide_eq_false hlt
      obtain ⟨jx, hjx⟩ : ∃ jx, jx = bx (Lib.join (l.map textJ) [44]) := ⟨_, rfl⟩
      rw [← hjx] at CJ hjs HTL
      clear hqN hlt hjx
      go_wp2_with fail
      refine Calls.mono CJ.out ?_
      rintro e w2 ⟨rfl, x2⟩
      have X2 := Lib.hid (hR.out.2.trans x2)
      clear x2
      go_wp2_with fail
      go_ret
      exact ⟨ret_str (by rw [HTL.out]), X2.out⟩
theorem drop_field (ns : List Tx) (l : List J) (q : Nat) (h1 : q < ns.length) (h2 : q < l.length) : (((ns.zip l).take (q + 1)).map fieldT).map strW = (((ns.zip l).take q).map fieldT).map strW ++ [strW (fieldT (ns[q], l[q]))] := by
  rw [List.take_succ_eq_append_getElem (by rw [List.length_zip]; omega), List.map_append, List.map_append, List.getElem_zip]
  rfl
set_option maxRecDepth 100000 in
set_option maxHeartbeats 4000000 in
theorem text_obj (ns : List Tx) (l : List J) (ih : ∀ x ∈ l, TextC x) : TextC (.obj ns l) := by
  intro F u w h hij ht hb
  obtain ⟨b, rfl, hFb, A, c, B, d, hh, hc, hd, hn, hv⟩ := PV_obj.1 h
  have hnl := (IJ_obj.1 hij).1
  have hbl := hb
  rw [bulkJ] at hbl
  have hcount := bulk_count l
  obtain ⟨N, hN⟩ : ∃ N, N = ns.length := ⟨_, rfl⟩
  have HN : Hid (N = ns.length ∧ N = l.length) := ⟨hN, hN.trans hnl⟩
  have hNs : N ≤ 16777216 := by omega
  have HNA := Lib.hid hn
  have HV := Lib.hid hv
  have HIH : Hid (∀ q (hq : q < l.length) (W : World) (u : Value), Ext w W → PV F w l[q] u → Calls Tryz.prog 55 #[u] W fun e w' => e = .returned (.string (bx (textJ l[q]))) ∧ Ext W w') := fun q hq W u hx hp =>
    ih _ (List.getElem_mem hq) F u W (hp.ext hx) ((IJ_obj.1 hij).2 _ (List.getElem_mem hq)) (ht.ext hx) (by have := bulk_in (List.getElem_mem hq); omega)
  have HTL : Hid (bx (textJ (.obj ns l)) = ⟨#[123]⟩ ++ bx (Lib.join ((ns.zip l).map fieldT) [44]) ++ ⟨#[125]⟩) := by
    unfold Hid
    rw [textJ_obj]
    show bx ([123] ++ (_ ++ [125])) = _
    rw [bx_app, bx_app, ByteArray.append_assoc]
    rfl
  have hlen := text_len (.obj ns l) hij
  rw [textJ_obj, List.length_cons, List.length_append] at hlen
  have hjl : (Lib.join ((ns.zip l).map fieldT) [44]).length ≤ 16777216 := by omega
  have hjs : (bx (Lib.join ((ns.zip l).map fieldT) [44])).size ≤ 16777216 := by rw [bx_size]; exact hjl
  have HSZ : Hid (∀ q (h1 : q < ns.length) (h2 : q < l.length), ns[q].length ≤ 16777216 ∧ (bx (quoteS ns[q])).size ≤ 67108864 ∧ (bx (textJ l[q])).size ≤ 16777216) := fun q h1 h2 => by
    have e1 := bulk_name (List.getElem_mem h1)
    have e2 := bulk_in (List.getElem_mem h2)
    have e3 := quote_len ns[q]
    have e4 := text_len l[q] ((IJ_obj.1 hij).2 _ (List.getElem_mem h2))
    refine ⟨by omega, by rw [bx_size]; omega, by rw [bx_size]; omega⟩
  have HO : Hid (∀ W, Ext w W → W.cell? ⟨b, 0, none⟩ = some (.slice A N c) ∧ W.cell? ⟨b, 1, none⟩ = some (.slice B N d)) := fun W hW => by
    have h0 : w.cell? ⟨b, 0, none⟩ = some (.slice A N c) := by rw [hN]; exact cell_of hh 0
    have h1 : w.cell? ⟨b, 1, none⟩ = some (.slice B N d) := by rw [hN, hnl]; exact cell_of hh 1
    exact ⟨(cell_keep (hW.block b (heap_lt hh))).trans h0, (cell_keep (hW.block b (heap_lt hh))).trans h1⟩
  clear h hij ht hb hn hv hbl hcount hN hnl hlen hc hd hh hFb ih
  obtain ⟨o0, o1⟩ := HO.out w (Below.refl _ _)
  have a1 := ta_obj_bool (.pointer (some ⟨b, 0, none⟩))
  have a2 := ta_obj_int (.pointer (some ⟨b, 0, none⟩))
  have a3 := ta_obj_str (.pointer (some ⟨b, 0, none⟩))
  have a4 := ta_obj_vals (.pointer (some ⟨b, 0, none⟩))
  have a5 := ta_obj_obj (.pointer (some ⟨b, 0, none⟩))
  go_enter Tryz.func55, Tryz.ntmps55
  go_wp2_with fail
  clear a1 a2 a3 a4 a5 o0 o1
  go_loopw [11, 57] (fun o ix wr => ∃ (q : Nat) (C : Option Addr) (c2 : Nat), q ≤ N ∧ ix = .int .i64 (q : Int) ∧ o = .slice C q c2 ∧ Hid (GRow strT' 1 w.heap.size wr (.slice C q c2) (one ((((ns.zip l).take q).map fieldT).map strW)) ∧ Ext w wr)) (fun _ ix _ => N - (intOf ix).toNat)
  case atStart => exact ⟨0, none, 0, Nat.zero_le _, rfl, rfl, GRow.nil, Below.refl _ _⟩
  case round =>
    obtain ⟨q, C, c2, hq, rfl, rfl, hR⟩ := hrel
    have hq0 : (0 : Int) ≤ (q : Int) := by omega
    by_cases hlt : q < N
    · have hqn : q < ns.length := by rw [← HN.out.1]; exact hlt
      have hql : q < l.length := by rw [← HN.out.2]; exact hlt
      obtain ⟨ga, oa, rfl, _, hca⟩ := HNA.out q hqn
      have hcella := (cell_keep (hR.out.2.block ga (cell_lt hca))).trans hca
      obtain ⟨g, off, u, rfl, _, hu, hp⟩ := HV.out q hql
      have HS : Hid (∀ W, Ext w W → W.cell? ⟨b, 1, none⟩ = some (.slice (some ⟨g, off, none⟩) N d) ∧ W.cell? ⟨g, off + q, none⟩ = some u) := fun W hW => by
        exact ⟨(HO.out W hW).2, (cell_keep (hW.block g (cell_lt hu))).trans hu⟩
      obtain ⟨tx, htx⟩ : ∃ tx, tx = bx (textJ l[q]) := ⟨_, rfl⟩
      obtain ⟨qx, hqx⟩ : ∃ qx, qx = bx (quoteS ns[q]) := ⟨_, rfl⟩
      obtain ⟨nx, hnx⟩ : ∃ nx, nx = bx ns[q] := ⟨_, rfl⟩
      have CT : Hid (∀ W, Ext wr W → Calls Tryz.prog 55 #[u] W fun e w' => e = .returned (.string tx) ∧ Ext wr w' ∧ Ext w w') := fun W hx => by
        rw [htx]
        exact (HIH.out q hql W u (hR.out.2.trans hx) hp).mono fun e w' ⟨h1, h2⟩ => ⟨h1, hx.trans h2, hR.out.2.trans (hx.trans h2)⟩
      have hsz := HSZ.out q hqn hql
      have CQ : Hid (∀ W, Ext wr W → Calls Tryz.prog 106 #[.string nx] W fun e w' => e = .returned (.string qx) ∧ Ext wr w' ∧ Ext w w') := fun W hx => by
        rw [hqx, hnx]
        exact (quote_any ns[q] W hsz.1).mono fun e w' ⟨h1, h2⟩ => ⟨h1, hx.trans h2, hR.out.2.trans (hx.trans h2)⟩
      have HFT : Hid (bx (fieldT (ns[q], l[q])) = qx ++ ⟨#[58]⟩ ++ tx) := by
        unfold Hid
        rw [htx, hqx]
        show bx (quoteS ns[q] ++ ([58] ++ textJ l[q])) = _
        rw [bx_app, bx_app, ByteArray.append_assoc]
        rfl
      rw [← htx, ← hqx] at hsz
      have s1 : (9223372036854775807 < qx.size + 1) = False := eq_false (by omega)
      have s2 : (9223372036854775807 < qx.size + 1 + tx.size) = False := eq_false (by omega)
      rw [← hnx] at hcella
      have HTK := Lib.hid (drop_field ns l q hqn hql)
      have HTQ : Hid ((one ((((ns.zip l).take q).map fieldT).map strW)).length = q) := by
        unfold Hid
        rw [one_len, List.length_map, List.length_map, List.length_take, List.length_zip]
        omega
      have hltI : (q : Int) < (N : Int) := by omega
      have hxr : Ext wr wr := Below.refl _ _
      have hxw : Ext w wr := hR.out.2
      have HRG : Hid (∀ W, Ext wr W → GRow strT' 1 w.heap.size W (.slice C q c2) (one ((((ns.zip l).take q).map fieldT).map strW)) ∧ w.heap.size ≤ W.heap.size) := fun W hx => ⟨hR.out.1.ext hx, Nat.le_trans hR.out.2.size hx.size⟩
      clear hu hp hca htx hqx hnx hsz
      go_upto_region 26 with (fail)
      go_region_held3 (fun w' => w'.cell? ⟨b, 1, none⟩ = some (.slice (some ⟨g, off, none⟩) N d) ∧ w'.cell? ⟨g, off + q, none⟩ = some u)
        (exact HS.out _ (by repeat (first | assumption | apply ext_al | apply ext_dr)))
        (first
          | (go_at_call 106; refine Calls.mono (CQ.out _ (by repeat (first | assumption | apply ext_al | apply ext_dr))) ?_; rintro e w2 ⟨rfl, x2, y2⟩)
          | (go_at_call 55; refine Calls.mono (CT.out _ (by repeat (first | assumption | apply ext_al | apply ext_dr))) ?_; rintro e w3 ⟨rfl, x3, y3⟩)
          | (refine step_append_g ty_strs rfl (.tmp 62) (.tmp 75) (by rfl) w.heap.size q 1 _ (.slice C q c2) _ (one ((((ns.zip l).take q).map fieldT).map strW)) [[_]] (by rfl) (by rfl) (HRG.out _ (by repeat (first | assumption | apply ext_al | apply ext_dr))).1 (GSrc.one rfl (fun z hz => by rw [List.mem_singleton] at hz; rw [hz]; rfl) (heap_new rfl)) HTQ.out rfl (by omega) (HRG.out _ (by repeat (first | assumption | apply ext_al | apply ext_dr))).2 ?_; intro A9 c9 w9 h9 g9 _; have hx9 : Ext w w9 := ext_row (by repeat (first | assumption | apply ext_al | apply ext_dr)) g9 (fun b e => (hR.out.1.block b e).1)))
      clear hxr hxw
      have H9 := Lib.hid h9
      clear h9
      go_wp2_with fail
      go_roundw
      case rel => exact ⟨q + 1, A9, c9, hlt, by go_num, rfl, by rw [HTK.out, one_app]; have h := H9.out; rw [← HFT.out] at h; exact h, hx9⟩
      case measure => simp [intOf]; omega
    · have hqN : q = N := by omega
      have HRow : Hid (GRow strT' 1 w.heap.size wr (.slice C q c2) (one (((ns.zip l).map fieldT).map strW))) := by
        have h := hR.out.1
        rw [List.take_of_length_le (by rw [List.length_zip]; have := HN.out; omega)] at h
        exact h
      have CJ := Lib.hid (joinR_any C q c2 ((ns.zip l).map fieldT) wr HRow.out (by omega) (by omega))
      have bl : decide ((q : Int) < (N : Int)) = false := decide_eq_false (by omega)
      have bl2 : decide (q < N) = false := decide_eq_false hlt
      obtain ⟨jx, hjx⟩ : ∃ jx, jx = bx (Lib.join ((ns.zip l).map fieldT) [44]) := ⟨_, rfl⟩
      rw [← hjx] at CJ hjs HTL
      clear hqN hlt hjx
      go_wp2_with fail
      refine Calls.mono CJ.out ?_
      rintro e w2 ⟨rfl, x2⟩
      have X2 := Lib.hid (hR.out.2.trans x2)
      clear x2
      go_wp2_with fail
      go_ret
      exact ⟨ret_str (by rw [HTL.out]), X2.out⟩
set_option maxRecDepth 100000 in
set_option maxHeartbeats 4000000 in
/-- Text of any value. -/
theorem text_val (j : J) : TextC j := by
  induction j using J.ind with
  | hn =>
    intro F u w h _ _ _
    obtain rfl := PV_null.1 h
    clear h
    have HE : Hid (bx (textJ .null) = ⟨#[110, 117, 108, 108]⟩) := by unfold Hid; rw [textJ]; rfl
    have a1 := ta_nil_bool
    have a2 := ta_nil_int
    have a3 := ta_nil_str
    have a4 := ta_nil_vals
    have a5 := ta_nil_obj
    go_enter Tryz.func55, Tryz.ntmps55
    go_wp2_with fail
    go_ret
    exact ⟨ret_str HE.out.symm, Below.refl _ _⟩
  | hb b =>
    intro F u w h _ _ _
    obtain rfl := PV_bool.1 h
    clear h
    have HE : Hid (bx (textJ (.bool b)) = ⟨(Lib.formatBool b).toArray⟩) := by
      unfold Hid
      rw [textJ]
      cases b <;> rfl
    obtain ⟨fx, hfx⟩ : ∃ fx : ByteArray, fx = ⟨(Lib.formatBool b).toArray⟩ := ⟨_, rfl⟩
    have CF : Hid (Calls Tryz.prog 104 #[.bool b] w fun e w' => e = .returned (.string fx) ∧ w = w') := by
      rw [hfx]
      exact (Tryz.strconv_FormatBool b w).mono fun e w' ⟨h1, h2⟩ => ⟨h1, h2.symm⟩
    rw [← hfx] at HE
    clear hfx
    have a1 := ta_bool_bool (.bool b)
    go_enter Tryz.func55, Tryz.ntmps55
    go_wp2_with fail
    refine Calls.mono CF.out ?_
    rintro e w2 ⟨rfl, rfl⟩
    go_wp2_with fail
    go_ret
    exact ⟨ret_str HE.out.symm, Below.refl _ _⟩
  | hi n =>
    intro F u w h _ ht _
    obtain ⟨rfl, h1, h2⟩ := PV_num.1 h
    clear h
    have HE : Hid (bx (textJ (.num n)) = ⟨(Lib.itoa n).toArray⟩) := by unfold Hid; rw [textJ]; rfl
    obtain ⟨fx, hfx⟩ : ∃ fx : ByteArray, fx = ⟨(Lib.itoa n).toArray⟩ := ⟨_, rfl⟩
    have CF : Hid (Calls Tryz.prog 105 #[.int .i64 n, .int .i64 10] w fun e w' => e = .returned (.string fx) ∧ Ext w w') := by
      rw [hfx]
      exact (Tryz.strconv_FormatInt_10 n h1 h2 w ht).mono fun e w' ⟨he, k, os, hw⟩ => ⟨he, by rw [hw]; exact ext_grow w k os⟩
    rw [← hfx] at HE
    clear hfx h1 h2 ht
    have a1 := ta_int_bool (.int .i64 n)
    have a2 := ta_int_int (.int .i64 n)
    go_enter Tryz.func55, Tryz.ntmps55
    go_wp2_with fail
    refine Calls.mono CF.out ?_
    rintro e w2 ⟨rfl, x2⟩
    have X2 := Lib.hid x2
    clear x2
    go_wp2_with fail
    go_ret
    exact ⟨ret_str HE.out.symm, X2.out⟩
  | ht s =>
    intro F u w h _ _ hb
    obtain rfl := PV_text.1 h
    clear h
    have HE : Hid (bx (textJ (.text s)) = bx (quoteS s)) := by unfold Hid; rw [textJ]
    rw [bulkJ] at hb
    obtain ⟨fx, hfx⟩ : ∃ fx : ByteArray, fx = bx (quoteS s) := ⟨_, rfl⟩
    obtain ⟨sx, hsx⟩ : ∃ sx : ByteArray, sx = bx s := ⟨_, rfl⟩
    have CF : Hid (Calls Tryz.prog 106 #[.string sx] w fun e w' => e = .returned (.string fx) ∧ Ext w w') := by
      rw [hfx, hsx]
      exact quote_any s w (by omega)
    rw [← hfx] at HE
    rw [← hsx]
    clear hfx hsx hb
    have a1 := ta_str_bool (.string sx)
    have a2 := ta_str_int (.string sx)
    have a3 := ta_str_str (.string sx)
    go_enter Tryz.func55, Tryz.ntmps55
    go_wp2_with fail
    refine Calls.mono CF.out ?_
    rintro e w2 ⟨rfl, x2⟩
    have X2 := Lib.hid x2
    clear x2
    go_wp2_with fail
    go_ret
    exact ⟨ret_str HE.out.symm, X2.out⟩
  | hl l ih => exact text_list l ih
  | ho ns l ih => exact text_obj ns l ih
end Go.Proofs.YtnccefeehkcneaaGreatDoor.Jm
namespace Go.Proofs.YtnccefeehkcneaaGreatDoor.Jm
open Go Go.RowKit Go.Proofs.YtnccefeehkcneaaGreatDoor.Sx Go.Proofs.YtnccefeehkcneaaGreatDoor.Js Go.Proofs.YtnccefeehkcneaaGreatDoor.Gr
theorem sum_take {α : Type} (f : α → Nat) : ∀ (l : List α) (q : Nat), ((l.take q).map f).sum ≤ (l.map f).sum
  | [], q => by simp
  | a :: l, 0 => by simp
  | a :: l, q + 1 => by
    have := sum_take f l q
    rw [List.take_succ_cons, List.map_cons, List.map_cons, List.sum_cons, List.sum_cons]
    omega
theorem take_zips {α β : Type} : ∀ (a : List α) (b : List β) (q : Nat), (a.zip b).take q = (a.take q).zip (b.take q)
  | [], b, q => by simp
  | x :: a, [], q => by simp
  | x :: a, y :: b, 0 => by simp
  | x :: a, y :: b, q + 1 => by rw [List.zip_cons_cons, List.take_succ_cons, List.take_succ_cons, List.take_succ_cons, List.zip_cons_cons, take_zips a b q]
theorem join_snoc : ∀ (ts : List Tx) (x : Tx), ts ≠ [] → Lib.join (ts ++ [x]) [44] = Lib.join ts [44] ++ 44 :: x
  | [], _, h => absurd rfl h
  | [t], x, _ => by rw [List.cons_append, List.nil_append, join_two, join_one, join_one]
  | t :: y :: r, x, _ => by
    have := join_snoc (y :: r) x (List.cons_ne_nil _ _)
    rw [List.cons_append, List.cons_append, join_two, ← List.cons_append, this, join_two, List.append_assoc, List.cons_append]
theorem join_next (ts : List Tx) (q : Nat) (x : Tx) (hx : (ts.take (q + 1)) = ts.take q ++ [x]) (hq : q ≤ ts.length) : (q = 0 → bx (Lib.join (ts.take (0 + 1)) [44]) = bx (Lib.join (ts.take 0) [44]) ++ bx x) ∧ (q ≠ 0 → bx (Lib.join (ts.take (q + 1)) [44]) = bx (Lib.join (ts.take q) [44]) ++ ⟨#[44]⟩ ++ bx x) := by
  refine ⟨fun e => ?_, fun e => ?_⟩
  · subst e
    rw [hx, List.take_zero, List.nil_append, join_one, join_nil, ← bx_app, List.nil_append]
  · have hne : ts.take q ≠ [] := fun h => by
      have := congrArg List.length h
      have h0 : ([] : List Tx).length = 0 := rfl
      rw [List.length_take, h0] at this
      omega
    rw [hx, join_snoc _ _ hne]
    show bx (_ ++ ([44] ++ x)) = _
    rw [bx_app, bx_app, ByteArray.append_assoc]
    rfl
theorem join_texts (l : List J) (q : Nat) (h : q < l.length) : (q = 0 → bx (Lib.join ((l.take (0 + 1)).map textJ) [44]) = bx (Lib.join ((l.take 0).map textJ) [44]) ++ bx (textJ l[q])) ∧ (q ≠ 0 → bx (Lib.join ((l.take (q + 1)).map textJ) [44]) = bx (Lib.join ((l.take q).map textJ) [44]) ++ ⟨#[44]⟩ ++ bx (textJ l[q])) := by
  have h1 := join_next (l.map textJ) q (textJ l[q]) (by rw [← List.map_take, ← List.map_take, List.take_succ_eq_append_getElem h, List.map_append]; rfl) (by rw [List.length_map]; omega)
  simpa only [List.map_take] using h1
theorem join_fields (ns : List Tx) (l : List J) (q : Nat) (h0 : q < ns.length) (h : q < l.length) : (q = 0 → bx (Lib.join (((ns.zip l).take (0 + 1)).map fieldT) [44]) = bx (Lib.join (((ns.zip l).take 0).map fieldT) [44]) ++ (bx (quoteS ns[q]) ++ ⟨#[58]⟩) ++ bx (textJ l[q])) ∧ (q ≠ 0 → bx (Lib.join (((ns.zip l).take (q + 1)).map fieldT) [44]) = bx (Lib.join (((ns.zip l).take q).map fieldT) [44]) ++ ⟨#[44]⟩ ++ (bx (quoteS ns[q]) ++ ⟨#[58]⟩) ++ bx (textJ l[q])) := by
  have hz : q < (ns.zip l).length := by rw [List.length_zip]; omega
  have h1 := join_next ((ns.zip l).map fieldT) q (fieldT (ns[q], l[q])) (by rw [← List.map_take, ← List.map_take, List.take_succ_eq_append_getElem hz, List.map_append, List.getElem_zip]; rfl) (by rw [List.length_map]; omega)
  have e : bx (fieldT (ns[q], l[q])) = (bx (quoteS ns[q]) ++ ⟨#[58]⟩) ++ bx (textJ l[q]) := by
    show bx (quoteS ns[q] ++ ([58] ++ textJ l[q])) = _
    rw [bx_app, bx_app, ← ByteArray.append_assoc]
    rfl
  rw [e] at h1
  simp only [List.map_take, ByteArray.append_assoc] at h1 ⊢
  exact h1
theorem RV.ij {F : Nat → Prop} {w : World} (j : J) : ∀ v, RV F w j v → WJ j → IJ j := by
  induction j using J.ind with
  | hn => intro v _ _; rw [IJ]; trivial
  | hb b => intro v _ _; rw [IJ]; trivial
  | hi n => intro v h _; exact IJ_num.2 (RV_num.1 h).2
  | ht s => intro v _ _; rw [IJ]; trivial
  | hl l ih =>
    intro v h hw
    obtain ⟨A, c, _, _, hv⟩ := RV_list.1 h
    refine IJ_list.2 (fun x hx => ?_)
    obtain ⟨i, hi, rfl⟩ := List.mem_iff_getElem.1 hx
    obtain ⟨g, off, u, _, _, _, _, hp⟩ := hv i hi
    exact ih _ hx u hp (WJ_list.1 hw _ hx)
  | ho ns l ih =>
    intro v h hw
    obtain ⟨A, c, B, d, _, _, _, _, hv⟩ := RV_obj.1 h
    refine IJ_obj.2 ⟨(WJ_obj.1 hw).1.1, fun x hx => ?_⟩
    obtain ⟨i, hi, rfl⟩ := List.mem_iff_getElem.1 hx
    obtain ⟨g, off, u, _, _, _, _, hp⟩ := hv i hi
    exact ih _ hx u hp ((WJ_obj.1 hw).2 _ hx)
def RTextC (j : J) : Prop := ∀ (F : Nat → Prop) (cs : List Value) (w : World), RV F w j cs → IJ j → MaxC w → bulkJ j ≤ 16777216 → Calls Tryz.prog 57 #[.agg cs.toArray] w fun e w' => e = .returned (.string (bx (textJ j))) ∧ Ext w w'
set_option maxRecDepth 100000 in
set_option maxHeartbeats 4000000 in
theorem rtext_list (l : List J) (ih : ∀ x ∈ l, RTextC x) : RTextC (.list l) := by
  intro F cs w h hij hm hb
  obtain ⟨A, c, rfl, hc, hv⟩ := RV_list.1 h
  have hbl := hb
  rw [bulkJ] at hbl
  have hcount := bulk_count l
  obtain ⟨N, hN⟩ : ∃ N, N = l.length := ⟨_, rfl⟩
  have HN : Hid (N = l.length) := hN
  have hNs : N ≤ 16777216 := by omega
  have HV := Lib.hid hv
  have HM := Lib.hid hm
  have HIH : Hid (∀ q (hq : q < l.length) (W : World) (u : List Value), Ext w W → RV F w l[q] u → Calls Tryz.prog 57 #[.agg u.toArray] W fun e w' => e = .returned (.string (bx (textJ l[q]))) ∧ Ext W w') := fun q hq W u hx hp =>
    ih _ (List.getElem_mem hq) F u W (hp.ext hx) (IJ_list.1 hij _ (List.getElem_mem hq)) (hm.ext hx) (by have := bulk_in (List.getElem_mem hq); omega)
  have HTL : Hid (bx (textJ (.list l)) = ⟨#[91]⟩ ++ bx (Lib.join (l.map textJ) [44]) ++ ⟨#[93]⟩) := by
    unfold Hid
    rw [textJ_list]
    show bx ([91] ++ (_ ++ [93])) = _
    rw [bx_app, bx_app, ByteArray.append_assoc]
    rfl
  have HPL : Hid (∀ q, (bx (Lib.join ((l.take q).map textJ) [44])).size ≤ 16777216) := fun q => by
    rw [bx_size]
    have h1 := join_len ((l.take q).map textJ)
    have h2 := sum_map_le (fun x => (textJ x).length + 1) (fun x => bulkJ x + 1) (l.take q) (fun x hx => by have := text_len x (IJ_list.1 hij x (List.mem_of_mem_take hx)); show (textJ x).length + 1 ≤ bulkJ x + 1; omega)
    rw [List.map_map] at h1
    have e : ((fun t : Tx => t.length + 1) ∘ textJ) = fun x => (textJ x).length + 1 := rfl
    rw [e] at h1
    have h3 := sum_take (fun x : J => bulkJ x + 1) l q
    omega
  have HSZ : Hid (∀ q (h2 : q < l.length), (bx (textJ l[q])).size ≤ 16777216) := fun q h2 => by
    have e2 := bulk_in (List.getElem_mem h2)
    have e4 := text_len l[q] (IJ_list.1 hij _ (List.getElem_mem h2))
    rw [bx_size]
    omega
  obtain ⟨g, hg⟩ : ∃ g, g = w.heap.size := ⟨_, rfl⟩
  obtain ⟨w1, hw1⟩ : ∃ w1, w1 = w.alloc (.cells #[.int .i64 5, .bool false, .int .i64 0, .string ⟨#[]⟩, .slice none 0 0, .slice A N c] vT (0, 0)) := ⟨_, rfl⟩
  have HX1 : Hid (Ext w w1) := by rw [hw1]; exact new_ext _ _
  have HV1 : Hid (VIn w1 g 5 false 0 ⟨#[]⟩ (.slice none 0 0) (.slice A N c)) := by rw [hw1]; exact heap_new hg
  rw [← hN]
  clear h hij hb hv hbl hcount hN hm hc ih
  go_enter Tryz.func57, Tryz.ntmps57
  go_upto_region 1 with (fail)
  rw [← hw1, ← hg]
  clear hw1 hg
  obtain ⟨c0, c1, c2, c3, c4, c5⟩ := HV1.out.cells
  go_wp2_with fail
  clear c0 c1 c2 c3 c4 c5
  go_loopw [3, 28] (fun o ix wr => ∃ (q : Nat) (a : ByteArray), q ≤ N ∧ ix = .int .i64 (q : Int) ∧ o = .string a ∧ a.size ≤ 16777216 ∧ Hid (a = bx (Lib.join ((l.take q).map textJ) [44]) ∧ Ext w1 wr)) (fun _ ix _ => N - (intOf ix).toNat)
  case atStart => exact ⟨0, ⟨#[]⟩, Nat.zero_le _, rfl, rfl, Nat.zero_le _, rfl, Below.refl _ _⟩
  case round =>
    obtain ⟨q, a, hq, rfl, rfl, ha, hR⟩ := hrel
    have hq0 : (0 : Int) ≤ (q : Int) := by omega
    have hvr := HV1.out.ext hR.out.2
    obtain ⟨c0, c1, c2, c3, c4, c5⟩ := hvr.cells
    have hgr := hvr.lt
    clear hvr
    by_cases hlt : q < N
    · have hql : q < l.length := by rw [← HN.out]; exact hlt
      obtain ⟨gb, ob, u, rfl, -, -, hu, hrv⟩ := HV.out q hql
      obtain ⟨K, Bb, z, sv, A3, m3, k3, A4, m4, k4, rfl⟩ := RV.shape hrv
      have hxr := HX1.out.trans hR.out.2
      have hk : ∀ k x, (v6 K Bb z sv (.slice A3 m3 k3) (.slice A4 m4 k4))[k]? = some x → wr.cell? ⟨gb, ob + q * 6 + k, none⟩ = some x := fun k x h => (cell_keep (hxr.block gb (cell_lt (hu k x h)))).trans (hu k x h)
      have e0 := hk 0 _ rfl
      have e1 := hk 1 _ rfl
      have e2 := hk 2 _ rfl
      have e3 := hk 3 _ rfl
      have e4 := hk 4 _ rfl
      have e5 := hk 5 _ rfl
      rw [Nat.add_zero] at e0
      obtain ⟨tx, htx⟩ : ∃ tx, tx = bx (textJ l[q]) := ⟨_, rfl⟩
      have HTX := Lib.hid htx
      have CT : Hid (∀ W, Ext w W → Calls Tryz.prog 57 #[.agg #[.int .i64 K, .bool Bb, .int .i64 z, .string sv, .slice A3 m3 k3, .slice A4 m4 k4]] W fun e w' => e = .returned (.string tx) ∧ Ext W w') := fun W hx => by
        rw [htx]
        exact HIH.out q hql W _ hx hrv
      have htz : tx.size ≤ 16777216 := by rw [htx]; exact HSZ.out q hql
      have HJS := Lib.hid (join_texts l q hql)
      have hltI : (q : Int) < (N : Int) := by omega
      have HXR := Lib.hid hxr
      clear hu hrv hk htx hxr
      go_upto_region 16 with (fail)
      obtain ⟨t5, ht5⟩ : ∃ t5, t5 = wr.heap.size := ⟨_, rfl⟩
      rw [← ht5]
      generalize hW : World.alloc wr _ = w2
      have HX2 : Hid (Ext wr w2) := by rw [← hW]; exact new_ext _ _
      have HU2 : Hid (VIn w2 t5 K Bb z sv (.slice A3 m3 k3) (.slice A4 m4 k4)) := by rw [← hW]; exact heap_new ht5
      clear hW ht5 c0 c1 c2 c3 c4 c5 e0 e1 e2 e3 e4 e5 hgr
      obtain ⟨c0, c1, c2, c3, c4, c5⟩ := ((HV1.out.ext hR.out.2).ext HX2.out).cells
      obtain ⟨e0, e1, e2, e3, e4, e5⟩ := HU2.out.cells
      by_cases hq1 : q = 0
      · obtain rfl : q = 0 := hq1
        have HJ2 := Lib.hid (HJS.out.1 rfl)
        go_wp2_with fail
        refine Calls.mono (CT.out w2 (HXR.out.trans HX2.out)) ?_
        rintro e w3 ⟨rfl, x3⟩
        have X3 := Lib.hid (hR.out.2.trans (HX2.out.trans x3))
        clear x3
        go_wp2_with fail
        have hnext := HPL.out (0 + 1)
        rw [HJ2.out] at hnext
        go_roundw
        case rel => exact ⟨0 + 1, _, hlt, by go_num, rfl, by rw [HTX.out, hR.out.1]; exact hnext, by rw [HJ2.out, hR.out.1, HTX.out], X3.out⟩
        case measure => simp [intOf]; omega
      · have b0 : decide ((0 : Int) < (q : Int)) = true := decide_eq_true (by omega)
        have b1 : decide (0 < q) = true := decide_eq_true (by omega)
        have HJ2 := Lib.hid (HJS.out.2 hq1)
        clear hq1
        go_wp2_with fail
        refine Calls.mono (CT.out w2 (HXR.out.trans HX2.out)) ?_
        rintro e w3 ⟨rfl, x3⟩
        have X3 := Lib.hid (hR.out.2.trans (HX2.out.trans x3))
        clear x3
        go_wp2_with fail
        have hnext := HPL.out (q + 1)
        rw [HJ2.out] at hnext
        go_roundw
        case rel => exact ⟨q + 1, _, hlt, by go_num, rfl, by rw [HTX.out, hR.out.1]; exact hnext, by rw [HJ2.out, hR.out.1, HTX.out], X3.out⟩
        case measure => simp [intOf]; omega
    · have hqN : q = N := by omega
      have bl : decide ((q : Int) < (N : Int)) = false := decide_eq_false (by omega)
      have bl2 : decide (q < N) = false := decide_eq_false hlt
      have HA : Hid (a = bx (Lib.join (l.map textJ) [44])) := by
        unfold Hid
        rw [hR.out.1, List.take_of_length_le (by rw [← HN.out]; omega)]
      clear hlt hqN
      go_wp2_with fail
      go_ret
      exact ⟨ret_str (by rw [HTL.out, ← HA.out]), HX1.out.trans hR.out.2⟩
set_option maxRecDepth 100000 in
set_option maxHeartbeats 4000000 in
theorem rtext_obj (ns : List Tx) (l : List J) (ih : ∀ x ∈ l, RTextC x) : RTextC (.obj ns l) := by
  intro F cs w h hij hm hb
  obtain ⟨A1, k1, A, c, rfl, hk1, hc, hns, hv⟩ := RV_obj.1 h
  have hnl := (IJ_obj.1 hij).1
  have hbl := hb
  rw [bulkJ] at hbl
  have hcount := bulk_count l
  obtain ⟨N, hN⟩ : ∃ N, N = l.length := ⟨_, rfl⟩
  have HN : Hid (N = l.length) := hN
  have HNN : Hid (N = ns.length) := hN.trans hnl.symm
  have HNA := Lib.hid hns
  have hNs : N ≤ 16777216 := by omega
  have HV := Lib.hid hv
  have HM := Lib.hid hm
  have HIH : Hid (∀ q (hq : q < l.length) (W : World) (u : List Value), Ext w W → RV F w l[q] u → Calls Tryz.prog 57 #[.agg u.toArray] W fun e w' => e = .returned (.string (bx (textJ l[q]))) ∧ Ext W w') := fun q hq W u hx hp =>
    ih _ (List.getElem_mem hq) F u W (hp.ext hx) ((IJ_obj.1 hij).2 _ (List.getElem_mem hq)) (hm.ext hx) (by have := bulk_in (List.getElem_mem hq); omega)
  have HTL : Hid (bx (textJ (.obj ns l)) = ⟨#[123]⟩ ++ bx (Lib.join ((ns.zip l).map fieldT) [44]) ++ ⟨#[125]⟩) := by
    unfold Hid
    rw [textJ_obj]
    show bx ([123] ++ (_ ++ [125])) = _
    rw [bx_app, bx_app, ByteArray.append_assoc]
    rfl
  have HPL : Hid (∀ q, (bx (Lib.join (((ns.zip l).take q).map fieldT) [44])).size ≤ 16777216) := fun q => by
    rw [bx_size]
    have h1 := join_len (((ns.zip l).take q).map fieldT)
    have h2 := field_sum (ns.take q) (l.take q) (fun x hx => text_len x ((IJ_obj.1 hij).2 x (List.mem_of_mem_take hx)))
    rw [← take_zips] at h2
    have h3 := sum_take (fun x : J => bulkJ x + 1) l q
    have h4 := sum_take (fun n : Tx => 2 * n.length + 8) ns q
    unfold namesB at h2 hbl
    omega
  have HSZ : Hid (∀ q (h2 : q < l.length), (bx (textJ l[q])).size ≤ 16777216) := fun q h2 => by
    have e2 := bulk_in (List.getElem_mem h2)
    have e4 := text_len l[q] ((IJ_obj.1 hij).2 _ (List.getElem_mem h2))
    rw [bx_size]
    omega
  have HSN : Hid (∀ q (h1 : q < ns.length), ns[q].length ≤ 16777216 ∧ (bx (quoteS ns[q])).size ≤ 16777216) := fun q h1 => by
    have e1 := bulk_name (List.getElem_mem h1)
    have e3 := quote_len ns[q]
    rw [bx_size]
    omega
  obtain ⟨g, hg⟩ : ∃ g, g = w.heap.size := ⟨_, rfl⟩
  obtain ⟨w1, hw1⟩ : ∃ w1, w1 = w.alloc (.cells #[.int .i64 6, .bool false, .int .i64 0, .string ⟨#[]⟩, .slice A1 N k1, .slice A N c] vT (0, 0)) := ⟨_, rfl⟩
  have HX1 : Hid (Ext w w1) := by rw [hw1]; exact new_ext _ _
  have HV1 : Hid (VIn w1 g 6 false 0 ⟨#[]⟩ (.slice A1 N k1) (.slice A N c)) := by rw [hw1]; exact heap_new hg
  have hNn : ns.length = N := HNN.out.symm
  rw [hNn, ← hN]
  clear h hij hb hv hbl hcount hN hm hc ih hnl hns hk1 hNn
  go_enter Tryz.func57, Tryz.ntmps57
  go_upto_region 1 with (fail)
  rw [← hw1, ← hg]
  clear hw1 hg
  obtain ⟨c0, c1, c2, c3, c4, c5⟩ := HV1.out.cells
  go_wp2_with fail
  clear c0 c1 c2 c3 c4 c5
  go_loopw [3, 28] (fun o ix wr => ∃ (q : Nat) (a : ByteArray), q ≤ N ∧ ix = .int .i64 (q : Int) ∧ o = .string a ∧ a.size ≤ 16777216 ∧ Hid (a = bx (Lib.join (((ns.zip l).take q).map fieldT) [44]) ∧ Ext w1 wr)) (fun _ ix _ => N - (intOf ix).toNat)
  case atStart => exact ⟨0, ⟨#[]⟩, Nat.zero_le _, rfl, rfl, Nat.zero_le _, rfl, Below.refl _ _⟩
  case round =>
    obtain ⟨q, a, hq, rfl, rfl, ha, hR⟩ := hrel
    have hq0 : (0 : Int) ≤ (q : Int) := by omega
    have hvr := HV1.out.ext hR.out.2
    obtain ⟨c0, c1, c2, c3, c4, c5⟩ := hvr.cells
    have hgr := hvr.lt
    clear hvr
    by_cases hlt : q < N
    · have hql : q < l.length := by rw [← HN.out]; exact hlt
      have hqn : q < ns.length := by rw [← HNN.out]; exact hlt
      obtain ⟨ga, oa, rfl, -, hca⟩ := HNA.out q hqn
      obtain ⟨gb, ob, u, rfl, -, -, hu, hrv⟩ := HV.out q hql
      obtain ⟨K, Bb, z, sv, A3, m3, k3, A4, m4, k4, rfl⟩ := RV.shape hrv
      have hxr := HX1.out.trans hR.out.2
      have hk : ∀ k x, (v6 K Bb z sv (.slice A3 m3 k3) (.slice A4 m4 k4))[k]? = some x → wr.cell? ⟨gb, ob + q * 6 + k, none⟩ = some x := fun k x h => (cell_keep (hxr.block gb (cell_lt (hu k x h)))).trans (hu k x h)
      have e0 := hk 0 _ rfl
      have e1 := hk 1 _ rfl
      have e2 := hk 2 _ rfl
      have e3 := hk 3 _ rfl
      have e4 := hk 4 _ rfl
      have e5 := hk 5 _ rfl
      rw [Nat.add_zero] at e0
      obtain ⟨tx, htx⟩ : ∃ tx, tx = bx (textJ l[q]) := ⟨_, rfl⟩
      have HTX := Lib.hid htx
      have CT : Hid (∀ W, Ext w W → Calls Tryz.prog 57 #[.agg #[.int .i64 K, .bool Bb, .int .i64 z, .string sv, .slice A3 m3 k3, .slice A4 m4 k4]] W fun e w' => e = .returned (.string tx) ∧ Ext W w') := fun W hx => by
        rw [htx]
        exact HIH.out q hql W _ hx hrv
      have htz : tx.size ≤ 16777216 := by rw [htx]; exact HSZ.out q hql
      have HJS := Lib.hid (join_fields ns l q hqn hql)
      have hltI : (q : Int) < (N : Int) := by omega
      have HXR := Lib.hid hxr
      clear hu hrv hk htx hxr
      go_upto_region 16 with (fail)
      obtain ⟨t5, ht5⟩ : ∃ t5, t5 = wr.heap.size := ⟨_, rfl⟩
      rw [← ht5]
      generalize hW : World.alloc wr _ = w2
      have HX2 : Hid (Ext wr w2) := by rw [← hW]; exact new_ext _ _
      have HU2 : Hid (VIn w2 t5 K Bb z sv (.slice A3 m3 k3) (.slice A4 m4 k4)) := by rw [← hW]; exact heap_new ht5
      clear hW ht5 c0 c1 c2 c3 c4 c5 e0 e1 e2 e3 e4 e5 hgr
      obtain ⟨c0, c1, c2, c3, c4, c5⟩ := ((HV1.out.ext hR.out.2).ext HX2.out).cells
      obtain ⟨e0, e1, e2, e3, e4, e5⟩ := HU2.out.cells
      have hcn := (cell_keep ((HXR.out.trans HX2.out).block ga (cell_lt hca))).trans hca
      obtain ⟨nx, hnx⟩ : ∃ nx, nx = bx ns[q] := ⟨_, rfl⟩
      obtain ⟨qx, hqx⟩ : ∃ qx, qx = bx (quoteS ns[q]) := ⟨_, rfl⟩
      have HQX := Lib.hid hqx
      have hqz : qx.size ≤ 16777216 := by rw [hqx]; exact (HSN.out q hqn).2
      have CQ : Hid (Calls Tryz.prog 113 #[.string nx] w2 fun e w' => e = .returned (.string qx) ∧ Ext w2 w') := by
        rw [hqx, hnx]
        exact rquoted_any ns[q] w2 (HM.out.ext (HXR.out.trans HX2.out)) (HSN.out q hqn).1
      rw [← hnx] at hcn
      clear hnx hqx hca
      by_cases hq1 : q = 0
      · obtain rfl : q = 0 := hq1
        have HJ2 := Lib.hid (HJS.out.1 rfl)
        rw [Nat.add_zero] at hcn
        go_wp2_with fail
        refine Calls.mono CQ.out ?_
        rintro e w4 ⟨rfl, x4⟩
        have X4 := Lib.hid x4
        obtain ⟨e0', e1', e2', e3', e4', e5'⟩ := (HU2.out.ext x4).cells
        clear x4 e0 e1 e2 e3 e4 e5 c0 c1 c2 c3 c4 c5 hcn
        go_wp2_with fail
        refine Calls.mono (CT.out w4 (HXR.out.trans (HX2.out.trans X4.out))) ?_
        rintro e w3 ⟨rfl, x3⟩
        have X3 := Lib.hid (hR.out.2.trans (HX2.out.trans (X4.out.trans x3)))
        clear x3
        go_wp2_with fail
        have hnext := HPL.out (0 + 1)
        rw [HJ2.out] at hnext
        go_roundw
        case rel => exact ⟨0 + 1, _, hlt, by go_num, rfl, by rw [HTX.out, HQX.out, hR.out.1]; exact hnext, by rw [HJ2.out, hR.out.1, HTX.out, HQX.out], X3.out⟩
        case measure => simp [intOf]; omega
      · have b0 : decide ((0 : Int) < (q : Int)) = true := decide_eq_true (by omega)
        have b1 : decide (0 < q) = true := decide_eq_true (by omega)
        have HJ2 := Lib.hid (HJS.out.2 hq1)
        clear hq1
        go_wp2_with fail
        refine Calls.mono CQ.out ?_
        rintro e w4 ⟨rfl, x4⟩
        have X4 := Lib.hid x4
        obtain ⟨e0', e1', e2', e3', e4', e5'⟩ := (HU2.out.ext x4).cells
        clear x4 e0 e1 e2 e3 e4 e5 c0 c1 c2 c3 c4 c5 hcn
        go_wp2_with fail
        refine Calls.mono (CT.out w4 (HXR.out.trans (HX2.out.trans X4.out))) ?_
        rintro e w3 ⟨rfl, x3⟩
        have X3 := Lib.hid (hR.out.2.trans (HX2.out.trans (X4.out.trans x3)))
        clear x3
        go_wp2_with fail
        have hnext := HPL.out (q + 1)
        rw [HJ2.out] at hnext
        go_roundw
        case rel => exact ⟨q + 1, _, hlt, by go_num, rfl, by rw [HTX.out, HQX.out, hR.out.1]; exact hnext, by rw [HJ2.out, hR.out.1, HTX.out, HQX.out], X3.out⟩
        case measure => simp [intOf]; omega
    · have hqN : q = N := by omega
      have bl : decide ((q : Int) < (N : Int)) = false := decide_eq_false (by omega)
      have bl2 : decide (q < N) = false := decide_eq_false hlt
      have HA : Hid (a = bx (Lib.join ((ns.zip l).map fieldT) [44])) := by
        unfold Hid
        rw [hR.out.1, List.take_of_length_le (by rw [List.length_zip]; have := HN.out; have := HNN.out; omega)]
      clear hlt hqN
      go_wp2_with fail
      go_ret
      exact ⟨ret_str (by rw [HTL.out, ← HA.out]), HX1.out.trans hR.out.2⟩
set_option maxRecDepth 100000 in
set_option maxHeartbeats 4000000 in
theorem rtext_val (j : J) : RTextC j := by
  induction j using J.ind with
  | hn =>
    intro F cs w h _ _ _
    obtain rfl := RV_null.1 h
    clear h
    have HE : Hid (bx (textJ .null) = ⟨#[110, 117, 108, 108]⟩) := by unfold Hid; rw [textJ]; rfl
    have HX : Hid (Ext w (w.alloc (.cells #[.int .i64 1, .bool false, .int .i64 0, .string ⟨#[]⟩, .slice none 0 0, .slice none 0 0] vT (0, 0)))) := new_ext _ _
    go_enter Tryz.func57, Tryz.ntmps57
    go_wp2_with fail
    go_ret
    exact ⟨ret_str HE.out.symm, HX.out⟩
  | hb b =>
    intro F cs w h _ _ _
    obtain rfl := RV_bool.1 h
    clear h
    have HE : Hid (bx (textJ (.bool b)) = if b then ⟨#[116, 114, 117, 101]⟩ else ⟨#[102, 97, 108, 115, 101]⟩) := by unfold Hid; rw [textJ]; cases b <;> rfl
    have HX : Hid (Ext w (w.alloc (.cells #[.int .i64 2, .bool b, .int .i64 0, .string ⟨#[]⟩, .slice none 0 0, .slice none 0 0] vT (0, 0)))) := new_ext _ _
    cases b with
    | true =>
      go_enter Tryz.func57, Tryz.ntmps57
      go_wp2_with fail
      go_ret
      exact ⟨ret_str HE.out.symm, HX.out⟩
    | false =>
      go_enter Tryz.func57, Tryz.ntmps57
      go_wp2_with fail
      go_ret
      exact ⟨ret_str HE.out.symm, HX.out⟩
  | hi n =>
    intro F cs w h _ _ _
    obtain ⟨rfl, h64⟩ := RV_num.1 h
    clear h
    have HE : Hid (bx (textJ (.num n)) = bx (numT n)) := by unfold Hid; rw [textJ]
    obtain ⟨fx, hfx⟩ : ∃ fx : ByteArray, fx = bx (numT n) := ⟨_, rfl⟩
    have HX : Hid (Ext w (w.alloc (.cells #[.int .i64 3, .bool false, .int .i64 n, .string ⟨#[]⟩, .slice none 0 0, .slice none 0 0] vT (0, 0)))) := new_ext _ _
    have CF : Hid (∀ W, Calls Tryz.prog 85 #[.int .i64 n] W fun e w' => e = .returned (.string fx) ∧ Ext W w') := fun W => by
      rw [hfx]
      exact rnum_any n W h64
    rw [← hfx] at HE
    clear hfx h64
    go_enter Tryz.func57, Tryz.ntmps57
    go_wp2_with fail
    refine Calls.mono (CF.out _) ?_
    rintro e w2 ⟨rfl, x2⟩
    have X2 := Lib.hid (HX.out.trans x2)
    clear x2
    go_wp2_with fail
    go_ret
    exact ⟨ret_str HE.out.symm, X2.out⟩
  | ht s =>
    intro F cs w h _ hm hb
    obtain rfl := RV_text.1 h
    clear h
    have HE : Hid (bx (textJ (.text s)) = bx (quoteS s)) := by unfold Hid; rw [textJ]
    rw [bulkJ] at hb
    obtain ⟨fx, hfx⟩ : ∃ fx : ByteArray, fx = bx (quoteS s) := ⟨_, rfl⟩
    obtain ⟨sx, hsx⟩ : ∃ sx : ByteArray, sx = bx s := ⟨_, rfl⟩
    rw [← hsx]
    have HX : Hid (Ext w (w.alloc (.cells #[.int .i64 4, .bool false, .int .i64 0, .string sx, .slice none 0 0, .slice none 0 0] vT (0, 0)))) := new_ext _ _
    have CF : Hid (∀ W, Ext w W → Calls Tryz.prog 113 #[.string sx] W fun e w' => e = .returned (.string fx) ∧ Ext W w') := fun W hx => by
      rw [hfx, hsx]
      exact rquoted_any s W (hm.ext hx) (by omega)
    rw [← hfx] at HE
    clear hfx hsx hb hm
    go_enter Tryz.func57, Tryz.ntmps57
    go_wp2_with fail
    refine Calls.mono (CF.out _ HX.out) ?_
    rintro e w2 ⟨rfl, x2⟩
    have X2 := Lib.hid (HX.out.trans x2)
    clear x2
    go_wp2_with fail
    go_ret
    exact ⟨ret_str HE.out.symm, X2.out⟩
  | hl l ih => exact rtext_list l ih
  | ho ns l ih => exact rtext_obj ns l ih
end Go.Proofs.YtnccefeehkcneaaGreatDoor.Jm
