/-
  merge.hasNull, merge.between, merge.both.
  merge.between.
  The program's merge.pair, merge.told, Apply, Diff, Compose (printed by gen/mp5.py).
-/
import Derived.Test.YtahinicpceokcaaGreatDoorMpa
import Derived.Test.YtahinicpceokcaaGreatDoorJkb
import Derived.Test.YtahinicpceokcaaGreatDoorJpb
namespace Go.Proofs.YtahinicpceokcaaGreatDoor.Jm
open Go Go.RowKit Go.Proofs.YtahinicpceokcaaGreatDoor.Sx Go.Proofs.YtahinicpceokcaaGreatDoor.Js
/-! ### hasNull -/
def HasC (j : J) : Prop := ∀ (u : Value) (w : World), PJ w j u → WJ j → bulkJ j ≤ 1000000 → Calls Tryz.prog 85 #[u] w fun e w' => e = .returned (.bool (hasNullJ j)) ∧ w = w'
set_option maxRecDepth 100000 in
set_option maxHeartbeats 2000000 in
theorem has_flat (j : J) (hj : isObj j = false) : HasC j := by
  intro u w hu _ _
  rw [hasNull_flat hj]
  have a1 := not_obj hu hj
  clear hu hj
  go_enter Tryz.func85, Tryz.ntmps85
  go_wp2_with fail
  go_ret
  exact ⟨rfl, rfl⟩
set_option maxRecDepth 100000 in
set_option maxHeartbeats 8000000 in
theorem has_obj (v : Ob) (ih : ∀ n x, getO v n = some x → HasC x) : HasC (ofO v) := by
  intro y w hy hv hb
  obtain ⟨bo, rfl, ho⟩ := PJ_obj.1 hy
  have hV : WO v := hv
  have hbv : bulkJ (ofO v) = 32 + bulkO v := bulk_of v
  have hlv := len_bulkO v
  have hVl := hV.len
  obtain ⟨N, hN⟩ : ∃ N, N = v.1.length := ⟨_, rfl⟩
  have hNs : N ≤ 1048576 := by omega
  have HN : Hid (N = v.1.length ∧ N = v.2.length) := ⟨hN, by omega⟩
  have CN : Hid (Calls Tryz.prog 78 #[.pointer (some ⟨bo, 0, none⟩)] w fun e w' => ∃ A c, e = .returned (.slice A N c) ∧ N ≤ c ∧ NamesAt (fun _ => True) w A v.1 ∧ w = w') := by
    unfold Hid
    rw [hN]
    exact names_any bo v w ho
  have CG : Hid (∀ q (hq : q < v.1.length) (hq2 : q < v.2.length), Calls Tryz.prog 79 #[.pointer (some ⟨bo, 0, none⟩), .string (bx v.1[q])] w fun e w' => ∃ u, e = .returned (.tuple #[u, .bool true]) ∧ PJ w v.2[q] u ∧ w = w') := fun q hq hq2 =>
    (getO_any bo v v.1[q] w ho hV (by omega)).mono fun e w' ⟨u, h1, h2, h3⟩ => by
      rw [at_field hV hq hq2] at h1
      rw [val_some (at_field hV hq hq2)] at h2
      exact ⟨u, h1, h2, h3⟩
  have HI : Hid (∀ q (hq : q < v.1.length) (hq2 : q < v.2.length) (u : Value), PJ w v.2[q] u → Calls Tryz.prog 85 #[u] w fun e w' => e = .returned (.bool (hasNullJ v.2[q])) ∧ w = w') := fun q hq hq2 u hu => by
    have hat := at_field hV hq hq2
    exact ih _ _ hat u w hu (hV.get hat) (by have := bulk_get hat; omega)
  have HE : Hid (hasNullJ (ofO v) = v.2.any fun x => isNull x || hasNullJ x) := hasNull_obj v.1 v.2
  have a5 := ta_obj_obj (.pointer (some ⟨bo, 0, none⟩))
  clear hy hv hb ho hbv hlv hVl hN ih hV
  go_enter Tryz.func85, Tryz.ntmps85
  go_wp2_with fail
  refine Calls.mono CN.out ?_
  rintro e w' ⟨A, c, rfl, hNc, hNA, rfl⟩
  have HNA := Lib.hid hNA
  clear hNA a5
  go_wp2_with fail
  go_loopw [19] (fun ix wr => ∃ q : Nat, q ≤ N ∧ ix = .int .i64 (q : Int) ∧ Hid ((v.2.take q).any (fun x => isNull x || hasNullJ x) = false) ∧ w = wr) (fun ix _ => N - (intOf ix).toNat)
  case atStart => exact ⟨0, Nat.zero_le _, rfl, rfl, rfl⟩
  case round =>
    obtain ⟨q, hq, rfl, hR, rfl⟩ := hrel
    have hq0 : (0 : Int) ≤ (q : Int) := by omega
    by_cases hlt : q < N
    · have hqn : q < v.1.length := by rw [← HN.out.1]; exact hlt
      have hql : q < v.2.length := by rw [← HN.out.2]; exact hlt
      obtain ⟨ga, oa, rfl, -, hca⟩ := HNA.out q hqn
      have CG1 := Lib.hid (CG.out q hqn hql)
      have HI1 := Lib.hid (HI.out q hqn hql)
      have HTL : Hid (v.2.take (q + 1) = v.2.take q ++ [v.2[q]]) := List.take_succ_eq_append_getElem hql
      have HIN : Hid (v.2[q] ∈ v.2) := List.getElem_mem hql
      generalize hx : v.2[q] = x at *
      generalize hn : v.1[q] = n at *
      obtain ⟨nx, hnx⟩ : ∃ s, s = bx n := ⟨_, rfl⟩
      rw [← hnx] at hca CG1
      have hltI : (q : Int) < (N : Int) := by omega
      clear hnx hx hn HI
      go_wp2_with fail
      refine Calls.mono CG1.out ?_
      rintro e w' ⟨u, rfl, hu, rfl⟩
      cases hnul : isNull x with
      | true =>
        obtain rfl : u = .nilIface := by rw [isNull_true hnul] at hu; exact PJ_null.1 hu
        have HT : Hid (hasNullJ (ofO v) = true) := by
          unfold Hid
          rw [HE.out]
          exact List.any_eq_true.2 ⟨x, HIN.out, by rw [hnul]; rfl⟩
        clear hu hnul HI1
        go_wp2_with fail
        go_ret
        exact ⟨ret_b HT.out.symm, rfl⟩
      | false =>
        obtain ⟨ut, ux, rfl⟩ := hu.some_ hnul
        have CH := Lib.hid (HI1.out _ hu)
        obtain ⟨bb, hbb⟩ : ∃ b, b = hasNullJ x := ⟨_, rfl⟩
        rw [← hbb] at CH
        have HBB := Lib.hid hbb
        have HNU := Lib.hid hnul
        clear hu hnul HI1 hbb
        cases bb with
        | true =>
          have HT : Hid (hasNullJ (ofO v) = true) := by
            unfold Hid
            rw [HE.out]
            exact List.any_eq_true.2 ⟨x, HIN.out, by rw [← HBB.out, Bool.or_true]⟩
          go_wp2_with (go_at_call 85; refine CH.out.mono ?_; rintro e w' ⟨rfl, rfl⟩)
          go_ret
          exact ⟨ret_b HT.out.symm, rfl⟩
        | false =>
          have HR2 : Hid ((v.2.take (q + 1)).any (fun x => isNull x || hasNullJ x) = false) := by
            unfold Hid
            rw [HTL.out, List.any_append, hR.out]
            simp [← HBB.out, HNU.out]
          go_wp2_with (go_at_call 85; refine CH.out.mono ?_; rintro e w' ⟨rfl, rfl⟩)
          go_roundw
          case rel => exact ⟨q + 1, hlt, by go_num, HR2, trivial⟩
          case measure => simp [intOf]; omega
    · have HF : Hid (hasNullJ (ofO v) = false) := by
        have h := hR.out
        rw [List.take_of_length_le (by have := HN.out.2; omega)] at h
        unfold Hid
        rw [HE.out, h]
      have bl : decide ((q : Int) < (N : Int)) = false := decide_eq_false (by omega)
      have bl2 : decide (q < N) = false := decide_eq_false hlt
      clear hlt HI
      go_wp2_with fail
      go_ret
      exact ⟨ret_b HF.out.symm, rfl⟩
theorem has_all : ∀ (m : Nat) (v : J), SizeOf.sizeOf v ≤ m → HasC v
  | m, v, hm => by
    cases h : isObj v with
    | false => exact has_flat v h
    | true =>
      rw [obj_of h] at hm ⊢
      generalize objO v = b at hm
      cases m with
      | zero => unfold ofO at hm; rw [J.obj.sizeOf_spec] at hm; omega
      | succ m => exact has_obj b fun n x hx => has_all m x (by have := kid_size hx; omega)
theorem has_val (v : J) : HasC v := has_all _ v (Nat.le_refl _)
/-- What makes a value, or says that it cannot be made, returns. -/
def MixPost (ok : Bool) (j : J) (w : World) (e : Ending) (w' : World) : Prop := (ok = true ∧ (∃ u, e = .returned (.tuple #[u, .int .i64 0]) ∧ PJ w' j u) ∨ ok = false ∧ e = .returned (.tuple #[.nilIface, .int .i64 9])) ∧ Ext w w'
def BothC (q : J) : Prop := ∀ (p : J) (x y : Value) (w : World), PJ w p x → PJ w q y → WJ p → WJ q → bulkJ p + bulkJ q ≤ 1000000 → Calls Tryz.prog 50 #[x, y] w (MixPost (okM p q) (outM p q) w)
set_option maxRecDepth 100000 in
set_option maxHeartbeats 2000000 in
theorem both_flat (v : J) (hv : isObj v = false) : BothC v := by
  intro d x y w _ hy _ _ _
  rw [okM_flat d hv, outM_flat d hv]
  have a1 := not_obj hy hv
  have HY := Lib.hid hy
  clear hy hv
  go_enter Tryz.func50, Tryz.ntmps50
  go_wp2_with fail
  go_ret2
  exact ⟨.inl ⟨rfl, y, rfl, HY.out⟩, Below.refl _ _⟩
set_option maxRecDepth 100000 in
set_option maxHeartbeats 2000000 in
theorem both_not (v : Ob) (p : J) (hp : isObj p = false) (x y : Value) (w : World) (hx : PJ w p x) (hy : PJ w (ofO v) y) : Calls Tryz.prog 50 #[x, y] w (MixPost (okM p (ofO v)) (outM p (ofO v)) w) := by
  rw [okM_not hp]
  obtain ⟨bo, rfl, ho⟩ := PJ_obj.1 hy
  have a1 := not_obj hx hp
  have a5 := ta_obj_obj (.pointer (some ⟨bo, 0, none⟩))
  clear hx hy hp ho
  go_enter Tryz.func50, Tryz.ntmps50
  go_wp2_with fail
  go_ret2
  exact ⟨.inr ⟨rfl, rfl⟩, Below.refl _ _⟩
set_option maxRecDepth 100000 in
set_option maxHeartbeats 8000000 in
theorem both_obj (v P : Ob) (ih : ∀ n x, getO v n = some x → BothC x) (x y : Value) (w : World) (hx : PJ w (ofO P) x) (hy : PJ w (ofO v) y) (hP : WO P) (hV : WO v) (hb : bulkO P + bulkO v ≤ 1000000) : Calls Tryz.prog 50 #[x, y] w (MixPost (okM (ofO P) (ofO v)) (outM (ofO P) (ofO v)) w) := by
  obtain ⟨bo, rfl, ho⟩ := PJ_obj.1 hy
  obtain ⟨b0, rfl, h0⟩ := PJ_obj.1 hx
  have hlv := len_bulkO v
  have hVl := hV.len
  obtain ⟨N, hN⟩ : ∃ N, N = v.1.length := ⟨_, rfl⟩
  have hNs : N ≤ 1048576 := by omega
  have HN : Hid (N = v.1.length ∧ N = v.2.length) := ⟨hN, by omega⟩
  have CN : Hid (Calls Tryz.prog 78 #[.pointer (some ⟨bo, 0, none⟩)] w fun e w' => ∃ A c, e = .returned (.slice A N c) ∧ N ≤ c ∧ NamesAt (fun _ => True) w A v.1 ∧ w = w') := by
    unfold Hid
    rw [hN]
    exact names_any bo v w ho
  have CG : Hid (∀ q (hq : q < v.1.length) (hq2 : q < v.2.length) W, Ext w W → Calls Tryz.prog 79 #[.pointer (some ⟨bo, 0, none⟩), .string (bx v.1[q])] W fun e w' => ∃ u, e = .returned (.tuple #[u, .bool true]) ∧ PJ W v.2[q] u ∧ W = w') := fun q hq hq2 W hW =>
    (getO_any bo v v.1[q] W (ho.ext hW) hV (by omega)).mono fun e w' ⟨u, h1, h2, h3⟩ => by
      rw [at_field hV hq hq2] at h1
      rw [val_some (at_field hV hq hq2)] at h2
      exact ⟨u, h1, h2, h3⟩
  obtain ⟨K, hK⟩ : ∃ K : Nat → Ob, ∀ q, K q = foldO (stepM P) ((v.1.zip v.2).take q) P := ⟨_, fun _ => rfl⟩
  have hA := fold_ahead (step_both hP) hV (fun _ _ h => hV.get h) hP
  have HK : Hid (K 0 = P ∧ (∀ q (h1 : q < v.1.length) (h2 : q < v.2.length), K (q + 1) = setO (K q) v.1[q] (bothO P v.1[q] v.2[q])) ∧ (∀ q, WO (K q) ∧ bulkO (K q) ≤ 1000000) ∧ outM (ofO P) (ofO v) = ofO (K N)) := by
    refine ⟨by rw [hK]; rfl, fun q h1 h2 => by rw [hK, hK]; exact fold_take _ _ _ h1 h2, fun q => ⟨by rw [hK]; exact (both_mid hP hV q).1, by rw [hK]; have := (both_mid hP hV q).2; omega⟩, ?_⟩
    rw [outM_obj, hK, List.take_of_length_le (by rw [List.length_zip]; omega)]
    rfl
  have HAH : Hid (∀ q (h1 : q < v.1.length), getO (K q) v.1[q] = getO P v.1[q]) := fun q h1 => by rw [hK]; exact (hA q).2 h1
  have HI : Hid (∀ q (hq : q < v.1.length) (hq2 : q < v.2.length) (y : J) (W : World) (h u : Value), getO P v.1[q] = some y → PJ W y h → PJ W v.2[q] u → Calls Tryz.prog 50 #[h, u] W (MixPost (okM y v.2[q]) (outM y v.2[q]) W)) := fun q hq hq2 y W h u hy p1 p2 => by
    have hat := at_field hV hq hq2
    refine ih _ _ hat y h u W p1 p2 (hP.get hy) (hV.get hat) ?_
    have h1 := bulk_get hy
    have h2 := bulk_get hat
    omega
  have HE : Hid (okM (ofO P) (ofO v) = (v.1.zip v.2).all fun z => okO P z.1 z.2) := okM_obj P v
  have HZT : Hid (∀ q (h1 : q < v.1.length) (h2 : q < v.2.length), (v.1.zip v.2).take (q + 1) = (v.1.zip v.2).take q ++ [(v.1[q], v.2[q])] ∧ (v.1[q], v.2[q]) ∈ v.1.zip v.2) := fun q h1 h2 => by
    have hz : q < (v.1.zip v.2).length := by rw [List.length_zip]; omega
    have e : (v.1.zip v.2)[q] = (v.1[q], v.2[q]) := List.getElem_zip
    exact ⟨by rw [List.take_succ_eq_append_getElem hz, e], by rw [← e]; exact List.getElem_mem hz⟩
  have HZN : Hid ((v.1.zip v.2).take N = v.1.zip v.2) := List.take_of_length_le (by rw [List.length_zip]; omega)
  have a5 := ta_obj_obj (.pointer (some ⟨bo, 0, none⟩))
  have a7 := ta_obj_obj (.pointer (some ⟨b0, 0, none⟩))
  have HO1 := Lib.hid h0
  obtain ⟨ok, hok⟩ : ∃ b, b = okM (ofO P) (ofO v) := ⟨_, rfl⟩
  have HOK := Lib.hid hok
  rw [← hok]
  clear hx hy hb ho hlv hVl hN ih hK hA h0 hP hV hok
  go_enter Tryz.func50, Tryz.ntmps50
  go_wp2_with fail
  refine Calls.mono CN.out ?_
  rintro e w' ⟨A, c, rfl, hNc, hNA, rfl⟩
  have HNA := Lib.hid hNA
  clear hNA a5 a7
  go_wp2_with fail
  go_loopw [8, 35] (fun o ix wr => ∃ q b1 : Nat, q ≤ N ∧ ix = .int .i64 (q : Int) ∧ o = .pointer (some ⟨b1, 0, none⟩) ∧ Hid (OA wr b1 (K q) ∧ Ext w wr ∧ ((v.1.zip v.2).take q).all (fun z => okO P z.1 z.2) = true)) (fun _ ix _ => N - (intOf ix).toNat)
  case atStart => exact ⟨0, b0, Nat.zero_le _, rfl, rfl, by rw [HK.out.1]; exact HO1.out, Below.refl _ _, rfl⟩
  case round =>
    obtain ⟨q, b1, hq, rfl, rfl, hR⟩ := hrel
    have hq0 : (0 : Int) ≤ (q : Int) := by omega
    have HXR := Lib.hid hR.out.2.1
    by_cases hlt : q < N
    · have hqn : q < v.1.length := by rw [← HN.out.1]; exact hlt
      have hql : q < v.2.length := by rw [← HN.out.2]; exact hlt
      obtain ⟨ga, oa, rfl, -, hca0⟩ := HNA.out q hqn
      have hca := (cell_keep (HXR.out.block ga (cell_lt hca0))).trans hca0
      have CG1 := Lib.hid (CG.out q hqn hql wr HXR.out)
      have hKq := HK.out.2.2.1 q
      have CG2 := Lib.hid (getO_any b1 (K q) v.1[q] wr hR.out.1 hKq.1 (by omega))
      have HST : Hid (K (q + 1) = setO (K q) v.1[q] (bothO P v.1[q] v.2[q])) := HK.out.2.1 q hqn hql
      have CWI : Hid (∀ (W : World) (j : J) (u : Value), Ext wr W → PJ W j u → Calls Tryz.prog 81 #[.pointer (some ⟨b1, 0, none⟩), .string (bx v.1[q]), u] W fun e w' => ∃ b', e = .returned (.pointer (some ⟨b', 0, none⟩)) ∧ OA w' b' (setO (K q) v.1[q] j) ∧ Ext W w') := fun W j u hW hj => withO_any b1 (K q) v.1[q] j u W (hR.out.1.ext hW) hKq.1 (by omega) hj
      have HI1 := Lib.hid (HI.out q hqn hql)
      have HAQ := Lib.hid (HAH.out q hqn)
      have HZQ := Lib.hid (HZT.out q hqn hql)
      have HVA : Hid (∀ y, getO P v.1[q] = some y → valO (K q) v.1[q] = y) := fun y hy => val_some (HAQ.out.trans hy)
      rw [HAQ.out] at CG2
      generalize hx : v.2[q] = x at *
      generalize hn : v.1[q] = n at *
      obtain ⟨nx, hnx⟩ : ∃ s, s = bx n := ⟨_, rfl⟩
      rw [← hnx] at hca CG1 CG2 CWI
      have hltI : (q : Int) < (N : Int) := by omega
      clear hca0 hKq hnx hx hn HI HAH HAQ
      cases hP : getO P n with
      | none =>
        rw [hP] at CG2
        have HS : Hid (K (q + 1) = setO (K q) n x) := by unfold Hid; rw [HST.out]; unfold bothO; rw [hP]
        have HOKQ : Hid (((v.1.zip v.2).take (q + 1)).all (fun z => okO P z.1 z.2) = true) := by
          unfold Hid
          rw [HZQ.out.1, List.all_append, hR.out.2.2]
          simp [okO, hP]
        clear hP
        go_wp2_with fail
        refine Calls.mono CG1.out ?_
        rintro e w' ⟨u, rfl, hu, rfl⟩
        have CW := Lib.hid (CWI.out wr _ u (Below.refl _ _) hu)
        clear hu
        go_wp2_with fail
        refine Calls.mono CG2.out ?_
        rintro e w' ⟨hh, rfl, -, rfl⟩
        go_wp2_with fail
        refine Calls.mono CW.out ?_
        rintro e w3 ⟨b2, rfl, ho2, x3⟩
        have H2 : Hid (OA w3 b2 (K (q + 1)) ∧ Ext w w3) := ⟨by rw [HS.out]; exact ho2, HXR.out.trans x3⟩
        clear ho2 x3
        go_wp2_with fail
        go_roundw
        case rel => exact ⟨q + 1, b2, hlt, by go_num, rfl, H2.out.1, H2.out.2, HOKQ.out⟩
        case measure => simp [intOf]; omega
      | some y =>
        rw [hP] at CG2
        rw [HVA.out y hP] at CG2
        have HI2 := Lib.hid (fun W h u => HI1.out y W h u hP)
        have HS : Hid (K (q + 1) = setO (K q) n (outM y x)) := by unfold Hid; rw [HST.out]; unfold bothO; rw [hP]
        have HOK1 : Hid (okO P n x = okM y x) := by unfold Hid okO; rw [hP]
        clear hP HI1 HVA
        go_wp2_with fail
        refine Calls.mono CG1.out ?_
        rintro e w' ⟨u, rfl, hu, rfl⟩
        have HU := Lib.hid hu
        clear hu
        go_wp2_with fail
        refine Calls.mono CG2.out ?_
        rintro e w' ⟨hh, rfl, hhd, rfl⟩
        have CI := Lib.hid (HI2.out wr hh u hhd HU.out)
        clear hhd
        go_wp2_with fail
        refine Calls.mono CI.out ?_
        rintro e w2 ⟨⟨hk, u2, rfl, hu2⟩ | ⟨hk, rfl⟩, x2⟩
        · have CW := Lib.hid (CWI.out w2 _ u2 x2 hu2)
          have X2 := Lib.hid (HXR.out.trans x2)
          have HOKQ : Hid (((v.1.zip v.2).take (q + 1)).all (fun z => okO P z.1 z.2) = true) := by
            unfold Hid
            rw [HZQ.out.1, List.all_append, hR.out.2.2]
            simp [HOK1.out, hk]
          clear hu2 x2 hk
          go_wp2_with fail
          refine Calls.mono CW.out ?_
          rintro e w3 ⟨b2, rfl, ho2, x3⟩
          have H2 : Hid (OA w3 b2 (K (q + 1)) ∧ Ext w w3) := ⟨by rw [HS.out]; exact ho2, X2.out.trans x3⟩
          clear ho2 x3
          go_wp2_with fail
          go_roundw
          case rel => exact ⟨q + 1, b2, hlt, by go_num, rfl, H2.out.1, H2.out.2, HOKQ.out⟩
          case measure => simp [intOf]; omega
        · have X2 := Lib.hid (HXR.out.trans x2)
          have HF : Hid (ok = false) := by
            unfold Hid
            rw [HOK.out, HE.out, List.all_eq_false]
            exact ⟨(n, x), HZQ.out.2, by rw [HOK1.out, hk]; simp⟩
          clear x2 hk
          go_wp2_with fail
          go_ret2
          exact ⟨.inr ⟨HF.out, rfl⟩, X2.out⟩
    · have bl : decide ((q : Int) < (N : Int)) = false := decide_eq_false (by omega)
      have bl2 : decide (q < N) = false := decide_eq_false hlt
      obtain rfl : q = N := by omega
      have HT : Hid (ok = true) := by
        unfold Hid
        rw [HOK.out, HE.out, ← HZN.out]
        exact hR.out.2.2
      clear hlt HI
      go_wp2_with fail
      go_ret2
      exact ⟨.inl ⟨HT.out, _, rfl, by rw [HK.out.2.2.2]; exact PJ_obj.2 ⟨b1, rfl, hR.out.1⟩⟩, HXR.out⟩
theorem both_all : ∀ (m : Nat) (v : J), SizeOf.sizeOf v ≤ m → BothC v
  | m, v, hm => by
    cases h : isObj v with
    | false => exact both_flat v h
    | true =>
      rw [obj_of h] at hm ⊢
      generalize objO v = b at hm
      cases m with
      | zero => unfold ofO at hm; rw [J.obj.sizeOf_spec] at hm; omega
      | succ m =>
        intro p x y w hx hy hp hq hb
        cases h2 : isObj p with
        | false => exact both_not b p h2 x y w hx hy
        | true =>
          rw [obj_of h2] at hx hp hb ⊢
          rw [bulk_of, bulk_of] at hb
          exact both_obj b _ (fun n x hx => both_all m x (by have := kid_size hx; omega)) x y w hx hy hp hq (by omega)
theorem both_val (v : J) : BothC v := both_all _ v (Nat.le_refl _)
end Go.Proofs.YtahinicpceokcaaGreatDoor.Jm
namespace Go.Proofs.YtahinicpceokcaaGreatDoor.Jm
open Go Go.RowKit Go.Proofs.YtahinicpceokcaaGreatDoor.Sx Go.Proofs.YtahinicpceokcaaGreatDoor.Js
def BetC (b : J) : Prop := ∀ (a : J) (x y : Value) (w : World), PJ w a x → PJ w b y → WJ a → WJ b → Tab10 w → bulkJ a + bulkJ b ≤ 999000 → Calls Tryz.prog 47 #[x, y] w (MixPost (okB a b) (outB a b) w)
set_option maxRecDepth 100000 in
set_option maxHeartbeats 2000000 in
theorem bet_flat (v : J) (hv : isObj v = false) : BetC v := by
  intro d x y w _ hy _ _ _ _
  rw [okB_flat d hv, outB_flat d hv]
  have a1 := not_obj hy hv
  have HY := Lib.hid hy
  clear hy hv
  go_enter Tryz.func47, Tryz.ntmps47
  go_wp2_with fail
  go_ret2
  exact ⟨.inl ⟨rfl, y, rfl, HY.out⟩, Below.refl _ _⟩
set_option maxRecDepth 100000 in
set_option maxHeartbeats 2000000 in
theorem bet_new (v : Ob) (p : J) (hp : isObj p = false) (x y : Value) (w : World) (hx : PJ w p x) (hy : PJ w (ofO v) y) (hv : WO v) (hb : bulkJ (ofO v) ≤ 1000000) : Calls Tryz.prog 47 #[x, y] w (MixPost (okB p (ofO v)) (outB p (ofO v)) w) := by
  rw [okB_new hp, outB_new hp]
  have HY := Lib.hid hy
  have CH := Lib.hid (has_val (ofO v) y w hy hv hb)
  obtain ⟨bo, rfl, ho⟩ := PJ_obj.1 hy
  obtain ⟨bb, hbb⟩ : ∃ b, b = hasNullJ (ofO v) := ⟨_, rfl⟩
  rw [← hbb] at CH ⊢
  have a1 := not_obj hx hp
  have a5 := ta_obj_obj (.pointer (some ⟨bo, 0, none⟩))
  clear hx hy hp ho hbb hv hb
  go_enter Tryz.func47, Tryz.ntmps47
  go_wp2_with fail
  refine Calls.mono CH.out ?_
  rintro e w' ⟨rfl, rfl⟩
  cases bb with
  | true =>
    go_wp2_with fail
    go_ret2
    exact ⟨.inr ⟨rfl, rfl⟩, Below.refl _ _⟩
  | false =>
    go_wp2_with fail
    go_ret2
    exact ⟨.inl ⟨rfl, _, rfl, HY.out⟩, Below.refl _ _⟩
theorem zip_at (v : Ob) (N : Nat) (h1 : N = v.1.length) (h2 : N = v.2.length) : (∀ q (h1 : q < v.1.length) (h2 : q < v.2.length), (v.1.zip v.2).take (q + 1) = (v.1.zip v.2).take q ++ [(v.1[q], v.2[q])] ∧ (v.1[q], v.2[q]) ∈ v.1.zip v.2) ∧ (v.1.zip v.2).take N = v.1.zip v.2 := by
  refine ⟨fun q h1 h2 => ?_, List.take_of_length_le (by rw [List.length_zip]; omega)⟩
  have hz : q < (v.1.zip v.2).length := by rw [List.length_zip]; omega
  have e : (v.1.zip v.2)[q] = (v.1[q], v.2[q]) := List.getElem_zip
  exact ⟨by rw [List.take_succ_eq_append_getElem hz, e], by rw [← e]; exact List.getElem_mem hz⟩
/-- The names of an object, where the world has grown. -/
theorem names_call (b : Nat) (a : Ob) (N : Nat) (hN : N = a.1.length) (w : World) (ho : OA w b a) : Calls Tryz.prog 78 #[.pointer (some ⟨b, 0, none⟩)] w fun e w' => ∃ A c, e = .returned (.slice A N c) ∧ N ≤ c ∧ NamesAt (fun _ => True) w A a.1 ∧ w = w' := by
  rw [hN]
  exact names_any b a w ho
theorem get_call (bo : Nat) (v : Ob) (w : World) (ho : OA w bo v) (hV : WO v) (hb : bulkO v ≤ 1048000) (q : Nat) (hq : q < v.1.length) (hq2 : q < v.2.length) : Calls Tryz.prog 79 #[.pointer (some ⟨bo, 0, none⟩), .string (bx v.1[q])] w fun e w' => ∃ u, e = .returned (.tuple #[u, .bool true]) ∧ PJ w v.2[q] u ∧ w = w' :=
  (getO_any bo v v.1[q] w ho hV hb).mono fun e w' ⟨u, h1, h2, h3⟩ => by
    rw [at_field hV hq hq2] at h1
    rw [val_some (at_field hV hq hq2)] at h2
    exact ⟨u, h1, h2, h3⟩
set_option maxRecDepth 100000 in
set_option maxHeartbeats 16000000 in
theorem bet_obj (v P : Ob) (ih : ∀ n x, getO v n = some x → BetC x) (x y : Value) (w : World) (hx : PJ w (ofO P) x) (hy : PJ w (ofO v) y) (hP : WO P) (hV : WO v) (htb : Tab10 w) (hb : bulkO P + bulkO v ≤ 998936) : Calls Tryz.prog 47 #[x, y] w (MixPost (okB (ofO P) (ofO v)) (outB (ofO P) (ofO v)) w) := by
  obtain ⟨bo, rfl, ho⟩ := PJ_obj.1 hy
  obtain ⟨b0, rfl, h0⟩ := PJ_obj.1 hx
  have hlv := len_bulkO v
  have hVl := hV.len
  have hlP := len_bulkO P
  have hPl := hP.len
  obtain ⟨N, hN⟩ : ∃ N, N = v.1.length := ⟨_, rfl⟩
  obtain ⟨M, hM⟩ : ∃ N, N = P.1.length := ⟨_, rfl⟩
  have hNs : N ≤ 1048576 := by omega
  have hMs : M ≤ 1048576 := by omega
  have HN : Hid (N = v.1.length ∧ N = v.2.length) := ⟨hN, by omega⟩
  have HM : Hid (M = P.1.length ∧ M = P.2.length) := ⟨hM, by omega⟩
  have CN : Hid (∀ W, Ext w W → Calls Tryz.prog 78 #[.pointer (some ⟨bo, 0, none⟩)] W fun e w' => ∃ A c, e = .returned (.slice A N c) ∧ N ≤ c ∧ NamesAt (fun _ => True) W A v.1 ∧ W = w') := fun W hW => names_call bo v N hN W (ho.ext hW)
  have CM : Hid (∀ W, Ext w W → Calls Tryz.prog 78 #[.pointer (some ⟨b0, 0, none⟩)] W fun e w' => ∃ A c, e = .returned (.slice A M c) ∧ M ≤ c ∧ NamesAt (fun _ => True) W A P.1 ∧ W = w') := fun W hW => names_call b0 P M hM W (h0.ext hW)
  have CG : Hid (∀ q (hq : q < v.1.length) (hq2 : q < v.2.length) W, Ext w W → Calls Tryz.prog 79 #[.pointer (some ⟨bo, 0, none⟩), .string (bx v.1[q])] W fun e w' => ∃ u, e = .returned (.tuple #[u, .bool true]) ∧ PJ W v.2[q] u ∧ W = w') := fun q hq hq2 W hW => get_call bo v W (ho.ext hW) hV (by omega) q hq hq2
  have CGP : Hid (∀ n W, Ext w W → Calls Tryz.prog 79 #[.pointer (some ⟨b0, 0, none⟩), .string (bx n)] W fun e w' => ∃ u, e = .returned (.tuple #[u, .bool (getO P n).isSome]) ∧ PJ W (valO P n) u ∧ W = w') := fun n W hW => getO_any b0 P n W (h0.ext hW) hP (by omega)
  have CGV : Hid (∀ n W, Ext w W → Calls Tryz.prog 79 #[.pointer (some ⟨bo, 0, none⟩), .string (bx n)] W fun e w' => ∃ u, e = .returned (.tuple #[u, .bool (getO v n).isSome]) ∧ PJ W (valO v n) u ∧ W = w') := fun n W hW => getO_any bo v n W (ho.ext hW) hV (by omega)
  have CWI : Hid (∀ (b1 : Nat) (a : Ob) (n : Tx) (W : World) (j : J) (u : Value), OA W b1 a → WO a → bulkO a ≤ 1000000 → PJ W j u → Calls Tryz.prog 81 #[.pointer (some ⟨b1, 0, none⟩), .string (bx n), u] W fun e w' => ∃ b', e = .returned (.pointer (some ⟨b', 0, none⟩)) ∧ OA w' b' (setO a n j) ∧ Ext W w') := fun b1 a n W j u ho hw hb hj => withO_any b1 a n j u W ho hw (by omega) hj
  obtain ⟨G, hG⟩ : ∃ K : Nat → Ob, ∀ q, K q = foldO (stepN v.1) ((P.1.zip P.2).take q) ([], []) := ⟨_, fun _ => rfl⟩
  have HG : Hid (G 0 = ([], []) ∧ (∀ q (h1 : q < P.1.length) (h2 : q < P.2.length), G (q + 1) = if P.1[q] ∈ v.1 then G q else setO (G q) P.1[q] .null) ∧ (∀ q, WO (G q) ∧ bulkO (G q) ≤ 1000000) ∧ goneB P v = G M) := by
    refine ⟨by rw [hG]; rfl, fun q h1 h2 => by rw [hG, hG]; exact fold_take _ _ _ h1 h2, fun q => ⟨by rw [hG]; exact (gone_mid hP hV q).1, by rw [hG]; have := (gone_mid hP hV q).2; omega⟩, ?_⟩
    rw [hG, (zip_at P M hM (by omega)).2]
    rfl
  obtain ⟨K, hK⟩ : ∃ K : Nat → Ob, ∀ q, K q = foldO (stepD P outB) ((v.1.zip v.2).take q) (goneB P v) := ⟨_, fun _ => rfl⟩
  have HK : Hid (K 0 = G M ∧ (∀ q (h1 : q < v.1.length) (h2 : q < v.2.length), K (q + 1) = if sameAt P v.1[q] v.2[q] then K q else setO (K q) v.1[q] (outB (valO P v.1[q]) v.2[q])) ∧ (∀ q, WO (K q) ∧ bulkO (K q) ≤ 1000000) ∧ outB (ofO P) (ofO v) = ofO (K N)) := by
    refine ⟨by rw [hK]; exact HG.out.2.2.2, fun q h1 h2 => by rw [hK, hK]; exact fold_take _ _ _ h1 h2, fun q => ⟨by rw [hK]; exact (between_step_mid hP hV q).1, by rw [hK]; have := (between_step_mid hP hV q).2; omega⟩, ?_⟩
    rw [outB_obj, hK, (zip_at v N hN (by omega)).2]
  have HI : Hid (∀ q (hq : q < v.1.length) (hq2 : q < v.2.length) (W : World) (h u : Value), Ext w W → PJ W (valO P v.1[q]) h → PJ W v.2[q] u → Calls Tryz.prog 47 #[h, u] W (MixPost (okB (valO P v.1[q]) v.2[q]) (outB (valO P v.1[q]) v.2[q]) W)) := fun q hq hq2 W h u hW p1 p2 => by
    have hat := at_field hV hq hq2
    refine ih _ _ hat _ h u W p1 p2 (hP.val _) (hV.get hat) (htb.ext hW) ?_
    have h1 := bulk_val P v.1[q]
    have h2 := bulk_get hat
    omega
  have HSM : Hid (∀ q (hq : q < v.1.length) (hq2 : q < v.2.length) (W : World) (h u : Value) (y : J), Ext w W → getO P v.1[q] = some y → PJ W y h → PJ W v.2[q] u → Calls Tryz.prog 38 #[h, u] W fun e w' => e = .returned (.bool (textJ y == textJ v.2[q])) ∧ Ext W w') := fun q hq hq2 W h u y hW hy p1 p2 => by
    have hat := at_field hV hq hq2
    have h1 := bulk_get hy
    have h2 := bulk_get hat
    exact tsame_val _ _ h u W y v.2[q] p1 p2 (PV.ij y h p1 (hP.get hy)) (PV.ij _ u p2 (hV.get hat)) (htb.ext hW) (by omega) (by omega)
  obtain ⟨okf, hokf⟩ : ∃ f : Tx × J → Bool, ∀ p, f p = (sameAt P p.1 p.2 || (!isNull p.2 && okB (valO P p.1) p.2)) := ⟨_, fun _ => rfl⟩
  have HF := Lib.hid hokf
  have HE : Hid (okB (ofO P) (ofO v) = (v.1.zip v.2).all okf) := by
    unfold Hid
    rw [okB_obj]
    exact congrArg _ (funext fun p => (hokf p).symm)
  have HZT := Lib.hid (zip_at v N hN (by omega))
  have HMEM : Hid (∀ n, (getO v n).isSome = true ↔ n ∈ v.1) := fun n => get_mem hV n
  have a5 := ta_obj_obj (.pointer (some ⟨bo, 0, none⟩))
  have a7 := ta_obj_obj (.pointer (some ⟨b0, 0, none⟩))
  obtain ⟨ok, hok⟩ : ∃ b, b = okB (ofO P) (ofO v) := ⟨_, rfl⟩
  have HOK := Lib.hid hok
  rw [← hok]
  obtain ⟨w1, hw1⟩ : ∃ w1, w1 = w.alloc (.cells #[.slice none 0 0, .slice none 0 0] objT (0, 0)) := ⟨_, rfl⟩
  obtain ⟨bn, hbn⟩ : ∃ b0, b0 = w.heap.size := ⟨_, rfl⟩
  have HX1 : Hid (Ext w w1) := by unfold Hid; rw [hw1]; exact new_ext _ _
  have HO1 : Hid (OA w1 bn (G 0)) := by unfold Hid; rw [hw1, HG.out.1]; exact OA.new rfl rfl hbn
  clear hx hy hb ho hlv hVl hlP hPl hN hM ih hK hG h0 hP hV hok hokf htb
  go_enter Tryz.func47, Tryz.ntmps47
  go_upto_region 10 with (fail)
  rw [← hw1, ← hbn]
  clear hw1 hbn
  go_wp2_with fail
  refine Calls.mono (CM.out w1 HX1.out) ?_
  rintro e w' ⟨A, c, rfl, hMc, hNA, rfl⟩
  have HMA := Lib.hid hNA
  clear hNA a5 a7
  go_wp2_with fail
  go_loopw [9, 45] (fun o ix wr => ∃ q b1 : Nat, q ≤ M ∧ ix = .int .i64 (q : Int) ∧ o = .pointer (some ⟨b1, 0, none⟩) ∧ Hid (OA wr b1 (G q) ∧ Ext w1 wr)) (fun _ ix _ => M - (intOf ix).toNat)
  case atStart => exact ⟨0, bn, Nat.zero_le _, rfl, rfl, HO1.out, Below.refl _ _⟩
  case round =>
    obtain ⟨q, b1, hq, rfl, rfl, hR⟩ := hrel
    have hq0 : (0 : Int) ≤ (q : Int) := by omega
    have HXR := Lib.hid (HX1.out.trans hR.out.2)
    by_cases hlt : q < M
    · have hqn : q < P.1.length := by rw [← HM.out.1]; exact hlt
      have hql : q < P.2.length := by rw [← HM.out.2]; exact hlt
      obtain ⟨ga, oa, rfl, -, hca0⟩ := HMA.out q hqn
      have hca := (cell_keep (hR.out.2.block ga (cell_lt hca0))).trans hca0
      have hKq := HG.out.2.2.1 q
      have CG1 := Lib.hid (CGV.out P.1[q] wr HXR.out)
      have HST := Lib.hid (HG.out.2.1 q hqn hql)
      have CW := Lib.hid (CWI.out b1 (G q) P.1[q] wr .null .nilIface hR.out.1 hKq.1 hKq.2 PJ.null)
      generalize hn : P.1[q] = n at *
      have HMN := Lib.hid (HMEM.out n)
      obtain ⟨nx, hnx⟩ : ∃ s, s = bx n := ⟨_, rfl⟩
      rw [← hnx] at hca CG1 CW
      have hltI : (q : Int) < (M : Int) := by omega
      clear hca0 hKq hnx hn
      cases hin : (getO v n).isSome with
      | true =>
        rw [hin] at CG1
        have HS : Hid (G (q + 1) = G q) := by unfold Hid; rw [HST.out, if_pos (HMN.out.1 hin)]
        clear hin
        go_wp2_with fail
        refine Calls.mono CG1.out ?_
        rintro e w' ⟨u, rfl, -, rfl⟩
        go_wp2_with fail
        go_roundw
        case rel => exact ⟨q + 1, b1, hlt, by go_num, rfl, by rw [HS.out]; exact hR.out.1, hR.out.2⟩
        case measure => simp [intOf]; omega
      | false =>
        rw [hin] at CG1
        have HS : Hid (G (q + 1) = setO (G q) n .null) := by unfold Hid; rw [HST.out, if_neg (fun h => by rw [HMN.out.2 h] at hin; cases hin)]
        clear hin
        go_wp2_with fail
        refine Calls.mono CG1.out ?_
        rintro e w' ⟨u, rfl, -, rfl⟩
        go_wp2_with fail
        refine Calls.mono CW.out ?_
        rintro e w2 ⟨b2, rfl, ho2, x2⟩
        have H2 : Hid (OA w2 b2 (G (q + 1)) ∧ Ext w1 w2) := ⟨by rw [HS.out]; exact ho2, hR.out.2.trans x2⟩
        clear ho2 x2
        go_wp2_with fail
        go_roundw
        case rel => exact ⟨q + 1, b2, hlt, by go_num, rfl, H2.out⟩
        case measure => simp [intOf]; omega
    · have bl : decide ((q : Int) < (M : Int)) = false := decide_eq_false (by omega)
      have bl2 : decide (q < M) = false := decide_eq_false hlt
      obtain rfl : q = M := by omega
      obtain ⟨w2, hw2⟩ : ∃ w2, w2 = wr := ⟨_, rfl⟩
      subst hw2
      have HO2 : Hid (OA w2 b1 (K 0)) := by unfold Hid; rw [HK.out.1]; exact hR.out.1
      clear hlt hR
      go_wp2_with fail
      refine Calls.mono (CN.out w2 HXR.out) ?_
      rintro e w' ⟨A2, c2, rfl, hNc, hNA, rfl⟩
      have HNA := Lib.hid hNA
      clear hNA
      go_wp2_with fail
      go_loopw [9, 64] (fun o ix wr => ∃ q b1 : Nat, q ≤ N ∧ ix = .int .i64 (q : Int) ∧ o = .pointer (some ⟨b1, 0, none⟩) ∧ Hid (OA wr b1 (K q) ∧ Ext w2 wr ∧ ((v.1.zip v.2).take q).all okf = true)) (fun _ ix _ => N - (intOf ix).toNat)
      case atStart => exact ⟨0, b1, Nat.zero_le _, rfl, rfl, HO2.out, Below.refl _ _, rfl⟩
      case round =>
        obtain ⟨q, b3, hq, rfl, rfl, hR⟩ := hrel
        have hq0 : (0 : Int) ≤ (q : Int) := by omega
        have HXW := Lib.hid (HXR.out.trans hR.out.2.1)
        by_cases hlt : q < N
        · have hqn : q < v.1.length := by rw [← HN.out.1]; exact hlt
          have hql : q < v.2.length := by rw [← HN.out.2]; exact hlt
          obtain ⟨ga, oa, rfl, -, hca0⟩ := HNA.out q hqn
          have hca := (cell_keep (hR.out.2.1.block ga (cell_lt hca0))).trans hca0
          have hKq := HK.out.2.2.1 q
          have CG1 := Lib.hid (CG.out q hqn hql wr HXW.out)
          have CG2 := Lib.hid (CGP.out v.1[q] wr HXW.out)
          have HST := Lib.hid (HK.out.2.1 q hqn hql)
          have HZQ := Lib.hid (HZT.out.1 q hqn hql)
          have HI1 := Lib.hid (HI.out q hqn hql)
          have HSM1 := Lib.hid (HSM.out q hqn hql)
          have CWI2 : Hid (∀ (W : World) (j : J) (u : Value), Ext wr W → PJ W j u → Calls Tryz.prog 81 #[.pointer (some ⟨b3, 0, none⟩), .string (bx v.1[q]), u] W fun e w' => ∃ b', e = .returned (.pointer (some ⟨b', 0, none⟩)) ∧ OA w' b' (setO (K q) v.1[q] j) ∧ Ext W w') := fun W j u hW hj => CWI.out b3 (K q) v.1[q] W j u (hR.out.1.ext hW) hKq.1 hKq.2 hj
          generalize hx : v.2[q] = x at *
          generalize hn : v.1[q] = n at *
          have HFQ := Lib.hid (HF.out (n, x))
          obtain ⟨nx, hnx⟩ : ∃ s, s = bx n := ⟨_, rfl⟩
          rw [← hnx] at hca CG1 CG2 CWI2
          have hltI : (q : Int) < (N : Int) := by omega
          clear hca0 hKq hnx hn hx HI HSM
          go_wp2_with fail
          refine Calls.mono CG1.out ?_
          rintro e w' ⟨u, rfl, hu, rfl⟩
          have HU := Lib.hid hu
          clear hu
          obtain ⟨s, hs⟩ : ∃ s, s = sameAt P n x := ⟨_, rfl⟩
          rw [← hs] at HST HFQ
          have HS := Lib.hid hs
          clear hs
          -- what comes behind the comparison, where the two are not the same
          have REST : Hid (∀ (W : World) (h : Value), Ext wr W → PJ W (valO P n) h → s = false → isNull x = false → Calls Tryz.prog 47 #[h, u] W (MixPost (okf (n, x)) (outB (valO P n) x) W)) := fun W h hW hh hs hx => by
            rw [HFQ.out, hs, hx]
            exact HI1.out W h u (HXW.out.trans hW) hh (HU.out.ext hW)
          have HNX : Hid (isNull x = true → s = false → ok = false) := fun hx hs => by
            rw [HOK.out, HE.out, List.all_eq_false]
            exact ⟨(n, x), HZQ.out.2, by rw [HFQ.out, hs, hx]; simp⟩
          go_wp2_with fail
          refine Calls.mono CG2.out ?_
          rintro e w' ⟨h, rfl, hh, rfl⟩
          have HH := Lib.hid hh
          clear hh
          cases hgo : getO P n with
          | none =>
            have HSF : Hid (s = false) := by unfold Hid; rw [HS.out]; unfold sameAt; rw [hgo]
            obtain rfl := HSF.out
            clear hgo HS HSM1 HI1
            have X4 : Hid (Ext wr wr) := Below.refl _ _
            cases hnul : isNull x with
            | true =>
              obtain rfl : u = .nilIface := by have h := HU.out; rw [isNull_true hnul] at h; exact PJ_null.1 h
              have HFA : Hid (ok = false) := HNX.out hnul rfl
              clear hnul REST
              go_wp2_with fail
              go_ret2
              exact ⟨.inr ⟨HFA.out, rfl⟩, HXW.out.trans X4.out⟩
            | false =>
              obtain ⟨ut, ux, rfl⟩ := HU.out.some_ hnul
              have HNU := Lib.hid hnul
              clear hnul
              go_wp2_with fail
              refine Calls.mono (REST.out wr h X4.out (HH.out.ext X4.out) (by trivial) HNU.out) ?_
              rintro e w5 ⟨⟨hk, u2, rfl, hu2⟩ | ⟨hk, rfl⟩, x5⟩
              · have X5 := Lib.hid (X4.out.trans x5)
                have CW := Lib.hid (CWI2.out w5 _ u2 X5.out hu2)
                have HS : Hid (K (q + 1) = setO (K q) n (outB (valO P n) x)) := by unfold Hid; rw [HST.out, if_neg (by simp)]
                have HOKQ : Hid (((v.1.zip v.2).take (q + 1)).all okf = true) := by
                  unfold Hid
                  rw [HZQ.out.1, List.all_append, hR.out.2.2]
                  simp [hk]
                clear hu2 x5 hk
                go_wp2_with fail
                refine Calls.mono CW.out ?_
                rintro e w6 ⟨b4, rfl, ho2, x6⟩
                have H2 : Hid (OA w6 b4 (K (q + 1)) ∧ Ext w2 w6) := ⟨by rw [HS.out]; exact ho2, hR.out.2.1.trans (X5.out.trans x6)⟩
                clear ho2 x6
                go_wp2_with fail
                go_roundw
                case rel => exact ⟨q + 1, b4, hlt, by go_num, rfl, H2.out.1, H2.out.2, HOKQ.out⟩
                case measure => simp [intOf]; omega
              · have X5 := Lib.hid (HXW.out.trans (X4.out.trans x5))
                have HFA : Hid (ok = false) := by
                  unfold Hid
                  rw [HOK.out, HE.out, List.all_eq_false]
                  exact ⟨(n, x), HZQ.out.2, by rw [hk]; simp⟩
                clear x5 hk
                go_wp2_with fail
                go_ret2
                exact ⟨.inr ⟨HFA.out, rfl⟩, X5.out⟩
          | some y =>
            have HSE : Hid (s = (textJ y == textJ x)) := by unfold Hid; rw [HS.out]; unfold sameAt; rw [hgo]
            have CS := Lib.hid (HSM1.out wr h u y HXW.out hgo (by rw [← val_some hgo]; exact HH.out) HU.out)
            rw [← HSE.out] at CS
            clear hgo HS HSM1 HI1 HSE
            cases s with
            | true =>
              have HS : Hid (K (q + 1) = K q) := by unfold Hid; rw [HST.out, if_pos rfl]
              have HOKQ : Hid (((v.1.zip v.2).take (q + 1)).all okf = true) := by
                unfold Hid
                rw [HZQ.out.1, List.all_append, hR.out.2.2]
                simp [HFQ.out]
              go_wp2_with (go_at_call 38; refine CS.out.mono ?_; rintro e w4 ⟨rfl, x4⟩; have X4 := Lib.hid x4; clear x4)
              go_roundw
              case rel => exact ⟨q + 1, b3, hlt, by go_num, rfl, by rw [HS.out]; exact hR.out.1.ext X4.out, hR.out.2.1.trans X4.out, HOKQ.out⟩
              case measure => simp [intOf]; omega
            | false =>
              cases hnul : isNull x with
              | true =>
                obtain rfl : u = .nilIface := by have h := HU.out; rw [isNull_true hnul] at h; exact PJ_null.1 h
                have HFA : Hid (ok = false) := HNX.out hnul rfl
                clear hnul REST
                go_wp2_with (go_at_call 38; refine CS.out.mono ?_; rintro e w4 ⟨rfl, x4⟩; have X4 := Lib.hid x4; clear x4)
                go_ret2
                exact ⟨.inr ⟨HFA.out, rfl⟩, HXW.out.trans X4.out⟩
              | false =>
                obtain ⟨ut, ux, rfl⟩ := HU.out.some_ hnul
                have HNU := Lib.hid hnul
                clear hnul
                go_wp2_with (go_at_call 38; refine CS.out.mono ?_; rintro e w4 ⟨rfl, x4⟩; have X4 := Lib.hid x4; clear x4)
                refine Calls.mono (REST.out w4 h X4.out (HH.out.ext X4.out) (by trivial) HNU.out) ?_
                rintro e w5 ⟨⟨hk, u2, rfl, hu2⟩ | ⟨hk, rfl⟩, x5⟩
                · have X5 := Lib.hid (X4.out.trans x5)
                  have CW := Lib.hid (CWI2.out w5 _ u2 X5.out hu2)
                  have HS : Hid (K (q + 1) = setO (K q) n (outB (valO P n) x)) := by unfold Hid; rw [HST.out, if_neg (by simp)]
                  have HOKQ : Hid (((v.1.zip v.2).take (q + 1)).all okf = true) := by
                    unfold Hid
                    rw [HZQ.out.1, List.all_append, hR.out.2.2]
                    simp [hk]
                  clear hu2 x5 hk
                  go_wp2_with fail
                  refine Calls.mono CW.out ?_
                  rintro e w6 ⟨b4, rfl, ho2, x6⟩
                  have H2 : Hid (OA w6 b4 (K (q + 1)) ∧ Ext w2 w6) := ⟨by rw [HS.out]; exact ho2, hR.out.2.1.trans (X5.out.trans x6)⟩
                  clear ho2 x6
                  go_wp2_with fail
                  go_roundw
                  case rel => exact ⟨q + 1, b4, hlt, by go_num, rfl, H2.out.1, H2.out.2, HOKQ.out⟩
                  case measure => simp [intOf]; omega
                · have X5 := Lib.hid (HXW.out.trans (X4.out.trans x5))
                  have HFA : Hid (ok = false) := by
                    unfold Hid
                    rw [HOK.out, HE.out, List.all_eq_false]
                    exact ⟨(n, x), HZQ.out.2, by rw [hk]; simp⟩
                  clear x5 hk
                  go_wp2_with fail
                  go_ret2
                  exact ⟨.inr ⟨HFA.out, rfl⟩, X5.out⟩
        · have bl : decide ((q : Int) < (N : Int)) = false := decide_eq_false (by omega)
          have bl2 : decide (q < N) = false := decide_eq_false hlt
          obtain rfl : q = N := by omega
          have HT : Hid (ok = true) := by
            unfold Hid
            rw [HOK.out, HE.out, ← HZT.out.2]
            exact hR.out.2.2
          clear hlt HI
          go_wp2_with fail
          go_ret2
          exact ⟨.inl ⟨HT.out, _, rfl, by rw [HK.out.2.2.2]; exact PJ_obj.2 ⟨b3, rfl, hR.out.1⟩⟩, HXW.out⟩
theorem bet_all : ∀ (m : Nat) (v : J), SizeOf.sizeOf v ≤ m → BetC v
  | m, v, hm => by
    cases h : isObj v with
    | false => exact bet_flat v h
    | true =>
      rw [obj_of h] at hm ⊢
      generalize objO v = b at hm
      cases m with
      | zero => unfold ofO at hm; rw [J.obj.sizeOf_spec] at hm; omega
      | succ m =>
        intro p x y w hx hy hp hq ht hb
        cases h2 : isObj p with
        | false => exact bet_new b p h2 x y w hx hy hq (by omega)
        | true =>
          rw [obj_of h2] at hx hp hb ⊢
          rw [bulk_of, bulk_of] at hb
          exact bet_obj b _ (fun n x hx => bet_all m x (by have := kid_size hx; omega)) x y w hx hy hp hq ht (by omega)
theorem bet_val (v : J) : BetC v := bet_all _ v (Nat.le_refl _)
end Go.Proofs.YtahinicpceokcaaGreatDoor.Jm
namespace Go.Proofs.YtahinicpceokcaaGreatDoor.Jm
open Go Go.RowKit Go.Proofs.YtahinicpceokcaaGreatDoor.Sx Go.Proofs.YtahinicpceokcaaGreatDoor.Js
/-- Two documents read. -/
def twoR : Res J → Res J → Res (J × J)
  | .error e, _ => .error e
  | .ok _, .error e => .error e
  | .ok a, .ok b => .ok (a, b)
/-- What pair gives. -/
def PairPost (w : World) (T : Res (J × J)) (e : Ending) (w' : World) : Prop := Ext w w' ∧ ((∃ a b u v, T = .ok (a, b) ∧ PJ w' a u ∧ PJ w' b v ∧ e = .returned (.tuple #[u, v, .int .i64 0])) ∨ (∃ er u v, er ≠ 0 ∧ T = .error er ∧ e = .returned (.tuple #[u, v, .int .i64 er])))
set_option maxRecDepth 100000 in
set_option maxHeartbeats 2000000 in
theorem pair_any (s t : ByteArray) (w : World) : Calls Tryz.prog 40 #[.string s, .string t] w (PairPost w (twoR (readS s.data.toList) (readS t.data.toList))) := by
  have C1 := Lib.hid (read_any s w)
  have C2 := Lib.hid (fun W => read_any t W)
  obtain ⟨R, hR⟩ : ∃ R, R = readS s.data.toList := ⟨_, rfl⟩
  obtain ⟨Q, hQ⟩ : ∃ R, R = readS t.data.toList := ⟨_, rfl⟩
  rw [← hR] at C1 ⊢
  rw [← hQ] at C2 ⊢
  clear hR hQ
  go_enter Tryz.func40, Tryz.ntmps40
  go_wp2_with fail
  refine Calls.mono C1.out ?_
  rintro e w2 ⟨x2, ⟨j, u, hj, hp, rfl⟩ | ⟨er, her, hj, rfl⟩⟩
  · have X2 := Lib.hid x2
    have HJ := Lib.hid hj
    have HP := Lib.hid (PJ.of hp)
    clear x2 hj hp
    go_wp2_with fail
    refine Calls.mono (C2.out w2) ?_
    rintro e w3 ⟨x3, ⟨k, v, hk, hq, rfl⟩ | ⟨er, her, hk, rfl⟩⟩
    · have X3 := Lib.hid x3
      have HK := Lib.hid hk
      have HQ := Lib.hid (PJ.of hq)
      clear x3 hk hq
      go_wp2_with fail
      go_ret3
      exact ⟨X2.out.trans X3.out, .inl ⟨j, k, u, v, by rw [HJ.out, HK.out]; rfl, HP.out.ext X3.out, HQ.out, rfl⟩⟩
    · have X3 := Lib.hid x3
      have HK := Lib.hid hk
      have HER := Lib.hid her
      clear x3 hk her
      go_wp2_with fail
      go_ret3
      exact ⟨X2.out.trans X3.out, .inr ⟨er, _, _, HER.out, by rw [HJ.out, HK.out]; rfl, rfl⟩⟩
  · have X2 := Lib.hid x2
    have HJ := Lib.hid hj
    have HER := Lib.hid her
    have b1 : (er != 0) = true := by rw [bne_iff_ne]; exact her
    clear x2 hj her
    go_wp2_with fail
    go_ret3
    exact ⟨X2.out, .inr ⟨er, _, _, HER.out, by rw [HJ.out]; rfl, rfl⟩⟩
set_option maxRecDepth 100000 in
set_option maxHeartbeats 2000000 in
theorem mtold_bad (er : Int) (her : er ≠ 0) (u : Value) (w : World) : Calls Tryz.prog 46 #[u, .int .i64 er] w fun e w' => e = .returned (.tuple #[.string ⟨#[]⟩, .int .i64 er]) ∧ w = w' := by
  have b1 : (er != 0) = true := by rw [bne_iff_ne]; exact her
  clear her
  go_enter Tryz.func46, Tryz.ntmps46
  go_wp2_with fail
  go_ret2
  exact ⟨rfl, rfl⟩
set_option maxRecDepth 100000 in
set_option maxHeartbeats 2000000 in
theorem mtold_ok (j : J) (u : Value) (w : World) (h : PJ w j u) (hw : WJ j) (ht : Tab10 w) (hb : bulkJ j ≤ 1048576) : Calls Tryz.prog 46 #[u, .int .i64 0] w (TellPost j w) := by
  have C1 := Lib.hid (tell_val j u w h hw ht hb)
  clear h hw ht hb
  go_enter Tryz.func46, Tryz.ntmps46
  go_wp2_with fail
  refine Calls.mono C1.out ?_
  rintro e w2 ⟨rfl, x2⟩
  have X2 := Lib.hid x2
  clear x2
  go_wp2_with fail
  go_ret2
  exact ⟨rfl, X2.out⟩
theorem two_good {s t : ByteArray} {a b : J} (h : twoR (readS s.data.toList) (readS t.data.toList) = .ok (a, b)) : (WJ a ∧ bulkJ a ≤ 128000) ∧ WJ b ∧ bulkJ b ≤ 128000 := by
  cases hs : readS s.data.toList with
  | error e => rw [hs] at h; cases h
  | ok j =>
    cases ht : readS t.data.toList with
    | error e => rw [hs, ht] at h; cases h
    | ok k =>
      rw [hs, ht] at h
      injection h with h
      injection h with h1 h2
      rw [← h1, ← h2]
      exact ⟨readS_good hs, readS_good ht⟩
/-- What the three calls answer. -/
def outR (f : J → J → Tx × Int) : Res (J × J) → Tx × Int
  | .error e => ([], e)
  | .ok p => f p.1 p.2
def applyS (a b : J) : Tx × Int := tellS (mergeJ a b)
def mixS (ok : Bool) (j : J) : Tx × Int := if ok then tellS j else ([], 9)
def diffS (a b : J) : Tx × Int := mixS (okB a b) (outB a b)
def composeS (a b : J) : Tx × Int := mixS (okM a b) (outM a b)
set_option maxRecDepth 100000 in
set_option maxHeartbeats 4000000 in
theorem mapply_any (s t : ByteArray) (w : World) (ht : Tab10 w) : Calls Tryz.prog 17 #[.string s, .string t] w fun e w' => e = .returned (.tuple #[.string (bx (outR applyS (twoR (readS s.data.toList) (readS t.data.toList))).1), .int .i64 (outR applyS (twoR (readS s.data.toList) (readS t.data.toList))).2]) ∧ Ext w w' := by
  have C1 := Lib.hid (pair_any s t w)
  have HG := Lib.hid (fun a b => @two_good s t a b)
  obtain ⟨T, hT⟩ : ∃ T, T = twoR (readS s.data.toList) (readS t.data.toList) := ⟨_, rfl⟩
  rw [← hT] at C1 HG ⊢
  have HT := Lib.hid ht
  clear hT ht
  go_enter Tryz.func17, Tryz.ntmps17
  go_wp2_with fail
  refine Calls.mono C1.out ?_
  rintro e w2 ⟨x2, ⟨a, b, u, v, hab, hu, hv, rfl⟩ | ⟨er, u, v, her, hj, rfl⟩⟩
  · have X2 := Lib.hid x2
    obtain ⟨⟨wa, ba⟩, wb, bb⟩ := HG.out a b hab
    have HAB := Lib.hid hab
    have CI := Lib.hid (into_val b a u v w2 hu hv wa wb (by omega))
    have CT : Hid (∀ W x, Ext w2 W → PJ W (mergeJ a b) x → Calls Tryz.prog 41 #[x] W (TellPost (mergeJ a b) W)) := fun W x hW hx => tell_val _ x W hx (mergeJ_wj wa wb) (HT.out.ext (X2.out.trans hW)) (by have := mergeJ_bulk wa wb; omega)
    clear x2 hab hu hv wa ba wb bb
    go_wp2_with fail
    refine Calls.mono CI.out ?_
    rintro e w3 ⟨x, rfl, hx, x3⟩
    have CT1 := Lib.hid (CT.out w3 x x3 hx)
    have X3 := Lib.hid (X2.out.trans x3)
    clear x3 hx
    go_wp2_with fail
    refine Calls.mono CT1.out ?_
    rintro e w4 ⟨rfl, x4⟩
    have X4 := Lib.hid (X3.out.trans x4)
    clear x4
    go_wp2_with fail
    go_ret2
    exact ⟨by rw [HAB.out]; rfl, X4.out⟩
  · have X2 := Lib.hid x2
    have HJ := Lib.hid hj
    have b1 : (er != 0) = true := by rw [bne_iff_ne]; exact her
    clear x2 hj her
    go_wp2_with fail
    go_ret2
    exact ⟨by rw [HJ.out]; rfl, X2.out⟩
set_option maxRecDepth 100000 in
set_option maxHeartbeats 4000000 in
theorem mdiff_any (s t : ByteArray) (w : World) (ht : Tab10 w) : Calls Tryz.prog 19 #[.string s, .string t] w fun e w' => e = .returned (.tuple #[.string (bx (outR diffS (twoR (readS s.data.toList) (readS t.data.toList))).1), .int .i64 (outR diffS (twoR (readS s.data.toList) (readS t.data.toList))).2]) ∧ Ext w w' := by
  have C1 := Lib.hid (pair_any s t w)
  have HG := Lib.hid (fun a b => @two_good s t a b)
  obtain ⟨T, hT⟩ : ∃ T, T = twoR (readS s.data.toList) (readS t.data.toList) := ⟨_, rfl⟩
  rw [← hT] at C1 HG ⊢
  have HT := Lib.hid ht
  clear hT ht
  go_enter Tryz.func19, Tryz.ntmps19
  go_wp2_with fail
  refine Calls.mono C1.out ?_
  rintro e w2 ⟨x2, ⟨a, b, u, v, hab, hu, hv, rfl⟩ | ⟨er, u, v, her, hj, rfl⟩⟩
  · have X2 := Lib.hid x2
    obtain ⟨⟨wa, ba⟩, wb, bb⟩ := HG.out a b hab
    have HAB := Lib.hid hab
    have CI := Lib.hid (bet_val b a u v w2 hu hv wa wb (HT.out.ext x2) (by omega))
    have CT : Hid (∀ W x, Ext w2 W → PJ W (outB a b) x → Calls Tryz.prog 46 #[x, .int .i64 0] W (TellPost (outB a b) W)) := fun W x hW hx => mtold_ok _ x W hx (outB_wj wa wb) (HT.out.ext (X2.out.trans hW)) (by have := outB_bulk wa wb; omega)
    clear x2 hab hu hv wa ba wb bb
    go_wp2_with fail
    refine Calls.mono CI.out ?_
    rintro e w3 ⟨⟨hk, x, rfl, hx⟩ | ⟨hk, rfl⟩, x3⟩
    · have CT1 := Lib.hid (CT.out w3 x x3 hx)
      have X3 := Lib.hid (X2.out.trans x3)
      have HE : Hid (outR diffS T = tellS (outB a b)) := by unfold Hid; rw [HAB.out]; show mixS _ _ = _; rw [hk]; rfl
      clear x3 hx hk
      go_wp2_with fail
      refine Calls.mono CT1.out ?_
      rintro e w4 ⟨rfl, x4⟩
      have X4 := Lib.hid (X3.out.trans x4)
      clear x4
      go_wp2_with fail
      go_ret2
      exact ⟨by rw [HE.out]; rfl, X4.out⟩
    · have CT1 := Lib.hid (mtold_bad 9 (by decide) .nilIface w3)
      have X3 := Lib.hid (X2.out.trans x3)
      have HE : Hid (outR diffS T = ([], 9)) := by unfold Hid; rw [HAB.out]; show mixS _ _ = _; rw [hk]; rfl
      clear x3 hk
      go_wp2_with fail
      refine Calls.mono CT1.out ?_
      rintro e w4 ⟨rfl, rfl⟩
      go_wp2_with fail
      go_ret2
      exact ⟨by rw [HE.out]; rfl, X3.out⟩
  · have X2 := Lib.hid x2
    have HJ := Lib.hid hj
    have b1 : (er != 0) = true := by rw [bne_iff_ne]; exact her
    clear x2 hj her
    go_wp2_with fail
    go_ret2
    exact ⟨by rw [HJ.out]; rfl, X2.out⟩
set_option maxRecDepth 100000 in
set_option maxHeartbeats 4000000 in
theorem mcompose_any (s t : ByteArray) (w : World) (ht : Tab10 w) : Calls Tryz.prog 21 #[.string s, .string t] w fun e w' => e = .returned (.tuple #[.string (bx (outR composeS (twoR (readS s.data.toList) (readS t.data.toList))).1), .int .i64 (outR composeS (twoR (readS s.data.toList) (readS t.data.toList))).2]) ∧ Ext w w' := by
  have C1 := Lib.hid (pair_any s t w)
  have HG := Lib.hid (fun a b => @two_good s t a b)
  obtain ⟨T, hT⟩ : ∃ T, T = twoR (readS s.data.toList) (readS t.data.toList) := ⟨_, rfl⟩
  rw [← hT] at C1 HG ⊢
  have HT := Lib.hid ht
  clear hT ht
  go_enter Tryz.func21, Tryz.ntmps21
  go_wp2_with fail
  refine Calls.mono C1.out ?_
  rintro e w2 ⟨x2, ⟨a, b, u, v, hab, hu, hv, rfl⟩ | ⟨er, u, v, her, hj, rfl⟩⟩
  · have X2 := Lib.hid x2
    obtain ⟨⟨wa, ba⟩, wb, bb⟩ := HG.out a b hab
    have HAB := Lib.hid hab
    have CI := Lib.hid (both_val b a u v w2 hu hv wa wb (by omega))
    have CT : Hid (∀ W x, Ext w2 W → PJ W (outM a b) x → Calls Tryz.prog 46 #[x, .int .i64 0] W (TellPost (outM a b) W)) := fun W x hW hx => mtold_ok _ x W hx (outM_wj wa wb) (HT.out.ext (X2.out.trans hW)) (by have := outM_bulk wa wb; omega)
    clear x2 hab hu hv wa ba wb bb
    go_wp2_with fail
    refine Calls.mono CI.out ?_
    rintro e w3 ⟨⟨hk, x, rfl, hx⟩ | ⟨hk, rfl⟩, x3⟩
    · have CT1 := Lib.hid (CT.out w3 x x3 hx)
      have X3 := Lib.hid (X2.out.trans x3)
      have HE : Hid (outR composeS T = tellS (outM a b)) := by unfold Hid; rw [HAB.out]; show mixS _ _ = _; rw [hk]; rfl
      clear x3 hx hk
      go_wp2_with fail
      refine Calls.mono CT1.out ?_
      rintro e w4 ⟨rfl, x4⟩
      have X4 := Lib.hid (X3.out.trans x4)
      clear x4
      go_wp2_with fail
      go_ret2
      exact ⟨by rw [HE.out]; rfl, X4.out⟩
    · have CT1 := Lib.hid (mtold_bad 9 (by decide) .nilIface w3)
      have X3 := Lib.hid (X2.out.trans x3)
      have HE : Hid (outR composeS T = ([], 9)) := by unfold Hid; rw [HAB.out]; show mixS _ _ = _; rw [hk]; rfl
      clear x3 hk
      go_wp2_with fail
      refine Calls.mono CT1.out ?_
      rintro e w4 ⟨rfl, rfl⟩
      go_wp2_with fail
      go_ret2
      exact ⟨by rw [HE.out]; rfl, X3.out⟩
  · have X2 := Lib.hid x2
    have HJ := Lib.hid hj
    have b1 : (er != 0) = true := by rw [bne_iff_ne]; exact her
    clear x2 hj her
    go_wp2_with fail
    go_ret2
    exact ⟨by rw [HJ.out]; rfl, X2.out⟩
end Go.Proofs.YtahinicpceokcaaGreatDoor.Jm
