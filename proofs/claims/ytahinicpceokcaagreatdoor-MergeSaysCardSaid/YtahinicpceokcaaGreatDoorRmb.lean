/-
  The reference's plain, both (printed by gen/rm3.py).
  The reference's between (printed by gen/rm4.py).
-/
import Derived.Test.YtahinicpceokcaaGreatDoorRma
import Derived.Test.YtahinicpceokcaaGreatDoorQr2
namespace Go.Proofs.YtahinicpceokcaaGreatDoor.Jm
open Go Go.RowKit Go.Proofs.YtahinicpceokcaaGreatDoor.Sx Go.Proofs.YtahinicpceokcaaGreatDoor.Js Go.Proofs.YtahinicpceokcaaGreatDoor.Gr Go.Proofs.YtahinicpceokcaaGreatDoor.Ur
theorem rret_b {a b : Bool} (h : a = b) : Ending.returned (.bool a) = .returned (.bool b) := by rw [h]
def RPlainC (j : J) : Prop := ∀ (F : Nat → Prop) (cs : List Value) (w : World), RV F w j cs → WJ j → bulkJ j ≤ 400000 → Calls Tryz.prog 86 #[.agg cs.toArray] w fun e w' => e = .returned (.bool (!hasNullJ j)) ∧ Ext w w'
set_option maxRecDepth 100000 in
set_option maxHeartbeats 4000000 in
theorem rplain_flat (j : J) (hj : isObj j = false) : RPlainC j := by
  intro F cs w h _ _
  rw [hasNull_flat hj]
  obtain ⟨K1, B1, z1, s1, A1, n1, c1, A2, n2, c2, rfl, hsh⟩ := RZ.shape (Or.inl h : RZ F w j cs)
  obtain ⟨rfl, rfl, rfl⟩ : A1 = none ∧ n1 = 0 ∧ c1 = 0 := by
    rcases hsh with ⟨h, _⟩ | ⟨_, _, h⟩
    · rw [hj] at h; cases h
    · exact h
  obtain ⟨g, hg⟩ : ∃ g, g = w.heap.size := ⟨_, rfl⟩
  obtain ⟨w1, hw1⟩ : ∃ w1, w1 = w.alloc (.cells #[.int .i64 K1, .bool B1, .int .i64 z1, .string s1, .slice none 0 0, .slice A2 n2 c2] vT (0, 0)) := ⟨_, rfl⟩
  have HX1 : Hid (Ext w w1) := by rw [hw1]; exact new_ext _ _
  have HV1 : Hid (VIn w1 g K1 B1 z1 s1 (.slice none 0 0) (.slice A2 n2 c2)) := by rw [hw1]; exact heap_new hg
  unfold v6
  clear h hsh hj
  go_enter Tryz.func86, Tryz.ntmps86
  go_upto_region 1 with (fail)
  rw [← hw1, ← hg]
  clear hw1 hg
  obtain ⟨a0, a1, a2, a3, a4, a5⟩ := HV1.out.cells
  go_wp2_with fail
  clear a0 a1 a2 a3 a4 a5
  go_loopw [7] (fun ix wr => ix = .int .i64 0 ∧ w1 = wr) (fun _ _ => 0)
  case atStart => exact ⟨rfl, rfl⟩
  case round =>
    obtain ⟨rfl, rfl⟩ := hrel
    go_wp2_with fail
    go_ret
    exact ⟨rfl, HX1.out⟩
set_option maxRecDepth 100000 in
set_option maxHeartbeats 8000000 in
theorem rplain_obj (v : Ob) (ih : ∀ n x, getO v n = some x → RPlainC x) : RPlainC (ofO v) := by
  intro F ds w hrv wv hb
  obtain ⟨VA, vc, VB, vd, rfl, hvo⟩ : ∃ VA vc VB vd, ds = v6 6 false 0 ⟨#[]⟩ (.slice VA v.1.length vc) (.slice VB v.2.length vd) ∧ RO F w VA vc VB vd v := by
    obtain ⟨A, c, B, d, e, h⟩ := RV_obj.1 hrv
    exact ⟨A, c, B, d, e, h⟩
  have hV : WO v := wv
  have hbv : bulkJ (ofO v) = 32 + bulkO v := bulk_of v
  have hlv := len_bulkO v
  have hVl := hV.len
  obtain ⟨N, hN⟩ : ∃ N, N = v.1.length := ⟨_, rfl⟩
  have hNs : N ≤ 1048576 := by omega
  have HN : Hid (N = v.1.length ∧ N = v.2.length) := ⟨hN, by omega⟩
  have e0v : v.2.length = N := by omega
  rw [← hN, e0v]
  obtain ⟨g, hg⟩ : ∃ g, g = w.heap.size := ⟨_, rfl⟩
  obtain ⟨w1, hw1⟩ : ∃ w1, w1 = w.alloc (.cells #[.int .i64 6, .bool false, .int .i64 0, .string ⟨#[]⟩, .slice VA N vc, .slice VB N vd] vT (0, 0)) := ⟨_, rfl⟩
  have HX1 : Hid (Ext w w1) := by rw [hw1]; exact new_ext _ _
  have HV1 : Hid (VIn w1 g 6 false 0 ⟨#[]⟩ (.slice VA N vc) (.slice VB N vd)) := by rw [hw1]; exact heap_new hg
  have HVO : Hid (RO F w VA vc VB vd v) := hvo
  have HI : Hid (∀ q (h1 : q < v.2.length) (W : World) (x : List Value), RV F W v.2[q] x → Calls Tryz.prog 86 #[.agg x.toArray] W fun e w' => e = .returned (.bool (!hasNullJ v.2[q])) ∧ Ext W w') := fun q h1 W x hx => by
    have hat := at_field hV (by omega) h1
    exact ih _ _ hat F x W hx (hV.get hat) (by have := bulk_get hat; omega)
  have HE : Hid (hasNullJ (ofO v) = v.2.any fun x => isNull x || hasNullJ x) := hasNull_obj v.1 v.2
  unfold v6
  clear hrv wv hb hvo hV hbv hlv hVl hN e0v ih
  go_enter Tryz.func86, Tryz.ntmps86
  go_upto_region 1 with (fail)
  rw [← hw1, ← hg]
  clear hw1 hg
  obtain ⟨a0, a1, a2, a3, a4, a5⟩ := HV1.out.cells
  go_wp2_with fail
  clear a0 a1 a2 a3 a4 a5
  go_loopw [7] (fun ix wr => ∃ q : Nat, q ≤ N ∧ ix = .int .i64 (q : Int) ∧ Hid ((v.2.take q).any (fun x => isNull x || hasNullJ x) = false ∧ Ext w1 wr)) (fun ix _ => N - (intOf ix).toNat)
  case atStart => exact ⟨0, Nat.zero_le _, rfl, rfl, Below.refl _ _⟩
  case round =>
    obtain ⟨q, hq, rfl, hR⟩ := hrel
    have hq0 : (0 : Int) ≤ (q : Int) := by omega
    have HXR := Lib.hid hR.out.2
    by_cases hlt : q < N
    · have hql : q < v.2.length := by rw [← HN.out.2]; exact hlt
      obtain ⟨gb, ob, u, rfl, -, -, hu, hrv⟩ := HVO.out.2.2.2 q hql
      obtain ⟨K3, B3, z3, s3, A5, n5, c5, A6, n6, c6, rfl⟩ := RV.shape hrv
      have HSRC : Hid (∀ W, Ext w W → W.cell? ⟨gb, ob + q * 6, none⟩ = some (.int .i64 K3) ∧ W.cell? ⟨gb, ob + q * 6 + 1, none⟩ = some (.bool B3) ∧ W.cell? ⟨gb, ob + q * 6 + 2, none⟩ = some (.int .i64 z3) ∧ W.cell? ⟨gb, ob + q * 6 + 3, none⟩ = some (.string s3) ∧ W.cell? ⟨gb, ob + q * 6 + 4, none⟩ = some (.slice A5 n5 c5) ∧ W.cell? ⟨gb, ob + q * 6 + 5, none⟩ = some (.slice A6 n6 c6)) := fun W hW => by
        have hk : ∀ k x, (v6 K3 B3 z3 s3 (.slice A5 n5 c5) (.slice A6 n6 c6))[k]? = some x → W.cell? ⟨gb, ob + q * 6 + k, none⟩ = some x := fun k x h => (cell_keep (hW.block gb (cell_lt (hu k x h)))).trans (hu k x h)
        exact ⟨by have := hk 0 _ rfl; rwa [Nat.add_zero] at this, hk 1 _ rfl, hk 2 _ rfl, hk 3 _ rfl, hk 4 _ rfl, hk 5 _ rfl⟩
      have hnul := kind_null v.2[q]
      rw [← (RV_kind hrv : K3 = kindJ v.2[q])] at hnul
      have CH0 : Hid (∀ W, Ext w W → Calls Tryz.prog 86 #[.agg #[.int .i64 K3, .bool B3, .int .i64 z3, .string s3, .slice A5 n5 c5, .slice A6 n6 c6]] W fun e w' => e = .returned (.bool (!hasNullJ v.2[q])) ∧ Ext W w') := fun W hW => HI.out q hql W (v6 K3 B3 z3 s3 (.slice A5 n5 c5) (.slice A6 n6 c6)) (hrv.ext hW)
      have HTL : Hid (v.2.take (q + 1) = v.2.take q ++ [v.2[q]]) := List.take_succ_eq_append_getElem hql
      have HIN : Hid (v.2[q] ∈ v.2) := List.getElem_mem hql
      generalize hx : v.2[q] = x at *
      have hltI : (q : Int) < (N : Int) := by omega
      clear hu hrv hx HI
      obtain ⟨-, -, -, -, -, a5⟩ := (HV1.out.ext HXR.out).cells
      obtain ⟨k0, k1, k2, k3, k4, k5⟩ := HSRC.out wr (HX1.out.trans HXR.out)
      cases hnl : isNull x with
      | true =>
        have HT : Hid (hasNullJ (ofO v) = true) := by
          unfold Hid
          rw [HE.out]
          exact List.any_eq_true.2 ⟨x, HIN.out, by rw [hnl]; rfl⟩
        rw [hnl] at hnul
        clear hnl CH0
        go_wp2_with fail
        go_ret
        exact ⟨rret_b (by rw [HT.out]; rfl), HX1.out.trans HXR.out⟩
      | false =>
        rw [hnl] at hnul
        have HNL := Lib.hid hnl
        obtain ⟨bb, hbb⟩ : ∃ b, b = hasNullJ x := ⟨_, rfl⟩
        rw [← hbb] at CH0
        have HBB := Lib.hid hbb
        have CH := Lib.hid (CH0.out wr (HX1.out.trans HXR.out))
        clear hnl hbb CH0
        cases bb with
        | true =>
          have HT : Hid (hasNullJ (ofO v) = true) := by
            unfold Hid
            rw [HE.out]
            exact List.any_eq_true.2 ⟨x, HIN.out, by rw [← HBB.out, Bool.or_true]⟩
          go_wp2_with (go_at_call 86; refine CH.out.mono ?_; rintro e w4 ⟨rfl, x4⟩; have X4 := Lib.hid x4; clear x4)
          go_ret
          exact ⟨rret_b (by rw [HT.out]; rfl), HX1.out.trans (HXR.out.trans X4.out)⟩
        | false =>
          have HR2 : Hid ((v.2.take (q + 1)).any (fun x => isNull x || hasNullJ x) = false) := by
            unfold Hid
            rw [HTL.out, List.any_append, hR.out.1]
            simp [← HBB.out, HNL.out]
          go_wp2_with (go_at_call 86; refine CH.out.mono ?_; rintro e w4 ⟨rfl, x4⟩; have X4 := Lib.hid x4; clear x4)
          go_roundw
          case rel => exact ⟨q + 1, hlt, by go_num, HR2.out, HXR.out.trans X4.out⟩
          case measure => simp [intOf]; omega
    · have HF : Hid (hasNullJ (ofO v) = false) := by
        have h := hR.out.1
        rw [List.take_of_length_le (by have := HN.out.2; omega)] at h
        unfold Hid
        rw [HE.out, h]
      have bl : decide ((q : Int) < (N : Int)) = false := decide_eq_false (by omega)
      have bl2 : decide (q < N) = false := decide_eq_false hlt
      clear hlt HI
      go_wp2_with fail
      go_ret
      exact ⟨rret_b (by rw [HF.out]; rfl), HX1.out.trans HXR.out⟩
theorem rplain_all : ∀ (m : Nat) (v : J), SizeOf.sizeOf v ≤ m → RPlainC v
  | m, v, hm => by
    cases h : isObj v with
    | false => exact rplain_flat v h
    | true =>
      rw [obj_of h] at hm ⊢
      generalize objO v = b at hm
      cases m with
      | zero => unfold ofO at hm; rw [J.obj.sizeOf_spec] at hm; omega
      | succ m => exact rplain_obj b fun n x hx => rplain_all m x (by have := kid_size hx; omega)
theorem rplain_val (v : J) : RPlainC v := rplain_all _ v (Nat.le_refl _)
/-- What makes a value, or says that it cannot be made, gives. -/
def RMix (F : Nat → Prop) (ok : Bool) (j : J) (w : World) (e : Ending) (w' : World) : Prop := Ext w w' ∧ ((ok = true ∧ ∃ K B z s A1 n1 c1 A2 n2 c2, RV F w' j (v6 K B z s (.slice A1 n1 c1) (.slice A2 n2 c2)) ∧ e = .returned (.tuple #[.agg #[.int .i64 K, .bool B, .int .i64 z, .string s, .slice A1 n1 c1, .slice A2 n2 c2], .int .i64 0])) ∨ (ok = false ∧ e = .returned (.tuple #[.agg #[.int .i64 0, .bool false, .int .i64 0, .string ⟨#[]⟩, nilS, nilS], .int .i64 9])))
def RBothC (q : J) : Prop := ∀ (F : Nat → Prop) (p : J) (cs ds : List Value) (w : World), (∀ b, w.heap.size ≤ b → F b) → RV F w p cs → RV F w q ds → WJ p → WJ q → bulkJ p + bulkJ q ≤ 400000 → Calls Tryz.prog 51 #[.agg cs.toArray, .agg ds.toArray] w (RMix F (okM p q) (outM p q) w)
/-- The boxes ahead of a walk over two values. -/
theorem two_boxes {w w1 : World} {g : Nat} {c0 c1 c2 : Array Value} (hg : g = w.heap.size) (h : w1 = ((w.alloc (.cells c0 vT (0, 0))).alloc (.cells c1 vT (0, 0))).alloc (.cells c2 vT (0, 0))) : Ext w w1 ∧ w1.heap[g]? = some (.cells c0 vT (0, 0)) ∧ w1.heap[g + 1]? = some (.cells c1 vT (0, 0)) ∧ w1.heap[g + 2]? = some (.cells c2 vT (0, 0)) ∧ w1.heap.size = g + 3 := by
  subst h
  exact ⟨((new_ext _ _).trans (new_ext _ _)).trans (new_ext _ _), heap_old (heap_old (heap_new hg)), heap_old (heap_new (by rw [hg]; simp)), heap_new (by rw [hg]; simp), by rw [hg]; simp⟩
set_option maxRecDepth 100000 in
set_option maxHeartbeats 4000000 in
theorem rboth_flat (v : J) (hv : isObj v = false) : RBothC v := by
  intro F d cs ds w hF hd hrv _ _ _
  rw [okM_flat d hv, outM_flat d hv]
  obtain ⟨K1, B1, z1, s1, A1, n1, c1, A2, n2, c2, rfl⟩ := hd.shape
  obtain ⟨K2, B2, z2, s2, A3, n3, c3, A4, n4, c4, rfl, hsh⟩ := RZ.shape (Or.inl hrv : RZ F w v ds)
  have hK : K2 ≠ 6 := by
    rcases hsh with ⟨h, _⟩ | ⟨_, h, _⟩
    · rw [hv] at h; cases h
    · exact h
  have HRV := Lib.hid hrv
  obtain ⟨g, hg⟩ : ∃ g, g = w.heap.size := ⟨_, rfl⟩
  obtain ⟨w1, hw1⟩ : ∃ w1, w1 = ((w.alloc (.cells #[.int .i64 K1, .bool B1, .int .i64 z1, .string s1, .slice A1 n1 c1, .slice A2 n2 c2] vT (0, 0))).alloc (.cells #[.int .i64 K2, .bool B2, .int .i64 z2, .string s2, .slice A3 n3 c3, .slice A4 n4 c4] vT (0, 0))).alloc (.cells #[.int .i64 0, .bool false, .int .i64 0, .string ⟨#[]⟩, nilS, nilS] vT (0, 0)) := ⟨_, rfl⟩
  obtain ⟨x1, -, v1, r1, -⟩ := two_boxes hg hw1
  have HX1 := Lib.hid x1
  have HVV : Hid (VIn w1 (g + 1) K2 B2 z2 s2 (.slice A3 n3 c3) (.slice A4 n4 c4)) := v1
  have HVR : Hid (VIn w1 (g + 2) 0 false 0 ⟨#[]⟩ nilS nilS) := r1
  have HGW : Hid (w.heap.size ≤ g + 2) := by rw [hg]; exact Nat.le_add_right _ _
  have b1 : (K2 != 6) = true := by rw [bne_iff_ne]; exact hK
  unfold v6
  clear hd hrv hsh hK hv x1 v1 r1
  go_enter Tryz.func51, Tryz.ntmps51
  go_upto_region 1 with (fail)
  rw [← hw1, ← hg]
  clear hw1 hg
  obtain ⟨a0, a1, a2, a3, a4, a5⟩ := HVV.out.cells
  obtain ⟨r0, r1, r2, r3, r4, r5⟩ := (HVR.out).cells
  have f0 := (HVR.out).free 0
  have f1 := (HVR.out).free 1
  have f2 := (HVR.out).free 2
  have f3 := (HVR.out).free 3
  have f4 := (HVR.out).free 4
  have f5 := (HVR.out).free 5
  go_wp2_with fail
  refine bodyPost_ret (results_v rfl _ _ (g + 2) rfl (put_in K2 B2 z2 s2 (.slice A3 n3 c3) (.slice A4 n4 c4) HVR.out)) rfl ?_
  have hx := put_ext K2 B2 z2 s2 (.slice A3 n3 c3) (.slice A4 n4 c4) HX1.out HGW.out
  exact ⟨hx, .inl ⟨rfl, _, _, _, _, _, _, _, _, _, _, HRV.out.ext hx, rfl⟩⟩
set_option maxRecDepth 100000 in
set_option maxHeartbeats 4000000 in
theorem rboth_not (v : Ob) (F : Nat → Prop) (p : J) (hp : isObj p = false) (cs ds : List Value) (w : World) (hd : RV F w p cs) (hrv : RV F w (ofO v) ds) : Calls Tryz.prog 51 #[.agg cs.toArray, .agg ds.toArray] w (RMix F (okM p (ofO v)) (outM p (ofO v)) w) := by
  rw [okM_not hp]
  obtain ⟨K1, B1, z1, s1, A1, n1, c1, A2, n2, c2, rfl, hsh⟩ := RZ.shape (Or.inl hd : RZ F w p cs)
  have hK : K1 ≠ 6 := by
    rcases hsh with ⟨h, _⟩ | ⟨_, h, _⟩
    · rw [hp] at h; cases h
    · exact h
  obtain ⟨VA, vc, VB, vd, rfl, -⟩ := RV_obj.1 hrv
  obtain ⟨g, hg⟩ : ∃ g, g = w.heap.size := ⟨_, rfl⟩
  obtain ⟨w1, hw1⟩ : ∃ w1, w1 = ((w.alloc (.cells #[.int .i64 K1, .bool B1, .int .i64 z1, .string s1, .slice A1 n1 c1, .slice A2 n2 c2] vT (0, 0))).alloc (.cells #[.int .i64 6, .bool false, .int .i64 0, .string ⟨#[]⟩, .slice VA v.1.length vc, .slice VB v.2.length vd] vT (0, 0))).alloc (.cells #[.int .i64 0, .bool false, .int .i64 0, .string ⟨#[]⟩, nilS, nilS] vT (0, 0)) := ⟨_, rfl⟩
  obtain ⟨x1, d1, v1, r1, -⟩ := two_boxes hg hw1
  have HX1 := Lib.hid x1
  have HVD : Hid (VIn w1 g K1 B1 z1 s1 (.slice A1 n1 c1) (.slice A2 n2 c2)) := d1
  have HVV : Hid (VIn w1 (g + 1) 6 false 0 ⟨#[]⟩ (.slice VA v.1.length vc) (.slice VB v.2.length vd)) := v1
  have HVR : Hid (VIn w1 (g + 2) 0 false 0 ⟨#[]⟩ nilS nilS) := r1
  have HGW : Hid (w.heap.size ≤ g + 2) := by rw [hg]; exact Nat.le_add_right _ _
  have b1 : (K1 != 6) = true := by rw [bne_iff_ne]; exact hK
  clear hd hrv hsh hK hp x1 v1 r1 d1
  unfold v6
  go_enter Tryz.func51, Tryz.ntmps51
  go_upto_region 1 with (fail)
  rw [← hw1, ← hg]
  clear hw1 hg
  obtain ⟨a0, -, -, -, -, -⟩ := HVV.out.cells
  obtain ⟨d0, -, -, -, -, -⟩ := HVD.out.cells
  obtain ⟨r0, r1, r2, r3, r4, r5⟩ := (HVR.out).cells
  have f0 := (HVR.out).free 0
  have f1 := (HVR.out).free 1
  have f2 := (HVR.out).free 2
  have f3 := (HVR.out).free 3
  have f4 := (HVR.out).free 4
  have f5 := (HVR.out).free 5
  go_wp2_with fail
  refine bodyPost_ret (results_v rfl _ _ (g + 2) rfl (put_in 0 false 0 ⟨#[]⟩ nilS nilS HVR.out)) rfl ?_
  exact ⟨put_ext 0 false 0 ⟨#[]⟩ nilS nilS HX1.out HGW.out, .inr ⟨rfl, rfl⟩⟩
set_option maxRecDepth 100000 in
set_option maxHeartbeats 16000000 in
theorem rboth_obj (v P : Ob) (ih : ∀ n x, getO v n = some x → RBothC x) (F : Nat → Prop) (cs ds : List Value) (w : World) (hF : ∀ b, w.heap.size ≤ b → F b) (hd : RV F w (ofO P) cs) (hrv : RV F w (ofO v) ds) (hP : WO P) (hV : WO v) (hb : bulkO P + bulkO v ≤ 399936) : Calls Tryz.prog 51 #[.agg cs.toArray, .agg ds.toArray] w (RMix F (okM (ofO P) (ofO v)) (outM (ofO P) (ofO v)) w) := by
  obtain ⟨PA, pc, PB, pd, rfl, hpo⟩ : ∃ VA vc VB vd, cs = v6 6 false 0 ⟨#[]⟩ (.slice VA P.1.length vc) (.slice VB P.2.length vd) ∧ RO F w VA vc VB vd P := by
    obtain ⟨A, c, B, d, e, h⟩ := RV_obj.1 hd
    exact ⟨A, c, B, d, e, h⟩
  obtain ⟨VA, vc, VB, vd, rfl, hvo⟩ : ∃ VA vc VB vd, ds = v6 6 false 0 ⟨#[]⟩ (.slice VA v.1.length vc) (.slice VB v.2.length vd) ∧ RO F w VA vc VB vd v := by
    obtain ⟨A, c, B, d, e, h⟩ := RV_obj.1 hrv
    exact ⟨A, c, B, d, e, h⟩
  have hlv := len_bulkO v
  have hVl := hV.len
  obtain ⟨N, hN⟩ : ∃ N, N = v.1.length := ⟨_, rfl⟩
  have hNs : N ≤ 1048576 := by omega
  have HN : Hid (N = v.1.length ∧ N = v.2.length) := ⟨hN, by omega⟩
  have e0v : v.2.length = N := by omega
  rw [← hN, e0v]
  obtain ⟨g, hg⟩ : ∃ g, g = w.heap.size := ⟨_, rfl⟩
  have hgw : w.heap.size ≤ g := by omega
  have HF := Lib.hid hF
  have HGW := Lib.hid hgw
  obtain ⟨w1, hw1⟩ : ∃ w1, w1 = ((w.alloc (.cells #[.int .i64 6, .bool false, .int .i64 0, .string ⟨#[]⟩, .slice PA P.1.length pc, .slice PB P.2.length pd] vT (0, 0))).alloc (.cells #[.int .i64 6, .bool false, .int .i64 0, .string ⟨#[]⟩, .slice VA N vc, .slice VB N vd] vT (0, 0))).alloc (.cells #[.int .i64 0, .bool false, .int .i64 0, .string ⟨#[]⟩, nilS, nilS] vT (0, 0)) := ⟨_, rfl⟩
  obtain ⟨x1, d1, v1, r1, s1⟩ := two_boxes hg hw1
  have HX1 := Lib.hid x1
  have HVD : Hid (VIn w1 g 6 false 0 ⟨#[]⟩ (.slice PA P.1.length pc) (.slice PB P.2.length pd)) := d1
  have HVV : Hid (VIn w1 (g + 1) 6 false 0 ⟨#[]⟩ (.slice VA N vc) (.slice VB N vd)) := v1
  have HVR : Hid (VIn w1 (g + 2) 0 false 0 ⟨#[]⟩ nilS nilS) := r1
  have HGS := Lib.hid s1
  obtain ⟨K, hK⟩ : ∃ K : Nat → Ob, ∀ q, K q = foldO (stepM P) ((v.1.zip v.2).take q) P := ⟨_, fun _ => rfl⟩
  have HK : Hid (K 0 = P ∧ (∀ q (h1 : q < v.1.length) (h2 : q < v.2.length), K (q + 1) = setO (K q) v.1[q] (bothO P v.1[q] v.2[q])) ∧ (∀ q, WO (K q) ∧ bulkO (K q) ≤ 400000) ∧ outM (ofO P) (ofO v) = ofO (K N)) := by
    refine ⟨by rw [hK]; rfl, fun q h1 h2 => by rw [hK, hK]; exact fold_take _ _ _ h1 h2, fun q => ⟨by rw [hK]; exact (both_mid hP hV q).1, by rw [hK]; have := (both_mid hP hV q).2; omega⟩, ?_⟩
    rw [outM_obj, hK, List.take_of_length_le (by rw [List.length_zip]; omega)]
    rfl
  have CFD : Hid (∀ (G : Nat → Prop) (n : Tx) (W : World), (∀ b, F b → b < w.heap.size → G b) → Ext w1 W → Calls Tryz.prog 82 #[.agg #[.int .i64 6, .bool false, .int .i64 0, .string ⟨#[]⟩, .slice PA P.1.length pc, .slice PB P.2.length pd], .string (bx n)] W (FindZ G W P n)) := fun G n W hG hW =>
    rfindO_any G PA pc PB pd P n W (hpo.keep (fun b _ hb => (HX1.out.trans hW).block b hb) hG) hP (by omega)
  have CIN : Hid (∀ q (h1 : q < v.1.length) (h2 : q < v.2.length) (y : J) (G : Nat → Prop) (W : World) (u x : List Value), (∀ b, W.heap.size ≤ b → G b) → getO P v.1[q] = some y → RV G W y u → RV G W v.2[q] x → Calls Tryz.prog 51 #[.agg u.toArray, .agg x.toArray] W (RMix G (okM y v.2[q]) (outM y v.2[q]) W)) := fun q h1 h2 y G W u x hG hy hu hx => by
    have hat := at_field hV h1 h2
    refine ih _ _ hat G y u x W hG hu hx (hP.get hy) (hV.get hat) ?_
    have e1 := bulk_get hy
    have e2 := bulk_get hat
    omega
  have HVO : Hid (RO F w VA vc VB vd v) := hvo
  have HE : Hid (okM (ofO P) (ofO v) = (v.1.zip v.2).all fun z => okO P z.1 z.2) := okM_obj P v
  have HZT : Hid (∀ q (h1 : q < v.1.length) (h2 : q < v.2.length), (v.1.zip v.2).take (q + 1) = (v.1.zip v.2).take q ++ [(v.1[q], v.2[q])] ∧ (v.1[q], v.2[q]) ∈ v.1.zip v.2) := fun q h1 h2 => by
    have hz : q < (v.1.zip v.2).length := by rw [List.length_zip]; omega
    have e : (v.1.zip v.2)[q] = (v.1[q], v.2[q]) := List.getElem_zip
    exact ⟨by rw [List.take_succ_eq_append_getElem hz, e], by rw [← e]; exact List.getElem_mem hz⟩
  have HZN : Hid ((v.1.zip v.2).take N = v.1.zip v.2) := List.take_of_length_le (by rw [List.length_zip]; omega)
  have hsz : w1.heap.size = g + 3 := HGS.out
  obtain ⟨w2, hw2⟩ : ∃ w2, w2 = w1.alloc (.cells #[.int .i64 6, .bool false, .int .i64 0, .string ⟨#[]⟩, .slice PA P.1.length pc, .slice PB P.2.length pd] vT (0, 0)) := ⟨_, rfl⟩
  have HX2 : Hid (Ext w1 w2) := by rw [hw2]; exact new_ext _ _
  have HO2 : Hid (OutAt g 4 (g + 3) F w1 w2 (K 0)) := by
    unfold Hid
    rw [HK.out.1]
    exact ⟨HX2.out, by rw [hw2]; simp [hsz], PA, pc, PB, pd, by rw [hw2]; exact heap_new hsz.symm, nf_ro hpo hgw (HX1.out.trans HX2.out)⟩
  obtain ⟨ok, hok⟩ : ∃ b, b = okM (ofO P) (ofO v) := ⟨_, rfl⟩
  have HOK := Lib.hid hok
  rw [← hok]
  unfold v6
  clear hd hrv hb hvo hpo hV hP hlv hVl hN e0v ih hK hF hgw x1 d1 v1 r1 s1 hok
  go_enter Tryz.func51, Tryz.ntmps51
  go_upto_region 1 with (fail)
  rw [← hw1, ← hg]
  clear hw1 hg
  obtain ⟨a0, -, -, -, -, -⟩ := HVV.out.cells
  obtain ⟨d0, d1, d2, d3, d4, d5⟩ := HVD.out.cells
  go_upto_region 6 with (fail)
  rw [← hw2]
  clear hw2 hsz a0 d0 d1 d2 d3 d4 d5
  obtain ⟨-, -, -, -, a4, -⟩ := (HVV.out.ext HX2.out).cells
  go_wp2_with fail
  clear a4
  go_loopw [25] (fun ix wr => ∃ q : Nat, q ≤ N ∧ ix = .int .i64 (q : Int) ∧ Hid (OutAt g 4 (g + 3) F w1 wr (K q) ∧ ((v.1.zip v.2).take q).all (fun z => okO P z.1 z.2) = true)) (fun ix _ => N - (intOf ix).toNat)
  case atStart => exact ⟨0, Nat.zero_le _, rfl, HO2.out, rfl⟩
  case round =>
    obtain ⟨q, hq, rfl, hR⟩ := hrel
    have hq0 : (0 : Int) ≤ (q : Int) := by omega
    have HXR := Lib.hid hR.out.1.1
    by_cases hlt : q < N
    · have hqn : q < v.1.length := by rw [← HN.out.1]; exact hlt
      have hql : q < v.2.length := by rw [← HN.out.2]; exact hlt
      obtain ⟨ga, oa, rfl, -, hca0⟩ := HVO.out.2.2.1 q hqn
      have hca := (cell_keep ((HX1.out.trans HXR.out).block ga (cell_lt hca0))).trans hca0
      have CF := Lib.hid (fun G => CFD.out G v.1[q])
      have HST := Lib.hid (HK.out.2.1 q hqn hql)
      have HLQ := Lib.hid (HK.out.2.2.1 q)
      have CI0 := Lib.hid (CIN.out q hqn hql)
      have HZQ := Lib.hid (HZT.out q hqn hql)
      obtain ⟨gb, ob, u, rfl, hFb, -, hu, hrv⟩ := HVO.out.2.2.2 q hql
      obtain ⟨K3, B3, z3, s3, A5, n5, c5, A6, n6, c6, rfl⟩ := RV.shape hrv
      have HRV : Hid (RV F w v.2[q] (v6 K3 B3 z3 s3 (.slice A5 n5 c5) (.slice A6 n6 c6))) := hrv
      have HSRC : Hid (∀ W, Ext w W → W.cell? ⟨gb, ob + q * 6, none⟩ = some (.int .i64 K3) ∧ W.cell? ⟨gb, ob + q * 6 + 1, none⟩ = some (.bool B3) ∧ W.cell? ⟨gb, ob + q * 6 + 2, none⟩ = some (.int .i64 z3) ∧ W.cell? ⟨gb, ob + q * 6 + 3, none⟩ = some (.string s3) ∧ W.cell? ⟨gb, ob + q * 6 + 4, none⟩ = some (.slice A5 n5 c5) ∧ W.cell? ⟨gb, ob + q * 6 + 5, none⟩ = some (.slice A6 n6 c6)) := fun W hW => by
        have hk : ∀ k x, (v6 K3 B3 z3 s3 (.slice A5 n5 c5) (.slice A6 n6 c6))[k]? = some x → W.cell? ⟨gb, ob + q * 6 + k, none⟩ = some x := fun k x h => (cell_keep (hW.block gb (cell_lt (hu k x h)))).trans (hu k x h)
        exact ⟨by have := hk 0 _ rfl; rwa [Nat.add_zero] at this, hk 1 _ rfl, hk 2 _ rfl, hk 3 _ rfl, hk 4 _ rfl, hk 5 _ rfl⟩
      have hltI : (q : Int) < (N : Int) := by omega
      obtain ⟨OA, oc, OB, od, hvo, hro⟩ := hR.out.1.2.2
      have HVO1 := Lib.hid hvo
      have HRO1 := Lib.hid hro
      have HSZ1 := Lib.hid hR.out.1.2.1
      generalize hn : v.1[q] = n at *
      generalize hx : v.2[q] = x at *
      obtain ⟨nx, hnx⟩ : ∃ s, s = bx n := ⟨_, rfl⟩
      rw [← hnx] at hca CF
      have HNX := Lib.hid hnx
      clear hca0 hu hrv hvo hro hn hx hnx hFb CIN HZT
      obtain ⟨-, -, -, -, -, a5⟩ := (HVV.out.ext HXR.out).cells
      obtain ⟨k0, k1, k2, k3, k4, k5⟩ := HSRC.out wr (HX1.out.trans HXR.out)
      go_upto_region 10 with (fail)
      obtain ⟨tb, htb⟩ : ∃ t, t = wr.heap.size := ⟨_, rfl⟩
      rw [← htb]
      generalize hW : World.alloc wr _ = w3
      have X3 : Hid (Ext wr w3) := by rw [← hW]; exact new_ext _ _
      have HTB : Hid (VIn w3 tb K3 B3 z3 s3 (.slice A5 n5 c5) (.slice A6 n6 c6)) := by rw [← hW]; exact heap_new htb
      obtain ⟨G, hG⟩ : ∃ G : Nat → Prop, G = fun b => NF g 4 F b ∧ b ≠ tb := ⟨_, rfl⟩
      have HG : Hid ((∀ b, F b → b < w.heap.size → G b) ∧ (∀ W : World, Ext w3 W → ∀ b, W.heap.size ≤ b → G b) ∧ (∀ b, G b → NF g 4 F b ∧ b ≠ tb) ∧ wr.heap.size ≤ tb) := by
        have e1 := HSZ1.out
        have e2 := HGW.out
        have e3 := HTB.out.lt
        rw [hG]
        exact ⟨fun b h hb => ⟨⟨h, .inl (by omega)⟩, by omega⟩, fun W hW b hb => ⟨nf_new HF.out HGW.out (Nat.le_trans e1 (X3.out.trans hW).size) b hb, by have := hW.size; omega⟩, fun b h => h, by omega⟩
      clear hW htb hG a5 k0 k1 k2 k3 k4 k5
      obtain ⟨d0, d1, d2, d3, d4, d5⟩ := (HVD.out.ext (HXR.out.trans X3.out)).cells
      go_wp2_with fail
      refine Calls.mono (CF.out G w3 HG.out.1 (HXR.out.trans X3.out)) ?_
      rintro e w6 ⟨x6, u, hu, rfl, hus⟩
      obtain ⟨K4, B4, z4, s4, A7, n7, c7, A8, n8, c8, rfl, -⟩ := hu.shape
      have HUS := Lib.hid hus
      unfold v6
      have X6 := Lib.hid x6
      clear x6 hu hus d0 d1 d2 d3 d4 d5
      go_upto_region 11 with (fail)
      obtain ⟨tc, htc⟩ : ∃ t, t = w6.heap.size := ⟨_, rfl⟩
      rw [← htc]
      generalize hW : World.alloc w6 _ = w7
      have X67 : Hid (Ext w6 w7) := by rw [← hW]; exact new_ext _ _
      have X37 : Hid (Ext w3 w7) := X6.out.trans X67.out
      have X7 : Hid (Ext wr w7) := X3.out.trans X37.out
      have HTC : Hid (VIn w7 tc K4 B4 z4 s4 (.slice A7 n7 c7) (.slice A8 n8 c8)) := by rw [← hW]; exact heap_new htc
      clear hW htc
      have CS : Hid (∀ W K9 B9 z9 s9 A9 n9 c9 A10 n10 c10 j, Ext wr W → RV (NF g 4 F) W j (v6 K9 B9 z9 s9 (.slice A9 n9 c9) (.slice A10 n10 c10)) → Calls Tryz.prog 83 #[.agg #[.int .i64 6, .bool false, .int .i64 0, .string ⟨#[]⟩, .slice OA (K q).1.length oc, .slice OB (K q).2.length od], .string nx, .agg #[.int .i64 K9, .bool B9, .int .i64 z9, .string s9, .slice A9 n9 c9, .slice A10 n10 c10]] W (RMadeO (NF g 4 F) W (setO (K q) n j))) := fun W K9 B9 z9 s9 A9 n9 c9 A10 n10 c10 j hW hr => by
        rw [HNX.out]
        exact rsetO_any (NF g 4 F) OA oc OB od (K q) n j K9 B9 z9 s9 A9 n9 c9 A10 n10 c10 W (HRO1.out.ext hW) HLQ.out.1 (by have := HLQ.out.2; omega) hr (nf_new HF.out HGW.out (Nat.le_trans HSZ1.out hW.size))
      cases hgo : getO P n with
      | none =>
        have HS : Hid (K (q + 1) = setO (K q) n x) := by unfold Hid; rw [HST.out]; unfold bothO; rw [hgo]
        have HOKQ : Hid (((v.1.zip v.2).take (q + 1)).all (fun z => okO P z.1 z.2) = true) := by
          unfold Hid
          rw [HZQ.out.1, List.all_append, hR.out.2]
          simp [okO, hgo]
        have CS1 := Lib.hid (CS.out w7 K3 B3 z3 s3 A5 n5 c5 A6 n6 c6 x X7.out (nf_old' HRV.out HGW.out (HX1.out.trans (HXR.out.trans X7.out))))
        clear hgo CI0
        simp only [Option.isSome_none]
        obtain ⟨t0, t1, t2, t3, t4, t5⟩ := (HTB.out.ext X37.out).cells
        obtain ⟨o0, o1, o2, o3, o4, o5⟩ := (HVO1.out.ext X7.out).cells
        go_upto_region 17 with (go_at_call 83; refine Calls.mono CS1.out ?_; rintro e w10 ⟨x10, A11, c11, B11, d11, rfl, hro11⟩; have HRO11 := Lib.hid hro11; have HX10 : Hid (Ext wr w10) := X7.out.trans x10; have hb10 := HVO1.out.ext HX10.out; have HVO10 := Lib.hid hb10; have p0 := hb10.free 0; have p1 := hb10.free 1; have p2 := hb10.free 2; have p3 := hb10.free 3; have p4 := hb10.free 4; have p5 := hb10.free 5; obtain ⟨v0, v1, v2, v3, v4, v5⟩ := hb10.cells; clear x10 hro11 hb10)
        generalize hW : World.setCell _ _ _ = w11
        have H11 : Hid (OutAt g 4 (g + 3) F w1 w11 (K (q + 1))) := by
          unfold Hid
          rw [← hW, HS.out]
          exact OutAt.put (HXR.out.trans HX10.out) (Nat.le_trans HSZ1.out HX10.out.size) (by rw [HGS.out]; exact Nat.le_refl _) (by omega) (by omega) HVO10.out HRO11.out
        clear hW
        go_wp2_with fail
        go_roundw
        case rel => exact ⟨q + 1, hlt, by go_num, H11.out, HOKQ.out⟩
        case measure => simp [intOf]; omega
      | some y =>
        have HS : Hid (K (q + 1) = setO (K q) n (outM y x)) := by unfold Hid; rw [HST.out]; unfold bothO; rw [hgo]
        have HOK1 : Hid (okO P n x = okM y x) := by unfold Hid okO; rw [hgo]
        have hy := HUS.out (by rw [hgo]; rfl)
        rw [val_some hgo] at hy
        have CI : Hid (Calls Tryz.prog 51 #[.agg #[.int .i64 K4, .bool B4, .int .i64 z4, .string s4, .slice A7 n7 c7, .slice A8 n8 c8], .agg #[.int .i64 K3, .bool B3, .int .i64 z3, .string s3, .slice A5 n5 c5, .slice A6 n6 c6]] w7 (RMix G (okM y x) (outM y x) w7)) :=
          CI0.out y G w7 (v6 K4 B4 z4 s4 (.slice A7 n7 c7) (.slice A8 n8 c8)) (v6 K3 B3 z3 s3 (.slice A5 n5 c5) (.slice A6 n6 c6)) (HG.out.2.1 w7 X37.out) hgo (RV.ext hy X37.out) (RV.keep (fun b _ hb => (HX1.out.trans (HXR.out.trans X7.out)).block b hb) HG.out.1 _ _ HRV.out)
        clear hy hgo CI0
        simp only [Option.isSome_some]
        obtain ⟨t0, t1, t2, t3, t4, t5⟩ := (HTB.out.ext X37.out).cells
        obtain ⟨y0, y1, y2, y3, y4, y5⟩ := HTC.out.cells
        go_wp2_with fail
        refine Calls.mono CI.out ?_
        rintro e w8 ⟨x8, ⟨hk, K9, B9, z9, s9, A9, n9, c9, A10, n10, c10, hr9, rfl⟩ | ⟨hk, rfl⟩⟩
        · have X8 := Lib.hid (X7.out.trans x8)
          have HR9 := Lib.hid hr9
          have hb8 := HTB.out.ext (X37.out.trans x8)
          have HB8 := Lib.hid hb8
          have HOKQ : Hid (((v.1.zip v.2).take (q + 1)).all (fun z => okO P z.1 z.2) = true) := by
            unfold Hid
            rw [HZQ.out.1, List.all_append, hR.out.2]
            simp [HOK1.out, hk]
          clear x8 hr9 hk t0 t1 t2 t3 t4 t5 y0 y1 y2 y3 y4 y5
          obtain ⟨t0, t1, t2, t3, t4, t5⟩ := hb8.cells
          have g0 := hb8.free 0
          have g1 := hb8.free 1
          have g2 := hb8.free 2
          have g3 := hb8.free 3
          have g4 := hb8.free 4
          have g5 := hb8.free 5
          clear hb8
          go_upto_region 14 with (fail)
          generalize hW : World.setCell _ _ _ = w9
          have X9 : Hid (Ext wr w9) := by rw [← hW]; exact put_ext K9 B9 z9 s9 (.slice A9 n9 c9) (.slice A10 n10 c10) X8.out HG.out.2.2.2
          have HB9 : Hid (VIn w9 tb K9 B9 z9 s9 (.slice A9 n9 c9) (.slice A10 n10 c10)) := by rw [← hW]; exact put_in K9 B9 z9 s9 (.slice A9 n9 c9) (.slice A10 n10 c10) HB8.out
          have HR10 : Hid (RV (NF g 4 F) w9 (outM y x) (v6 K9 B9 z9 s9 (.slice A9 n9 c9) (.slice A10 n10 c10))) := by
            rw [← hW]
            exact RV.keep (fun b hb _ => put_heap w8 K9 B9 z9 s9 (.slice A9 n9 c9) (.slice A10 n10 c10) b (HG.out.2.2.1 b hb).2) (fun b hb _ => (HG.out.2.2.1 b hb).1) _ _ HR9.out
          have CS1 := Lib.hid (CS.out w9 K9 B9 z9 s9 A9 n9 c9 A10 n10 c10 _ X9.out HR10.out)
          clear hW t0 t1 t2 t3 t4 t5 g0 g1 g2 g3 g4 g5
          obtain ⟨t0, t1, t2, t3, t4, t5⟩ := HB9.out.cells
          obtain ⟨o0, o1, o2, o3, o4, o5⟩ := (HVO1.out.ext X9.out).cells
          go_upto_region 17 with (go_at_call 83; refine Calls.mono CS1.out ?_; rintro e w10 ⟨x10, A11, c11, B11, d11, rfl, hro11⟩; have HRO11 := Lib.hid hro11; have HX10 : Hid (Ext wr w10) := X9.out.trans x10; have hb10 := HVO1.out.ext HX10.out; have HVO10 := Lib.hid hb10; have p0 := hb10.free 0; have p1 := hb10.free 1; have p2 := hb10.free 2; have p3 := hb10.free 3; have p4 := hb10.free 4; have p5 := hb10.free 5; obtain ⟨v0, v1, v2, v3, v4, v5⟩ := hb10.cells; clear x10 hro11 hb10)
          generalize hW : World.setCell _ _ _ = w11
          have H11 : Hid (OutAt g 4 (g + 3) F w1 w11 (K (q + 1))) := by
            unfold Hid
            rw [← hW, HS.out]
            exact OutAt.put (HXR.out.trans HX10.out) (Nat.le_trans HSZ1.out HX10.out.size) (by rw [HGS.out]; exact Nat.le_refl _) (by omega) (by omega) HVO10.out HRO11.out
          clear hW
          go_wp2_with fail
          go_roundw
          case rel => exact ⟨q + 1, hlt, by go_num, H11.out, HOKQ.out⟩
          case measure => simp [intOf]; omega
        · have X8 := Lib.hid (X7.out.trans x8)
          have hb8 := HTB.out.ext (X37.out.trans x8)
          have HB8 := Lib.hid hb8
          have HFA : Hid (ok = false) := by
            unfold Hid
            rw [HOK.out, HE.out, List.all_eq_false]
            exact ⟨(n, x), HZQ.out.2, by rw [HOK1.out, hk]; simp⟩
          clear x8 hk t0 t1 t2 t3 t4 t5 y0 y1 y2 y3 y4 y5
          obtain ⟨t0, t1, t2, t3, t4, t5⟩ := hb8.cells
          have g0 := hb8.free 0
          have g1 := hb8.free 1
          have g2 := hb8.free 2
          have g3 := hb8.free 3
          have g4 := hb8.free 4
          have g5 := hb8.free 5
          clear hb8
          go_upto_region 14 with (fail)
          generalize hW : World.setCell _ _ _ = w9
          have X9 : Hid (Ext wr w9) := by rw [← hW]; exact put_ext 0 false 0 ⟨#[]⟩ nilS nilS X8.out HG.out.2.2.2
          clear hW t0 t1 t2 t3 t4 t5 g0 g1 g2 g3 g4 g5
          have hr := HVR.out.ext (HXR.out.trans X9.out)
          have HVR1 := Lib.hid hr
          obtain ⟨r0, r1, r2, r3, r4, r5⟩ := hr.cells
          have f0 := hr.free 0
          have f1 := hr.free 1
          have f2 := hr.free 2
          have f3 := hr.free 3
          have f4 := hr.free 4
          have f5 := hr.free 5
          clear hr
          go_wp2_with fail
          refine bodyPost_ret (results_v rfl _ _ (g + 2) rfl (put_in 0 false 0 ⟨#[]⟩ nilS nilS HVR1.out)) rfl ?_
          exact ⟨put_ext 0 false 0 ⟨#[]⟩ nilS nilS (HX1.out.trans (HXR.out.trans X9.out)) (by have := HGW.out; omega), .inr ⟨HFA.out, rfl⟩⟩
    · have bl : decide ((q : Int) < (N : Int)) = false := decide_eq_false (by omega)
      have bl2 : decide (q < N) = false := decide_eq_false hlt
      obtain rfl : q = N := by omega
      have HT : Hid (ok = true) := by
        unfold Hid
        rw [HOK.out, HE.out, ← HZN.out]
        exact hR.out.2
      obtain ⟨OA, oc, OB, od, hvo, hro⟩ := hR.out.1.2.2
      have HRO1 := Lib.hid hro
      obtain ⟨o0, o1, o2, o3, o4, o5⟩ := hvo.cells
      have hr := HVR.out.ext HXR.out
      have HVR1 := Lib.hid hr
      obtain ⟨r0, r1, r2, r3, r4, r5⟩ := hr.cells
      have f0 := hr.free 0
      have f1 := hr.free 1
      have f2 := hr.free 2
      have f3 := hr.free 3
      have f4 := hr.free 4
      have f5 := hr.free 5
      clear hlt hvo hro hr
      go_wp2_with fail
      refine bodyPost_ret (results_v rfl _ _ (g + 2) rfl (put_in 6 false 0 ⟨#[]⟩ (.slice OA (K q).1.length oc) (.slice OB (K q).2.length od) HVR1.out)) rfl ?_
      refine ⟨put_ext 6 false 0 ⟨#[]⟩ (.slice OA (K q).1.length oc) (.slice OB (K q).2.length od) (HX1.out.trans HXR.out) (by have := HGW.out; omega), .inl ⟨HT.out, _, _, _, _, _, _, _, _, _, _, ?_, rfl⟩⟩
      rw [HK.out.2.2.2]
      exact ((nf_put HRO1.out (by omega) (by omega) _ _ _ _ _ _).keep (fun _ _ _ => rfl) (fun b h _ => h.1)).rv
theorem rboth_all : ∀ (m : Nat) (v : J), SizeOf.sizeOf v ≤ m → RBothC v
  | m, v, hm => by
    cases h : isObj v with
    | false => exact rboth_flat v h
    | true =>
      rw [obj_of h] at hm ⊢
      generalize objO v = b at hm
      cases m with
      | zero => unfold ofO at hm; rw [J.obj.sizeOf_spec] at hm; omega
      | succ m =>
        intro F p cs ds w hF hx hy hp hq hb
        cases h2 : isObj p with
        | false => exact rboth_not b F p h2 cs ds w hx hy
        | true =>
          rw [obj_of h2] at hx hp hb ⊢
          rw [bulk_of, bulk_of] at hb
          exact rboth_obj b _ (fun n x hx => rboth_all m x (by have := kid_size hx; omega)) F cs ds w hF hx hy hp hq (by omega)
theorem rboth_val (v : J) : RBothC v := rboth_all _ v (Nat.le_refl _)
end Go.Proofs.YtahinicpceokcaaGreatDoor.Jm
namespace Go.Proofs.YtahinicpceokcaaGreatDoor.Jm
open Go Go.RowKit Go.Proofs.YtahinicpceokcaaGreatDoor.Sx Go.Proofs.YtahinicpceokcaaGreatDoor.Js Go.Proofs.YtahinicpceokcaaGreatDoor.Gr Go.Proofs.YtahinicpceokcaaGreatDoor.Ur
theorem names_src {F : Nat → Prop} {w : World} {A : Option Addr} {c : Nat} {ns : List Tx} (h : NamesAt F w A ns) : SrcS w (.slice A ns.length c) (ns.map bx) := by
  cases A with
  | none =>
    have hn : ns = [] := by
      cases ns with
      | nil => rfl
      | cons n ns => obtain ⟨g, off, e, _⟩ := h 0 (by simp); cases e
    subst hn
    exact .inl ⟨c, rfl, rfl⟩
  | some ad =>
    refine .inr ⟨ad, c, by rw [List.length_map], fun j u hj => ?_⟩
    have hl : j < ns.length := by
      have := (List.getElem?_eq_some_iff.1 hj).1
      unfold strVals at this
      simpa using this
    obtain ⟨g, off, e, _, hc⟩ := h j hl
    injection e with e
    subst e
    have hu : u = .string (bx ns[j]) := by
      unfold strVals at hj
      simp [hl] at hj
      exact hj.symm
    rw [hu, Addr.add_lit]
    exact hc
theorem srow_names {base : Nat} {w : World} {A : Option Addr} {n c : Nat} {us : List Tx} (h : SRow base w (.slice A n c) (us.map bx)) : n = us.length ∧ NamesAt (fun b => base ≤ b) w A us := by
  rcases h with ⟨hv, hz⟩ | ⟨g, rest, hv, hb, hg, _⟩
  · injection hv with _ e _
    have : us = [] := by simpa using hz
    subst this
    exact ⟨e, fun i hi => absurd hi (Nat.not_lt_zero _)⟩
  · injection hv with e1 e2 _
    rw [List.length_map] at e2
    refine ⟨e2, fun i hi => ⟨g, 0, e1, hb, ?_⟩⟩
    have hl : i < (strVals (us.map bx)).length := by unfold strVals; simpa using hi
    rw [Nat.zero_add, cell_at hg (by rw [List.length_append]; omega), List.getElem_append_left hl]
    unfold strVals
    simp
theorem srow_strsR {base : Nat} {w : World} {v : Value} {us : List Tx} (h : SRow base w v (us.map bx)) (hn : us.length ≤ 1048576) (hz : ∀ u ∈ us, u.length ≤ 1048576) : StrsR w.heap.size w v (us.map bx) :=
  strs_of_own h.owns (by rw [List.length_map]; omega) (fun x hx => by obtain ⟨u, hu, rfl⟩ := List.mem_map.1 hx; rw [bx_size]; exact hz u hu)
theorem tx_map (us : List Tx) : (us.map bx).map Qs.tx = us := by
  rw [List.map_map]
  conv => rhs; rw [← List.map_id us]
  exact List.map_congr_left fun u _ => by show (bx u).data.toList = u; simp [bx]
theorem js_bx (u : Tx) : Qs.bx u = bx u := rfl
theorem zip_getO {v : Ob} (hv : WO v) {n : Tx} {x : J} : (n, x) ∈ v.1.zip v.2 ↔ getO v n = some x := by
  constructor
  · intro h
    obtain ⟨i, hi, e⟩ := List.mem_iff_getElem.1 h
    rw [List.length_zip] at hi
    rw [List.getElem_zip] at e
    injection e with e1 e2
    rw [← e1, ← e2]
    exact at_field hv (by omega) (by omega)
  · intro h
    have hm := some_mem hv h
    obtain ⟨i, hi, e⟩ := List.mem_iff_getElem.1 hm
    have hi2 : i < v.2.length := by rw [← hv.len]; exact hi
    have h2 := at_field hv hi hi2
    rw [e] at h2
    have e3 : v.2[i] = x := Option.some.inj (h2.symm.trans h)
    have hz : i < (v.1.zip v.2).length := by rw [List.length_zip]; omega
    have e4 : (v.1.zip v.2)[i] = (n, x) := by rw [List.getElem_zip, e, e3]
    rw [← e4]
    exact List.getElem_mem hz
theorem text_same {a b : J} (ha : WJ a) (hb : WJ b) : (textJ a == textJ b) = true ↔ a = b := by
  rw [beq_iff_eq]
  exact ⟨fun h => text_inj (WJ.ok a ha) (WJ.ok b hb) h, fun h => by rw [h]⟩
/-- The names of two objects, sorted. -/
def bothNames (P v : Ob) : List Tx := Qs.isort (P.1 ++ v.1)
theorem bothNames_mem (P v : Ob) (u : Tx) : u ∈ bothNames P v ↔ u ∈ P.1 ∨ u ∈ v.1 := by
  unfold bothNames
  rw [(Qs.isort_perm _).mem_iff, List.mem_append]
theorem bothNames_len (P v : Ob) : (bothNames P v).length = P.1.length + v.1.length := by
  unfold bothNames
  rw [(Qs.isort_perm _).length_eq, List.length_append]
theorem names_long (a : Ob) : ∀ n ∈ a.1, n.length ≤ bulkO a := fun n hn => by
  have : ∀ (ns : List Tx) (n : Tx), n ∈ ns → 2 * n.length + 8 ≤ namesB ns := fun ns n => by
    unfold namesB
    induction ns with
    | nil => intro h; cases h
    | cons a r ih =>
      intro h
      rw [List.map_cons, List.sum_cons]
      rcases List.mem_cons.1 h with rfl | h
      · omega
      · have := ih h; omega
  have := this a.1 n hn
  unfold bulkO
  omega
def RBetC (q : J) : Prop := ∀ (F : Nat → Prop) (p : J) (cs ds : List Value) (w : World), (∀ b, w.heap.size ≤ b → F b) → RZ F w p cs → RV F w q ds → WJ p → WJ q → bulkJ p + bulkJ q ≤ 400000 → Calls Tryz.prog 49 #[.agg cs.toArray, .agg ds.toArray] w (RMix F (okB p q) (outB p q) w)
set_option maxRecDepth 100000 in
set_option maxHeartbeats 4000000 in
theorem rbet_flat (v : J) (hv : isObj v = false) : RBetC v := by
  intro F d cs ds w hF hd hrv _ _ _
  rw [okB_flat d hv, outB_flat d hv]
  obtain ⟨K1, B1, z1, s1, A1, n1, c1, A2, n2, c2, rfl, -⟩ := hd.shape
  obtain ⟨K2, B2, z2, s2, A3, n3, c3, A4, n4, c4, rfl, hsh⟩ := RZ.shape (Or.inl hrv : RZ F w v ds)
  have hK : K2 ≠ 6 := by
    rcases hsh with ⟨h, _⟩ | ⟨_, h, _⟩
    · rw [hv] at h; cases h
    · exact h
  have HRV := Lib.hid hrv
  obtain ⟨g, hg⟩ : ∃ g, g = w.heap.size := ⟨_, rfl⟩
  obtain ⟨w1, hw1⟩ : ∃ w1, w1 = ((w.alloc (.cells #[.int .i64 K1, .bool B1, .int .i64 z1, .string s1, .slice A1 n1 c1, .slice A2 n2 c2] vT (0, 0))).alloc (.cells #[.int .i64 K2, .bool B2, .int .i64 z2, .string s2, .slice A3 n3 c3, .slice A4 n4 c4] vT (0, 0))).alloc (.cells #[.int .i64 0, .bool false, .int .i64 0, .string ⟨#[]⟩, nilS, nilS] vT (0, 0)) := ⟨_, rfl⟩
  obtain ⟨x1, -, v1, r1, -⟩ := two_boxes hg hw1
  have HX1 := Lib.hid x1
  have HVV : Hid (VIn w1 (g + 1) K2 B2 z2 s2 (.slice A3 n3 c3) (.slice A4 n4 c4)) := v1
  have HVR : Hid (VIn w1 (g + 2) 0 false 0 ⟨#[]⟩ nilS nilS) := r1
  have HGW : Hid (w.heap.size ≤ g + 2) := by rw [hg]; exact Nat.le_add_right _ _
  have b1 : (K2 != 6) = true := by rw [bne_iff_ne]; exact hK
  unfold v6
  clear hd hrv hsh hK hv x1 v1 r1
  go_enter Tryz.func49, Tryz.ntmps49
  go_upto_region 1 with (fail)
  rw [← hw1, ← hg]
  clear hw1 hg
  obtain ⟨a0, a1, a2, a3, a4, a5⟩ := HVV.out.cells
  obtain ⟨r0, r1, r2, r3, r4, r5⟩ := (HVR.out).cells
  have f0 := (HVR.out).free 0
  have f1 := (HVR.out).free 1
  have f2 := (HVR.out).free 2
  have f3 := (HVR.out).free 3
  have f4 := (HVR.out).free 4
  have f5 := (HVR.out).free 5
  go_wp2_with fail
  refine bodyPost_ret (results_v rfl _ _ (g + 2) rfl (put_in K2 B2 z2 s2 (.slice A3 n3 c3) (.slice A4 n4 c4) HVR.out)) rfl ?_
  have hx := put_ext K2 B2 z2 s2 (.slice A3 n3 c3) (.slice A4 n4 c4) HX1.out HGW.out
  exact ⟨hx, .inl ⟨rfl, _, _, _, _, _, _, _, _, _, _, HRV.out.ext hx, rfl⟩⟩
set_option maxRecDepth 100000 in
set_option maxHeartbeats 4000000 in
theorem rbet_new (v : Ob) (F : Nat → Prop) (p : J) (hp : isObj p = false) (cs ds : List Value) (w : World) (hd : RZ F w p cs) (hrv : RV F w (ofO v) ds) (wv : WO v) (hb : bulkJ (ofO v) ≤ 400000) : Calls Tryz.prog 49 #[.agg cs.toArray, .agg ds.toArray] w (RMix F (okB p (ofO v)) (outB p (ofO v)) w) := by
  rw [okB_new hp, outB_new hp]
  obtain ⟨K1, B1, z1, s1, A1, n1, c1, A2, n2, c2, rfl, hsh⟩ := RZ.shape hd
  have hK : K1 ≠ 6 := by
    rcases hsh with ⟨h, _⟩ | ⟨_, h, _⟩
    · rw [hp] at h; cases h
    · exact h
  obtain ⟨VA, vc, VB, vd, rfl, hvo⟩ := RV_obj.1 hrv
  have HRV := Lib.hid hrv
  have CP : Hid (∀ W, Ext w W → Calls Tryz.prog 86 #[.agg #[.int .i64 6, .bool false, .int .i64 0, .string ⟨#[]⟩, .slice VA v.1.length vc, .slice VB v.2.length vd]] W fun e w' => e = .returned (.bool (!hasNullJ (ofO v))) ∧ Ext W w') := fun W hW => rplain_val (ofO v) F _ W (hrv.ext hW) wv hb
  obtain ⟨bb, hbb⟩ : ∃ b, b = hasNullJ (ofO v) := ⟨_, rfl⟩
  rw [← hbb] at CP ⊢
  obtain ⟨g, hg⟩ : ∃ g, g = w.heap.size := ⟨_, rfl⟩
  obtain ⟨w1, hw1⟩ : ∃ w1, w1 = ((w.alloc (.cells #[.int .i64 K1, .bool B1, .int .i64 z1, .string s1, .slice A1 n1 c1, .slice A2 n2 c2] vT (0, 0))).alloc (.cells #[.int .i64 6, .bool false, .int .i64 0, .string ⟨#[]⟩, .slice VA v.1.length vc, .slice VB v.2.length vd] vT (0, 0))).alloc (.cells #[.int .i64 0, .bool false, .int .i64 0, .string ⟨#[]⟩, nilS, nilS] vT (0, 0)) := ⟨_, rfl⟩
  obtain ⟨x1, d1, v1, r1, -⟩ := two_boxes hg hw1
  have HX1 := Lib.hid x1
  have HVD : Hid (VIn w1 g K1 B1 z1 s1 (.slice A1 n1 c1) (.slice A2 n2 c2)) := d1
  have HVV : Hid (VIn w1 (g + 1) 6 false 0 ⟨#[]⟩ (.slice VA v.1.length vc) (.slice VB v.2.length vd)) := v1
  have HVR : Hid (VIn w1 (g + 2) 0 false 0 ⟨#[]⟩ nilS nilS) := r1
  have HGW : Hid (w.heap.size ≤ g + 2) := by rw [hg]; exact Nat.le_add_right _ _
  have b1 : (K1 != 6) = true := by rw [bne_iff_ne]; exact hK
  clear hd hrv hsh hK hp x1 v1 r1 d1 hvo wv hb hbb
  unfold v6
  go_enter Tryz.func49, Tryz.ntmps49
  go_upto_region 1 with (fail)
  rw [← hw1, ← hg]
  clear hw1 hg
  obtain ⟨a0, a1, a2, a3, a4, a5⟩ := HVV.out.cells
  obtain ⟨d0, -, -, -, -, -⟩ := HVD.out.cells
  go_wp2_with fail
  refine Calls.mono (CP.out w1 HX1.out) ?_
  rintro e w2 ⟨rfl, x2⟩
  have hr := HVR.out.ext x2
  have HVR2 := Lib.hid hr
  obtain ⟨r0, r1, r2, r3, r4, r5⟩ := hr.cells
  have f0 := hr.free 0
  have f1 := hr.free 1
  have f2 := hr.free 2
  have f3 := hr.free 3
  have f4 := hr.free 4
  have f5 := hr.free 5
  have X2 := Lib.hid (HX1.out.trans x2)
  clear a0 a1 a2 a3 a4 a5
  obtain ⟨a0, a1, a2, a3, a4, a5⟩ := (HVV.out.ext x2).cells
  clear x2 hr
  cases bb with
  | true =>
    go_wp2_with fail
    refine bodyPost_ret (results_v rfl _ _ (g + 2) rfl (put_in 0 false 0 ⟨#[]⟩ nilS nilS HVR2.out)) rfl ?_
    exact ⟨put_ext 0 false 0 ⟨#[]⟩ nilS nilS X2.out HGW.out, .inr ⟨rfl, rfl⟩⟩
  | false =>
    go_wp2_with fail
    refine bodyPost_ret (results_v rfl _ _ (g + 2) rfl (put_in 6 false 0 ⟨#[]⟩ (.slice VA v.1.length vc) (.slice VB v.2.length vd) HVR2.out)) rfl ?_
    have hx := put_ext 6 false 0 ⟨#[]⟩ (.slice VA v.1.length vc) (.slice VB v.2.length vd) X2.out HGW.out
    exact ⟨hx, .inl ⟨rfl, _, _, _, _, _, _, _, _, _, _, HRV.out.ext hx, rfl⟩⟩
set_option maxRecDepth 100000 in
set_option maxHeartbeats 16000000 in
theorem rbet_obj (v P : Ob) (ih : ∀ n x, getO v n = some x → RBetC x) (F : Nat → Prop) (cs ds : List Value) (w : World) (hF : ∀ b, w.heap.size ≤ b → F b) (hd : RV F w (ofO P) cs) (hrv : RV F w (ofO v) ds) (hP : WO P) (hV : WO v) (hb : bulkO P + bulkO v ≤ 399936) : Calls Tryz.prog 49 #[.agg cs.toArray, .agg ds.toArray] w (RMix F (okB (ofO P) (ofO v)) (outB (ofO P) (ofO v)) w) := by
  obtain ⟨PA, pc, PB, pd, rfl, hpo⟩ : ∃ VA vc VB vd, cs = v6 6 false 0 ⟨#[]⟩ (.slice VA P.1.length vc) (.slice VB P.2.length vd) ∧ RO F w VA vc VB vd P := by
    obtain ⟨A, c, B, d, e, h⟩ := RV_obj.1 hd
    exact ⟨A, c, B, d, e, h⟩
  obtain ⟨VA, vc, VB, vd, rfl, hvo⟩ : ∃ VA vc VB vd, ds = v6 6 false 0 ⟨#[]⟩ (.slice VA v.1.length vc) (.slice VB v.2.length vd) ∧ RO F w VA vc VB vd v := by
    obtain ⟨A, c, B, d, e, h⟩ := RV_obj.1 hrv
    exact ⟨A, c, B, d, e, h⟩
  have hlv := len_bulkO v
  have hVl := hV.len
  have hlP := len_bulkO P
  have hPl := hP.len
  obtain ⟨N, hN⟩ : ∃ N, N = v.1.length := ⟨_, rfl⟩
  obtain ⟨M, hM⟩ : ∃ N, N = P.1.length := ⟨_, rfl⟩
  obtain ⟨U, hU⟩ : ∃ U, U = M + N := ⟨_, rfl⟩
  have hUs : U ≤ 1048576 := by omega
  obtain ⟨us, hus⟩ : ∃ us, us = bothNames P v := ⟨_, rfl⟩
  have HUL : Hid (U = us.length) := by unfold Hid; rw [hus, bothNames_len]; omega
  have HMN : Hid (M = P.1.length ∧ N = v.1.length ∧ M + N = U) := ⟨hM, hN, hU.symm⟩
  have e0v : v.2.length = N := by omega
  have e0p : P.2.length = M := by omega
  rw [← hN, e0v, ← hM, e0p]
  obtain ⟨g, hg⟩ : ∃ g, g = w.heap.size := ⟨_, rfl⟩
  have hgw : w.heap.size ≤ g := by omega
  have HF := Lib.hid hF
  have HGW := Lib.hid hgw
  obtain ⟨w1, hw1⟩ : ∃ w1, w1 = ((w.alloc (.cells #[.int .i64 6, .bool false, .int .i64 0, .string ⟨#[]⟩, .slice PA M pc, .slice PB M pd] vT (0, 0))).alloc (.cells #[.int .i64 6, .bool false, .int .i64 0, .string ⟨#[]⟩, .slice VA N vc, .slice VB N vd] vT (0, 0))).alloc (.cells #[.int .i64 0, .bool false, .int .i64 0, .string ⟨#[]⟩, nilS, nilS] vT (0, 0)) := ⟨_, rfl⟩
  obtain ⟨x1, d1, v1, r1, s1⟩ := two_boxes hg hw1
  have HX1 := Lib.hid x1
  have HVD : Hid (VIn w1 g 6 false 0 ⟨#[]⟩ (.slice PA M pc) (.slice PB M pd)) := d1
  have HVV : Hid (VIn w1 (g + 1) 6 false 0 ⟨#[]⟩ (.slice VA N vc) (.slice VB N vd)) := v1
  have HVR : Hid (VIn w1 (g + 2) 0 false 0 ⟨#[]⟩ nilS nilS) := r1
  have HGS := Lib.hid s1
  obtain ⟨K, hK⟩ : ∃ K : Nat → Ob, ∀ q, K q = (us.take q).foldl (stepS P v) ([], []) := ⟨_, fun _ => rfl⟩
  have HK : Hid (K 0 = ([], []) ∧ (∀ q (h1 : q < us.length), K (q + 1) = stepS P v (K q) us[q]) ∧ (∀ q, WO (K q) ∧ bulkO (K q) ≤ 400000) ∧ outB (ofO P) (ofO v) = ofO (K U)) := by
    refine ⟨by rw [hK]; rfl, fun q h1 => by rw [hK, hK, List.take_succ_eq_append_getElem h1, List.foldl_append]; rfl, fun q => ⟨by rw [hK]; exact (names_mid hP hV _).1, by rw [hK]; have := (names_mid hP hV (us.take q)).2; omega⟩, ?_⟩
    rw [outB_obj, hK, List.take_of_length_le (by have := HUL.out; omega)]
    exact congrArg ofO (between_ref hP hV (fun u => by rw [hus]; exact bothNames_mem P v u)).symm
  have CFP : Hid (∀ (n : Tx) (W : World), Ext w1 W → Calls Tryz.prog 82 #[.agg #[.int .i64 6, .bool false, .int .i64 0, .string ⟨#[]⟩, .slice PA M pc, .slice PB M pd], .string (bx n)] W (FindZ (NF g 4 F) W P n)) := fun n W hW => by
    have h := rfindO_any (NF g 4 F) PA pc PB pd P n W (nf_ro hpo hgw (HX1.out.trans hW)) hP (by omega)
    rw [← hM, e0p] at h
    exact h
  have CFV : Hid (∀ (n : Tx) (W : World), Ext w1 W → Calls Tryz.prog 82 #[.agg #[.int .i64 6, .bool false, .int .i64 0, .string ⟨#[]⟩, .slice VA N vc, .slice VB N vd], .string (bx n)] W (FindZ (NF g 4 F) W v n)) := fun n W hW => by
    have h := rfindO_any (NF g 4 F) VA vc VB vd v n W (nf_ro hvo hgw (HX1.out.trans hW)) hV (by omega)
    rw [← hN, e0v] at h
    exact h
  have CIN : Hid (∀ n x (W : World) (u y : List Value), getO v n = some x → g + 4 ≤ W.heap.size → RZ (NF g 4 F) W (valO P n) u → RV (NF g 4 F) W x y → Calls Tryz.prog 49 #[.agg u.toArray, .agg y.toArray] W (RMix (NF g 4 F) (okB (valO P n) x) (outB (valO P n) x) W)) := fun n x W u y hat hs hu hx => by
    refine ih _ _ hat (NF g 4 F) _ u y W (nf_new hF hgw hs) hu hx (hP.val _) (hV.get hat) ?_
    have e1 := bulk_val P n
    have e2 := bulk_get hat
    omega
  have CSM : Hid (∀ n x y (W : World) (u u' : List Value), getO P n = some x → getO v n = some y → RV (NF g 4 F) W x u → RV (NF g 4 F) W y u' → Calls Tryz.prog 16 #[.agg u.toArray, .agg u'.toArray] W fun e w' => e = .returned (.bool (textJ x == textJ y)) ∧ Ext W w') := fun n x y W u u' h1 h2 hu hu' => by
    have e1 := bulk_get h1
    have e2 := bulk_get h2
    refine (same_val x y _ _ u u' W hu hu' (by omega) (by omega)).mono fun e w' ⟨b, he, hb, hx⟩ => ⟨?_, hx⟩
    rw [he, Bool.eq_iff_iff.2 (hb.trans (text_same (hP.get h1) (hV.get h2)).symm)]
  obtain ⟨okf, hokf⟩ : ∃ f : Tx × J → Bool, ∀ p, f p = (sameAt P p.1 p.2 || (!isNull p.2 && okB (valO P p.1) p.2)) := ⟨_, fun _ => rfl⟩
  have HF2 := Lib.hid hokf
  obtain ⟨ok, hok⟩ : ∃ b, b = okB (ofO P) (ofO v) := ⟨_, rfl⟩
  have hE : ok = (v.1.zip v.2).all okf := by
    rw [hok, okB_obj]
    exact congrArg _ (funext fun p => (hokf p).symm)
  have HBAD : Hid (∀ n x, getO v n = some x → okf (n, x) = false → ok = false) := fun n x h1 h2 => by
    rw [hE, List.all_eq_false]
    exact ⟨(n, x), (zip_getO hV).2 h1, by rw [h2]; simp⟩
  have HGOOD : Hid ((∀ u ∈ us, ∀ x, getO v u = some x → okf (u, x) = true) → ok = true) := fun h => by
    rw [hE, List.all_eq_true]
    intro p hp
    have h1 := (zip_getO hV).1 hp
    exact h p.1 (by rw [hus]; exact (bothNames_mem P v p.1).2 (.inr (some_mem hV h1))) p.2 h1
  have HMEMP : Hid (∀ u ∈ us, getO v u = none → ∃ y, getO P u = some y) := fun u hu hn => by
    rw [hus] at hu
    rcases (bothNames_mem P v u).1 hu with h | h
    · exact Option.isSome_iff_exists.1 ((get_mem hP u).2 h)
    · have := (get_mem hV u).2 h
      rw [hn] at this
      cases this
  -- the names of both, sorted
  have hsz : w1.heap.size = g + 3 := HGS.out
  obtain ⟨w2, hw2⟩ : ∃ w2, w2 = w1.alloc (.cells #[.int .i64 6, .bool false, .int .i64 0, .string ⟨#[]⟩, nilS, nilS] vT (0, 0)) := ⟨_, rfl⟩
  have HX2 : Hid (Ext w1 w2) := by rw [hw2]; exact new_ext _ _
  have HS2 : Hid (w2.heap.size = g + 4) := by rw [hw2]; simp [Hid, hsz]
  have HO2 : Hid (OutAt g 4 (g + 3) F w1 w2 ([], [])) := ⟨HX2.out, Nat.le_of_eq HS2.out.symm, none, 0, none, 0, by rw [hw2]; exact heap_new hsz.symm, RO.nil⟩
  have hlong : (∀ n ∈ P.1, n.length ≤ 1048576) ∧ ∀ n ∈ v.1, n.length ≤ 1048576 := ⟨fun n hn => by have := names_long P n hn; omega, fun n hn => by have := names_long v n hn; omega⟩
  have HS : Hid (∀ W, Ext w2 W → W.cell? ⟨g, 4, none⟩ = some (.slice PA M pc) ∧ W.cell? ⟨g + 1, 4, none⟩ = some (.slice VA N vc)) := fun W hW => by
    obtain ⟨-, -, -, -, a4, -⟩ := (HVD.out.ext (HX2.out.trans hW)).cells
    obtain ⟨-, -, -, -, b4, -⟩ := (HVV.out.ext (HX2.out.trans hW)).cells
    exact ⟨a4, b4⟩
  have CCP : Hid (∀ W, Ext w2 W → Calls Tryz.prog 88 #[.slice PA M pc] W fun e w' => ∃ A c, e = .returned (.slice A M c) ∧ Ext w2 w' ∧ w'.cell? ⟨g, 4, none⟩ = some (.slice PA M pc) ∧ w'.cell? ⟨g + 1, 4, none⟩ = some (.slice VA N vc) ∧ SRow w2.heap.size w' (.slice A M c) (P.1.map bx)) := fun W hW => by
    have h := copyS_any w2.heap.size (.slice PA M pc) (P.1.map bx) W (by rw [hM]; exact names_src (hpo.2.2.1.ext (HX1.out.trans (HX2.out.trans hW)))) (by rw [List.length_map]; omega) hW.size
    rw [List.length_map, ← hM] at h
    refine h.mono fun e w' ⟨A, c, he, hr, hx, _⟩ => ?_
    have h2 := HS.out w' (hW.trans hx)
    exact ⟨A, c, he, hW.trans hx, h2.1, h2.2, hr⟩
  have HSRC : Hid (∀ W, Ext w2 W → SrcS W (.slice VA N vc) (v.1.map bx)) := fun W hW => by rw [hN]; exact names_src (hvo.2.2.1.ext (HX1.out.trans (HX2.out.trans hW)))
  have CSO : Hid (∀ W A c, Ext w2 W → SRow w2.heap.size W (.slice A (M + N) c) (P.1.map bx ++ v.1.map bx) → Calls Tryz.prog 87 #[.slice A (M + N) c] W fun e w' => ∃ A c, e = .returned (.slice A U c) ∧ Ext w2 w' ∧ w'.cell? ⟨g, 4, none⟩ = some (.slice PA M pc) ∧ w'.cell? ⟨g + 1, 4, none⟩ = some (.slice VA N vc) ∧ Hid (NamesAt (fun b => g + 4 ≤ b) w' A us)) := fun W A c hW hr => by
    rw [← List.map_append] at hr
    have h := Qs.rsort_any W.heap.size (.slice A (M + N) c) ((P.1 ++ v.1).map bx) W (Nat.le_refl _) (srow_strsR hr (by rw [List.length_append]; omega) (fun u hu => by
      rcases List.mem_append.1 hu with h | h
      · exact hlong.1 u h
      · exact hlong.2 u h))
    refine h.mono fun e w' ⟨A', c', he, hr', hx⟩ => ?_
    have h2 := HS.out w' (hW.trans hx)
    have e1 : Qs.sortB ((P.1 ++ v.1).map bx) = us.map bx := by
      unfold Qs.sortB
      rw [tx_map, hus]
      exact List.map_congr_left fun u _ => js_bx u
    have e2 : ((P.1 ++ v.1).map bx).length = U := by rw [List.length_map, List.length_append]; omega
    rw [e1, e2] at hr'
    rw [e2] at he
    exact ⟨A', c', he, hW.trans hx, h2.1, h2.2, (srow_names hr').2.keep (fun _ _ _ => rfl) (fun b h _ => by have e1 := HS2.out; have e2 := hW.size; omega)⟩
  rw [← hok]
  unfold v6
  have HLP : Hid ((P.1.map bx).length = M ∧ (v.1.map bx).length = N ∧ M ≤ 1099511627776 ∧ N ≤ 1099511627776) := ⟨by rw [List.length_map, hM], by rw [List.length_map, hN], by omega, by omega⟩
  clear hd hrv hb hvo hpo hV hP hlv hVl hlP hPl hN hM hU e0v e0p ih hK hF hgw x1 d1 v1 r1 s1 hok hokf hE hus hlong
  go_enter Tryz.func49, Tryz.ntmps49
  go_upto_region 1 with (fail)
  rw [← hw1, ← hg]
  clear hw1 hg
  obtain ⟨a0, -, -, -, -, -⟩ := HVV.out.cells
  obtain ⟨d0, -, -, -, -, -⟩ := HVD.out.cells
  go_upto_region 8 with (fail)
  rw [← hw2]
  clear hw2 hsz a0 d0
  have z0 := (HS.out w2 (Below.refl _ _)).1
  have z1 := (HS.out w2 (Below.refl _ _)).2
  have hxx : Ext w2 w2 := Below.refl _ _
  go_region_held3 (fun W => Ext w2 W ∧ W.cell? ⟨g, 4, none⟩ = some (.slice PA M pc) ∧ W.cell? ⟨g + 1, 4, none⟩ = some (.slice VA N vc))
    (first | (refine ⟨by assumption, by assumption, by assumption⟩) | (refine ⟨Below.drew (by assumption), ?_, ?_⟩ <;> go_keep) | go_keep)
    (first
      | (go_at_call 88; with_reducible refine (CCP.out _ (by first | assumption | (apply Below.drew; assumption))).mono ?_; rintro r w5 ⟨A5, c5, rfl, x5, y0, y1, q5⟩)
      | (refine step_append_srs rfl _ _ (by rfl) w2.heap.size M N _ (.slice A5 M c5) (.slice VA N vc) (P.1.map bx) (v.1.map bx) (by rfl) (by rfl) (by first | exact q5 | exact q5.ext (Below.refl _ _).drew) (HSRC.out _ (by first | assumption | (apply Below.drew; assumption))) HLP.out.1 HLP.out.2.1 HLP.out.2.2.1 HLP.out.2.2.2 (by first | exact x5.size | exact (Below.drew x5).size) ?_; intro A6 c6 w6 r6 g6 o6; have x6 : Ext w2 w6 := ext_row (by first | assumption | (apply Below.drew; assumption)) g6 (fun k e => (q5.block k e).1); have u0 := (HS.out w6 x6).1; have u1 := (HS.out w6 x6).2)
      | (go_at_call 87; with_reducible refine (CSO.out _ _ _ (by first | assumption | (apply Below.drew; assumption)) (by assumption)).mono ?_; rintro r w7 ⟨A7, c7, rfl, x7, v0, v1, q7⟩))
  all_goals
    have HX7 := Lib.hid x7
    have HO7 : Hid (OutAt g 4 (g + 3) F w1 w7 (K 0)) := by unfold Hid; rw [HK.out.1]; exact HO2.out.ext x7
    clear x5 y0 y1 q5 r6 g6 o6 x6 u0 u1 x7 v0 v1 z0 z1 hxx
    go_wp2_with fail
    go_loopw [36] (fun ix wr => ∃ q : Nat, q ≤ U ∧ ix = .int .i64 (q : Int) ∧ Hid (OutAt g 4 (g + 3) F w1 wr (K q) ∧ NamesAt (fun b => g + 4 ≤ b) wr A7 us ∧ ∀ u ∈ us.take q, ∀ x, getO v u = some x → okf (u, x) = true)) (fun ix _ => U - (intOf ix).toNat)
    case atStart => exact ⟨0, Nat.zero_le _, rfl, HO7.out, q7.out, fun u hu => by cases hu⟩
    case round =>
      obtain ⟨q, hq, rfl, hR⟩ := hrel
      have hq0 : (0 : Int) ≤ (q : Int) := by omega
      have HXR := Lib.hid hR.out.1.1
      by_cases hlt : q < U
      · have hqu : q < us.length := by rw [← HUL.out]; exact hlt
        obtain ⟨ga, oa, rfl, -, hca⟩ := hR.out.2.1 q hqu
        have CF1 := Lib.hid (CFP.out us[q])
        have CF2 := Lib.hid (CFV.out us[q])
        have HST := Lib.hid (HK.out.2.1 q hqu)
        have HLQ := Lib.hid (HK.out.2.2.1 q)
        have HMQ := Lib.hid (HMEMP.out us[q] (List.getElem_mem hqu))
        have HTK : Hid (us.take (q + 1) = us.take q ++ [us[q]]) := List.take_succ_eq_append_getElem hqu
        have HBQ := Lib.hid (HBAD.out us[q])
        have HFQ := Lib.hid (fun x => HF2.out (us[q], x))
        have CI0 := Lib.hid (CIN.out us[q])
        have CS0 := Lib.hid (CSM.out us[q])
        have hltI : (q : Int) < (U : Int) := by omega
        obtain ⟨OA, oc, OB, od, hvo, hro⟩ := hR.out.1.2.2
        have HVO1 := Lib.hid hvo
        have HRO1 := Lib.hid hro
        have HSZ1 := Lib.hid hR.out.1.2.1
        generalize hn : us[q] = n at *
        obtain ⟨nx, hnx⟩ : ∃ s, s = bx n := ⟨_, rfl⟩
        rw [← hnx] at hca CF1 CF2
        have HNX := Lib.hid hnx
        clear hvo hro hn hnx CIN CSM HMEMP
        obtain ⟨d0, d1, d2, d3, d4, d5⟩ := (HVD.out.ext HXR.out).cells
        go_wp2_with fail
        refine Calls.mono (CF1.out wr HXR.out) ?_
        rintro e wa ⟨xa, u, hu, rfl, hus1⟩
        obtain ⟨K3, B3, z3, s3, A5, n5, c5, A6, n6, c6, rfl, -⟩ := hu.shape
        have HU1 := Lib.hid hu
        have HUS1 := Lib.hid hus1
        have Xa := Lib.hid xa
        unfold v6
        clear xa hu hus1 d0 d1 d2 d3 d4 d5
        go_upto_region 12 with (fail)
        obtain ⟨tb, htb⟩ : ∃ t, t = wa.heap.size := ⟨_, rfl⟩
        rw [← htb]
        generalize hW : World.alloc wa _ = wb
        have Xb : Hid (Ext wr wb) := by rw [← hW]; exact Xa.out.trans (new_ext _ _)
        have HTB0 : Hid (VIn wb tb K3 B3 z3 s3 (.slice A5 n5 c5) (.slice A6 n6 c6)) := by rw [← hW]; exact heap_new htb
        clear hW htb
        obtain ⟨d0, d1, d2, d3, d4, d5⟩ := (HVV.out.ext (HXR.out.trans Xb.out)).cells
        go_wp2_with fail
        refine Calls.mono (CF2.out wb (HXR.out.trans Xb.out)) ?_
        rintro e wc ⟨xc, u, hu, rfl, hus2⟩
        obtain ⟨K4, B4, z4, s4, A7', n7, c7', A8, n8, c8, rfl, -⟩ := hu.shape
        have HUS2 := Lib.hid hus2
        have Xc := Lib.hid xc
        unfold v6
        clear xc hu hus2 d0 d1 d2 d3 d4 d5
        go_upto_region 17 with (fail)
        obtain ⟨tc, htc⟩ : ∃ t, t = wc.heap.size := ⟨_, rfl⟩
        rw [← htc]
        generalize hW : World.alloc wc _ = wd
        have Xbd : Hid (Ext wb wd) := by rw [← hW]; exact Xc.out.trans (new_ext _ _)
        have HTC : Hid (VIn wd tc K4 B4 z4 s4 (.slice A7' n7 c7') (.slice A8 n8 c8)) := by rw [← hW]; exact heap_new htc
        clear hW htc
        have X : Hid (Ext wr wd) := Xb.out.trans Xbd.out
        have HTB : Hid (VIn wd tb K3 B3 z3 s3 (.slice A5 n5 c5) (.slice A6 n6 c6)) := HTB0.out.ext Xbd.out
        have CS : Hid (∀ W K9 B9 z9 s9 A9 n9 c9 A10 n10 c10 j, Ext wr W → RV (NF g 4 F) W j (v6 K9 B9 z9 s9 (.slice A9 n9 c9) (.slice A10 n10 c10)) → Calls Tryz.prog 83 #[.agg #[.int .i64 6, .bool false, .int .i64 0, .string ⟨#[]⟩, .slice OA (K q).1.length oc, .slice OB (K q).2.length od], .string nx, .agg #[.int .i64 K9, .bool B9, .int .i64 z9, .string s9, .slice A9 n9 c9, .slice A10 n10 c10]] W (RMadeO (NF g 4 F) W (setO (K q) n j))) := fun W K9 B9 z9 s9 A9 n9 c9 A10 n10 c10 j hW hr => by
          rw [HNX.out]
          exact rsetO_any (NF g 4 F) OA oc OB od (K q) n j K9 B9 z9 s9 A9 n9 c9 A10 n10 c10 W (HRO1.out.ext hW) HLQ.out.1 (by have := HLQ.out.2; omega) hr (nf_new HF.out HGW.out (Nat.le_trans HSZ1.out hW.size))
        have HNM : Hid (∀ W, Ext wr W → ∀ K B z s a l, NamesAt (fun b => g + 4 ≤ b) (putV W (g + 3) K B z s a l) (some ⟨ga, oa, none⟩) us) := fun W hW K B z s a l =>
          (hR.out.2.1.ext hW).keep (fun b hb _ => put_heap W K B z s a l b (by omega)) (fun _ h _ => h)
        cases hvn : getO v n with
        | none =>
          obtain ⟨y, hy⟩ := HMQ.out hvn
          have HSS : Hid (K (q + 1) = setO (K q) n .null) := by unfold Hid; rw [HST.out]; unfold stepS tgtB; rw [hvn, hy]; rfl
          have HGQ : Hid (∀ u ∈ us.take (q + 1), ∀ x, getO v u = some x → okf (u, x) = true) := fun u hu x hx => by
            rw [HTK.out, List.mem_append, List.mem_singleton] at hu
            rcases hu with hu | rfl
            · exact hR.out.2.2 u hu x hx
            · rw [hvn] at hx; cases hx
          have CS1 := Lib.hid (CS.out wd 1 false 0 ⟨#[]⟩ none 0 0 none 0 0 .null X.out (RV_null.2 rfl))
          clear hvn hy HMQ CI0 CS0
          simp only [Option.isSome_none]
          obtain ⟨o0, o1, o2, o3, o4, o5⟩ := (HVO1.out.ext X.out).cells
          go_wp2_with fail
          refine Calls.mono CS1.out ?_
          rintro e w10 ⟨x10, A11, c11, B11, d11, rfl, hro11⟩
          have HRO11 := Lib.hid hro11
          have HX10 : Hid (Ext wr w10) := Ext.trans (X.out) x10
          have hb10 := HVO1.out.ext HX10.out
          have HVO10 := Lib.hid hb10
          have p0 := hb10.free 0
          have p1 := hb10.free 1
          have p2 := hb10.free 2
          have p3 := hb10.free 3
          have p4 := hb10.free 4
          have p5 := hb10.free 5
          obtain ⟨v0, v1, v2, v3, v4, v5⟩ := hb10.cells
          clear x10 hro11 hb10
          go_upto_region 22 with (fail)
          generalize hW : World.setCell _ _ _ = w11
          have H11 : Hid (OutAt g 4 (g + 3) F w1 w11 (K (q + 1)) ∧ NamesAt (fun b => g + 4 ≤ b) w11 (some ⟨ga, oa, none⟩) us) := by
            unfold Hid
            rw [← hW, HSS.out]
            exact ⟨OutAt.put (HXR.out.trans HX10.out) (Nat.le_trans HSZ1.out HX10.out.size) (by rw [HGS.out]; exact Nat.le_refl _) (by omega) (by omega) HVO10.out HRO11.out, HNM.out w10 HX10.out _ _ _ _ _ _⟩
          clear hW
          go_wp2_with fail
          go_roundw
          case rel => exact ⟨q + 1, hlt, by go_num, H11.out.1, H11.out.2, HGQ.out⟩
          case measure => simp [intOf]; omega
        | some x =>
          have HX4 : Hid (RV (NF g 4 F) wb x (v6  K4 B4  z4 s4 (.slice A7' n7 c7') (.slice A8 n8 c8))) := by
            have h := HUS2.out (by rw [hvn]; rfl)
            rw [val_some hvn] at h
            exact h
          have HKN : Hid ((K4 == 1) = isNull x) := by
            have h := kind_null x
            rw [← (RV_kind HX4.out : K4 = kindJ x)] at h
            exact h
          have HBX := Lib.hid (fun h => HBQ.out x hvn h)
          have HGX : Hid (okf (n, x) = true → ∀ u ∈ us.take (q + 1), ∀ x, getO v u = some x → okf (u, x) = true) := fun hk u hu x' hx => by
            rw [HTK.out, List.mem_append, List.mem_singleton] at hu
            rcases hu with hu | rfl
            · exact hR.out.2.2 u hu x' hx
            · rw [hvn] at hx
              injection hx with hx
              rw [← hx]
              exact hk
          have HST2 : Hid (K (q + 1) = if sameAt P n x then K q else setO (K q) n (outB (valO P n) x)) := by
            unfold Hid
            rw [HST.out]
            unfold stepS tgtB
            rw [hvn]
            simp only
            by_cases h : sameAt P n x = true
            · rw [if_pos h, if_pos h]
            · rw [if_neg h, if_neg h]
          have CI : Hid (∀ W, Ext wd W → Calls Tryz.prog 49 #[.agg #[.int .i64 K3, .bool B3, .int .i64 z3, .string s3, .slice A5 n5 c5, .slice A6 n6 c6], .agg #[.int .i64 K4, .bool B4, .int .i64 z4, .string s4, .slice A7' n7 c7', .slice A8 n8 c8]] W (RMix (NF g 4 F) (okB (valO P n) x) (outB (valO P n) x) W)) := fun W hW =>
            CI0.out x W (v6  K3 B3  z3 s3 (.slice A5 n5 c5) (.slice A6 n6 c6)) (v6  K4 B4  z4 s4 (.slice A7' n7 c7') (.slice A8 n8 c8)) hvn (Nat.le_trans HSZ1.out (X.out.trans hW).size) (HU1.out.ext (X.out.trans hW)) (HX4.out.ext (Xbd.out.trans hW))
          have HF3 := Lib.hid (HFQ.out x)
          have CS2 := Lib.hid (fun y h1 h2 => CS0.out y x wd (v6  K3 B3  z3 s3 (.slice A5 n5 c5) (.slice A6 n6 c6)) (v6  K4 B4  z4 s4 (.slice A7' n7 c7') (.slice A8 n8 c8)) h1 hvn h2 (HX4.out.ext Xbd.out))
          obtain ⟨s, hs⟩ : ∃ s, s = sameAt P n x := ⟨_, rfl⟩
          rw [← hs] at HST2 HF3
          have HSA := Lib.hid hs
          clear hvn hs HMQ CI0 CS0 HBQ HFQ HST
          simp only [Option.isSome_some]
          cases hpn : getO P n with
          | none =>
            have HSF : Hid (s = false) := by unfold Hid; rw [HSA.out]; unfold sameAt; rw [hpn]
            obtain rfl := HSF.out
            clear hpn CS2 HSA
            have X4 : Hid (Ext wd wd) := Below.refl _ _
            obtain ⟨t0, t1, t2, t3, t4, t5⟩ := HTB.out.cells
            obtain ⟨y0, y1, y2, y3, y4, y5⟩ := HTC.out.cells
            have hr := HVR.out.ext (HXR.out.trans X.out)
            have HVR4 := Lib.hid hr
            obtain ⟨r0, r1, r2, r3, r4, r5⟩ := hr.cells
            have f0 := hr.free 0
            have f1 := hr.free 1
            have f2 := hr.free 2
            have f3 := hr.free 3
            have f4 := hr.free 4
            have f5 := hr.free 5
            clear hr
            have b1 := HKN.out
            cases hnul : isNull x with
            | true =>
              rw [hnul] at b1
              have HFA : Hid (ok = false) := HBX.out (by rw [HF3.out, hnul]; rfl)
              clear hnul
              go_wp2_with fail
              refine bodyPost_ret (results_v rfl _ _ (g + 2) rfl (put_in 0 false 0 ⟨#[]⟩ nilS nilS HVR4.out)) rfl ?_
              exact ⟨put_ext 0 false 0 ⟨#[]⟩ nilS nilS (HX1.out.trans (HXR.out.trans (X.out.trans X4.out))) (by have := HGW.out; omega), .inr ⟨HFA.out, rfl⟩⟩
            | false =>
              rw [hnul] at b1
              have HOK1 : Hid (okf (n, x) = okB (valO P n) x) := by unfold Hid; rw [HF3.out, hnul]; rfl
              clear hnul
              go_wp2_with fail
              refine Calls.mono (CI.out wd X4.out) ?_
              rintro e wf ⟨xf, ⟨hk, K9, B9, z9, s9, A9, n9, c9, A10, n10, c10, hr9, rfl⟩ | ⟨hk, rfl⟩⟩
              · have Xf := Lib.hid (X.out.trans (X4.out.trans xf))
                have HR9 := Lib.hid hr9
                have HGQ := Lib.hid (HGX.out (HOK1.out.trans hk))
                have HSS : Hid (K (q + 1) = setO (K q) n (outB (valO P n) x)) := by unfold Hid; rw [HST2.out, if_neg (by simp)]
                clear xf hr9 hk t0 t1 t2 t3 t4 t5 y0 y1 y2 y3 y4 y5 r0 r1 r2 r3 r4 r5 f0 f1 f2 f3 f4 f5
                go_upto_region 14 with (fail)
                obtain ⟨td, htd⟩ : ∃ t, t = wf.heap.size := ⟨_, rfl⟩
                rw [← htd]
                generalize hW : World.alloc wf _ = wg
                have Xfg : Hid (Ext wf wg) := by rw [← hW]; exact new_ext _ _
                have HTD : Hid (VIn wg td K9 B9 z9 s9 (.slice A9 n9 c9) (.slice A10 n10 c10)) := by rw [← hW]; exact heap_new htd
                clear hW htd
                have CS1 := Lib.hid (CS.out wg K9 B9 z9 s9 A9 n9 c9 A10 n10 c10 _ (Xf.out.trans Xfg.out) (HR9.out.ext Xfg.out))
                obtain ⟨t0, t1, t2, t3, t4, t5⟩ := HTD.out.cells
                obtain ⟨o0, o1, o2, o3, o4, o5⟩ := (HVO1.out.ext (Xf.out.trans Xfg.out)).cells
                go_wp2_with fail
                refine Calls.mono CS1.out ?_
                rintro e w10 ⟨x10, A11, c11, B11, d11, rfl, hro11⟩
                have HRO11 := Lib.hid hro11
                have HX10 : Hid (Ext wr w10) := Ext.trans (Xf.out.trans Xfg.out) x10
                have hb10 := HVO1.out.ext HX10.out
                have HVO10 := Lib.hid hb10
                have p0 := hb10.free 0
                have p1 := hb10.free 1
                have p2 := hb10.free 2
                have p3 := hb10.free 3
                have p4 := hb10.free 4
                have p5 := hb10.free 5
                obtain ⟨v0, v1, v2, v3, v4, v5⟩ := hb10.cells
                clear x10 hro11 hb10
                go_upto_region 22 with (fail)
                generalize hW : World.setCell _ _ _ = w11
                have H11 : Hid (OutAt g 4 (g + 3) F w1 w11 (K (q + 1)) ∧ NamesAt (fun b => g + 4 ≤ b) w11 (some ⟨ga, oa, none⟩) us) := by
                  unfold Hid
                  rw [← hW, HSS.out]
                  exact ⟨OutAt.put (HXR.out.trans HX10.out) (Nat.le_trans HSZ1.out HX10.out.size) (by rw [HGS.out]; exact Nat.le_refl _) (by omega) (by omega) HVO10.out HRO11.out, HNM.out w10 HX10.out _ _ _ _ _ _⟩
                clear hW
                go_wp2_with fail
                go_roundw
                case rel => exact ⟨q + 1, hlt, by go_num, H11.out.1, H11.out.2, HGQ.out⟩
                case measure => simp [intOf]; omega
              · have Xf := Lib.hid (X.out.trans (X4.out.trans xf))
                have HFA : Hid (ok = false) := HBX.out (HOK1.out.trans hk)
                clear xf hk t0 t1 t2 t3 t4 t5 y0 y1 y2 y3 y4 y5 r0 r1 r2 r3 r4 r5 f0 f1 f2 f3 f4 f5
                go_upto_region 14 with (fail)
                generalize hW : World.alloc wf _ = wg
                have Xfg : Hid (Ext wf wg) := by rw [← hW]; exact new_ext _ _
                clear hW
                have hr := HVR.out.ext (HXR.out.trans (Xf.out.trans Xfg.out))
                have HVR5 := Lib.hid hr
                obtain ⟨r0, r1, r2, r3, r4, r5⟩ := hr.cells
                have f0 := hr.free 0
                have f1 := hr.free 1
                have f2 := hr.free 2
                have f3 := hr.free 3
                have f4 := hr.free 4
                have f5 := hr.free 5
                clear hr
                go_wp2_with fail
                refine bodyPost_ret (results_v rfl _ _ (g + 2) rfl (put_in 0 false 0 ⟨#[]⟩ nilS nilS HVR5.out)) rfl ?_
                exact ⟨put_ext 0 false 0 ⟨#[]⟩ nilS nilS (HX1.out.trans (HXR.out.trans (Xf.out.trans Xfg.out))) (by have := HGW.out; omega), .inr ⟨HFA.out, rfl⟩⟩
          | some y =>
            have HY3 : Hid (RV (NF g 4 F) wr y (v6  K3 B3  z3 s3 (.slice A5 n5 c5) (.slice A6 n6 c6))) := by
              have h := HUS1.out (by rw [hpn]; rfl)
              rw [val_some hpn] at h
              exact h
            have HSE : Hid (s = (textJ y == textJ x)) := by unfold Hid; rw [HSA.out]; unfold sameAt; rw [hpn]
            have CSE := Lib.hid (CS2.out y hpn (HY3.out.ext X.out))
            rw [← HSE.out] at CSE
            unfold v6 at CSE
            clear hpn CS2 HSA HSE
            obtain ⟨p0, p1, p2, p3, p4, p5⟩ := HTB.out.cells
            obtain ⟨i0, i1, i2, i3, i4, i5⟩ := HTC.out.cells
            cases s with
            | true =>
              have HSS : Hid (K (q + 1) = K q) := by unfold Hid; rw [HST2.out, if_pos rfl]
              have HOK : Hid (okf (n, x) = true) := by unfold Hid; rw [HF3.out]; rfl
              go_wp2_with (go_at_call 16; refine CSE.out.mono ?_; rintro e we ⟨rfl, x4⟩; have X4 := Lib.hid x4; clear x4)
              go_roundw
              case rel => exact ⟨q + 1, hlt, by go_num, by rw [HSS.out]; exact hR.out.1.ext (X.out.trans X4.out), hR.out.2.1.ext (X.out.trans X4.out), HGX.out HOK.out⟩
              case measure => simp [intOf]; omega
            | false =>
              have b1 := HKN.out
              cases hnul : isNull x with
              | true =>
                rw [hnul] at b1
                have HFA : Hid (ok = false) := HBX.out (by rw [HF3.out, hnul]; rfl)
                clear hnul
                go_wp2_with (go_at_call 16; refine CSE.out.mono ?_; rintro e we ⟨rfl, x4⟩; have X4 := Lib.hid x4; obtain ⟨t0, t1, t2, t3, t4, t5⟩ := (HTB.out.ext x4).cells; obtain ⟨y0, y1, y2, y3, y4, y5⟩ := (HTC.out.ext x4).cells; have hr := HVR.out.ext (HXR.out.trans (X.out.trans x4)); have HVR4 := Lib.hid hr; obtain ⟨r0, r1, r2, r3, r4, r5⟩ := hr.cells; have f0 := hr.free 0; have f1 := hr.free 1; have f2 := hr.free 2; have f3 := hr.free 3; have f4 := hr.free 4; have f5 := hr.free 5; clear x4 hr)
                refine bodyPost_ret (results_v rfl _ _ (g + 2) rfl (put_in 0 false 0 ⟨#[]⟩ nilS nilS HVR4.out)) rfl ?_
                exact ⟨put_ext 0 false 0 ⟨#[]⟩ nilS nilS (HX1.out.trans (HXR.out.trans (X.out.trans X4.out))) (by have := HGW.out; omega), .inr ⟨HFA.out, rfl⟩⟩
              | false =>
                rw [hnul] at b1
                have HOK1 : Hid (okf (n, x) = okB (valO P n) x) := by unfold Hid; rw [HF3.out, hnul]; rfl
                clear hnul
                go_wp2_with (go_at_call 16; refine CSE.out.mono ?_; rintro e we ⟨rfl, x4⟩; have X4 := Lib.hid x4; obtain ⟨t0, t1, t2, t3, t4, t5⟩ := (HTB.out.ext x4).cells; obtain ⟨y0, y1, y2, y3, y4, y5⟩ := (HTC.out.ext x4).cells; have hr := HVR.out.ext (HXR.out.trans (X.out.trans x4)); have HVR4 := Lib.hid hr; obtain ⟨r0, r1, r2, r3, r4, r5⟩ := hr.cells; have f0 := hr.free 0; have f1 := hr.free 1; have f2 := hr.free 2; have f3 := hr.free 3; have f4 := hr.free 4; have f5 := hr.free 5; clear x4 hr)
                refine Calls.mono (CI.out we X4.out) ?_
                rintro e wf ⟨xf, ⟨hk, K9, B9, z9, s9, A9, n9, c9, A10, n10, c10, hr9, rfl⟩ | ⟨hk, rfl⟩⟩
                · have Xf := Lib.hid (X.out.trans (X4.out.trans xf))
                  have HR9 := Lib.hid hr9
                  have HGQ := Lib.hid (HGX.out (HOK1.out.trans hk))
                  have HSS : Hid (K (q + 1) = setO (K q) n (outB (valO P n) x)) := by unfold Hid; rw [HST2.out, if_neg (by simp)]
                  clear xf hr9 hk t0 t1 t2 t3 t4 t5 y0 y1 y2 y3 y4 y5 r0 r1 r2 r3 r4 r5 f0 f1 f2 f3 f4 f5
                  go_upto_region 14 with (fail)
                  obtain ⟨td, htd⟩ : ∃ t, t = wf.heap.size := ⟨_, rfl⟩
                  rw [← htd]
                  generalize hW : World.alloc wf _ = wg
                  have Xfg : Hid (Ext wf wg) := by rw [← hW]; exact new_ext _ _
                  have HTD : Hid (VIn wg td K9 B9 z9 s9 (.slice A9 n9 c9) (.slice A10 n10 c10)) := by rw [← hW]; exact heap_new htd
                  clear hW htd
                  have CS1 := Lib.hid (CS.out wg K9 B9 z9 s9 A9 n9 c9 A10 n10 c10 _ (Xf.out.trans Xfg.out) (HR9.out.ext Xfg.out))
                  obtain ⟨t0, t1, t2, t3, t4, t5⟩ := HTD.out.cells
                  obtain ⟨o0, o1, o2, o3, o4, o5⟩ := (HVO1.out.ext (Xf.out.trans Xfg.out)).cells
                  go_wp2_with fail
                  refine Calls.mono CS1.out ?_
                  rintro e w10 ⟨x10, A11, c11, B11, d11, rfl, hro11⟩
                  have HRO11 := Lib.hid hro11
                  have HX10 : Hid (Ext wr w10) := Ext.trans (Xf.out.trans Xfg.out) x10
                  have hb10 := HVO1.out.ext HX10.out
                  have HVO10 := Lib.hid hb10
                  have p0 := hb10.free 0
                  have p1 := hb10.free 1
                  have p2 := hb10.free 2
                  have p3 := hb10.free 3
                  have p4 := hb10.free 4
                  have p5 := hb10.free 5
                  obtain ⟨v0, v1, v2, v3, v4, v5⟩ := hb10.cells
                  clear x10 hro11 hb10
                  go_upto_region 22 with (fail)
                  generalize hW : World.setCell _ _ _ = w11
                  have H11 : Hid (OutAt g 4 (g + 3) F w1 w11 (K (q + 1)) ∧ NamesAt (fun b => g + 4 ≤ b) w11 (some ⟨ga, oa, none⟩) us) := by
                    unfold Hid
                    rw [← hW, HSS.out]
                    exact ⟨OutAt.put (HXR.out.trans HX10.out) (Nat.le_trans HSZ1.out HX10.out.size) (by rw [HGS.out]; exact Nat.le_refl _) (by omega) (by omega) HVO10.out HRO11.out, HNM.out w10 HX10.out _ _ _ _ _ _⟩
                  clear hW
                  go_wp2_with fail
                  go_roundw
                  case rel => exact ⟨q + 1, hlt, by go_num, H11.out.1, H11.out.2, HGQ.out⟩
                  case measure => simp [intOf]; omega
                · have Xf := Lib.hid (X.out.trans (X4.out.trans xf))
                  have HFA : Hid (ok = false) := HBX.out (HOK1.out.trans hk)
                  clear xf hk t0 t1 t2 t3 t4 t5 y0 y1 y2 y3 y4 y5 r0 r1 r2 r3 r4 r5 f0 f1 f2 f3 f4 f5
                  go_upto_region 14 with (fail)
                  generalize hW : World.alloc wf _ = wg
                  have Xfg : Hid (Ext wf wg) := by rw [← hW]; exact new_ext _ _
                  clear hW
                  have hr := HVR.out.ext (HXR.out.trans (Xf.out.trans Xfg.out))
                  have HVR5 := Lib.hid hr
                  obtain ⟨r0, r1, r2, r3, r4, r5⟩ := hr.cells
                  have f0 := hr.free 0
                  have f1 := hr.free 1
                  have f2 := hr.free 2
                  have f3 := hr.free 3
                  have f4 := hr.free 4
                  have f5 := hr.free 5
                  clear hr
                  go_wp2_with fail
                  refine bodyPost_ret (results_v rfl _ _ (g + 2) rfl (put_in 0 false 0 ⟨#[]⟩ nilS nilS HVR5.out)) rfl ?_
                  exact ⟨put_ext 0 false 0 ⟨#[]⟩ nilS nilS (HX1.out.trans (HXR.out.trans (Xf.out.trans Xfg.out))) (by have := HGW.out; omega), .inr ⟨HFA.out, rfl⟩⟩
      · have bl : decide ((q : Int) < (U : Int)) = false := decide_eq_false (by omega)
        have bl2 : decide (q < U) = false := decide_eq_false hlt
        obtain rfl : q = U := by omega
        have HT : Hid (ok = true) := HGOOD.out (fun u hu x hx => hR.out.2.2 u (by rw [List.take_of_length_le (by rw [← HUL.out]; exact Nat.le_refl _)]; exact hu) x hx)
        obtain ⟨OA, oc, OB, od, hvo, hro⟩ := hR.out.1.2.2
        have HRO1 := Lib.hid hro
        obtain ⟨o0, o1, o2, o3, o4, o5⟩ := hvo.cells
        have hr := HVR.out.ext HXR.out
        have HVR1 := Lib.hid hr
        obtain ⟨r0, r1, r2, r3, r4, r5⟩ := hr.cells
        have f0 := hr.free 0
        have f1 := hr.free 1
        have f2 := hr.free 2
        have f3 := hr.free 3
        have f4 := hr.free 4
        have f5 := hr.free 5
        clear hlt hvo hro hr
        go_wp2_with fail
        refine bodyPost_ret (results_v rfl _ _ (g + 2) rfl (put_in 6 false 0 ⟨#[]⟩ (.slice OA (K q).1.length oc) (.slice OB (K q).2.length od) HVR1.out)) rfl ?_
        refine ⟨put_ext 6 false 0 ⟨#[]⟩ (.slice OA (K q).1.length oc) (.slice OB (K q).2.length od) (HX1.out.trans HXR.out) (by have := HGW.out; omega), .inl ⟨HT.out, _, _, _, _, _, _, _, _, _, _, ?_, rfl⟩⟩
        rw [HK.out.2.2.2]
        exact ((nf_put HRO1.out (by omega) (by omega) _ _ _ _ _ _).keep (fun _ _ _ => rfl) (fun b h _ => h.1)).rv
theorem rbet_all : ∀ (m : Nat) (v : J), SizeOf.sizeOf v ≤ m → RBetC v
  | m, v, hm => by
    cases h : isObj v with
    | false => exact rbet_flat v h
    | true =>
      rw [obj_of h] at hm ⊢
      generalize objO v = b at hm
      cases m with
      | zero => unfold ofO at hm; rw [J.obj.sizeOf_spec] at hm; omega
      | succ m =>
        intro F p cs ds w hF hx hy hp hq hb
        cases h2 : isObj p with
        | false => exact rbet_new b F p h2 cs ds w hx hy hq (by omega)
        | true =>
          have hx2 : RV F w p cs := by
            rcases hx with h | ⟨h, _⟩
            · exact h
            · rw [h] at h2; cases h2
          rw [obj_of h2] at hx2 hp hb ⊢
          rw [bulk_of, bulk_of] at hb
          exact rbet_obj b _ (fun n x hx => rbet_all m x (by have := kid_size hx; omega)) F cs ds w hF hx2 hy hp hq (by omega)
theorem rbet_val (v : J) : RBetC v := rbet_all _ v (Nat.le_refl _)
end Go.Proofs.YtahinicpceokcaaGreatDoor.Jm
