/-
  The reference's ThreeMerge (printed by gen/th7.py).
  Both side by side: Merge and Lost against the reference's ThreeMerge.
-/
import Derived.Test.YtnccefeehkcneaaGreatDoorThb
import Derived.Test.YtnccefeehkcneaaGreatDoorTh6
import Derived.Test.YtnccefeehkcneaaGreatDoorTsr
namespace Go.Proofs.YtnccefeehkcneaaGreatDoor.Jm
open Go Go.RowKit Go.Proofs.YtnccefeehkcneaaGreatDoor.Sx Go.Proofs.YtnccefeehkcneaaGreatDoor.Js Go.Proofs.YtnccefeehkcneaaGreatDoor.Gr Go.Proofs.YtnccefeehkcneaaGreatDoor.Ur
theorem results_tmp4 {fn : Func} {t u v x : Tmp} (h : fn.results = #[.tmp t, .tmp u, .tmp v, .tmp x]) (tmps : Array Value) (P : Program) (w : World) :
    (results fn tmps).run P w = .ok (.tuple #[tmps.getD t undef, tmps.getD u undef, tmps.getD v undef, tmps.getD x undef]) w := by
  simp [results, h]
theorem rthree_all : ∀ (m : Nat) (v : J), SizeOf.sizeOf v ≤ m → RThreeC v
  | m, v, hm => by
    cases h : isObj v with
    | false => exact rthree_flat v h
    | true =>
      rw [obj_of h] at hm ⊢
      generalize objO v = b at hm
      cases m with
      | zero => unfold ofO at hm; rw [J.obj.sizeOf_spec] at hm; omega
      | succ m => exact rthree_obj b fun n x hx => rthree_all m x (by have := kid_size hx; omega)
theorem rthree_val (v : J) : RThreeC v := rthree_all _ v (Nat.le_refl _)
/-- What ThreeMerge answers. -/
def RTm (T : Res (List J)) (w : World) (e : Ending) (w' : World) : Prop := Ext w w' ∧ ∃ A c, e = .returned (.tuple #[.string (bx (mergeT T).1), .slice A (lostT T).1.length c, .int .i64 (mergeT T).2, .int .i64 (lostT T).2]) ∧ (lostT T).1.length ≤ c ∧ NamesAt (fun _ => True) w' A ((lostT T).1.map fun x => x.data.toList)
set_option maxRecDepth 100000 in
set_option maxHeartbeats 16000000 in
theorem rtmerge_any (s t u : ByteArray) (w : World) (hm : MaxC w) : Calls Tryz.prog 18 #[.string s, .string t, .string u] w (RTm (readsS [s, t, u]) w) := by
  have HG := Lib.hid (fun js (h : readsS [s, t, u] = .ok js) => reads_tri h)
  obtain ⟨b, hb⟩ : ∃ b, b = w.heap.size := ⟨_, rfl⟩
  obtain ⟨w1, hw1⟩ : ∃ w1, w1 = w.alloc (.cells #[.string s, .string t, .string u] 9) := ⟨_, rfl⟩
  have HX1 : Hid (Ext w w1) := by rw [hw1]; exact new_ext _ _
  have C1 := Lib.hid (rreads_any (some ⟨b, 0, none⟩) 3 [s, t, u] w1 (fun i hi => by
    have hh : w1.heap[b]? = some (.cells #[.string s, .string t, .string u] 9 (0, 0)) := by rw [hw1]; exact heap_new hb
    refine ⟨b, 0, rfl, ?_⟩
    rw [Nat.zero_add, cell_of hh]
    match i, hi with
    | 0, _ => rfl
    | 1, _ => rfl
    | 2, _ => rfl) (by simp))
  obtain ⟨T, hT⟩ : ∃ T, T = readsS [s, t, u] := ⟨_, rfl⟩
  rw [← hT] at C1 HG ⊢
  have HM := Lib.hid hm
  clear hT hm
  go_enter Tryz.func18, Tryz.ntmps18
  go_wp2_with fail
  rw [← hw1, ← hb]
  clear hw1 hb
  refine Calls.mono C1.out ?_
  rintro e w2 ⟨x2, ⟨js, A, c, hj, rfl, hv⟩ | ⟨er, A, n, c, her, hj, rfl⟩⟩
  · obtain ⟨x, y, z, rfl, ⟨wx, bx1⟩, ⟨wy, by1⟩, wz, bz⟩ := HG.out js hj
    have X2 := Lib.hid (HX1.out.trans x2)
    have HJ := Lib.hid hj
    obtain ⟨gb, off, u0, rfl, -, -, k0, p0⟩ := hv 0 (by simp)
    obtain ⟨gb', off', u1, e1, -, -, k1, p1⟩ := hv 1 (by simp)
    obtain ⟨gb2, off2, u2, e2, -, -, k2, p2⟩ := hv 2 (by simp)
    injection e1 with e1
    injection e1 with e1 e3
    injection e2 with e2
    injection e2 with e2 e4
    subst e1 e3 e2 e4
    obtain ⟨K1, B1, z1, s1, A1, n1, c1, A2, n2, c2, rfl⟩ := RV.shape p0
    obtain ⟨K2, B2, z2, s2, A3, n3, c3, A4, n4, c4, rfl⟩ := RV.shape p1
    obtain ⟨K3, B3, z3, s3, A5, n5, c5, A6, n6, c6, rfl⟩ := RV.shape p2
    have HS : Hid (∀ W, Ext w2 W → W.cell? ⟨gb, off, none⟩ = some (.int .i64 K1) ∧ W.cell? ⟨gb, off + 1, none⟩ = some (.bool B1) ∧ W.cell? ⟨gb, off + 2, none⟩ = some (.int .i64 z1) ∧ W.cell? ⟨gb, off + 3, none⟩ = some (.string s1) ∧ W.cell? ⟨gb, off + 4, none⟩ = some (.slice A1 n1 c1) ∧ W.cell? ⟨gb, off + 5, none⟩ = some (.slice A2 n2 c2) ∧ W.cell? ⟨gb, off + 6, none⟩ = some (.int .i64 K2) ∧ W.cell? ⟨gb, off + 7, none⟩ = some (.bool B2) ∧ W.cell? ⟨gb, off + 8, none⟩ = some (.int .i64 z2) ∧ W.cell? ⟨gb, off + 9, none⟩ = some (.string s2) ∧ W.cell? ⟨gb, off + 10, none⟩ = some (.slice A3 n3 c3) ∧ W.cell? ⟨gb, off + 11, none⟩ = some (.slice A4 n4 c4) ∧ W.cell? ⟨gb, off + 12, none⟩ = some (.int .i64 K3) ∧ W.cell? ⟨gb, off + 13, none⟩ = some (.bool B3) ∧ W.cell? ⟨gb, off + 14, none⟩ = some (.int .i64 z3) ∧ W.cell? ⟨gb, off + 15, none⟩ = some (.string s3) ∧ W.cell? ⟨gb, off + 16, none⟩ = some (.slice A5 n5 c5) ∧ W.cell? ⟨gb, off + 17, none⟩ = some (.slice A6 n6 c6)) := fun W hW => by
      have q0 : ∀ k r, (v6 K1 B1 z1 s1 (.slice A1 n1 c1) (.slice A2 n2 c2))[k]? = some r → W.cell? ⟨gb, off + k, none⟩ = some r := fun k r h => (cell_keep (hW.block gb (cell_lt (k0 k r h)))).trans (by have := k0 k r h; rwa [Nat.zero_mul, Nat.add_zero] at this)
      have q1 : ∀ k r, (v6 K2 B2 z2 s2 (.slice A3 n3 c3) (.slice A4 n4 c4))[k]? = some r → W.cell? ⟨gb, off + (6 + k), none⟩ = some r := fun k r h => (cell_keep (hW.block gb (cell_lt (k1 k r h)))).trans (by have := k1 k r h; rwa [Nat.one_mul, Nat.add_assoc] at this)
      have q2 : ∀ k r, (v6 K3 B3 z3 s3 (.slice A5 n5 c5) (.slice A6 n6 c6))[k]? = some r → W.cell? ⟨gb, off + (12 + k), none⟩ = some r := fun k r h => (cell_keep (hW.block gb (cell_lt (k2 k r h)))).trans (by have := k2 k r h; rwa [Nat.add_assoc] at this)
      exact ⟨q0 0 _ rfl, q0 1 _ rfl, q0 2 _ rfl, q0 3 _ rfl, q0 4 _ rfl, q0 5 _ rfl, q1 0 _ rfl, q1 1 _ rfl, q1 2 _ rfl, q1 3 _ rfl, q1 4 _ rfl, q1 5 _ rfl, q2 0 _ rfl, q2 1 _ rfl, q2 2 _ rfl, q2 3 _ rfl, q2 4 _ rfl, q2 5 _ rfl⟩
    have HR3 : Hid (RV (fun b => w1.heap.size ≤ b) w2 x (v6 K1 B1 z1 s1 (.slice A1 n1 c1) (.slice A2 n2 c2)) ∧ RV (fun b => w1.heap.size ≤ b) w2 y (v6 K2 B2 z2 s2 (.slice A3 n3 c3) (.slice A4 n4 c4)) ∧ RV (fun b => w1.heap.size ≤ b) w2 z (v6 K3 B3 z3 s3 (.slice A5 n5 c5) (.slice A6 n6 c6))) := ⟨p0, p1, p2⟩
    have HSZ : Hid (w1.heap.size ≤ w2.heap.size) := x2.size
    have CT : Hid (∀ W, Ext w2 W → Calls Tryz.prog 51 #[.agg #[.int .i64 K1, .bool B1, .int .i64 z1, .string s1, .slice A1 n1 c1, .slice A2 n2 c2], .agg #[.int .i64 K2, .bool B2, .int .i64 z2, .string s2, .slice A3 n3 c3, .slice A4 n4 c4], .agg #[.int .i64 K3, .bool B3, .int .i64 z3, .string s3, .slice A5 n5 c5, .slice A6 n6 c6], .slice none 0 0] W (RThree (fun b => w1.heap.size ≤ b ∧ (b < w2.heap.size ∨ W.heap.size ≤ b)) (threeJ x y z) (lostJ x y z []) W)) := fun W hW =>
      rthree_val z (fun b => w1.heap.size ≤ b ∧ (b < w2.heap.size ∨ W.heap.size ≤ b)) x y _ _ _ none 0 [] W (fun g hg => ⟨by have h1 := hW.size; have h2 := HSZ.out; omega, .inr hg⟩)
        (.inl (RV.keep (fun b _ hb => hW.block b hb) (fun b h hb => ⟨h, .inl hb⟩) _ _ HR3.out.1)) (.inl (RV.keep (fun b _ hb => hW.block b hb) (fun b h hb => ⟨h, .inl hb⟩) _ _ HR3.out.2.1)) (RV.keep (fun b _ hb => hW.block b hb) (fun b h hb => ⟨h, .inl hb⟩) _ _ HR3.out.2.2)
        wx wy wz (by omega) (by omega) (fun i hi => by cases hi) (Nat.le_refl _) (by simp; omega) (fun s hs => by cases hs)
    have HLM : Hid ((lostJ x y z []).length ≤ 1000000) := by
      have := lost_many _ x y z [] (Nat.le_refl _) wx wz
      have := bulk_obO x
      unfold Hid
      omega
    have HIJ : Hid (∀ {F : Nat → Prop} {W : World} {cs : List Value}, RV F W (threeJ x y z) cs → IJ (threeJ x y z)) := fun h => RV.ij _ _ h (threeJ_wj wx wy wz)
    have HBK : Hid (bulkJ (threeJ x y z) ≤ 16777216) := by
      have := threeJ_bulk wx wy wz
      unfold Hid
      omega
    clear x2 hj hv k0 k1 k2 p0 p1 p2 wx wy wz bx1 by1 bz
    have hxx : Ext w2 w2 := Below.refl _ _
    go_upto_region 4 with (fail)
    refine wp_region_split (fun w' => w'.cell? ⟨gb, off, none⟩ = some (.int .i64 K1) ∧ w'.cell? ⟨gb, off + 1, none⟩ = some (.bool B1) ∧ w'.cell? ⟨gb, off + 2, none⟩ = some (.int .i64 z1) ∧ w'.cell? ⟨gb, off + 3, none⟩ = some (.string s1) ∧ w'.cell? ⟨gb, off + 4, none⟩ = some (.slice A1 n1 c1) ∧ w'.cell? ⟨gb, off + 5, none⟩ = some (.slice A2 n2 c2) ∧ w'.cell? ⟨gb, off + 6, none⟩ = some (.int .i64 K2) ∧ w'.cell? ⟨gb, off + 7, none⟩ = some (.bool B2) ∧ w'.cell? ⟨gb, off + 8, none⟩ = some (.int .i64 z2) ∧ w'.cell? ⟨gb, off + 9, none⟩ = some (.string s2) ∧ w'.cell? ⟨gb, off + 10, none⟩ = some (.slice A3 n3 c3) ∧ w'.cell? ⟨gb, off + 11, none⟩ = some (.slice A4 n4 c4) ∧ w'.cell? ⟨gb, off + 12, none⟩ = some (.int .i64 K3) ∧ w'.cell? ⟨gb, off + 13, none⟩ = some (.bool B3) ∧ w'.cell? ⟨gb, off + 14, none⟩ = some (.int .i64 z3) ∧ w'.cell? ⟨gb, off + 15, none⟩ = some (.string s3) ∧ w'.cell? ⟨gb, off + 16, none⟩ = some (.slice A5 n5 c5) ∧ w'.cell? ⟨gb, off + 17, none⟩ = some (.slice A6 n6 c6)) 15 (by kernel_rfl) (by kernel_rfl) (by exact HS.out _ (by repeat (first | assumption | apply ext_al | apply ext_dr))) (fun hHeld => ?_)
    simp only [List.take_succ_cons, List.take_zero, List.drop_succ_cons, List.drop_zero]
    generalize hd : World.drew w2 = wd at hHeld ⊢
    have x_wd : Ext w2 wd := by rw [← hd]; exact (by repeat (first | assumption | apply ext_al | apply ext_dr))
    clear hd
    refine wpAnyH_take (i := 0) (v := ?_) rfl (by kernel_rfl) (by kernel_rfl) (by kernel_rfl) (fun _ _ _ h => h) (Or.inl ⟨by rfl, ?_⟩) (by assumption) ?_
    rotate_left
    · intro w hSw
      (try dsimp only at hSw)
      go_simp
      (try with_reducible rfl)
    (try simp only [Act.put, List.setIfInBounds_toArray])
    refine wpAnyH_take (i := 1) (v := ?_) rfl (by kernel_rfl) (by kernel_rfl) (by kernel_rfl) (fun _ _ _ h => h) (Or.inl ⟨by rfl, ?_⟩) (by assumption) ?_
    rotate_left
    · intro w hSw
      (try dsimp only at hSw)
      go_simp
      (try with_reducible rfl)
    (try simp only [Act.put])
    refine wpAnyH_take (i := 2) (v := ?_) rfl (by kernel_rfl) (by kernel_rfl) (by kernel_rfl) (fun _ _ _ h => h) (Or.inl ⟨by rfl, ?_⟩) (by assumption) ?_
    rotate_left
    · intro w hSw
      (try dsimp only at hSw)
      go_simp
      (try with_reducible rfl)
    (try simp only [Act.put])
    refine wpAnyH_take (i := 3) (v := ?_) rfl (by kernel_rfl) (by kernel_rfl) (by kernel_rfl) (fun _ _ _ h => h) (Or.inl ⟨by rfl, ?_⟩) (by assumption) ?_
    rotate_left
    · intro w hSw
      (try dsimp only at hSw)
      go_simp
      (try with_reducible rfl)
    (try simp only [Act.put])
    refine wpAnyH_take (i := 4) (v := ?_) rfl (by kernel_rfl) (by kernel_rfl) (by kernel_rfl) (fun _ _ _ h => h) (Or.inl ⟨by rfl, ?_⟩) (by assumption) ?_
    rotate_left
    · intro w hSw
      (try dsimp only at hSw)
      go_simp
      (try with_reducible rfl)
    (try simp only [Act.put])
    refine wpAnyH_take (i := 5) (v := ?_) rfl (by kernel_rfl) (by kernel_rfl) (by kernel_rfl) (fun _ _ _ h => h) (Or.inl ⟨by rfl, ?_⟩) (by assumption) ?_
    rotate_left
    · intro w hSw
      (try dsimp only at hSw)
      go_simp
      (try with_reducible rfl)
    (try simp only [Act.put])
    refine wpAnyH_take (i := 6) (v := ?_) rfl (by kernel_rfl) (by kernel_rfl) (by kernel_rfl) (fun _ _ _ h => h) (Or.inl ⟨by rfl, ?_⟩) (by assumption) ?_
    rotate_left
    · intro w hSw
      (try dsimp only at hSw)
      go_simp
      (try with_reducible rfl)
    (try simp only [Act.put])
    refine wpAnyH_take (i := 7) (v := ?_) rfl (by kernel_rfl) (by kernel_rfl) (by kernel_rfl) (fun _ _ _ h => h) (Or.inl ⟨by rfl, ?_⟩) (by assumption) ?_
    rotate_left
    · intro w hSw
      (try dsimp only at hSw)
      go_simp
      (try with_reducible rfl)
    (try simp only [Act.put])
    refine wpAnyH_take (i := 8) (v := ?_) rfl (by kernel_rfl) (by kernel_rfl) (by kernel_rfl) (fun _ _ _ h => h) (Or.inl ⟨by rfl, ?_⟩) (by assumption) ?_
    rotate_left
    · intro w hSw
      (try dsimp only at hSw)
      go_simp
      (try with_reducible rfl)
    (try simp only [Act.put])
    refine wpAnyH_ready (rs := [9, 13]) (by kernel_rfl) (by simp) ?_
    refine AllReadyH.cons rfl (fun KQ hKQ => ?_) ?_
    · skip
      go_simp
      refine Calls.mono (CT.out wd x_wd) ?_
      rintro e V21 ⟨y_V21, K9, B9, z9, s9, A9, n9, c9, A10, n10, c10, B, d, rfl, hval_V21, hlow_V21⟩
      (try dsimp only)
      have x_V21 : Ext w2 V21 := x_wd.trans y_V21
      refine hKQ.out _ _ (by exact HS.out V21 x_V21) (fun hHeld => ?_)
      clear hKQ KQ
      (try simp only [Act.put, List.setIfInBounds_toArray, List.set_cons_zero, List.set_cons_succ])
      refine wpAnyH_take (i := 10) (v := ?_) rfl (by kernel_rfl) (by kernel_rfl) (by kernel_rfl) (fun _ _ _ h => h) (Or.inl ⟨by rfl, ?_⟩) (by assumption) ?_
      rotate_left
      · intro w hSw
        (try dsimp only at hSw)
        go_simp
        (try with_reducible rfl)
      (try simp only [Act.put, List.setIfInBounds_toArray])
      refine wpAnyH_take (i := 11) (v := ?_) rfl (by kernel_rfl) (by kernel_rfl) (by kernel_rfl) (fun _ _ _ h => h) (Or.inl ⟨by rfl, ?_⟩) (by assumption) ?_
      rotate_left
      · intro w hSw
        (try dsimp only at hSw)
        go_simp
        (try with_reducible rfl)
      (try simp only [Act.put])
      refine wpAnyH_take (i := 12) (v := ?_) rfl (by kernel_rfl) (by kernel_rfl) (by kernel_rfl) (fun _ _ _ h => h) (Or.inl ⟨by rfl, ?_⟩) (by assumption) ?_
      rotate_left
      · intro w hSw
        (try dsimp only at hSw)
        go_simp
        (try with_reducible rfl)
      (try simp only [Act.put])
      refine wpAnyH_ready (rs := [13]) (by kernel_rfl) (by simp) ?_
      refine AllReadyH.cons rfl (fun KQ hKQ => ?_) AllReadyH.nil
      obtain ⟨t3, ht3⟩ : ∃ t, t = (V21 : World).heap.size := ⟨_, rfl⟩
      go_simp
      rw [← ht3]
      generalize hW : World.alloc V21 _ = V22
      have y_V22 : Ext V21 V22 := by rw [← hW]; exact new_ext _ _
      have x_V22 : Ext w2 V22 := x_V21.trans y_V22
      have hbox_V22 : VIn V22 t3 0 false 0 ⟨#[]⟩ nilS nilS := by rw [← hW]; exact heap_new ht3
      have hge3 : w2.heap.size ≤ t3 := by rw [ht3]; exact x_V21.size
      have HT3 := Lib.hid ht3
      clear hW ht3
      refine hKQ.out _ _ (by exact HS.out V22 x_V22) (fun hHeld => ?_)
      clear hKQ KQ
      (try simp only [Act.put, List.setIfInBounds_toArray, List.set_cons_zero, List.set_cons_succ])
      refine wpAnyH_ready (rs := [14]) (by kernel_rfl) (by simp) ?_
      refine AllReadyH.cons rfl (fun KQ hKQ => ?_) AllReadyH.nil
      (refine step_storeV rfl _ _ rfl hbox_V22 (by rfl) (by rfl) ?_; intro V23 hv6 he6 hk6)
      have x_V23 : Ext w2 V23 := he6 w2 x_V22 hge3
      refine hKQ.out _ _ (by exact HS.out V23 x_V23) (fun hHeld => ?_)
      clear hKQ KQ
      (try simp only [Act.put, List.setIfInBounds_toArray])
      refine wpAnyH_done (by kernel_rfl) ?_ _
      refine TailQ.normal ?_
      have HXE : Hid (Ext w2 V23) := x_V23
      have HBE : Hid (VIn V23 t3 K9 B9 z9 s9 (.slice A9 n9 c9) (.slice A10 n10 c10)) := hv6
      have HRE := Lib.hid (RV.keep (F' := fun _ => True) (w' := V23) (fun b h hlt => ((hk6 b (fun e => by have h3 := HT3.out; omega)).trans (y_V22.block b hlt))) (fun _ _ _ => trivial) _ _ hval_V21)
      have HGE : Hid (GRow 9 1 w2.heap.size V23 (.slice B (lostJ x y z []).length d) (one (wayVs (lostJ x y z [])))) := (hlow_V21.keep (fun b e => ((hk6 b (fun e' => by have h1 := (hlow_V21.block b e).2; have h3 := HT3.out; omega)).trans (y_V22.block b (hlow_V21.block b e).2)))).low x_wd.size
      obtain ⟨a0, a1, a2, a3, a4, a5⟩ := HBE.out.cells
      have CTL := Lib.hid (rtell_val (threeJ x y z) _ K9 B9 z9 s9 A9 n9 c9 A10 n10 c10 V23 HRE.out (HIJ.out HRE.out) (HM.out.ext (X2.out.trans HXE.out)) HBK.out)
      have CSO : Hid (∀ W, Ext V23 W → Calls Tryz.prog 52 #[.slice B (lostJ x y z []).length d] W fun e w' => ∃ A c, e = .returned (.slice A (lostJ x y z []).length c) ∧ SRow W.heap.size w' (.slice A (lostJ x y z []).length c) (Qs.sortB ((lostJ x y z []).map wayT)) ∧ Ext W w') := fun W hW => by
        have e1 : strVals ((lostJ x y z []).map wayT) = wayVs (lostJ x y z []) := by unfold strVals wayVs; rw [List.map_map]; rfl
        have hrow : SRow w2.heap.size W (.slice B (lostJ x y z []).length d) ((lostJ x y z []).map wayT) := (grow_srow (by rw [e1]; exact HGE.out)).ext hW
        have h := Qs.rsortC_any B d ((lostJ x y z []).map wayT) W (by rw [List.length_map]; have := HLM.out; omega) (fun i hi => by
          obtain ⟨g, hA, _, hc⟩ := (Qs.OwnS.of_row hrow).cell hi
          exact ⟨g, 0, hA, by rw [Nat.zero_add]; exact hc⟩)
        rw [List.length_map] at h
        exact h
      obtain ⟨M, hM⟩ : ∃ M, M = (lostJ x y z []).length := ⟨_, rfl⟩
      have HMM := Lib.hid hM
      rw [← hM] at CSO ⊢
      clear hM
      go_wp2_with fail
      refine Calls.mono CTL.out ?_
      rintro e w5 ⟨rfl, x5⟩
      have X5 := Lib.hid x5
      clear x5 a0 a1 a2 a3 a4 a5
      go_wp2_with fail
      refine Calls.mono (CSO.out w5 X5.out) ?_
      rintro e w6 ⟨A20, c20, rfl, h6, x6⟩
      have H6 := Lib.hid (Qs.OwnS.of_row h6)
      have X6 := Lib.hid x6
      clear h6 x6
      go_wp2_with fail
      ((try simp only [Exit.inBlock, Exit.then]); refine bodyPost_ret (results_tmp4 rfl _ _ _) rfl ?_)
      have e2 : (Qs.sortB ((lostJ x y z []).map wayT)).length = M := by rw [Qs.sortB_len, List.length_map, HMM.out]
      rw [HJ.out]
      refine ⟨X2.out.trans (HXE.out.trans (X5.out.trans X6.out)), A20, c20, ?_, H6.out.1, own_names H6.out⟩
      show _ = Ending.returned (.tuple #[.string (bx (tellS (threeJ x y z)).1), .slice A20 (Qs.sortB ((lostJ x y z []).map wayT)).length c20, .int .i64 (tellS (threeJ x y z)).2, .int .i64 0])
      rw [e2]
      rfl
    refine AllReadyH.cons rfl (fun KQ hKQ => ?_) ?_
    · skip
      obtain ⟨t3, ht3⟩ : ∃ t, t = (wd : World).heap.size := ⟨_, rfl⟩
      go_simp
      rw [← ht3]
      generalize hW : World.alloc wd _ = V21
      have y_V21 : Ext wd V21 := by rw [← hW]; exact new_ext _ _
      have x_V21 : Ext w2 V21 := x_wd.trans y_V21
      have hbox_V21 : VIn V21 t3 0 false 0 ⟨#[]⟩ nilS nilS := by rw [← hW]; exact heap_new ht3
      have hge3 : w2.heap.size ≤ t3 := by rw [ht3]; exact x_wd.size
      have HT3 := Lib.hid ht3
      clear hW ht3
      refine hKQ.out _ _ (by exact HS.out V21 x_V21) (fun hHeld => ?_)
      clear hKQ KQ
      (try simp only [Act.put, List.setIfInBounds_toArray, List.set_cons_zero, List.set_cons_succ])
      refine wpAnyH_ready (rs := [9]) (by kernel_rfl) (by simp) ?_
      refine AllReadyH.cons rfl (fun KQ hKQ => ?_) AllReadyH.nil
      go_simp
      refine Calls.mono (CT.out V21 x_V21) ?_
      rintro e V22 ⟨y_V22, K9, B9, z9, s9, A9, n9, c9, A10, n10, c10, B, d, rfl, hval_V22, hlow_V22⟩
      (try dsimp only)
      have x_V22 : Ext w2 V22 := x_V21.trans y_V22
      have hbox_V22 : VIn V22 t3 0 false 0 ⟨#[]⟩ nilS nilS := VIn.ext hbox_V21 y_V22
      have hlt3 := heap_lt hbox_V21
      refine hKQ.out _ _ (by exact HS.out V22 x_V22) (fun hHeld => ?_)
      clear hKQ KQ
      (try simp only [Act.put, List.setIfInBounds_toArray, List.set_cons_zero, List.set_cons_succ])
      refine wpAnyH_take (i := 10) (v := ?_) rfl (by kernel_rfl) (by kernel_rfl) (by kernel_rfl) (fun _ _ _ h => h) (Or.inl ⟨by rfl, ?_⟩) (by assumption) ?_
      rotate_left
      · intro w hSw
        (try dsimp only at hSw)
        go_simp
        (try with_reducible rfl)
      (try simp only [Act.put, List.setIfInBounds_toArray])
      refine wpAnyH_take (i := 11) (v := ?_) rfl (by kernel_rfl) (by kernel_rfl) (by kernel_rfl) (fun _ _ _ h => h) (Or.inl ⟨by rfl, ?_⟩) (by assumption) ?_
      rotate_left
      · intro w hSw
        (try dsimp only at hSw)
        go_simp
        (try with_reducible rfl)
      (try simp only [Act.put])
      refine wpAnyH_take (i := 12) (v := ?_) rfl (by kernel_rfl) (by kernel_rfl) (by kernel_rfl) (fun _ _ _ h => h) (Or.inl ⟨by rfl, ?_⟩) (by assumption) ?_
      rotate_left
      · intro w hSw
        (try dsimp only at hSw)
        go_simp
        (try with_reducible rfl)
      (try simp only [Act.put])
      refine wpAnyH_ready (rs := [14]) (by kernel_rfl) (by simp) ?_
      refine AllReadyH.cons rfl (fun KQ hKQ => ?_) AllReadyH.nil
      (refine step_storeV rfl _ _ rfl hbox_V22 (by rfl) (by rfl) ?_; intro V23 hv6 he6 hk6)
      have x_V23 : Ext w2 V23 := he6 w2 x_V22 hge3
      refine hKQ.out _ _ (by exact HS.out V23 x_V23) (fun hHeld => ?_)
      clear hKQ KQ
      (try simp only [Act.put])
      refine wpAnyH_done (by kernel_rfl) ?_ _
      refine TailQ.normal ?_
      have HXE : Hid (Ext w2 V23) := x_V23
      have HBE : Hid (VIn V23 t3 K9 B9 z9 s9 (.slice A9 n9 c9) (.slice A10 n10 c10)) := hv6
      have HRE := Lib.hid (RV.keep (F' := fun _ => True) (w' := V23) (fun b h hlt => (hk6 b (fun e => by have h1 := h.2; omega))) (fun _ _ _ => trivial) _ _ hval_V22)
      have HGE : Hid (GRow 9 1 w2.heap.size V23 (.slice B (lostJ x y z []).length d) (one (wayVs (lostJ x y z [])))) := (hlow_V22.keep (fun b e => hk6 b (fun e' => by have h1 := (hlow_V22.block b e).1; omega))).low x_V21.size
      obtain ⟨a0, a1, a2, a3, a4, a5⟩ := HBE.out.cells
      have CTL := Lib.hid (rtell_val (threeJ x y z) _ K9 B9 z9 s9 A9 n9 c9 A10 n10 c10 V23 HRE.out (HIJ.out HRE.out) (HM.out.ext (X2.out.trans HXE.out)) HBK.out)
      have CSO : Hid (∀ W, Ext V23 W → Calls Tryz.prog 52 #[.slice B (lostJ x y z []).length d] W fun e w' => ∃ A c, e = .returned (.slice A (lostJ x y z []).length c) ∧ SRow W.heap.size w' (.slice A (lostJ x y z []).length c) (Qs.sortB ((lostJ x y z []).map wayT)) ∧ Ext W w') := fun W hW => by
        have e1 : strVals ((lostJ x y z []).map wayT) = wayVs (lostJ x y z []) := by unfold strVals wayVs; rw [List.map_map]; rfl
        have hrow : SRow w2.heap.size W (.slice B (lostJ x y z []).length d) ((lostJ x y z []).map wayT) := (grow_srow (by rw [e1]; exact HGE.out)).ext hW
        have h := Qs.rsortC_any B d ((lostJ x y z []).map wayT) W (by rw [List.length_map]; have := HLM.out; omega) (fun i hi => by
          obtain ⟨g, hA, _, hc⟩ := (Qs.OwnS.of_row hrow).cell hi
          exact ⟨g, 0, hA, by rw [Nat.zero_add]; exact hc⟩)
        rw [List.length_map] at h
        exact h
      obtain ⟨M, hM⟩ : ∃ M, M = (lostJ x y z []).length := ⟨_, rfl⟩
      have HMM := Lib.hid hM
      rw [← hM] at CSO ⊢
      clear hM
      go_wp2_with fail
      refine Calls.mono CTL.out ?_
      rintro e w5 ⟨rfl, x5⟩
      have X5 := Lib.hid x5
      clear x5 a0 a1 a2 a3 a4 a5
      go_wp2_with fail
      refine Calls.mono (CSO.out w5 X5.out) ?_
      rintro e w6 ⟨A20, c20, rfl, h6, x6⟩
      have H6 := Lib.hid (Qs.OwnS.of_row h6)
      have X6 := Lib.hid x6
      clear h6 x6
      go_wp2_with fail
      ((try simp only [Exit.inBlock, Exit.then]); refine bodyPost_ret (results_tmp4 rfl _ _ _) rfl ?_)
      have e2 : (Qs.sortB ((lostJ x y z []).map wayT)).length = M := by rw [Qs.sortB_len, List.length_map, HMM.out]
      rw [HJ.out]
      refine ⟨X2.out.trans (HXE.out.trans (X5.out.trans X6.out)), A20, c20, ?_, H6.out.1, own_names H6.out⟩
      show _ = Ending.returned (.tuple #[.string (bx (tellS (threeJ x y z)).1), .slice A20 (Qs.sortB ((lostJ x y z []).map wayT)).length c20, .int .i64 (tellS (threeJ x y z)).2, .int .i64 0])
      rw [e2]
      rfl
    exact AllReadyH.nil
  · have X2 := Lib.hid x2
    have HJ := Lib.hid hj
    have b1 : (er != 0) = true := by rw [bne_iff_ne]; exact her
    clear x2 hj her
    go_wp2_with fail
    ((try simp only [Exit.inBlock, Exit.then]); refine bodyPost_ret (results_tmp4 rfl _ _ _) rfl ?_)
    exact ⟨HX1.out.trans X2.out, none, 0, by rw [HJ.out]; rfl, by rw [HJ.out]; exact Nat.le_refl _, by rw [HJ.out]; exact fun i hi => by cases hi⟩
end Go.Proofs.YtnccefeehkcneaaGreatDoor.Jm
namespace Go.Proofs.YtnccefeehkcneaaGreatDoor.Jm
open Go Go.RowKit Go.Proofs.YtnccefeehkcneaaGreatDoor.Sx Go.Proofs.YtnccefeehkcneaaGreatDoor.Js Go.Proofs.YtnccefeehkcneaaGreatDoor.Gr Go.Proofs.YtnccefeehkcneaaGreatDoor.Ur
theorem lostT_len (s t u : ByteArray) : (lostT (readsS [s, t, u])).1.length ≤ 16777216 := by
  cases h : readsS [s, t, u] with
  | error e => exact Nat.zero_le _
  | ok js =>
    obtain ⟨x, y, z, rfl, ⟨wx, bx1⟩, -, wz, -⟩ := reads_tri h
    show (Qs.sortB ((lostJ x y z []).map wayT)).length ≤ _
    rw [Qs.sortB_len, List.length_map]
    have := lost_many _ x y z [] (Nat.le_refl _) wx wz
    have := bulk_obO x
    omega
set_option maxRecDepth 100000 in
set_option maxHeartbeats 8000000 in
theorem threeSays_walk (s t u : ByteArray) (w : World) (hm : MaxC w) (ht : Tab10 w) : Calls Tryz.prog 6 #[.string s, .string t, .string u] w fun e w' => e = .returned (.bool true) ∧ Ext w w' := by
  have hll := lostT_len s t u
  obtain ⟨T, hT⟩ : ∃ T, T = readsS [s, t, u] := ⟨_, rfl⟩
  have P0 : Hid (∀ W, Ext w W → Calls Tryz.prog 16 #[.string s, .string t, .string u] W fun e w' => e = .returned (.tuple #[.string (bx (mergeT T).1), .int .i64 (mergeT T).2]) ∧ Ext W w') := fun W hx => by rw [hT]; exact tmerge_any s t u W (ht.ext hx)
  have P1 : Hid (∀ W, Ext w W → Calls Tryz.prog 17 #[.string s, .string t, .string u] W (LostPost (lostT T) W)) := fun W hx => by rw [hT]; exact tlost_any s t u W (hm.ext hx)
  have R0 : Hid (∀ W, Ext w W → Calls Tryz.prog 18 #[.string s, .string t, .string u] W (RTm T W)) := fun W hx => by rw [hT]; exact rtmerge_any s t u W (hm.ext hx)
  rw [← hT] at hll
  have HLL := Lib.hid hll
  unfold LostPost at P1
  unfold RTm at R0
  obtain ⟨x0, hx0⟩ : ∃ x, x = bx (mergeT T).1 := ⟨_, rfl⟩
  obtain ⟨y0, hy0⟩ : ∃ y, y = (mergeT T).2 := ⟨_, rfl⟩
  obtain ⟨L, hL⟩ : ∃ L, L = (lostT T).1 := ⟨_, rfl⟩
  obtain ⟨y1, hy1⟩ : ∃ y, y = (lostT T).2 := ⟨_, rfl⟩
  rw [← hx0, ← hy0] at P0 R0
  rw [← hL, ← hy1] at P1 R0
  rw [← hL] at HLL
  obtain ⟨M, hM⟩ : ∃ M, M = L.length := ⟨_, rfl⟩
  have HMM := Lib.hid hM
  rw [← hM] at P1 R0
  have e0 : (x0.toList == x0.toList) = true := beq_self_eq_true _
  clear hx0 hy0 hL hy1 hT hm ht hll hM
  go_enter Tryz.func6, Tryz.ntmps6
  go_wp2_with fail
  refine Calls.mono (P0.out w (Below.refl _ _)) ?_
  rintro e w1 ⟨rfl, q1⟩
  have Q1 := Lib.hid q1
  clear q1
  go_wp2_with fail
  refine Calls.mono (P1.out w1 Q1.out) ?_
  rintro e w2 ⟨q2, A, c, rfl, hc, hA⟩
  have Q2 := Lib.hid (Q1.out.trans q2)
  have HA := Lib.hid hA
  clear q2 hA hc
  go_wp2_with fail
  refine Calls.mono (R0.out w2 Q2.out) ?_
  rintro e w3 ⟨q3, A2, c2, rfl, hc2, hA2⟩
  have Q3 := Lib.hid (Q2.out.trans q3)
  have CE : Hid (Calls Tryz.prog 19 #[.slice A M c, .slice A2 M c2] w3 fun e w' => e = .returned (.bool true) ∧ w3 = w') := by
    have h := eq_names (HA.out.ext q3) hA2 (c := c) (c' := c2) (by rw [List.length_map]; exact HLL.out)
    rw [List.length_map, ← HMM.out] at h
    exact h.mono fun e w' ⟨b, he, hb, hw⟩ => ⟨by rw [he, hb.2 rfl], hw⟩
  clear q3 hA2 hc2
  go_wp2_with fail
  refine Calls.mono CE.out ?_
  rintro e w4 ⟨rfl, rfl⟩
  go_wp2_with fail
  go_ret
  exact ⟨by simp, Q3.out⟩
end Go.Proofs.YtnccefeehkcneaaGreatDoor.Jm
