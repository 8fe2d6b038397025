/-
  FinalFree, where somebody of that name holds.
-/
import Derived.Test.YtpbbohinhbboaaaFal
import Derived.Deep.RegionHeld3
namespace Go.Proofs.Ytpbbohinhbboaaa.Sx
open Go Go.RowKit

theorem step_append_srs2 {ops : Array Oper} {o : Oper} {a : Act} {K : Act → World → Prop} {Q : Exit → Act → World → Prop} {E : Prop} (hgd : o.guard = none) (s x : Operand)
    (ho : o.op = .call { callee := .builtin .append, args := #[s, x], argTypes := #[52, 52] }) (base nm : Nat) (w : World) (v y : Value) (zs ys all : List ByteArray)
    (hs : a.eval s = v) (hx : a.eval x = y) (hrow : SRow base w v zs) (hy : SrcS w y ys) (hall : zs ++ ys = all) (hn : all.length = nm) (hs1 : nm ≤ 1099511627776) (hbase : base ≤ w.heap.size)
    (h : ∀ A c w', SRow base w' (.slice A nm c) all → w.grownBy w' v.ownBlock → K (a.put o.dst (.slice A nm c)) w') : if Region.wanted o (yielded ops a.tmps) = true then Oper.wp Try.prog o a w K Q else E := by
  subst hall hn
  rw [List.length_append] at h hs1
  exact step_append_srs hgd s x ho base zs.length ys.length w v y zs ys hs hx hrow hy rfl rfl (by omega) (by omega) hbase fun A c w' h1 h2 _ => h A c w' h1 h2

set_option maxRecDepth 100000 in
set_option maxHeartbeats 4000000 in
theorem rfree_some' (B : Nat) (o : Thing) (vl vo : Value) (L3 : Option Addr) (l3 : Nat) (hd : ByteArray) (w : World) (k : Nat) (hB : B ≤ w.heap.size) (h : o.fits B w vl vo (.slice L3 o.holds.length l3)) (hcap : o.holds.length ≤ l3) (hno : heldAt o hd = some k) :
    Calls Try.prog 27 #[o.val vl vo (.slice L3 o.holds.length l3), .string hd] w (FreePost w o hd) := by
  have hE : Hid (∀ a b, (a.toList == b.toList) = eqS a b) := fun a b => rfl
  obtain ⟨w1, hw1, hx1, hg1, hz1, hs1⟩ := two_boxes w o vl vo (.slice L3 o.holds.length l3)
  obtain ⟨k1, hk1⟩ : ∃ k, k = w.heap.size := ⟨_, rfl⟩
  obtain ⟨k2, hk2⟩ : ∃ k, k = w.heap.size + 1 := ⟨_, rfl⟩
  rw [← hk1] at hg1
  rw [← hk2] at hz1
  have HF0 := Lib.hid (And.intro h hB)
  have HF1 := Lib.hid (h.below (hx1.mono hB) (Nat.le_refl _))
  obtain ⟨L1, l1, L2, l2, _, _, rfl, rfl, _⟩ := h.slices
  have H1 := Lib.hid (And.intro hx1 (And.intro hg1 (And.intro hz1 hs1)))
  obtain ⟨g0, g1, g2, g3, g4, g5, g6, g7, g8, g9⟩ := hg1.cells
  have f5 := free_of hg1 5
  have HK := Lib.hid (And.intro hk1 hk2)
  have hne : k1 ≠ k2 := by omega
  have HN := Lib.hid hno
  obtain ⟨hkl, hkv, hkn⟩ := held_some hno
  have HKN := Lib.hid hkn
  have HKV := Lib.hid hkv
  have HSM := Lib.hid (less_small (k := k) h.small)
  have hlen := h.small.2.2.1
  obtain ⟨b3, off3, c3', hv3, _, hc3⟩ := StrsR.cells HF1.out.2.2 (by omega)
  clear hc3
  injection hv3 with q1 _ q3
  subst q1 q3
  clear h hx1 hg1 hz1 hs1 hB hno hkn hkv
  unfold Thing.val
  go_enter Try.func27, Try.ntmps27
  go_upto_region 1 with fail
  rw [← hw1, ← hk2, ← hk1]
  clear hw1 hk1 hk2
  go_wp2
  go_loopw [7, 8, 12] (fun _ _ q wr => ∃ j : Nat, j ≤ k ∧ q = .int .i64 (j : Int) ∧ wr = w1) (fun _ _ q _ => k - (intOf q).toNat)
  case atStart => exact ⟨0, Nat.zero_le _, rfl, rfl⟩
  case round =>
    obtain ⟨j, hj, rfl, rfl⟩ := hrel
    obtain ⟨b, off, c2, hv, _, hc⟩ := StrsR.cells HF1.out.2.2 (by omega)
    injection hv with q1 q2 q3
    injection q1 with q1
    injection q1 with q1 q4
    subst q1 q3 q4
    have hjl : j < o.holds.length := by omega
    have c1 := (hc j hjl).1
    by_cases hlt : j < k
    · have b1 : (o.holds[j].toList == hd.toList) = false := by rw [hE.out]; exact HKN.out j hlt
      obtain ⟨x, hx⟩ : ∃ x, x = o.holds[j] := ⟨_, rfl⟩
      rw [← hx] at c1 b1
      clear hx hc q2
      go_wp2
      go_roundw
      case rel => exact ⟨j + 1, hlt, by go_num, (by first | rfl | trivial)⟩
      case measure => simp [intOf]; omega
    · obtain rfl : j = k := by omega
      have b1 : (o.holds[j].toList == hd.toList) = true := by rw [HKV.out]; simp
      obtain ⟨x, hx⟩ : ∃ x, x = o.holds[j] := ⟨_, rfl⟩
      rw [← hx] at c1 b1
      clear hx hc q2 hlt
      go_upto_region 5 with fail
      clear c1 b1
      have hjlI : (j : Int) < (o.holds.length : Int) := by omega
      have hjc : (j : Int) ≤ (l3 : Int) := by omega
      have hkb : k1 < wr.heap.size ∧ k2 < wr.heap.size := by have h1 := HK.out; have h2 := H1.out.2.2.2; omega
      have HKB := Lib.hid hkb
      obtain ⟨n, hn⟩ : ∃ n, n = o.holds.length := ⟨_, rfl⟩
      obtain ⟨m, hm⟩ : ∃ m, m = o.holds.length - 1 := ⟨_, rfl⟩
      have HM : Hid (m = (o.less j).holds.length) := by unfold Hid; rw [less_len hjl, hm]
      have HMS : Hid (m ≤ 1099511627776) := by unfold Hid; omega
      obtain ⟨ad, had, hsrc⟩ := strs_suffix (l := j + 1) HF1.out.2.2 (by omega) hcap
      have hsl : ∀ wx, (Instr.slice 52 (.slice (some ⟨b3, off3, none⟩) o.holds.length l3) (some (.int .i64 ((j : Int) + 1))) none none).run Try.prog wx = .ok (.slice (some ad) (o.holds.length - (j + 1)) (l3 - (j + 1))) wx := fun wx => by
        have h := run_slice_l (P := Try.prog) (w := wx) 52 (some ⟨b3, off3, none⟩) o.holds.length l3 Try.underlying52 .i64 ((j : Int) + 1) (by omega) (by omega)
        rw [h]
        have e1 : (sizeOf (Try.prog.elem 52)).run Try.prog wx = .ok 1 wx := by kernel_rfl
        rw [e1]
        have e2 : ((j : Int) + 1).toNat = j + 1 := by omega
        simp only [Result.andThen, e2, had]
      have HSRC := Lib.hid hsrc
      have CC : Hid (∀ wk, Ext wr wk → Calls Try.prog 72 #[.slice (some ⟨b3, off3, none⟩) j l3] wk fun e w' => ∃ A c, e = .returned (.slice A j c) ∧ Hid (SRow wr.heap.size w' (.slice A j c) (o.holds.take j) ∧ SrcS w' (.slice (some ad) (o.holds.length - (j + 1)) (l3 - (j + 1))) (o.holds.drop (j + 1)) ∧
          ThingIn w' k1 o (.slice L1 o.labels.length l1) (.slice L2 o.owners.length l2) (.slice (some ⟨b3, off3, none⟩) o.holds.length l3) ∧ Ext wr w') ∧ w'.cell? ⟨k1, 5, none⟩ = some (.slice (some ⟨b3, off3, none⟩) o.holds.length l3) ∧ w'.frozen? ⟨k1, 5, none⟩ = false) := fun wk hk => by
        have hl : (o.holds.take j).length = j := by rw [List.length_take]; omega
        have hpre := (strs_prefix HF1.out.2.2 (Nat.le_of_lt hjl)).ext hk
        refine (copyS_any wr.heap.size _ _ wk hpre (by rw [hl]; omega) hk.size).mono fun e w' ⟨A, c, he, hrow, hx, _⟩ => ?_
        rw [hl] at he hrow
        have hT := H1.out.2.1.ext (hk.trans hx)
        exact ⟨A, c, he, ⟨hrow, (HSRC.out.ext hk).ext hx, hT, hk.trans hx⟩, hT.cells.2.2.2.2.2.1, free_of hT 5⟩
      have HALL : Hid (o.holds.take j ++ o.holds.drop (j + 1) = (o.less j).holds) := rfl
      have hwrap : IntKind.i64.wrap ((j : Int) + 1) = (j : Int) + 1 := IntWalk.i64_in _ (by omega)
      have hxx : Ext wr wr := Below.refl _ _
      have hj0 : (0 : Int) ≤ (j : Int) := by omega
      clear had hsrc hcap g0 g1 g2 g3 g4 g6 g7 g8 g9 hkb hn hm
      go_region_law (first
        | (go_simp; go_at_call 72; with_reducible refine (CC.out _ (by first | assumption | (apply Below.drew; assumption))).mono ?_; rintro e w5 ⟨A5, c5, rfl, U, r5, s5⟩)
        | (refine step_append_srs2 (by rfl) _ _ (by rfl) wr.heap.size m _ _ _ _ _ _ (by rfl) (by rfl) U.out.1 U.out.2.1 HALL.out HM.out.symm HMS.out U.out.2.2.2.size ?_; intro A9 c9 w9 h91 h92; have hT9 := U.out.2.2.1.kept h92 (fun e => by have := (U.out.1.block _ e).1; have := HKB.out.1; omega); have r9 := hT9.cells.2.2.2.2.2.1; have s9 := free_of hT9 5))
      all_goals
        have hZ9 := (H1.out.2.2.1.ext U.out.2.2.2).kept' h92 (fun e => by have := (U.out.1.block _ e).1; have := HKB.out.2; omega)
        have hX9 : Ext w w9 := (H1.out.1.trans U.out.2.2.2).grown h92 (Nat.le_trans H1.out.1.size U.out.2.2.2.size) (fun q e => by have := (U.out.1.block _ e).1; have := H1.out.1.size; omega)
        obtain ⟨W5, hW5, t1, t2⟩ := put_holds hT9 (.slice A9 m c9)
        have HZ5 := Lib.hid (hZ9.kept t2 (Ne.symm hne))
        have HT5 := Lib.hid t1
        have HO5 := Lib.hid (h91.kept t2 fun q e h2 => by have := (h91.block q e).1; have := HKB.out.1; injection h2 with h2; omega)
        have HX5 : Hid (Ext w W5) := hX9.grown t2 hX9.size (by intro k e; injection e with e; have := HK.out; omega)
        have e5 : w9.setCell ⟨k1, 5, none⟩ (.slice A9 m c9) = W5 := hW5.symm
        rw [e5]
        clear e5 hW5 t1 t2 hZ9 hX9 hT9 h91 h92 r9 s9 r5 s5 g5 f5 hxx hsl hwrap
        obtain ⟨g0, g1, g2, g3, g4, g5, g6, g7, g8, g9⟩ := HT5.out.cells
        obtain ⟨i0, i1, i2, i3, i4, i5, i6, i7, i8, i9⟩ := HZ5.out.free
        obtain ⟨j0, j1, j2, j3, j4, j5, j6, j7, j8, j9⟩ := HZ5.out.cells
        obtain ⟨b, hb⟩ : ∃ b, b = o.ending := ⟨_, rfl⟩
        have HEB := Lib.hid hb
        rw [← hb] at g6
        clear hb
        go_upto_region 6 with fail
        cases b with
        | false =>
          obtain ⟨W', hW', t1, t2⟩ := put_zero HZ5.out (o.less j) (.slice L1 o.labels.length l1) (.slice L2 o.owners.length l2) (.slice A9 m c9)
          have e' : (((((((((W5.setCell ⟨k2, 0, none⟩ (.string o.kind)).setCell ⟨k2, 1, none⟩ (.string o.space)).setCell ⟨k2, 2, none⟩ (.string o.name)).setCell ⟨k2, 3, none⟩ (.slice L1 o.labels.length l1)).setCell ⟨k2, 4, none⟩ (.slice L2 o.owners.length l2)).setCell ⟨k2, 5, none⟩ (.slice A9 m c9)).setCell ⟨k2, 6, none⟩ (.bool false)).setCell ⟨k2, 7, none⟩ (.string o.uid)).setCell ⟨k2, 8, none⟩ (.int .i64 o.rev)).setCell ⟨k2, 9, none⟩ (.string o.doc) = W' := by rw [hW']; unfold Thing.vals Thing.less; simp only; rw [← HEB.out]; rfl
          have hxd : Ext W' W'.drew := ⟨rfl, rfl, rfl, Nat.le_refl _, fun _ _ => rfl⟩
          have T1 : Hid (ThingIn W'.drew k2 (o.less j) (.slice L1 o.labels.length l1) (.slice L2 o.owners.length l2) (.slice A9 m c9)) := t1
          have hX9 : Ext w W'.drew := Ext.trans (show Ext w W' from HX5.out.grown t2 HX5.out.size (by intro k e; injection e with e; have := HK.out; omega)) hxd
          have HX9 := Lib.hid hX9
          have hr9 := (HO5.out.kept t2 fun q e h2 => by have := (HO5.out.block q e).1; have := HKB.out.2; injection h2 with h2; omega).ext hxd
          have hf9 := HF0.out.1.below (hX9.mono HF0.out.2) (Nat.le_trans HF0.out.2 hX9.size)
          have HF9 : Hid ((o.less j).fits W'.drew.heap.size W'.drew (.slice L1 o.labels.length l1) (.slice L2 o.owners.length l2) (.slice A9 m c9)) := ⟨hf9.1, hf9.2.1, hr9.strs HSM.out.2.2.1 HSM.out.2.2.2⟩
          have hT9 := HT5.out.kept t2 (by intro e; injection e with e; exact hne e.symm)
          have q5 := hT9.cells.2.2.2.2.2.1
          have q6 := hT9.cells.2.2.2.2.2.2.1
          rw [← HEB.out] at q6
          clear hW' t1 t2 hxd hT9 hX9 hr9 hf9
          go_region
          try rw [e']
          go_wp2
          refine bodyPost_ret (results_ctt rfl _ _ k2 rfl T1.out) rfl ?_
          exact free_good HN.out (by rw [← HEB.out]; rfl) HF9.out HX9.out
        | true =>
          by_cases hm0 : m = 0
          · have b1 : (((m : Nat) : Int) == 0) = true := by simp [hm0]
            have HM0 := Lib.hid hm0
            clear hm0
            obtain ⟨W', hW', t1, t2⟩ := put_zero HZ5.out (o.less j) (.slice L1 o.labels.length l1) (.slice L2 o.owners.length l2) (.slice A9 m c9)
            have e' : (((((((((W5.setCell ⟨k2, 0, none⟩ (.string o.kind)).setCell ⟨k2, 1, none⟩ (.string o.space)).setCell ⟨k2, 2, none⟩ (.string o.name)).setCell ⟨k2, 3, none⟩ (.slice L1 o.labels.length l1)).setCell ⟨k2, 4, none⟩ (.slice L2 o.owners.length l2)).setCell ⟨k2, 5, none⟩ (.slice A9 m c9)).setCell ⟨k2, 6, none⟩ (.bool true)).setCell ⟨k2, 7, none⟩ (.string o.uid)).setCell ⟨k2, 8, none⟩ (.int .i64 o.rev)).setCell ⟨k2, 9, none⟩ (.string o.doc) = W' := by rw [hW']; unfold Thing.vals Thing.less; simp only; rw [← HEB.out]; rfl
            have hxd : Ext W' W'.drew := ⟨rfl, rfl, rfl, Nat.le_refl _, fun _ _ => rfl⟩
            have T1 : Hid (ThingIn W'.drew k2 (o.less j) (.slice L1 o.labels.length l1) (.slice L2 o.owners.length l2) (.slice A9 m c9)) := t1
            have hX9 : Ext w W'.drew := Ext.trans (show Ext w W' from HX5.out.grown t2 HX5.out.size (by intro k e; injection e with e; have := HK.out; omega)) hxd
            have HX9 := Lib.hid hX9
            have hr9 := (HO5.out.kept t2 fun q e h2 => by have := (HO5.out.block q e).1; have := HKB.out.2; injection h2 with h2; omega).ext hxd
            have hf9 := HF0.out.1.below (hX9.mono HF0.out.2) (Nat.le_trans HF0.out.2 hX9.size)
            have HF9 : Hid ((o.less j).fits W'.drew.heap.size W'.drew (.slice L1 o.labels.length l1) (.slice L2 o.owners.length l2) (.slice A9 m c9)) := ⟨hf9.1, hf9.2.1, hr9.strs HSM.out.2.2.1 HSM.out.2.2.2⟩
            have hT9 := HT5.out.kept t2 (by intro e; injection e with e; exact hne e.symm)
            have q5 := hT9.cells.2.2.2.2.2.1
            have q6 := hT9.cells.2.2.2.2.2.2.1
            rw [← HEB.out] at q6
            clear hW' t1 t2 hxd hT9 hX9 hr9 hf9
            go_region
            try rw [e']
            go_wp2
            refine bodyPost_ret (results_ctt rfl _ _ k2 rfl T1.out) rfl ?_
            exact free_good HN.out (by rw [← HEB.out, Bool.true_and]; exact (decide_eq_true (HM.out.symm.trans HM0.out)).symm) HF9.out HX9.out
          · have b1 : (((m : Nat) : Int) == 0) = false := beq_eq_false_iff_ne.2 (by omega)
            have HM0 := Lib.hid hm0
            clear hm0
            obtain ⟨W', hW', t1, t2⟩ := put_zero HZ5.out (o.less j) (.slice L1 o.labels.length l1) (.slice L2 o.owners.length l2) (.slice A9 m c9)
            have e' : (((((((((W5.setCell ⟨k2, 0, none⟩ (.string o.kind)).setCell ⟨k2, 1, none⟩ (.string o.space)).setCell ⟨k2, 2, none⟩ (.string o.name)).setCell ⟨k2, 3, none⟩ (.slice L1 o.labels.length l1)).setCell ⟨k2, 4, none⟩ (.slice L2 o.owners.length l2)).setCell ⟨k2, 5, none⟩ (.slice A9 m c9)).setCell ⟨k2, 6, none⟩ (.bool true)).setCell ⟨k2, 7, none⟩ (.string o.uid)).setCell ⟨k2, 8, none⟩ (.int .i64 o.rev)).setCell ⟨k2, 9, none⟩ (.string o.doc) = W' := by rw [hW']; unfold Thing.vals Thing.less; simp only; rw [← HEB.out]; rfl
            have hxd : Ext W' W'.drew := ⟨rfl, rfl, rfl, Nat.le_refl _, fun _ _ => rfl⟩
            have T1 : Hid (ThingIn W'.drew k2 (o.less j) (.slice L1 o.labels.length l1) (.slice L2 o.owners.length l2) (.slice A9 m c9)) := t1
            have hX9 : Ext w W'.drew := Ext.trans (show Ext w W' from HX5.out.grown t2 HX5.out.size (by intro k e; injection e with e; have := HK.out; omega)) hxd
            have HX9 := Lib.hid hX9
            have hr9 := (HO5.out.kept t2 fun q e h2 => by have := (HO5.out.block q e).1; have := HKB.out.2; injection h2 with h2; omega).ext hxd
            have hf9 := HF0.out.1.below (hX9.mono HF0.out.2) (Nat.le_trans HF0.out.2 hX9.size)
            have HF9 : Hid ((o.less j).fits W'.drew.heap.size W'.drew (.slice L1 o.labels.length l1) (.slice L2 o.owners.length l2) (.slice A9 m c9)) := ⟨hf9.1, hf9.2.1, hr9.strs HSM.out.2.2.1 HSM.out.2.2.2⟩
            have hT9 := HT5.out.kept t2 (by intro e; injection e with e; exact hne e.symm)
            have q5 := hT9.cells.2.2.2.2.2.1
            have q6 := hT9.cells.2.2.2.2.2.2.1
            rw [← HEB.out] at q6
            clear hW' t1 t2 hxd hT9 hX9 hr9 hf9
            go_region
            try rw [e']
            go_wp2
            refine bodyPost_ret (results_ctt rfl _ _ k2 rfl T1.out) rfl ?_
            exact free_good HN.out (by rw [← HEB.out, Bool.true_and]; exact (decide_eq_false fun e => HM0.out (HM.out.trans e)).symm) HF9.out HX9.out
theorem rfree_all (B : Nat) (o : Thing) (vl vo : Value) (L3 : Option Addr) (l3 : Nat) (hd : ByteArray) (w : World) (hB : B ≤ w.heap.size) (h : o.fits B w vl vo (.slice L3 o.holds.length l3)) (hcap : o.holds.length ≤ l3) :
    Calls Try.prog 27 #[o.val vl vo (.slice L3 o.holds.length l3), .string hd] w (FreePost w o hd) := by
  cases hk : heldAt o hd with
  | none => exact rfree_none' B o vl vo _ hd w hB h hk
  | some k => exact rfree_some' B o vl vo L3 l3 hd w k hB h hcap hk
end Go.Proofs.Ytpbbohinhbboaaa.Sx
