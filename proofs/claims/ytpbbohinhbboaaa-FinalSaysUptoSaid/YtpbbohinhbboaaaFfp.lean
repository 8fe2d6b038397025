/-
  The program's final.Free, where somebody of that name holds.
-/
import Derived.Test.YtpbbohinhbboaaaFde
import Derived.BigRegion
namespace Go.Proofs.Ytpbbohinhbboaaa.Sx
open Go Go.RowKit

theorem held_some {o : Thing} {h : ByteArray} {k : Nat} (hk : heldAt o h = some k) : ∃ hl : k < o.holds.length, o.holds[k] = h ∧ ∀ j (hj : j < k), eqS (o.holds[j]'(by omega)) h = false := by
  unfold heldAt at hk
  rw [List.findIdx?_eq_some_iff_getElem] at hk
  obtain ⟨hl, h1, h2⟩ := hk
  refine ⟨hl, (eqS_iff _ _).1 h1, fun j hj => ?_⟩
  have := h2 j hj
  simpa using this
theorem idx_some {o : Thing} {h : ByteArray} {k : Nat} (hk : heldAt o h = some k) : Lib.idxOfS o.holds h = k := by
  obtain ⟨hl, h1, h2⟩ := held_some hk
  have := Lib.idxOfS_hit o.holds o.holds.length k h hl (Nat.le_refl _) (by simpa [List.getD, hl] using h1) (fun j hj e => by
    have h3 := h2 j hj
    have h4 : o.holds[j]'(by omega) = h := by
      have : j < o.holds.length := by omega
      simpa [List.getD, this] using e
    rw [(eqS_iff _ _).2 h4] at h3
    cases h3)
  rwa [List.take_length] at this
theorem less_len {o : Thing} {k : Nat} (hk : k < o.holds.length) : (o.less k).holds.length = o.holds.length - 1 := by simp [Thing.less]; omega
theorem less_small {o : Thing} {k : Nat} (hs : o.small) : (o.less k).small := by
  refine ⟨hs.1, hs.2.1, ?_, ?_⟩
  · have := hs.2.2.1
    simp only [Thing.less, List.length_append, List.length_take, List.length_drop]
    omega
  · intro x hx
    simp only [Thing.less, List.mem_append] at hx
    rcases hx with hx | hx
    · exact hs.2.2.2 x (List.mem_of_mem_take hx)
    · exact hs.2.2.2 x (List.mem_of_mem_drop hx)
theorem free_good {w w' : World} {o : Thing} {h : ByteArray} {k : Nat} {b : Bool} {ul uo uh : Value} (he : heldAt o h = some k) (hb : b = (o.ending && decide ((o.less k).holds.length = 0))) (hf : (o.less k).fits w'.heap.size w' ul uo uh) (hx : Ext w w') : FreePost w o h (.returned (.tuple #[(o.less k).val ul uo uh, .bool b, .int .i64 0])) w' := by
  have e1 : freeO o h = o.less k := by unfold freeO; rw [he]
  have e2 : freeB o h = b := by unfold freeB; rw [he, hb]
  have e3 : freeE o h = 0 := by unfold freeE; rw [he]
  exact ⟨_, _, _, by rw [e1, e2, e3], by rw [e1]; exact hf, hx⟩
/-- The holds' row has shrunk where it stands. -/
theorem OwnT.cut {base n c : Nat} {X w4 : World} {o : Thing} {ul uo : Value} {g n' c' : Nat} {xs : List ByteArray} (h : OwnT base X o ul uo (.slice (some ⟨g, 0, none⟩) n c)) (hG : X.grownBy w4 (some g)) (hr : SRow base w4 (.slice (some ⟨g, 0, none⟩) n' c') xs) :
    OwnT base w4 { o with holds := xs } ul uo (.slice (some ⟨g, 0, none⟩) n' c') :=
  h.grow hG hr (.inl rfl)

set_option maxRecDepth 100000 in
set_option maxHeartbeats 4000000 in
theorem free_some' (B : Nat) (o : Thing) (vl vo vh : Value) (hd : ByteArray) (w : World) (k : Nat) (hB : B ≤ w.heap.size) (h : o.fits B w vl vo vh) (hk : heldAt o hd = some k) :
    Calls Try.prog 26 #[o.val vl vo vh, .string hd] w (FreePost w o hd) := by
  obtain ⟨hkl, _, _⟩ := held_some hk
  have HSM := Lib.hid (less_small (k := k) h.small)
  have hlen := h.small.2.2.1
  obtain ⟨w1, hw1, hx1, hg1, hz1, hs1⟩ := two_boxes w o vl vo vh
  obtain ⟨k1, hk1⟩ : ∃ k, k = w.heap.size := ⟨_, rfl⟩
  obtain ⟨k2, hk2⟩ : ∃ k, k = w.heap.size + 1 := ⟨_, rfl⟩
  rw [← hk1] at hg1
  rw [← hk2] at hz1
  have HF1 := Lib.hid (h.below (hx1.mono hB) (Nat.le_refl _))
  obtain ⟨L1, l1, L2, l2, L3, l3, rfl, rfl, rfl⟩ := h.slices
  have H1 := Lib.hid (And.intro hx1 (And.intro hg1 (And.intro hz1 hs1)))
  have HB1 : Hid (B ≤ w1.heap.size) := Nat.le_trans hB hx1.size
  obtain ⟨g0, g1, g2, g3, g4, g5, g6, g7, g8, g9⟩ := hg1.cells
  have HK := Lib.hid (And.intro hk1 hk2)
  have hne : k1 ≠ k2 := by omega
  have HH := Lib.hid hk
  have HL := Lib.hid hkl
  have d0 : decide ((k : Int) < 0) = false := decide_eq_false (by omega)
  have hwrap : IntKind.i64.wrap ((k : Int) + 1) = (k : Int) + 1 := IntWalk.i64_in _ (by omega)
  clear h hx1 hg1 hz1 hs1 hB hk
  unfold Thing.val
  go_enter Try.func26, Try.ntmps26
  go_upto_region 1 with fail
  rw [← hw1, ← hk2, ← hk1]
  clear hw1 hk1 hk2
  go_upto_region 4 with (go_at_call 73; refine (index_strs hd HF1.out.2.2).mono ?_; rw [idx_some HH.out]; rintro e w' ⟨rfl, rfl⟩)
  go_wp2_with fail
  refine Calls.mono (copy_thing B o _ _ _ _ HB1.out HF1.out) ?_
  rintro e w2 ⟨ul, uo, uh, rfl, hO, hx2⟩
  obtain ⟨A1, c1, A2, c2, A3, c3, rfl, rfl, rfl⟩ := hO.slices
  have hg2 := H1.out.2.1.ext hx2
  have hz2 := H1.out.2.2.1.ext hx2
  obtain ⟨W1, hW1, t1, t2⟩ := put_over hg2 o (.slice A1 o.labels.length c1) (.slice A2 o.owners.length c2) (.slice A3 o.holds.length c3)
  have HZ3 := Lib.hid (hz2.kept t2 (Ne.symm hne))
  have HT1 := Lib.hid t1
  have hkb : k1 < w1.heap.size ∧ k2 < w1.heap.size := by have h1 := HK.out; have h2 := H1.out.2.2.2; omega
  have HO1 := Lib.hid (hO.kept t2 hkb.1)
  have HKB := Lib.hid hkb
  have HX3 : Hid (Ext w W1) := (H1.out.1.trans hx2).grown t2 (Nat.le_trans H1.out.1.size hx2.size) (by intro k e; injection e with e; have := HK.out; omega)
  clear g0 g1 g2 g3 g4 g5 g6 g7 g8 g9
  obtain ⟨g0, g1, g2, g3, g4, g5, g6, g7, g8, g9⟩ := hg2.cells
  have fz := fun j => free_of hg2 j
  have e1 : (((((((((w2.setCell ⟨k1, 0, none⟩ (.string o.kind)).setCell ⟨k1, 1, none⟩ (.string o.space)).setCell ⟨k1, 2, none⟩ (.string o.name)).setCell ⟨k1, 3, none⟩ (.slice A1 o.labels.length c1)).setCell ⟨k1, 4, none⟩ (.slice A2 o.owners.length c2)).setCell ⟨k1, 5, none⟩ (.slice A3 o.holds.length c3)).setCell ⟨k1, 6, none⟩ (.bool o.ending)).setCell ⟨k1, 7, none⟩ (.string o.uid)).setCell ⟨k1, 8, none⟩ (.int .i64 o.rev)).setCell ⟨k1, 9, none⟩ (.string o.doc) = W1 := hW1.symm
  clear hW1 t1 t2 hkb hg2 hz2 hO hx2
  unfold Thing.val
  go_upto_region 5 with fail
  clear e1 fz g0 g1 g2 g3 g4 g5 g6 g7 g8 g9
  obtain ⟨g, rfl, hbg, _, _, _, _⟩ := HO1.out.2.2.1.cells (by omega)
  have g5 := HT1.out.cells.2.2.2.2.2.1
  have HBG := Lib.hid hbg
  clear hbg
  go_wp2_with fail
  refine Calls.mono (delete_row HO1.out.2.2.1 rfl HL.out) ?_
  rintro e w4 ⟨rfl, hr, hgr⟩
  obtain ⟨m, hm⟩ : ∃ m, m = o.holds.length - 1 := ⟨_, rfl⟩
  rw [← hm] at hr ⊢
  have HM : Hid (m = (o.less k).holds.length) := by unfold Hid; rw [less_len HL.out, hm]
  have hO4 : OwnT w1.heap.size w4 (o.less k) (.slice A1 o.labels.length c1) (.slice A2 o.owners.length c2) (.slice (some ⟨g, 0, none⟩) m c3) := HO1.out.cut hgr hr
  have hT4 := HT1.out.kept hgr (by intro e; injection e with e; have := HBG.out; have := HKB.out.1; omega)
  have hZ4 := HZ3.out.kept' hgr (by intro e; injection e with e; have := HBG.out; have := HKB.out.2; omega)
  have hX4 : Ext w w4 := HX3.out.grown hgr HX3.out.size (by intro q e; injection e with e; have := HBG.out; have := H1.out.1.size; omega)
  obtain ⟨W5, hW5, t1, t2⟩ := put_holds hT4 (.slice (some ⟨g, 0, none⟩) m c3)
  have HZ5 := Lib.hid (hZ4.kept t2 (Ne.symm hne))
  have HT5 := Lib.hid t1
  have HO5 := Lib.hid (hO4.kept t2 HKB.out.1)
  have HX5 : Hid (Ext w W5) := hX4.grown t2 hX4.size (by intro k e; injection e with e; have := HK.out; omega)
  have e5 : w4.setCell ⟨k1, 5, none⟩ (.slice (some ⟨g, 0, none⟩) m c3) = W5 := hW5.symm
  clear g5
  have g5 := hT4.cells.2.2.2.2.2.1
  have f5 := free_of hT4 5
  clear hW5 t1 t2 hO4 hT4 hZ4 hX4 hr hgr hm
  go_upto_region 6 with fail
  clear e5 g5 f5
  obtain ⟨g0, g1, g2, g3, g4, g5, g6, g7, g8, g9⟩ := HT5.out.cells
  obtain ⟨i0, i1, i2, i3, i4, i5, i6, i7, i8, i9⟩ := HZ5.out.free
  obtain ⟨j0, j1, j2, j3, j4, j5, j6, j7, j8, j9⟩ := HZ5.out.cells
  obtain ⟨b, hb⟩ : ∃ b, b = o.ending := ⟨_, rfl⟩
  have HEB := Lib.hid hb
  rw [← hb] at g6
  clear hb
  cases b with
  | false =>
    obtain ⟨W', hW', t1, t2⟩ := put_zero HZ5.out (o.less k) (.slice A1 o.labels.length c1) (.slice A2 o.owners.length c2) (.slice (some ⟨g, 0, none⟩) m c3)
    have e' : (((((((((W5.setCell ⟨k2, 0, none⟩ (.string o.kind)).setCell ⟨k2, 1, none⟩ (.string o.space)).setCell ⟨k2, 2, none⟩ (.string o.name)).setCell ⟨k2, 3, none⟩ (.slice A1 o.labels.length c1)).setCell ⟨k2, 4, none⟩ (.slice A2 o.owners.length c2)).setCell ⟨k2, 5, none⟩ (.slice (some ⟨g, 0, none⟩) m c3)).setCell ⟨k2, 6, none⟩ (.bool false)).setCell ⟨k2, 7, none⟩ (.string o.uid)).setCell ⟨k2, 8, none⟩ (.int .i64 o.rev)).setCell ⟨k2, 9, none⟩ (.string o.doc) = W' := by rw [hW']; unfold Thing.vals Thing.less; simp only; rw [← HEB.out]; rfl
    have hxd : Ext W' W'.drew := ⟨rfl, rfl, rfl, Nat.le_refl _, fun _ _ => rfl⟩
    have T1 : Hid (ThingIn W'.drew k2 (o.less k) (.slice A1 o.labels.length c1) (.slice A2 o.owners.length c2) (.slice (some ⟨g, 0, none⟩) m c3)) := t1
    have HX9 : Hid (Ext w W'.drew) := Ext.trans (show Ext w W' from HX5.out.grown t2 HX5.out.size (by intro k e; injection e with e; have := HK.out; omega)) hxd
    have HF9 := Lib.hid (((HO5.out.kept t2 HKB.out.2).ext hxd).fits HSM.out)
    have hT9 := HT5.out.kept t2 (by intro e; injection e with e; exact hne e.symm)
    have q5 := hT9.cells.2.2.2.2.2.1
    have q6 := hT9.cells.2.2.2.2.2.2.1
    rw [← HEB.out] at q6
    clear hW' t1 t2 hxd hT9
    go_region
    try rw [e']
    go_wp2
    refine bodyPost_ret (results_ctt rfl _ _ k2 rfl T1.out) rfl ?_
    exact free_good HH.out (by rw [← HEB.out]; rfl) HF9.out HX9.out
  | true =>
    by_cases hm0 : m = 0
    · have b1 : (((m : Nat) : Int) == 0) = true := by simp [hm0]
      have HM0 := Lib.hid hm0
      clear hm0
      obtain ⟨W', hW', t1, t2⟩ := put_zero HZ5.out (o.less k) (.slice A1 o.labels.length c1) (.slice A2 o.owners.length c2) (.slice (some ⟨g, 0, none⟩) m c3)
      have e' : (((((((((W5.setCell ⟨k2, 0, none⟩ (.string o.kind)).setCell ⟨k2, 1, none⟩ (.string o.space)).setCell ⟨k2, 2, none⟩ (.string o.name)).setCell ⟨k2, 3, none⟩ (.slice A1 o.labels.length c1)).setCell ⟨k2, 4, none⟩ (.slice A2 o.owners.length c2)).setCell ⟨k2, 5, none⟩ (.slice (some ⟨g, 0, none⟩) m c3)).setCell ⟨k2, 6, none⟩ (.bool true)).setCell ⟨k2, 7, none⟩ (.string o.uid)).setCell ⟨k2, 8, none⟩ (.int .i64 o.rev)).setCell ⟨k2, 9, none⟩ (.string o.doc) = W' := by rw [hW']; unfold Thing.vals Thing.less; simp only; rw [← HEB.out]; rfl
      have hxd : Ext W' W'.drew := ⟨rfl, rfl, rfl, Nat.le_refl _, fun _ _ => rfl⟩
      have T1 : Hid (ThingIn W'.drew k2 (o.less k) (.slice A1 o.labels.length c1) (.slice A2 o.owners.length c2) (.slice (some ⟨g, 0, none⟩) m c3)) := t1
      have HX9 : Hid (Ext w W'.drew) := Ext.trans (show Ext w W' from HX5.out.grown t2 HX5.out.size (by intro k e; injection e with e; have := HK.out; omega)) hxd
      have HF9 := Lib.hid (((HO5.out.kept t2 HKB.out.2).ext hxd).fits HSM.out)
      have hT9 := HT5.out.kept t2 (by intro e; injection e with e; exact hne e.symm)
      have q5 := hT9.cells.2.2.2.2.2.1
      have q6 := hT9.cells.2.2.2.2.2.2.1
      rw [← HEB.out] at q6
      clear hW' t1 t2 hxd hT9
      go_region
      try rw [e']
      go_wp2
      refine bodyPost_ret (results_ctt rfl _ _ k2 rfl T1.out) rfl ?_
      exact free_good HH.out (by rw [← HEB.out, Bool.true_and]; exact (decide_eq_true (HM.out.symm.trans HM0.out)).symm) HF9.out HX9.out
    · have b1 : (((m : Nat) : Int) == 0) = false := beq_eq_false_iff_ne.2 (by omega)
      have HM0 := Lib.hid hm0
      clear hm0
      obtain ⟨W', hW', t1, t2⟩ := put_zero HZ5.out (o.less k) (.slice A1 o.labels.length c1) (.slice A2 o.owners.length c2) (.slice (some ⟨g, 0, none⟩) m c3)
      have e' : (((((((((W5.setCell ⟨k2, 0, none⟩ (.string o.kind)).setCell ⟨k2, 1, none⟩ (.string o.space)).setCell ⟨k2, 2, none⟩ (.string o.name)).setCell ⟨k2, 3, none⟩ (.slice A1 o.labels.length c1)).setCell ⟨k2, 4, none⟩ (.slice A2 o.owners.length c2)).setCell ⟨k2, 5, none⟩ (.slice (some ⟨g, 0, none⟩) m c3)).setCell ⟨k2, 6, none⟩ (.bool true)).setCell ⟨k2, 7, none⟩ (.string o.uid)).setCell ⟨k2, 8, none⟩ (.int .i64 o.rev)).setCell ⟨k2, 9, none⟩ (.string o.doc) = W' := by rw [hW']; unfold Thing.vals Thing.less; simp only; rw [← HEB.out]; rfl
      have hxd : Ext W' W'.drew := ⟨rfl, rfl, rfl, Nat.le_refl _, fun _ _ => rfl⟩
      have T1 : Hid (ThingIn W'.drew k2 (o.less k) (.slice A1 o.labels.length c1) (.slice A2 o.owners.length c2) (.slice (some ⟨g, 0, none⟩) m c3)) := t1
      have HX9 : Hid (Ext w W'.drew) := Ext.trans (show Ext w W' from HX5.out.grown t2 HX5.out.size (by intro k e; injection e with e; have := HK.out; omega)) hxd
      have HF9 := Lib.hid (((HO5.out.kept t2 HKB.out.2).ext hxd).fits HSM.out)
      have hT9 := HT5.out.kept t2 (by intro e; injection e with e; exact hne e.symm)
      have q5 := hT9.cells.2.2.2.2.2.1
      have q6 := hT9.cells.2.2.2.2.2.2.1
      rw [← HEB.out] at q6
      clear hW' t1 t2 hxd hT9
      go_region
      try rw [e']
      go_wp2
      refine bodyPost_ret (results_ctt rfl _ _ k2 rfl T1.out) rfl ?_
      exact free_good HH.out (by rw [← HEB.out, Bool.true_and]; exact (decide_eq_false fun e => HM0.out (HM.out.trans e)).symm) HF9.out HX9.out
end Go.Proofs.Ytpbbohinhbboaaa.Sx
