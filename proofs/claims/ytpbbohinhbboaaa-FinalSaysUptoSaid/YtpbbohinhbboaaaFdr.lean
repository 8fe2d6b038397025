/-
  The reference's FinalDelete.
-/
import Derived.Test.YtpbbohinhbboaaaFdl
namespace Go.Proofs.Ytpbbohinhbboaaa.Sx
open Go Go.RowKit

theorem endO_ends {o : Thing} {x : Bool} (h : x = if o.holds.length = 0 then o.ending else true) : endO o = o.ends x := by rw [h]; rfl

set_option maxRecDepth 100000 in
set_option maxHeartbeats 4000000 in
theorem rdelete_any (B : Nat) (o : Thing) (vl vo vh : Value) (w : World) (hB : B ≤ w.heap.size) (h : o.fits B w vl vo vh) :
    Calls Try.prog 23 #[o.val vl vo vh] w (DelPost w o) := by
  obtain ⟨w1, hw1, hx1, hg1, hz1, hs1⟩ := two_boxes w o vl vo vh
  obtain ⟨k1, hk1⟩ : ∃ k, k = w.heap.size := ⟨_, rfl⟩
  obtain ⟨k2, hk2⟩ : ∃ k, k = w.heap.size + 1 := ⟨_, rfl⟩
  rw [← hk1] at hg1
  rw [← hk2] at hz1
  have HF := Lib.hid h
  obtain ⟨L1, l1, L2, l2, L3, l3, rfl, rfl, rfl⟩ := h.slices
  have H1 := Lib.hid (And.intro hx1 (And.intro hg1 (And.intro hz1 hs1)))
  obtain ⟨g0, g1, g2, g3, g4, g5, g6, g7, g8, g9⟩ := hg1.cells
  have f6 := free_of hg1 6
  have HK := Lib.hid (And.intro hk1 hk2)
  have hne : k1 ≠ k2 := by omega
  have HNE := Lib.hid hne
  have HB := Lib.hid hB
  obtain ⟨b, hb⟩ : ∃ b, b = o.ending := ⟨_, rfl⟩
  have HEB := Lib.hid hb
  rw [← hb] at g6
  clear h hx1 hg1 hz1 hs1 hb hB
  unfold Thing.val
  go_enter Try.func23, Try.ntmps23
  go_upto_region 1 with fail
  rw [← hw1, ← hk2, ← hk1]
  clear hw1 hk1 hk2
  by_cases h0 : o.holds.length = 0
  · have b1 : (((o.holds.length : Nat) : Int) == 0) = true := by simp [h0]
    have HD : Hid (decide (o.holds.length = 0) = true) := decide_eq_true h0
    have H0 := Lib.hid h0
    clear h0
    cases b with
    | true =>
      have HE : Hid (endO o = o.ends true) := endO_ends (by rw [if_pos H0.out]; exact HEB.out)
      obtain ⟨W2, hW2, s1, s2⟩ := put_ends H1.out.2.1 true
      have e2 : w1.setCell ⟨k1, 6, none⟩ (.bool true) = W2 := hW2.symm
      have hz4 := H1.out.2.2.1.kept s2 (Ne.symm HNE.out)
      have HX4 : Hid (Ext w W2) := H1.out.1.grown s2 H1.out.1.size (by intro k e; injection e with e; have := HK.out; omega)
      have S1 := Lib.hid s1
      have Z4 := Lib.hid hz4
      clear hW2 s1 s2 hz4
      go_upto_region 3 with fail
      clear e2 g0 g1 g2 g3 g4 g5 g6 g7 g8 g9 f6
      obtain ⟨g0, g1, g2, g3, g4, g5, g6, g7, g8, g9⟩ := S1.out.cells
      obtain ⟨i0, i1, i2, i3, i4, i5, i6, i7, i8, i9⟩ := Z4.out.free
      obtain ⟨j0, j1, j2, j3, j4, j5, j6, j7, j8, j9⟩ := Z4.out.cells
      simp only [Thing.ends] at g0 g1 g2 g6 g7 g8 g9
      go_wp2
      obtain ⟨W', hW', t1, t2⟩ := put_zero Z4.out (o.ends true) (.slice L1 o.labels.length l1) (.slice L2 o.owners.length l2) (.slice L3 o.holds.length l3)
      have e' : (((((((((W2.setCell ⟨k2, 0, none⟩ (.string o.kind)).setCell ⟨k2, 1, none⟩ (.string o.space)).setCell ⟨k2, 2, none⟩ (.string o.name)).setCell ⟨k2, 3, none⟩ (.slice L1 o.labels.length l1)).setCell ⟨k2, 4, none⟩ (.slice L2 o.owners.length l2)).setCell ⟨k2, 5, none⟩ (.slice L3 o.holds.length l3)).setCell ⟨k2, 6, none⟩ (.bool true)).setCell ⟨k2, 7, none⟩ (.string o.uid)).setCell ⟨k2, 8, none⟩ (.int .i64 o.rev)).setCell ⟨k2, 9, none⟩ (.string o.doc) = W' := hW'.symm
      rw [e']
      refine bodyPost_ret (results_ct rfl _ _ k2 rfl t1) rfl ?_
      have HX9 : Ext w W' := HX4.out.grown t2 HX4.out.size (by intro k e; injection e with e; have := HK.out; omega)
      refine ⟨_, _, _, by rw [HE.out, HD.out]; rfl, ?_, HX9⟩
      rw [HE.out]
      exact HF.out.below (HX9.mono HB.out) (Nat.le_trans HB.out HX9.size)
    | false =>
      have HE : Hid (endO o = o.ends false) := endO_ends (by rw [if_pos H0.out]; exact HEB.out)
      obtain ⟨W2, hW2, s1, s2⟩ := put_ends H1.out.2.1 false
      have e2 : w1.setCell ⟨k1, 6, none⟩ (.bool false) = W2 := hW2.symm
      have hz4 := H1.out.2.2.1.kept s2 (Ne.symm HNE.out)
      have HX4 : Hid (Ext w W2) := H1.out.1.grown s2 H1.out.1.size (by intro k e; injection e with e; have := HK.out; omega)
      have S1 := Lib.hid s1
      have Z4 := Lib.hid hz4
      clear hW2 s1 s2 hz4
      go_upto_region 3 with fail
      clear e2 g0 g1 g2 g3 g4 g5 g6 g7 g8 g9 f6
      obtain ⟨g0, g1, g2, g3, g4, g5, g6, g7, g8, g9⟩ := S1.out.cells
      obtain ⟨i0, i1, i2, i3, i4, i5, i6, i7, i8, i9⟩ := Z4.out.free
      obtain ⟨j0, j1, j2, j3, j4, j5, j6, j7, j8, j9⟩ := Z4.out.cells
      simp only [Thing.ends] at g0 g1 g2 g6 g7 g8 g9
      go_wp2
      obtain ⟨W', hW', t1, t2⟩ := put_zero Z4.out (o.ends false) (.slice L1 o.labels.length l1) (.slice L2 o.owners.length l2) (.slice L3 o.holds.length l3)
      have e' : (((((((((W2.setCell ⟨k2, 0, none⟩ (.string o.kind)).setCell ⟨k2, 1, none⟩ (.string o.space)).setCell ⟨k2, 2, none⟩ (.string o.name)).setCell ⟨k2, 3, none⟩ (.slice L1 o.labels.length l1)).setCell ⟨k2, 4, none⟩ (.slice L2 o.owners.length l2)).setCell ⟨k2, 5, none⟩ (.slice L3 o.holds.length l3)).setCell ⟨k2, 6, none⟩ (.bool false)).setCell ⟨k2, 7, none⟩ (.string o.uid)).setCell ⟨k2, 8, none⟩ (.int .i64 o.rev)).setCell ⟨k2, 9, none⟩ (.string o.doc) = W' := hW'.symm
      rw [e']
      refine bodyPost_ret (results_ct rfl _ _ k2 rfl t1) rfl ?_
      have HX9 : Ext w W' := HX4.out.grown t2 HX4.out.size (by intro k e; injection e with e; have := HK.out; omega)
      refine ⟨_, _, _, by rw [HE.out, HD.out]; rfl, ?_, HX9⟩
      rw [HE.out]
      exact HF.out.below (HX9.mono HB.out) (Nat.le_trans HB.out HX9.size)
  · have b1 : (((o.holds.length : Nat) : Int) == 0) = false := beq_eq_false_iff_ne.2 (by omega)
    have HD : Hid (decide (o.holds.length = 0) = false) := decide_eq_false h0
    have H0 := Lib.hid h0
    clear h0
    cases b with
    | true =>
      have HE : Hid (endO o = o.ends true) := endO_ends (by rw [if_neg H0.out])
      obtain ⟨W2, hW2, s1, s2⟩ := put_ends H1.out.2.1 true
      have e2 : w1.setCell ⟨k1, 6, none⟩ (.bool true) = W2 := hW2.symm
      have hz4 := H1.out.2.2.1.kept s2 (Ne.symm HNE.out)
      have HX4 : Hid (Ext w W2) := H1.out.1.grown s2 H1.out.1.size (by intro k e; injection e with e; have := HK.out; omega)
      have S1 := Lib.hid s1
      have Z4 := Lib.hid hz4
      clear hW2 s1 s2 hz4
      go_upto_region 3 with fail
      clear e2 g0 g1 g2 g3 g4 g5 g6 g7 g8 g9 f6
      obtain ⟨g0, g1, g2, g3, g4, g5, g6, g7, g8, g9⟩ := S1.out.cells
      obtain ⟨i0, i1, i2, i3, i4, i5, i6, i7, i8, i9⟩ := Z4.out.free
      obtain ⟨j0, j1, j2, j3, j4, j5, j6, j7, j8, j9⟩ := Z4.out.cells
      simp only [Thing.ends] at g0 g1 g2 g6 g7 g8 g9
      go_wp2
      obtain ⟨W', hW', t1, t2⟩ := put_zero Z4.out (o.ends true) (.slice L1 o.labels.length l1) (.slice L2 o.owners.length l2) (.slice L3 o.holds.length l3)
      have e' : (((((((((W2.setCell ⟨k2, 0, none⟩ (.string o.kind)).setCell ⟨k2, 1, none⟩ (.string o.space)).setCell ⟨k2, 2, none⟩ (.string o.name)).setCell ⟨k2, 3, none⟩ (.slice L1 o.labels.length l1)).setCell ⟨k2, 4, none⟩ (.slice L2 o.owners.length l2)).setCell ⟨k2, 5, none⟩ (.slice L3 o.holds.length l3)).setCell ⟨k2, 6, none⟩ (.bool true)).setCell ⟨k2, 7, none⟩ (.string o.uid)).setCell ⟨k2, 8, none⟩ (.int .i64 o.rev)).setCell ⟨k2, 9, none⟩ (.string o.doc) = W' := hW'.symm
      rw [e']
      refine bodyPost_ret (results_ct rfl _ _ k2 rfl t1) rfl ?_
      have HX9 : Ext w W' := HX4.out.grown t2 HX4.out.size (by intro k e; injection e with e; have := HK.out; omega)
      refine ⟨_, _, _, by rw [HE.out, HD.out]; rfl, ?_, HX9⟩
      rw [HE.out]
      exact HF.out.below (HX9.mono HB.out) (Nat.le_trans HB.out HX9.size)
    | false =>
      have HE : Hid (endO o = o.ends true) := endO_ends (by rw [if_neg H0.out])
      obtain ⟨W2, hW2, s1, s2⟩ := put_ends H1.out.2.1 true
      have e2 : w1.setCell ⟨k1, 6, none⟩ (.bool true) = W2 := hW2.symm
      have hz4 := H1.out.2.2.1.kept s2 (Ne.symm HNE.out)
      have HX4 : Hid (Ext w W2) := H1.out.1.grown s2 H1.out.1.size (by intro k e; injection e with e; have := HK.out; omega)
      have S1 := Lib.hid s1
      have Z4 := Lib.hid hz4
      clear hW2 s1 s2 hz4
      go_upto_region 3 with fail
      clear e2 g0 g1 g2 g3 g4 g5 g6 g7 g8 g9 f6
      obtain ⟨g0, g1, g2, g3, g4, g5, g6, g7, g8, g9⟩ := S1.out.cells
      obtain ⟨i0, i1, i2, i3, i4, i5, i6, i7, i8, i9⟩ := Z4.out.free
      obtain ⟨j0, j1, j2, j3, j4, j5, j6, j7, j8, j9⟩ := Z4.out.cells
      simp only [Thing.ends] at g0 g1 g2 g6 g7 g8 g9
      go_wp2
      obtain ⟨W', hW', t1, t2⟩ := put_zero Z4.out (o.ends true) (.slice L1 o.labels.length l1) (.slice L2 o.owners.length l2) (.slice L3 o.holds.length l3)
      have e' : (((((((((W2.setCell ⟨k2, 0, none⟩ (.string o.kind)).setCell ⟨k2, 1, none⟩ (.string o.space)).setCell ⟨k2, 2, none⟩ (.string o.name)).setCell ⟨k2, 3, none⟩ (.slice L1 o.labels.length l1)).setCell ⟨k2, 4, none⟩ (.slice L2 o.owners.length l2)).setCell ⟨k2, 5, none⟩ (.slice L3 o.holds.length l3)).setCell ⟨k2, 6, none⟩ (.bool true)).setCell ⟨k2, 7, none⟩ (.string o.uid)).setCell ⟨k2, 8, none⟩ (.int .i64 o.rev)).setCell ⟨k2, 9, none⟩ (.string o.doc) = W' := hW'.symm
      rw [e']
      refine bodyPost_ret (results_ct rfl _ _ k2 rfl t1) rfl ?_
      have HX9 : Ext w W' := HX4.out.grown t2 HX4.out.size (by intro k e; injection e with e; have := HK.out; omega)
      refine ⟨_, _, _, by rw [HE.out, HD.out]; rfl, ?_, HX9⟩
      rw [HE.out]
      exact HF.out.below (HX9.mono HB.out) (Nat.le_trans HB.out HX9.size)
end Go.Proofs.Ytpbbohinhbboaaa.Sx
