/-
  The law FinalSays: it returns true.
-/
import Derived.Test.YtpbbohinhbboaaaFfs
namespace Go.Proofs.Ytpbbohinhbboaaa.Sx
open Go Go.RowKit

theorem fits_on {w w' : World} {o : Thing} {vl vo vh : Value} (h : o.fits w.heap.size w vl vo vh) (hx : Ext w w') : o.fits w'.heap.size w' vl vo vh := h.below hx hx.size
theorem new_box (w : World) (x : Thing) (vl vo vh : Value) : ∃ W, W = w.alloc (.cells #[.string x.kind, .string x.space, .string x.name, vl, vo, vh, .bool x.ending, .string x.uid, .int .i64 x.rev, .string x.doc] 54) ∧ Ext w W ∧ ThingIn W w.heap.size x vl vo vh :=
  ⟨_, rfl, (Below.refl _ _).alloc (Nat.le_refl _) _, heap_new rfl⟩

set_option maxRecDepth 100000 in
set_option maxHeartbeats 4000000 in
theorem finalSays_walk (B : Nat) (o : Thing) (vl vo : Value) (L3 : Option Addr) (l3 : Nat) (hd : ByteArray) (w : World) (hB : B ≤ w.heap.size) (h : o.fits B w vl vo (.slice L3 o.holds.length l3)) (hcap : o.holds.length ≤ l3) (hz : hd.size ≤ 1048576) :
    Calls Try.prog 6 #[o.val vl vo (.slice L3 o.holds.length l3), .string hd] w fun e w' => e = .returned (.bool true) ∧ Ext w w' := by
  obtain ⟨k0, hk0⟩ : ∃ k, k = w.heap.size := ⟨_, rfl⟩
  obtain ⟨L1, l1, L2, l2, _, _, rfl, rfl, _⟩ := h.slices
  obtain ⟨w0, hw0, hx0, hg0⟩ := new_box w o (.slice L1 o.labels.length l1) (.slice L2 o.owners.length l2) (.slice L3 o.holds.length l3)
  rw [← hk0] at hg0
  have HX0 := Lib.hid hx0
  have HG0 := Lib.hid hg0
  have HF0 : Hid (o.fits w0.heap.size w0 (.slice L1 o.labels.length l1) (.slice L2 o.owners.length l2) (.slice L3 o.holds.length l3)) := h.below (hx0.mono hB) (Nat.le_trans hB hx0.size)
  have HC := Lib.hid hcap
  have HZ := Lib.hid hz
  clear h hB hcap hz hx0 hg0
  unfold Thing.val
  go_enter Try.func6, Try.ntmps6
  go_upto_region 1 with fail
  rw [← hw0, ← hk0]
  clear hw0 hk0
  obtain ⟨g0, g1, g2, g3, g4, g5, g6, g7, g8, g9⟩ := HG0.out.cells
  go_wp2_with fail
  refine Calls.mono (delete_any w0.heap.size o _ _ _ _ (Nat.le_refl _) HF0.out) ?_
  rintro e v1 ⟨_, _, _, rfl, hO, hy⟩
  obtain ⟨P1, p1, Q1, q1, R1, r1, rfl, rfl, rfl⟩ := hO.slices
  obtain ⟨x1, hx1⟩ : ∃ x, x = endO o := ⟨_, rfl⟩
  have HXX1 := Lib.hid hx1
  clear hx1
  obtain ⟨b1, hb1⟩ : ∃ x, x = decide (o.holds.length = 0) := ⟨_, rfl⟩
  have HB1 := Lib.hid hb1
  clear hb1
  rw [← HXX1.out] at hO ⊢
  rw [← HB1.out]
  unfold Thing.val
  clear g0 g1 g2 g3 g4 g5 g6 g7 g8 g9
  go_upto_region 2 with fail
  obtain ⟨w1, hw, hx, hg⟩ := new_box v1 x1 (.slice P1 x1.labels.length p1) (.slice Q1 x1.owners.length q1) (.slice R1 x1.holds.length r1)
  rw [← hw]
  clear hw
  have hy' := Ext.trans hy hx
  have HX1 := Lib.hid (HX0.out.trans hy')
  have HG1 := Lib.hid (HG0.out.ext hy')
  have HF1 := Lib.hid (fits_on HF0.out hy')
  have HP11 := Lib.hid (And.intro hg (fits_on hO hx))
  obtain ⟨s1, hs1⟩ : ∃ s, s = v1.heap.size := ⟨_, rfl⟩
  rw [← hs1] at HP11 ⊢
  clear hs1 hx hy hy' hg hO
  obtain ⟨g0, g1, g2, g3, g4, g5, g6, g7, g8, g9⟩ := HG1.out.cells
  go_wp2_with fail
  refine Calls.mono (rdelete_any w1.heap.size o _ _ _ _ (Nat.le_refl _) HF1.out) ?_
  rintro e v2 ⟨_, _, _, rfl, hO, hy⟩
  obtain ⟨P2, p2, Q2, q2, R2, r2, rfl, rfl, rfl⟩ := hO.slices
  rw [← HXX1.out] at hO ⊢
  rw [← HB1.out]
  unfold Thing.val
  clear g0 g1 g2 g3 g4 g5 g6 g7 g8 g9
  go_upto_region 3 with fail
  obtain ⟨w2, hw, hx, hg⟩ := new_box v2 x1 (.slice P2 x1.labels.length p2) (.slice Q2 x1.owners.length q2) (.slice R2 x1.holds.length r2)
  rw [← hw]
  clear hw
  have hy' := Ext.trans hy hx
  have HX2 := Lib.hid (HX1.out.trans hy')
  have HG2 := Lib.hid (HG1.out.ext hy')
  have HF2 := Lib.hid (fits_on HF1.out hy')
  have HP22 := Lib.hid (And.intro hg (fits_on hO hx))
  obtain ⟨s2, hs2⟩ : ∃ s, s = v2.heap.size := ⟨_, rfl⟩
  rw [← hs2] at HP22 ⊢
  have HP12 := Lib.hid (And.intro (HP11.out.1.ext hy') (fits_on HP11.out.2 hy'))
  clear hs2 hx hy hy' hg hO
  obtain ⟨g0, g1, g2, g3, g4, g5, g6, g7, g8, g9⟩ := HG2.out.cells
  go_wp2_with fail
  refine Calls.mono (hold_all w2.heap.size o _ _ _ hd _ (Nat.le_refl _) HF2.out HZ.out) ?_
  rintro e v3 ⟨_, _, _, rfl, hO, hy⟩
  obtain ⟨P3, p3, Q3, q3, R3, r3, rfl, rfl, rfl⟩ := hO.slices
  obtain ⟨x2, hx2⟩ : ∃ x, x = holdO o hd := ⟨_, rfl⟩
  have HXX2 := Lib.hid hx2
  clear hx2
  obtain ⟨e2, he2⟩ : ∃ x, x = holdE o hd := ⟨_, rfl⟩
  have HE2 := Lib.hid he2
  clear he2
  rw [← HXX2.out] at hO ⊢
  rw [← HE2.out]
  unfold Thing.val
  clear g0 g1 g2 g3 g4 g5 g6 g7 g8 g9
  go_upto_region 4 with fail
  obtain ⟨w3, hw, hx, hg⟩ := new_box v3 x2 (.slice P3 x2.labels.length p3) (.slice Q3 x2.owners.length q3) (.slice R3 x2.holds.length r3)
  rw [← hw]
  clear hw
  have hy' := Ext.trans hy hx
  have HX3 := Lib.hid (HX2.out.trans hy')
  have HG3 := Lib.hid (HG2.out.ext hy')
  have HF3 := Lib.hid (fits_on HF2.out hy')
  have HP33 := Lib.hid (And.intro hg (fits_on hO hx))
  obtain ⟨s3, hs3⟩ : ∃ s, s = v3.heap.size := ⟨_, rfl⟩
  rw [← hs3] at HP33 ⊢
  have HP13 := Lib.hid (And.intro (HP12.out.1.ext hy') (fits_on HP12.out.2 hy'))
  have HP23 := Lib.hid (And.intro (HP22.out.1.ext hy') (fits_on HP22.out.2 hy'))
  clear hs3 hx hy hy' hg hO
  obtain ⟨g0, g1, g2, g3, g4, g5, g6, g7, g8, g9⟩ := HG3.out.cells
  go_wp2_with fail
  refine Calls.mono (rhold_all w3.heap.size o _ _ _ hd _ (Nat.le_refl _) HF3.out HZ.out) ?_
  rintro e v4 ⟨_, _, _, rfl, hO, hy⟩
  obtain ⟨P4, p4, Q4, q4, R4, r4, rfl, rfl, rfl⟩ := hO.slices
  rw [← HXX2.out] at hO ⊢
  rw [← HE2.out]
  unfold Thing.val
  clear g0 g1 g2 g3 g4 g5 g6 g7 g8 g9
  go_upto_region 5 with fail
  obtain ⟨w4, hw, hx, hg⟩ := new_box v4 x2 (.slice P4 x2.labels.length p4) (.slice Q4 x2.owners.length q4) (.slice R4 x2.holds.length r4)
  rw [← hw]
  clear hw
  have hy' := Ext.trans hy hx
  have HX4 := Lib.hid (HX3.out.trans hy')
  have HG4 := Lib.hid (HG3.out.ext hy')
  have HF4 := Lib.hid (fits_on HF3.out hy')
  have HP44 := Lib.hid (And.intro hg (fits_on hO hx))
  obtain ⟨s4, hs4⟩ : ∃ s, s = v4.heap.size := ⟨_, rfl⟩
  rw [← hs4] at HP44 ⊢
  have HP14 := Lib.hid (And.intro (HP13.out.1.ext hy') (fits_on HP13.out.2 hy'))
  have HP24 := Lib.hid (And.intro (HP23.out.1.ext hy') (fits_on HP23.out.2 hy'))
  have HP34 := Lib.hid (And.intro (HP33.out.1.ext hy') (fits_on HP33.out.2 hy'))
  clear hs4 hx hy hy' hg hO
  obtain ⟨g0, g1, g2, g3, g4, g5, g6, g7, g8, g9⟩ := HG4.out.cells
  go_wp2_with fail
  refine Calls.mono (free_all w4.heap.size o _ _ _ hd _ (Nat.le_refl _) HF4.out) ?_
  rintro e v5 ⟨_, _, _, rfl, hO, hy⟩
  obtain ⟨P5, p5, Q5, q5, R5, r5, rfl, rfl, rfl⟩ := hO.slices
  obtain ⟨x3, hx3⟩ : ∃ x, x = freeO o hd := ⟨_, rfl⟩
  have HXX3 := Lib.hid hx3
  clear hx3
  obtain ⟨b3, hb3⟩ : ∃ x, x = freeB o hd := ⟨_, rfl⟩
  have HB3 := Lib.hid hb3
  clear hb3
  obtain ⟨e3, he3⟩ : ∃ x, x = freeE o hd := ⟨_, rfl⟩
  have HE3 := Lib.hid he3
  clear he3
  rw [← HXX3.out] at hO ⊢
  rw [← HB3.out]
  rw [← HE3.out]
  unfold Thing.val
  clear g0 g1 g2 g3 g4 g5 g6 g7 g8 g9
  go_upto_region 6 with fail
  obtain ⟨w5, hw, hx, hg⟩ := new_box v5 x3 (.slice P5 x3.labels.length p5) (.slice Q5 x3.owners.length q5) (.slice R5 x3.holds.length r5)
  rw [← hw]
  clear hw
  have hy' := Ext.trans hy hx
  have HX5 := Lib.hid (HX4.out.trans hy')
  have HG5 := Lib.hid (HG4.out.ext hy')
  have HF5 := Lib.hid (fits_on HF4.out hy')
  have HP55 := Lib.hid (And.intro hg (fits_on hO hx))
  obtain ⟨s5, hs5⟩ : ∃ s, s = v5.heap.size := ⟨_, rfl⟩
  rw [← hs5] at HP55 ⊢
  have HP15 := Lib.hid (And.intro (HP14.out.1.ext hy') (fits_on HP14.out.2 hy'))
  have HP25 := Lib.hid (And.intro (HP24.out.1.ext hy') (fits_on HP24.out.2 hy'))
  have HP35 := Lib.hid (And.intro (HP34.out.1.ext hy') (fits_on HP34.out.2 hy'))
  have HP45 := Lib.hid (And.intro (HP44.out.1.ext hy') (fits_on HP44.out.2 hy'))
  clear hs5 hx hy hy' hg hO
  obtain ⟨g0, g1, g2, g3, g4, g5, g6, g7, g8, g9⟩ := HG5.out.cells
  go_wp2_with fail
  refine Calls.mono (rfree_all w5.heap.size o _ _ _ _ hd _ (Nat.le_refl _) HF5.out HC.out) ?_
  rintro e v6 ⟨_, _, _, rfl, hO, hy⟩
  obtain ⟨P6, p6, Q6, q6, R6, r6, rfl, rfl, rfl⟩ := hO.slices
  rw [← HXX3.out] at hO ⊢
  rw [← HB3.out]
  rw [← HE3.out]
  unfold Thing.val
  clear g0 g1 g2 g3 g4 g5 g6 g7 g8 g9
  go_upto_region 7 with fail
  obtain ⟨w6, hw, hx, hg⟩ := new_box v6 x3 (.slice P6 x3.labels.length p6) (.slice Q6 x3.owners.length q6) (.slice R6 x3.holds.length r6)
  rw [← hw]
  clear hw
  have hy' := Ext.trans hy hx
  have HX6 := Lib.hid (HX5.out.trans hy')
  have HG6 := Lib.hid (HG5.out.ext hy')
  have HF6 := Lib.hid (fits_on HF5.out hy')
  have HP66 := Lib.hid (And.intro hg (fits_on hO hx))
  obtain ⟨s6, hs6⟩ : ∃ s, s = v6.heap.size := ⟨_, rfl⟩
  rw [← hs6] at HP66 ⊢
  have HP16 := Lib.hid (And.intro (HP15.out.1.ext hy') (fits_on HP15.out.2 hy'))
  have HP26 := Lib.hid (And.intro (HP25.out.1.ext hy') (fits_on HP25.out.2 hy'))
  have HP36 := Lib.hid (And.intro (HP35.out.1.ext hy') (fits_on HP35.out.2 hy'))
  have HP46 := Lib.hid (And.intro (HP45.out.1.ext hy') (fits_on HP45.out.2 hy'))
  have HP56 := Lib.hid (And.intro (HP55.out.1.ext hy') (fits_on HP55.out.2 hy'))
  clear hs6 hx hy hy' hg hO
  obtain ⟨g0, g1, g2, g3, g4, g5, g6, g7, g8, g9⟩ := HP16.out.1.cells
  obtain ⟨i0, i1, i2, i3, i4, i5, i6, i7, i8, i9⟩ := HP26.out.1.cells
  go_wp2_with fail
  refine Calls.mono (same_thing w6.heap.size x1 _ _ _ _ _ _ _ (Nat.le_refl _) HP16.out.2 HP26.out.2) ?_
  rintro e w7 ⟨rfl, hy'⟩
  have HX7 := Lib.hid (HX6.out.trans hy')
  have HP17 := Lib.hid (And.intro (HP16.out.1.ext hy') (fits_on HP16.out.2 hy'))
  have HP27 := Lib.hid (And.intro (HP26.out.1.ext hy') (fits_on HP26.out.2 hy'))
  have HP37 := Lib.hid (And.intro (HP36.out.1.ext hy') (fits_on HP36.out.2 hy'))
  have HP47 := Lib.hid (And.intro (HP46.out.1.ext hy') (fits_on HP46.out.2 hy'))
  have HP57 := Lib.hid (And.intro (HP56.out.1.ext hy') (fits_on HP56.out.2 hy'))
  have HP67 := Lib.hid (And.intro (HP66.out.1.ext hy') (fits_on HP66.out.2 hy'))
  clear hy' g0 g1 g2 g3 g4 g5 g6 g7 g8 g9 i0 i1 i2 i3 i4 i5 i6 i7 i8 i9
  obtain ⟨g0, g1, g2, g3, g4, g5, g6, g7, g8, g9⟩ := HP37.out.1.cells
  obtain ⟨i0, i1, i2, i3, i4, i5, i6, i7, i8, i9⟩ := HP47.out.1.cells
  go_wp2_with fail
  refine Calls.mono (same_thing w7.heap.size x2 _ _ _ _ _ _ _ (Nat.le_refl _) HP37.out.2 HP47.out.2) ?_
  rintro e w8 ⟨rfl, hy'⟩
  have HX8 := Lib.hid (HX7.out.trans hy')
  have HP18 := Lib.hid (And.intro (HP17.out.1.ext hy') (fits_on HP17.out.2 hy'))
  have HP28 := Lib.hid (And.intro (HP27.out.1.ext hy') (fits_on HP27.out.2 hy'))
  have HP38 := Lib.hid (And.intro (HP37.out.1.ext hy') (fits_on HP37.out.2 hy'))
  have HP48 := Lib.hid (And.intro (HP47.out.1.ext hy') (fits_on HP47.out.2 hy'))
  have HP58 := Lib.hid (And.intro (HP57.out.1.ext hy') (fits_on HP57.out.2 hy'))
  have HP68 := Lib.hid (And.intro (HP67.out.1.ext hy') (fits_on HP67.out.2 hy'))
  clear hy' g0 g1 g2 g3 g4 g5 g6 g7 g8 g9 i0 i1 i2 i3 i4 i5 i6 i7 i8 i9
  obtain ⟨g0, g1, g2, g3, g4, g5, g6, g7, g8, g9⟩ := HP58.out.1.cells
  obtain ⟨i0, i1, i2, i3, i4, i5, i6, i7, i8, i9⟩ := HP68.out.1.cells
  go_wp2_with fail
  refine Calls.mono (same_thing w8.heap.size x3 _ _ _ _ _ _ _ (Nat.le_refl _) HP58.out.2 HP68.out.2) ?_
  rintro e w9 ⟨rfl, hy'⟩
  have HX9 := Lib.hid (HX8.out.trans hy')
  have HP19 := Lib.hid (And.intro (HP18.out.1.ext hy') (fits_on HP18.out.2 hy'))
  have HP29 := Lib.hid (And.intro (HP28.out.1.ext hy') (fits_on HP28.out.2 hy'))
  have HP39 := Lib.hid (And.intro (HP38.out.1.ext hy') (fits_on HP38.out.2 hy'))
  have HP49 := Lib.hid (And.intro (HP48.out.1.ext hy') (fits_on HP48.out.2 hy'))
  have HP59 := Lib.hid (And.intro (HP58.out.1.ext hy') (fits_on HP58.out.2 hy'))
  have HP69 := Lib.hid (And.intro (HP68.out.1.ext hy') (fits_on HP68.out.2 hy'))
  clear hy' g0 g1 g2 g3 g4 g5 g6 g7 g8 g9 i0 i1 i2 i3 i4 i5 i6 i7 i8 i9
  go_wp2
  go_ret
  exact ⟨rfl, HX9.out⟩
end Go.Proofs.Ytpbbohinhbboaaa.Sx
