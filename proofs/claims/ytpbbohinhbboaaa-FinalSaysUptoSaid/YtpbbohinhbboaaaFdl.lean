/-
  final.Delete, both.
-/
import Derived.Test.YtpbbohinhbboaaaFcp
import Derived.Deep.DeepCutAuto
namespace Go.Proofs.Ytpbbohinhbboaaa.Sx
open Go Go.RowKit

def endO (o : Thing) : Thing := { o with ending := if o.holds.length = 0 then o.ending else true }
def DelPost (w : World) (o : Thing) (e : Ending) (w' : World) : Prop := ∃ ul uo uh, e = .returned (.tuple #[(endO o).val ul uo uh, .bool (decide (o.holds.length = 0))]) ∧ (endO o).fits w'.heap.size w' ul uo uh ∧ Ext w w'
theorem endO_none {o : Thing} (h : o.holds.length = 0) : endO o = o := by unfold endO; rw [if_pos h]
theorem endO_some {o : Thing} (h : o.holds.length ≠ 0) : endO o = { o with ending := true } := by unfold endO; rw [if_neg h]

theorem OwnT.slices {base : Nat} {w : World} {o : Thing} {ul uo uh : Value} (h : OwnT base w o ul uo uh) : ∃ A1 c1 A2 c2 A3 c3, ul = .slice A1 o.labels.length c1 ∧ uo = .slice A2 o.owners.length c2 ∧ uh = .slice A3 o.holds.length c3 := by
  obtain ⟨A2, c2, h2⟩ := h.2.1.slice
  obtain ⟨A3, c3, h3⟩ := h.2.2.1.slice
  rcases h.1.2 with ⟨e, e0⟩ | ⟨g, cap, _, e, _⟩
  · exact ⟨none, 0, A2, c2, A3, c3, by rw [e, e0], h2, h3⟩
  · exact ⟨_, _, A2, c2, A3, c3, e, h2, h3⟩
theorem Thing.fits.slices {B : Nat} {w : World} {o : Thing} {ul uo uh : Value} (h : o.fits B w ul uo uh) : ∃ A1 c1 A2 c2 A3 c3, ul = .slice A1 o.labels.length c1 ∧ uo = .slice A2 o.owners.length c2 ∧ uh = .slice A3 o.holds.length c3 := by
  obtain ⟨⟨_, A1, c1, h1, _⟩, ⟨_, A2, c2, h2, _⟩, ⟨_, A3, c3, h3, _⟩⟩ := h
  exact ⟨A1, c1, A2, c2, A3, c3, h1, h2, h3⟩
/-- Ending, written into a box. -/
def Thing.ends (o : Thing) (b : Bool) : Thing := { o with ending := b }
theorem put_ends {w : World} {k : Nat} {o : Thing} {vl vo vh : Value} (h : ThingIn w k o vl vo vh) (b : Bool) : ∃ W, W = w.setCell ⟨k, 6, none⟩ (.bool b) ∧ ThingIn W k (o.ends b) vl vo vh ∧ w.grownBy W (some k) :=
  ⟨_, rfl, heap_setCells [.bool b] [.string o.kind, .string o.space, .string o.name, vl, vo, vh] [.bool o.ending] [.string o.uid, .int .i64 o.rev, .string o.doc] w rfl h, grown_setCells w k 6 [.bool b]⟩
/-- Two boxes: the object and the result's. -/
theorem two_boxes (w : World) (o : Thing) (vl vo vh : Value) : ∃ w1, w1 = (w.alloc (.cells #[.string o.kind, .string o.space, .string o.name, vl, vo, vh, .bool o.ending, .string o.uid, .int .i64 o.rev, .string o.doc] 54)).alloc (.cells #[.string ⟨#[]⟩, .string ⟨#[]⟩, .string ⟨#[]⟩, .slice none 0 0, .slice none 0 0, .slice none 0 0, .bool false, .string ⟨#[]⟩, .int .i64 0, .string ⟨#[]⟩] 54) ∧
    Ext w w1 ∧ ThingIn w1 w.heap.size o vl vo vh ∧ ZeroIn w1 (w.heap.size + 1) ∧ w1.heap.size = w.heap.size + 2 :=
  ⟨_, rfl, ((Below.refl _ _).alloc (Nat.le_refl _) _).alloc (by simp) _, heap_old (heap_new rfl), heap_new (by simp), by simp⟩

set_option maxRecDepth 100000 in
set_option maxHeartbeats 4000000 in
theorem delete_any (B : Nat) (o : Thing) (vl vo vh : Value) (w : World) (hB : B ≤ w.heap.size) (h : o.fits B w vl vo vh) :
    Calls Try.prog 22 #[o.val vl vo vh] w (DelPost w o) := by
  obtain ⟨w1, hw1, hx1, hg1, hz1, hs1⟩ := two_boxes w o vl vo vh
  obtain ⟨k1, hk1⟩ : ∃ k, k = w.heap.size := ⟨_, rfl⟩
  obtain ⟨k2, hk2⟩ : ∃ k, k = w.heap.size + 1 := ⟨_, rfl⟩
  rw [← hk1] at hg1
  rw [← hk2] at hz1
  have HF := Lib.hid (h.below (hx1.mono hB) (Nat.le_refl _))
  have HSM := Lib.hid h.small
  obtain ⟨L1, l1, L2, l2, L3, l3, rfl, rfl, rfl⟩ := h.slices
  have HB1 : Hid (B ≤ w1.heap.size) := Nat.le_trans hB hx1.size
  have H1 := Lib.hid (And.intro hx1 (And.intro hg1 (And.intro hz1 hs1)))
  obtain ⟨g0, g1, g2, g3, g4, g5, g6, g7, g8, g9⟩ := hg1.cells
  clear h hx1 hg1 hz1 hs1
  unfold Thing.val
  go_enter Try.func22, Try.ntmps22
  go_wp2_with fail
  rw [← hw1, ← hk2, ← hk1]
  have HK := Lib.hid (And.intro hk1 hk2)
  clear hw1 hk1 hk2
  refine Calls.mono (copy_thing B o _ _ _ w1 HB1.out HF.out) ?_
  rintro e w2 ⟨ul, uo, uh, rfl, hO, hx2⟩
  obtain ⟨A1, c1, A2, c2, A3, c3, rfl, rfl, rfl⟩ := hO.slices
  have HX2 := Lib.hid hx2
  have HO := Lib.hid hO
  have hg2 := H1.out.2.1.ext hx2
  have hz2 := H1.out.2.2.1.ext hx2
  obtain ⟨W1, hW1, t1, t2⟩ := put_over hg2 o (.slice A1 o.labels.length c1) (.slice A2 o.owners.length c2) (.slice A3 o.holds.length c3)
  have hne : k1 ≠ k2 := by have := HK.out; omega
  have hz3 := hz2.kept t2 (Ne.symm hne)
  clear g0 g1 g2 g3 g4 g5 g6 g7 g8 g9
  have HZ3 := Lib.hid hz3
  have HT1 := Lib.hid t1
  have hkb : k1 < w1.heap.size ∧ k2 < w1.heap.size := by have h1 := HK.out; have h2 := H1.out.2.2.2; omega
  have HO1 := Lib.hid (hO.kept t2 hkb.1)
  have HKB := Lib.hid hkb
  have HX3 : Hid (Ext w W1) := (H1.out.1.trans hx2).grown t2 (Nat.le_trans H1.out.1.size hx2.size) (by intro k e; injection e with e; have := HK.out; omega)
  obtain ⟨g0, g1, g2, g3, g4, g5, g6, g7, g8, g9⟩ := hg2.cells
  have fz := fun j => free_of hg2 j
  have fy := fun j => free_of hz2 j
  unfold Thing.val
  have e1 : ((((((((((w2.setCell ⟨k1, 0, none⟩ (.string o.kind)).setCell ⟨k1, 1, none⟩ (.string o.space)).setCell ⟨k1, 2, none⟩ (.string o.name)).setCell ⟨k1, 3, none⟩ (.slice A1 o.labels.length c1)).setCell ⟨k1, 4, none⟩ (.slice A2 o.owners.length c2)).setCell ⟨k1, 5, none⟩ (.slice A3 o.holds.length c3)).setCell ⟨k1, 6, none⟩ (.bool o.ending)).setCell ⟨k1, 7, none⟩ (.string o.uid)).setCell ⟨k1, 8, none⟩ (.int .i64 o.rev)).setCell ⟨k1, 9, none⟩ (.string o.doc)) = W1 := hW1.symm
  clear hW1 t1 t2 hz3 hkb hg2 hz2 hO hx2
  go_upto_region 2 with fail
  clear e1 fz fy g0 g1 g2 g3 g4 g5 g6 g7 g8 g9
  obtain ⟨g0, g1, g2, g3, g4, g5, g6, g7, g8, g9⟩ := HT1.out.cells
  obtain ⟨i0, i1, i2, i3, i4, i5, i6, i7, i8, i9⟩ := HZ3.out.free
  obtain ⟨j0, j1, j2, j3, j4, j5, j6, j7, j8, j9⟩ := HZ3.out.cells
  have f6 := free_of HT1.out 6
  by_cases h0 : o.holds.length = 0
  · have b1 : (((o.holds.length : Nat) : Int) == 0) = true := by simp [h0]
    have HE := Lib.hid (endO_none h0)
    have HD : Hid (decide (o.holds.length = 0) = true) := decide_eq_true h0
    clear h0
    go_wp2
    obtain ⟨W', hW', t1, t2⟩ := put_zero HZ3.out o (.slice A1 o.labels.length c1) (.slice A2 o.owners.length c2) (.slice A3 o.holds.length c3)
    have e' : (((((((((W1.setCell ⟨k2, 0, none⟩ (.string o.kind)).setCell ⟨k2, 1, none⟩ (.string o.space)).setCell ⟨k2, 2, none⟩ (.string o.name)).setCell ⟨k2, 3, none⟩ (.slice A1 o.labels.length c1)).setCell ⟨k2, 4, none⟩ (.slice A2 o.owners.length c2)).setCell ⟨k2, 5, none⟩ (.slice A3 o.holds.length c3)).setCell ⟨k2, 6, none⟩ (.bool o.ending)).setCell ⟨k2, 7, none⟩ (.string o.uid)).setCell ⟨k2, 8, none⟩ (.int .i64 o.rev)).setCell ⟨k2, 9, none⟩ (.string o.doc) = W' := hW'.symm
    rw [e']
    refine bodyPost_ret (results_ct rfl _ _ k2 rfl t1) rfl ?_
    have HX9 : Ext w W' := HX3.out.grown t2 HX3.out.size (by intro k e; injection e with e; have := HK.out; omega)
    refine ⟨_, _, _, by rw [HE.out, HD.out]; rfl, ?_, HX9⟩
    rw [HE.out]
    exact (HO1.out.kept t2 HKB.out.2).fits HSM.out
  · have b1 : (((o.holds.length : Nat) : Int) == 0) = false := beq_eq_false_iff_ne.2 (by omega)
    have HE := Lib.hid (endO_some h0)
    have HD : Hid (decide (o.holds.length = 0) = false) := decide_eq_false h0
    clear h0
    obtain ⟨W2, hW2, s1, s2⟩ := put_ends HT1.out true
    have hne : k1 ≠ k2 := by have := HK.out; omega
    have e2 : W1.setCell ⟨k1, 6, none⟩ (.bool true) = W2 := hW2.symm
    have hz4 := HZ3.out.kept s2 (Ne.symm hne)
    have HX4 : Hid (Ext w W2) := HX3.out.grown s2 HX3.out.size (by intro k e; injection e with e; have := HK.out; omega)
    have HO4 := Lib.hid (HO1.out.kept s2 HKB.out.1)
    have S1 := Lib.hid s1
    have Z4 := Lib.hid hz4
    clear hW2 s1 s2 hz4
    go_upto_region 5 with fail
    clear e2 g0 g1 g2 g3 g4 g5 g6 g7 g8 g9 i0 i1 i2 i3 i4 i5 i6 i7 i8 i9 j0 j1 j2 j3 j4 j5 j6 j7 j8 j9 f6
    obtain ⟨g0, g1, g2, g3, g4, g5, g6, g7, g8, g9⟩ := S1.out.cells
    obtain ⟨i0, i1, i2, i3, i4, i5, i6, i7, i8, i9⟩ := Z4.out.free
    obtain ⟨j0, j1, j2, j3, j4, j5, j6, j7, j8, j9⟩ := Z4.out.cells
    simp only [Thing.ends] at g0 g1 g2 g6 g7 g8 g9
    go_wp2
    obtain ⟨W', hW', t1, t2⟩ := put_zero Z4.out (o.ends true) (.slice A1 o.labels.length c1) (.slice A2 o.owners.length c2) (.slice A3 o.holds.length c3)
    have e' : (((((((((W2.setCell ⟨k2, 0, none⟩ (.string o.kind)).setCell ⟨k2, 1, none⟩ (.string o.space)).setCell ⟨k2, 2, none⟩ (.string o.name)).setCell ⟨k2, 3, none⟩ (.slice A1 o.labels.length c1)).setCell ⟨k2, 4, none⟩ (.slice A2 o.owners.length c2)).setCell ⟨k2, 5, none⟩ (.slice A3 o.holds.length c3)).setCell ⟨k2, 6, none⟩ (.bool true)).setCell ⟨k2, 7, none⟩ (.string o.uid)).setCell ⟨k2, 8, none⟩ (.int .i64 o.rev)).setCell ⟨k2, 9, none⟩ (.string o.doc) = W' := hW'.symm
    rw [e']
    refine bodyPost_ret (results_ct rfl _ _ k2 rfl t1) rfl ?_
    have HX9 : Ext w W' := HX4.out.grown t2 HX4.out.size (by intro k e; injection e with e; have := HK.out; omega)
    refine ⟨_, _, _, by rw [HE.out, HD.out]; rfl, ?_, HX9⟩
    rw [HE.out]
    exact (HO4.out.kept t2 HKB.out.2).fits HSM.out
end Go.Proofs.Ytpbbohinhbboaaa.Sx
