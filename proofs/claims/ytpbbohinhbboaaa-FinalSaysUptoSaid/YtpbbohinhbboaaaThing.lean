/-
  Objects: what they are in memory; the reference's SameObject, where both read the same: it returns true.
-/
import Derived.Test.YtpbbohinhbboaaaEqLab
namespace Go.Proofs.Ytpbbohinhbboaaa.Sx
open Go Go.RowKit

structure Thing where
  kind : ByteArray
  space : ByteArray
  name : ByteArray
  labels : List Lab
  owners : List ByteArray
  holds : List ByteArray
  ending : Bool
  uid : ByteArray
  rev : Int
  doc : ByteArray
def Thing.val (o : Thing) (vl vo vh : Value) : Value := .agg #[.string o.kind, .string o.space, .string o.name, vl, vo, vh, .bool o.ending, .string o.uid, .int .i64 o.rev, .string o.doc]
def Thing.fits (B : Nat) (w : World) (o : Thing) (vl vo vh : Value) : Prop := LabsR B w vl o.labels ∧ StrsR B w vo o.owners ∧ StrsR B w vh o.holds
theorem Thing.fits.below {B B' : Nat} {w w' : World} {o : Thing} {vl vo vh : Value} (h : o.fits B w vl vo vh) (hb : Below B w w') (hB : B ≤ B') : o.fits B' w' vl vo vh := ⟨h.1.below hb hB, h.2.1.below hb hB, h.2.2.below hb hB⟩
/-- Its box. -/
def ThingIn (w : World) (k : Nat) (o : Thing) (vl vo vh : Value) : Prop := w.heap[k]? = some (.cells #[.string o.kind, .string o.space, .string o.name, vl, vo, vh, .bool o.ending, .string o.uid, .int .i64 o.rev, .string o.doc] 54 (0, 0))
theorem ThingIn.ext {w w' : World} {k : Nat} {o : Thing} {vl vo vh : Value} (h : ThingIn w k o vl vo vh) (hx : Ext w w') : ThingIn w' k o vl vo vh := (hx.block _ (heap_lt h)).trans h
theorem ThingIn.cells {w : World} {k : Nat} {o : Thing} {vl vo vh : Value} (h : ThingIn w k o vl vo vh) :
    w.cell? ⟨k, 0, none⟩ = some (.string o.kind) ∧ w.cell? ⟨k, 1, none⟩ = some (.string o.space) ∧ w.cell? ⟨k, 2, none⟩ = some (.string o.name) ∧ w.cell? ⟨k, 3, none⟩ = some vl ∧ w.cell? ⟨k, 4, none⟩ = some vo ∧ w.cell? ⟨k, 5, none⟩ = some vh ∧
    w.cell? ⟨k, 6, none⟩ = some (.bool o.ending) ∧ w.cell? ⟨k, 7, none⟩ = some (.string o.uid) ∧ w.cell? ⟨k, 8, none⟩ = some (.int .i64 o.rev) ∧ w.cell? ⟨k, 9, none⟩ = some (.string o.doc) :=
  ⟨cell_of h 0, cell_of h 1, cell_of h 2, cell_of h 3, cell_of h 4, cell_of h 5, cell_of h 6, cell_of h 7, cell_of h 8, cell_of h 9⟩

set_option maxRecDepth 100000 in
set_option maxHeartbeats 2000000 in
theorem same_thing (B : Nat) (o : Thing) (vl vo vh ul uo uh : Value) (w : World) (hB : B ≤ w.heap.size) (h : o.fits B w vl vo vh) (h' : o.fits B w ul uo uh) :
    Calls Try.prog 28 #[o.val vl vo vh, o.val ul uo uh] w fun e w' => e = .returned (.bool true) ∧ Ext w w' := by
  have H := Lib.hid (And.intro h h')
  have hE : Hid (∀ a : ByteArray, (a.toList == a.toList) = true) := fun a => by simp
  have f1 := hE.out o.kind
  have f2 := hE.out o.space
  have f3 := hE.out o.name
  have f4 := hE.out o.uid
  have f5 := hE.out o.doc
  obtain ⟨k1, hk1⟩ : ∃ k, k = w.heap.size := ⟨_, rfl⟩
  obtain ⟨k2, hk2⟩ : ∃ k, k = w.heap.size + 1 := ⟨_, rfl⟩
  obtain ⟨w1, hw1⟩ : ∃ w1, w1 = (w.alloc (.cells #[.string o.kind, .string o.space, .string o.name, vl, vo, vh, .bool o.ending, .string o.uid, .int .i64 o.rev, .string o.doc] 54)).alloc (.cells #[.string o.kind, .string o.space, .string o.name, ul, uo, uh, .bool o.ending, .string o.uid, .int .i64 o.rev, .string o.doc] 54) := ⟨_, rfl⟩
  have hx1 : Ext w w1 := by rw [hw1]; exact ((Below.refl _ _).alloc (Nat.le_refl _) _).alloc (by simp) _
  have hg1 : ThingIn w1 k1 o vl vo vh := by rw [hw1]; exact heap_old (heap_new hk1)
  have hg2 : ThingIn w1 k2 o ul uo uh := by rw [hw1]; exact heap_new (by simp [hk2])
  have HX1 := Lib.hid hx1
  have HG := Lib.hid (And.intro hg1 hg2)
  have HF := Lib.hid (And.intro (h.below (hx1.mono hB) (Nat.le_refl _)) (h'.below (hx1.mono hB) (Nat.le_refl _)))
  have HB1 : Hid (B ≤ w1.heap.size) := Nat.le_trans hB hx1.size
  obtain ⟨a0, a1, a2, a3, a4, a5, a6, a7, a8, a9⟩ := hg1.cells
  obtain ⟨b0, b1, b2, b3, b4, b5, b6, b7, b8, b9⟩ := hg2.cells
  clear h h' hx1 hg1 hg2
  unfold Thing.val
  go_enter Try.func28, Try.ntmps28
  go_wp2_with fail
  rw [← hw1, ← hk2, ← hk1]
  clear hw1 hk1 hk2
  refine Calls.mono (eq_labs HB1.out HF.out.1.1 HF.out.2.1) ?_
  rintro e w2 ⟨rfl, hx2⟩
  have HX2 := Lib.hid (HX1.out.trans hx2)
  have HF2 := Lib.hid (And.intro (HF.out.1.below (hx2.mono HB1.out) (Nat.le_refl _)) (HF.out.2.below (hx2.mono HB1.out) (Nat.le_refl _)))
  clear a0 a1 a2 a3 a4 a5 a6 a7 a8 a9 b0 b1 b2 b3 b4 b5 b6 b7 b8 b9
  obtain ⟨a0, a1, a2, a3, a4, a5, a6, a7, a8, a9⟩ := (HG.out.1.ext hx2).cells
  obtain ⟨b0, b1, b2, b3, b4, b5, b6, b7, b8, b9⟩ := (HG.out.2.ext hx2).cells
  clear hx2
  go_wp2_with fail
  refine Calls.mono (eq_strs HF2.out.1.2.1 HF2.out.2.2.1) ?_
  rintro e w3 ⟨rfl, rfl⟩
  go_wp2_with fail
  refine Calls.mono (eq_strs HF2.out.1.2.2 HF2.out.2.2.2) ?_
  rintro e w4 ⟨rfl, rfl⟩
  go_wp2
  go_ret
  exact ⟨rfl, HX2.out⟩
end Go.Proofs.Ytpbbohinhbboaaa.Sx
