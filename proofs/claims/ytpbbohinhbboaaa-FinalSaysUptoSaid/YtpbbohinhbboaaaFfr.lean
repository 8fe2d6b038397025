/-
  final.Free and FinalFree: the plain law; both where nobody of that name holds.
-/
import Derived.Test.YtpbbohinhbboaaaFhr
namespace Go.Proofs.Ytpbbohinhbboaaa.Sx
open Go Go.RowKit

def heldAt (o : Thing) (h : ByteArray) : Option Nat := o.holds.findIdx? fun y => eqS y h
def Thing.less (o : Thing) (k : Nat) : Thing := { o with holds := o.holds.take k ++ o.holds.drop (k + 1) }
def freeO (o : Thing) (h : ByteArray) : Thing := match heldAt o h with | some k => o.less k | none => zeroT
def freeB (o : Thing) (h : ByteArray) : Bool := match heldAt o h with | some k => o.ending && decide ((o.less k).holds.length = 0) | none => false
def freeE (o : Thing) (h : ByteArray) : Int := match heldAt o h with | some _ => 0 | none => 7
def FreePost (w : World) (o : Thing) (h : ByteArray) (e : Ending) (w' : World) : Prop := ∃ ul uo uh, e = .returned (.tuple #[(freeO o h).val ul uo uh, .bool (freeB o h), .int .i64 (freeE o h)]) ∧ (freeO o h).fits w'.heap.size w' ul uo uh ∧ Ext w w'
theorem free_bad {w w' : World} {o : Thing} {h : ByteArray} (he : heldAt o h = none) (hx : Ext w w') : FreePost w o h (.returned (.tuple #[zeroT.val (.slice none 0 0) (.slice none 0 0) (.slice none 0 0), .bool false, .int .i64 7])) w' := by
  have e1 : freeO o h = zeroT := by unfold freeO; rw [he]
  have e2 : freeB o h = false := by unfold freeB; rw [he]
  have e3 : freeE o h = 7 := by unfold freeE; rw [he]
  exact ⟨_, _, _, by rw [e1, e2, e3], by rw [e1]; exact zero_fits, hx⟩
theorem held_none {o : Thing} {h : ByteArray} (hno : heldAt o h = none) {j : Nat} (hj : j < o.holds.length) : eqS o.holds[j] h = false := by
  unfold heldAt at hno
  rw [List.findIdx?_eq_none_iff] at hno
  exact hno _ (List.getElem_mem hj)
theorem index_strs {B : Nat} {v : Value} {xs : List ByteArray} (s : ByteArray) {w : World} (h : StrsR B w v xs) :
    Calls Try.prog 73 #[v, .string s] w fun e w' => e = .returned (.int .i64 (Lib.idxOfS xs s)) ∧ w = w' := by
  by_cases h0 : 0 < xs.length
  · have hn := h.1
    obtain ⟨b, off, c, rfl, _, hc⟩ := h.cells h0
    refine (Try.slices_Index_string b off xs.length c xs s w (Nat.le_refl _) (by omega) (StrsR.getD hc)).mono fun e w' ⟨he, hw⟩ => ⟨?_, hw.symm⟩
    rw [he, List.take_length]
  · obtain ⟨hn, A, c, rfl, _⟩ := h
    have hx : xs = [] := List.length_eq_zero_iff.1 (by omega)
    subst hx
    exact (Try.slices_Index_string_empty A c s w).mono fun e w' ⟨he, hw⟩ => ⟨he, hw.symm⟩
theorem idx_none {o : Thing} {h : ByteArray} (hno : heldAt o h = none) : Lib.idxOfS o.holds h = -1 := by
  have := Lib.idxOfS_miss o.holds o.holds.length h (fun j hj e => by
    have h1 := held_none hno hj
    have h2 : o.holds[j] = h := by simpa [List.getD, hj] using e
    rw [(eqS_iff _ _).2 h2] at h1
    cases h1)
  rwa [List.take_length] at this
theorem results_ctt' {fn : Func} {p u x : Tmp} (h : fn.results = #[.cell p 54, .tmp u, .tmp x]) (tmps : Array Value) (w : World) (g : Nat) {o : Thing} {vl vo vh : Value} (hp : tmps.getD p undef = .pointer (some ⟨g, 0, none⟩)) (hg : ThingIn w g o vl vo vh) :
    (results fn tmps).run Try.prog w = .ok (.tuple #[o.val vl vo vh, tmps.getD u undef, tmps.getD x undef]) w := results_ctt h tmps w g hp hg

set_option maxRecDepth 100000 in
set_option maxHeartbeats 4000000 in
theorem free_none' (B : Nat) (o : Thing) (vl vo vh : Value) (hd : ByteArray) (w : World) (hB : B ≤ w.heap.size) (h : o.fits B w vl vo vh) (hno : heldAt o hd = none) :
    Calls Try.prog 26 #[o.val vl vo vh, .string hd] w (FreePost w o hd) := by
  obtain ⟨w1, hw1, hx1, hg1, hz1, hs1⟩ := two_boxes w o vl vo vh
  obtain ⟨k1, hk1⟩ : ∃ k, k = w.heap.size := ⟨_, rfl⟩
  obtain ⟨k2, hk2⟩ : ∃ k, k = w.heap.size + 1 := ⟨_, rfl⟩
  rw [← hk1] at hg1
  rw [← hk2] at hz1
  have HF1 := Lib.hid (h.below (hx1.mono hB) (Nat.le_refl _))
  obtain ⟨L1, l1, L2, l2, L3, l3, rfl, rfl, rfl⟩ := h.slices
  have H1 := Lib.hid (And.intro hx1 (And.intro hg1 (And.intro hz1 hs1)))
  obtain ⟨g0, g1, g2, g3, g4, g5, g6, g7, g8, g9⟩ := hg1.cells
  obtain ⟨i0, i1, i2, i3, i4, i5, i6, i7, i8, i9⟩ := hz1.free
  obtain ⟨j0, j1, j2, j3, j4, j5, j6, j7, j8, j9⟩ := hz1.cells
  have HK := Lib.hid (And.intro hk1 hk2)
  have hne : k1 ≠ k2 := by omega
  obtain ⟨W', hW', t1, t2⟩ := put_zero hz1 zeroT (.slice none 0 0) (.slice none 0 0) (.slice none 0 0)
  have e' : (((((((((w1.setCell ⟨k2, 0, none⟩ (.string ⟨#[]⟩)).setCell ⟨k2, 1, none⟩ (.string ⟨#[]⟩)).setCell ⟨k2, 2, none⟩ (.string ⟨#[]⟩)).setCell ⟨k2, 3, none⟩ (.slice none 0 0)).setCell ⟨k2, 4, none⟩ (.slice none 0 0)).setCell ⟨k2, 5, none⟩ (.slice none 0 0)).setCell ⟨k2, 6, none⟩ (.bool false)).setCell ⟨k2, 7, none⟩ (.string ⟨#[]⟩)).setCell ⟨k2, 8, none⟩ (.int .i64 0)).setCell ⟨k2, 9, none⟩ (.string ⟨#[]⟩) = W' := hW'.symm
  have HX9 : Hid (Ext w W') := hx1.grown t2 hx1.size (by intro k e; injection e with e; have := HK.out; omega)
  have T1 := Lib.hid t1
  have HN := Lib.hid hno
  clear h hx1 hg1 hz1 hs1 hB hW' t1 t2 hno
  unfold Thing.val
  go_enter Try.func26, Try.ntmps26
  go_upto_region 1 with fail
  rw [← hw1, ← hk2, ← hk1]
  clear hw1 hk1 hk2
  go_wp2_with (go_at_call 73; refine (index_strs hd HF1.out.2.2).mono ?_; rw [idx_none HN.out]; rintro e w' ⟨rfl, rfl⟩)
  refine bodyPost_ret (results_ctt rfl _ _ k2 rfl T1.out) rfl ?_
  exact free_bad HN.out HX9.out

set_option maxRecDepth 100000 in
set_option maxHeartbeats 4000000 in
theorem rfree_none' (B : Nat) (o : Thing) (vl vo vh : Value) (hd : ByteArray) (w : World) (hB : B ≤ w.heap.size) (h : o.fits B w vl vo vh) (hno : heldAt o hd = none) :
    Calls Try.prog 27 #[o.val vl vo vh, .string hd] w (FreePost w o hd) := by
  have hn := h.2.2.1
  have hE : Hid (∀ a b, (a.toList == b.toList) = eqS a b) := fun a b => rfl
  obtain ⟨w1, hw1, hx1, hg1, hz1, hs1⟩ := two_boxes w o vl vo vh
  obtain ⟨k1, hk1⟩ : ∃ k, k = w.heap.size := ⟨_, rfl⟩
  obtain ⟨k2, hk2⟩ : ∃ k, k = w.heap.size + 1 := ⟨_, rfl⟩
  rw [← hk1] at hg1
  rw [← hk2] at hz1
  have HF1 := Lib.hid (h.below (hx1.mono hB) (Nat.le_refl _))
  obtain ⟨L1, l1, L2, l2, L3, l3, rfl, rfl, rfl⟩ := h.slices
  have H1 := Lib.hid (And.intro hx1 (And.intro hg1 (And.intro hz1 hs1)))
  obtain ⟨g0, g1, g2, g3, g4, g5, g6, g7, g8, g9⟩ := hg1.cells
  obtain ⟨i0, i1, i2, i3, i4, i5, i6, i7, i8, i9⟩ := hz1.free
  obtain ⟨j0, j1, j2, j3, j4, j5, j6, j7, j8, j9⟩ := hz1.cells
  have HK := Lib.hid (And.intro hk1 hk2)
  have hne : k1 ≠ k2 := by omega
  obtain ⟨W', hW', t1, t2⟩ := put_zero hz1 zeroT (.slice none 0 0) (.slice none 0 0) (.slice none 0 0)
  have e' : (((((((((w1.setCell ⟨k2, 0, none⟩ (.string ⟨#[]⟩)).setCell ⟨k2, 1, none⟩ (.string ⟨#[]⟩)).setCell ⟨k2, 2, none⟩ (.string ⟨#[]⟩)).setCell ⟨k2, 3, none⟩ (.slice none 0 0)).setCell ⟨k2, 4, none⟩ (.slice none 0 0)).setCell ⟨k2, 5, none⟩ (.slice none 0 0)).setCell ⟨k2, 6, none⟩ (.bool false)).setCell ⟨k2, 7, none⟩ (.string ⟨#[]⟩)).setCell ⟨k2, 8, none⟩ (.int .i64 0)).setCell ⟨k2, 9, none⟩ (.string ⟨#[]⟩) = W' := hW'.symm
  have HX9 : Hid (Ext w W') := hx1.grown t2 hx1.size (by intro k e; injection e with e; have := HK.out; omega)
  have T1 := Lib.hid t1
  have HN := Lib.hid hno
  clear h hx1 hg1 hz1 hs1 hB hW' t1 t2 hno
  unfold Thing.val
  go_enter Try.func27, Try.ntmps27
  go_upto_region 1 with fail
  rw [← hw1, ← hk2, ← hk1]
  clear hw1 hk1 hk2
  go_wp2
  go_loopw [7, 8, 12] (fun _ _ k wr => ∃ j : Nat, j ≤ o.holds.length ∧ k = .int .i64 (j : Int) ∧ wr = w1) (fun _ _ k _ => o.holds.length - (intOf k).toNat)
  case atStart => exact ⟨0, Nat.zero_le _, rfl, rfl⟩
  case round =>
    obtain ⟨j, hj, rfl, rfl⟩ := hrel
    by_cases hlt : j < o.holds.length
    · obtain ⟨b, off, c2, hv, _, hc⟩ := StrsR.cells HF1.out.2.2 (by omega)
      injection hv with q1 q2 q3
      subst q1 q3
      have c1 := (hc j hlt).1
      have b1 : (o.holds[j].toList == hd.toList) = false := by rw [hE.out]; exact held_none HN.out hlt
      obtain ⟨x, hx⟩ : ∃ x, x = o.holds[j] := ⟨_, rfl⟩
      rw [← hx] at c1 b1
      clear hx hc q2
      go_wp2
      go_roundw
      case rel => exact ⟨j + 1, hlt, by go_num, (by first | rfl | trivial)⟩
      case measure => simp [intOf]; omega
    · go_wp2
      refine bodyPost_ret (results_ctt rfl _ _ k2 rfl T1.out) rfl ?_
      exact free_bad HN.out HX9.out
end Go.Proofs.Ytpbbohinhbboaaa.Sx
