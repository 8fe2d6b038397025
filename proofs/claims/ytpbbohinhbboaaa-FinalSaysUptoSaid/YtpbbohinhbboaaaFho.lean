/-
  final.Hold: the plain law; the program's.
-/
import Derived.Test.YtpbbohinhbboaaaFdr
import Derived.Test.YtpbbohinhbboaaaName2
import Derived.Test.YtpbbohinhbboaaaHas
namespace Go.Proofs.Ytpbbohinhbboaaa.Sx
open Go Go.RowKit

def holdE (o : Thing) (h : ByteArray) : Int := if nameI h = 0 then (if o.ending = true then 20 else if hasS o.holds h = true then 5 else if 3 < o.holds.length then 2 else 0) else nameI h
def zeroT : Thing := ⟨⟨#[]⟩, ⟨#[]⟩, ⟨#[]⟩, [], [], [], false, ⟨#[]⟩, 0, ⟨#[]⟩⟩
def Thing.more (o : Thing) (h : ByteArray) : Thing := { o with holds := o.holds ++ [h] }
def holdO (o : Thing) (h : ByteArray) : Thing := if holdE o h = 0 then o.more h else zeroT
def HoldPost (w : World) (o : Thing) (h : ByteArray) (e : Ending) (w' : World) : Prop := ∃ ul uo uh, e = .returned (.tuple #[(holdO o h).val ul uo uh, .int .i64 (holdE o h)]) ∧ (holdO o h).fits w'.heap.size w' ul uo uh ∧ Ext w w'
theorem zero_fits {B : Nat} {w : World} : zeroT.fits B w (.slice none 0 0) (.slice none 0 0) (.slice none 0 0) :=
  ⟨⟨by simp [zeroT], none, 0, rfl, fun i hi => by simp [zeroT] at hi⟩, ⟨by simp [zeroT], none, 0, rfl, fun i hi => by simp [zeroT] at hi⟩, ⟨by simp [zeroT], none, 0, rfl, fun i hi => by simp [zeroT] at hi⟩⟩
theorem hold_bad {w w' : World} {o : Thing} {h : ByteArray} {n : Int} (he : holdE o h = n) (hn : n ≠ 0) (hx : Ext w w') : HoldPost w o h (.returned (.tuple #[zeroT.val (.slice none 0 0) (.slice none 0 0) (.slice none 0 0), .int .i64 n])) w' := by
  have e : holdO o h = zeroT := if_neg (by rw [he]; exact hn)
  exact ⟨_, _, _, by rw [e, he], by rw [e]; exact zero_fits, hx⟩
theorem hold_good {w w' : World} {o : Thing} {h : ByteArray} {ul uo uh : Value} (he : holdE o h = 0) (hf : (o.more h).fits w'.heap.size w' ul uo uh) (hx : Ext w w') : HoldPost w o h (.returned (.tuple #[(o.more h).val ul uo uh, .int .i64 0])) w' := by
  have e : holdO o h = o.more h := if_pos he
  exact ⟨_, _, _, by rw [e, he], by rw [e]; exact hf, hx⟩

set_option maxRecDepth 100000 in
set_option maxHeartbeats 4000000 in
theorem hold_any' (B : Nat) (o : Thing) (vl vo vh : Value) (hd : ByteArray) (w : World) (hB : B ≤ w.heap.size) (h : o.fits B w vl vo vh) (hz : hd.size ≤ 1048576) (hbad : holdE o hd ≠ 0) :
    Calls Try.prog 24 #[o.val vl vo vh, .string hd] w (HoldPost w o hd) := by
  obtain ⟨w1, hw1, hx1, hg1, hz1, hs1⟩ := two_boxes w o vl vo vh
  obtain ⟨k1, hk1⟩ : ∃ k, k = w.heap.size := ⟨_, rfl⟩
  obtain ⟨k2, hk2⟩ : ∃ k, k = w.heap.size + 1 := ⟨_, rfl⟩
  rw [← hk1] at hg1
  rw [← hk2] at hz1
  have HF1 := Lib.hid (h.below (hx1.mono hB) (Nat.le_refl _))
  obtain ⟨L1, l1, L2, l2, L3, l3, rfl, rfl, rfl⟩ := h.slices
  have H1 := Lib.hid (And.intro hx1 (And.intro hg1 (And.intro hz1 hs1)))
  obtain ⟨g0, g1, g2, g3, g4, g5, g6, g7, g8, g9⟩ := hg1.cells
  obtain ⟨i0, i1, i2, i3, i4, i5, i6, i7, i8, i9⟩ := hz1.free
  obtain ⟨j0, j1, j2, j3, j4, j5, j6, j7, j8, j9⟩ := hz1.cells
  have HK := Lib.hid (And.intro hk1 hk2)
  have hmx : hd.size ≤ maxLen := by unfold maxLen; omega
  have hne : k1 ≠ k2 := by omega
  have HBAD := Lib.hid hbad
  obtain ⟨b, hb⟩ : ∃ b, b = o.ending := ⟨_, rfl⟩
  have HEB := Lib.hid hb
  rw [← hb] at g6
  obtain ⟨c, hc⟩ : ∃ c, c = hasS o.holds hd := ⟨_, rfl⟩
  have HEC := Lib.hid hc
  clear h hx1 hg1 hz1 hs1 hb hB hc hbad
  unfold Thing.val
  go_enter Try.func24, Try.ntmps24
  go_upto_region 1 with fail
  rw [← hw1, ← hk2, ← hk1]
  clear hw1 hk1 hk2
  by_cases h0 : nameI hd = 0
  · have hb1 : (nameI hd != 0) = false := by simp [h0]
    have H0 := Lib.hid h0
    clear h0
    cases b with
    | true =>
      have HE : Hid (holdE o hd = 20) := by unfold Hid holdE; rw [if_pos H0.out]; exact if_pos HEB.out.symm
      obtain ⟨W', hW', t1, t2⟩ := put_zero H1.out.2.2.1 zeroT (.slice none 0 0) (.slice none 0 0) (.slice none 0 0)
      have e' : (((((((((w1.setCell ⟨k2, 0, none⟩ (.string ⟨#[]⟩)).setCell ⟨k2, 1, none⟩ (.string ⟨#[]⟩)).setCell ⟨k2, 2, none⟩ (.string ⟨#[]⟩)).setCell ⟨k2, 3, none⟩ (.slice none 0 0)).setCell ⟨k2, 4, none⟩ (.slice none 0 0)).setCell ⟨k2, 5, none⟩ (.slice none 0 0)).setCell ⟨k2, 6, none⟩ (.bool false)).setCell ⟨k2, 7, none⟩ (.string ⟨#[]⟩)).setCell ⟨k2, 8, none⟩ (.int .i64 0)).setCell ⟨k2, 9, none⟩ (.string ⟨#[]⟩) = W' := hW'.symm
      have HX9 : Hid (Ext w W') := H1.out.1.grown t2 H1.out.1.size (by intro k e; injection e with e; have := HK.out; omega)
      have T1 := Lib.hid t1
      clear hW' t1 t2
      go_wp2_with (go_at_call 68; refine (check_any _ _ hmx).mono ?_; rintro e w' ⟨rfl, rfl⟩)
      refine bodyPost_ret (results_ct rfl _ _ k2 rfl T1.out) rfl ?_
      exact hold_bad HE.out (by decide) HX9.out
    | false =>
      cases c with
      | true =>
        have HE : Hid (holdE o hd = 5) := by unfold Hid holdE; rw [if_pos H0.out, if_neg (by rw [← HEB.out]; simp)]; exact if_pos HEC.out.symm
        obtain ⟨W', hW', t1, t2⟩ := put_zero H1.out.2.2.1 zeroT (.slice none 0 0) (.slice none 0 0) (.slice none 0 0)
        have e' : (((((((((w1.setCell ⟨k2, 0, none⟩ (.string ⟨#[]⟩)).setCell ⟨k2, 1, none⟩ (.string ⟨#[]⟩)).setCell ⟨k2, 2, none⟩ (.string ⟨#[]⟩)).setCell ⟨k2, 3, none⟩ (.slice none 0 0)).setCell ⟨k2, 4, none⟩ (.slice none 0 0)).setCell ⟨k2, 5, none⟩ (.slice none 0 0)).setCell ⟨k2, 6, none⟩ (.bool false)).setCell ⟨k2, 7, none⟩ (.string ⟨#[]⟩)).setCell ⟨k2, 8, none⟩ (.int .i64 0)).setCell ⟨k2, 9, none⟩ (.string ⟨#[]⟩) = W' := hW'.symm
        have HX9 : Hid (Ext w W') := H1.out.1.grown t2 H1.out.1.size (by intro k e; injection e with e; have := HK.out; omega)
        have T1 := Lib.hid t1
        clear hW' t1 t2
        go_wp2_with (first | (go_at_call 68; refine (check_any _ _ hmx).mono ?_; rintro e w' ⟨rfl, rfl⟩) | (go_at_call 69; refine (contains_strs hd HF1.out.2.2).mono ?_; rw [← HEC.out]; rintro e w' ⟨rfl, rfl⟩))
        refine bodyPost_ret (results_ct rfl _ _ k2 rfl T1.out) rfl ?_
        exact hold_bad HE.out (by decide) HX9.out
      | false =>
        have h3 : 3 < o.holds.length := by
          rcases Nat.lt_or_ge 3 o.holds.length with h | h
          · exact h
          · refine absurd ?_ HBAD.out
            unfold holdE
            rw [if_pos H0.out, if_neg (by rw [← HEB.out]; simp), if_neg (by rw [← HEC.out]; simp), if_neg (by omega)]
        have d1 : decide (4 ≤ (o.holds.length : Int)) = true := decide_eq_true (by omega)
        have d2 : decide (4 ≤ o.holds.length) = true := decide_eq_true h3
        have H3 := Lib.hid h3
        clear h3
        have HE : Hid (holdE o hd = 2) := by unfold Hid holdE; rw [if_pos H0.out, if_neg (by rw [← HEB.out]; simp), if_neg (by rw [← HEC.out]; simp)]; exact if_pos H3.out
        obtain ⟨W', hW', t1, t2⟩ := put_zero H1.out.2.2.1 zeroT (.slice none 0 0) (.slice none 0 0) (.slice none 0 0)
        have e' : (((((((((w1.setCell ⟨k2, 0, none⟩ (.string ⟨#[]⟩)).setCell ⟨k2, 1, none⟩ (.string ⟨#[]⟩)).setCell ⟨k2, 2, none⟩ (.string ⟨#[]⟩)).setCell ⟨k2, 3, none⟩ (.slice none 0 0)).setCell ⟨k2, 4, none⟩ (.slice none 0 0)).setCell ⟨k2, 5, none⟩ (.slice none 0 0)).setCell ⟨k2, 6, none⟩ (.bool false)).setCell ⟨k2, 7, none⟩ (.string ⟨#[]⟩)).setCell ⟨k2, 8, none⟩ (.int .i64 0)).setCell ⟨k2, 9, none⟩ (.string ⟨#[]⟩) = W' := hW'.symm
        have HX9 : Hid (Ext w W') := H1.out.1.grown t2 H1.out.1.size (by intro k e; injection e with e; have := HK.out; omega)
        have T1 := Lib.hid t1
        clear hW' t1 t2
        go_wp2_with (first | (go_at_call 68; refine (check_any _ _ hmx).mono ?_; rintro e w' ⟨rfl, rfl⟩) | (go_at_call 69; refine (contains_strs hd HF1.out.2.2).mono ?_; rw [← HEC.out]; rintro e w' ⟨rfl, rfl⟩))
        refine bodyPost_ret (results_ct rfl _ _ k2 rfl T1.out) rfl ?_
        exact hold_bad HE.out (by decide) HX9.out
  · have hb1 : (nameI hd != 0) = true := by simp [h0]
    have H0 := Lib.hid h0
    clear h0
    have HE : Hid (holdE o hd = nameI hd) := by unfold Hid holdE; exact if_neg H0.out
    obtain ⟨W', hW', t1, t2⟩ := put_zero H1.out.2.2.1 zeroT (.slice none 0 0) (.slice none 0 0) (.slice none 0 0)
    have e' : (((((((((w1.setCell ⟨k2, 0, none⟩ (.string ⟨#[]⟩)).setCell ⟨k2, 1, none⟩ (.string ⟨#[]⟩)).setCell ⟨k2, 2, none⟩ (.string ⟨#[]⟩)).setCell ⟨k2, 3, none⟩ (.slice none 0 0)).setCell ⟨k2, 4, none⟩ (.slice none 0 0)).setCell ⟨k2, 5, none⟩ (.slice none 0 0)).setCell ⟨k2, 6, none⟩ (.bool false)).setCell ⟨k2, 7, none⟩ (.string ⟨#[]⟩)).setCell ⟨k2, 8, none⟩ (.int .i64 0)).setCell ⟨k2, 9, none⟩ (.string ⟨#[]⟩) = W' := hW'.symm
    have HX9 : Hid (Ext w W') := H1.out.1.grown t2 H1.out.1.size (by intro k e; injection e with e; have := HK.out; omega)
    have T1 := Lib.hid t1
    clear hW' t1 t2
    go_wp2_with (go_at_call 68; refine (check_any _ _ hmx).mono ?_; rintro e w' ⟨rfl, rfl⟩)
    refine bodyPost_ret (results_ct rfl _ _ k2 rfl T1.out) rfl ?_
    exact hold_bad HE.out H0.out HX9.out
end Go.Proofs.Ytpbbohinhbboaaa.Sx
