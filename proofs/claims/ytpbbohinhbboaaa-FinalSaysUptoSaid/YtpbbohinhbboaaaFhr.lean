/-
  The reference's FinalHold.
-/
import Derived.Test.YtpbbohinhbboaaaFho2
namespace Go.Proofs.Ytpbbohinhbboaaa.Sx
open Go Go.RowKit

theorem strs_src {B : Nat} {w : World} {v : Value} {xs : List ByteArray} (h : StrsR B w v xs) : SrcS w v xs := by
  obtain ⟨_, A, c, rfl, hi⟩ := h
  cases A with
  | none =>
    refine .inl ⟨c, ?_⟩
    cases xs with
    | nil => exact ⟨rfl, rfl⟩
    | cons x r =>
      obtain ⟨_, _, _, hA, _⟩ := hi 0 (by simp)
      cases hA
  | some ad =>
    refine .inr ⟨ad, c, rfl, fun j u hj => ?_⟩
    have hl : j < xs.length := by have := (List.getElem?_eq_some_iff.1 hj).1; simpa [strVals] using this
    obtain ⟨b, off, cs, hA, _, _, ⟨hcs, _⟩, hcell⟩ := hi j hl
    injection hA with hA
    subst hA
    have hu : u = .string xs[j] := by simp [strVals, hl] at hj; exact hj.symm
    have := hcell 0 u (by rw [hcs, hu]; rfl)
    rw [Addr.add_lit]
    simpa using this

set_option maxRecDepth 100000 in
set_option maxHeartbeats 4000000 in
theorem rhold_bad' (B : Nat) (o : Thing) (vl vo vh : Value) (hd : ByteArray) (w : World) (hB : B ≤ w.heap.size) (h : o.fits B w vl vo vh) (hz : hd.size ≤ 1048576) (hbad : holdE o hd ≠ 0) :
    Calls Try.prog 25 #[o.val vl vo vh, .string hd] w (HoldPost w o hd) := by
  obtain ⟨w1, hw1, hx1, hg1, hz1, hs1⟩ := two_boxes w o vl vo vh
  obtain ⟨k1, hk1⟩ : ∃ k, k = w.heap.size := ⟨_, rfl⟩
  obtain ⟨k2, hk2⟩ : ∃ k, k = w.heap.size + 1 := ⟨_, rfl⟩
  rw [← hk1] at hg1
  rw [← hk2] at hz1
  have HF1 := Lib.hid (h.below (hx1.mono hB) (Nat.le_refl _))
  obtain ⟨L1, l1, L2, l2, L3, l3, rfl, rfl, rfl⟩ := h.slices
  have H1 := Lib.hid (And.intro hx1 (And.intro hg1 (And.intro hz1 hs1)))
  obtain ⟨g0, g1, g2, g3, g4, g5, g6, g7, g8, g9⟩ := hg1.cells
  obtain ⟨i0, i1, i2, i3, i4, i5, i6, i7, i8, i9⟩ := hz1.free
  obtain ⟨j0, j1, j2, j3, j4, j5, j6, j7, j8, j9⟩ := hz1.cells
  have HK := Lib.hid (And.intro hk1 hk2)
  have hmx : hd.size ≤ maxLen := by unfold maxLen; omega
  have hne : k1 ≠ k2 := by omega
  have HBAD := Lib.hid hbad
  obtain ⟨b, hb⟩ : ∃ b, b = o.ending := ⟨_, rfl⟩
  have HEB := Lib.hid hb
  rw [← hb] at g6
  obtain ⟨c, hc⟩ : ∃ c, c = hasS o.holds hd := ⟨_, rfl⟩
  have HEC := Lib.hid hc
  clear h hx1 hg1 hz1 hs1 hb hB hc hbad
  unfold Thing.val
  go_enter Try.func25, Try.ntmps25
  go_upto_region 1 with fail
  rw [← hw1, ← hk2, ← hk1]
  clear hw1 hk1 hk2
  by_cases h0 : nameI hd = 0
  · have hb1 : (nameI hd != 0) = false := by simp [h0]
    have H0 := Lib.hid h0
    clear h0
    cases b with
    | true =>
      have HE : Hid (holdE o hd = 20) := by unfold Hid holdE; rw [if_pos H0.out]; exact if_pos HEB.out.symm
      obtain ⟨W', hW', t1, t2⟩ := put_zero H1.out.2.2.1 zeroT (.slice none 0 0) (.slice none 0 0) (.slice none 0 0)
      have e' : (((((((((w1.setCell ⟨k2, 0, none⟩ (.string ⟨#[]⟩)).setCell ⟨k2, 1, none⟩ (.string ⟨#[]⟩)).setCell ⟨k2, 2, none⟩ (.string ⟨#[]⟩)).setCell ⟨k2, 3, none⟩ (.slice none 0 0)).setCell ⟨k2, 4, none⟩ (.slice none 0 0)).setCell ⟨k2, 5, none⟩ (.slice none 0 0)).setCell ⟨k2, 6, none⟩ (.bool false)).setCell ⟨k2, 7, none⟩ (.string ⟨#[]⟩)).setCell ⟨k2, 8, none⟩ (.int .i64 0)).setCell ⟨k2, 9, none⟩ (.string ⟨#[]⟩) = W' := hW'.symm
      have HX9 : Hid (Ext w W') := H1.out.1.grown t2 H1.out.1.size (by intro k e; injection e with e; have := HK.out; omega)
      have T1 := Lib.hid t1
      clear hW' t1 t2
      go_wp2_with (go_at_call 70; refine (rname_any _ _ hmx).mono ?_; rintro e w' ⟨rfl, rfl⟩)
      refine bodyPost_ret (results_ct rfl _ _ k2 rfl T1.out) rfl ?_
      exact hold_bad HE.out (by decide) HX9.out
    | false =>
      cases c with
      | true =>
        have HE : Hid (holdE o hd = 5) := by unfold Hid holdE; rw [if_pos H0.out, if_neg (by rw [← HEB.out]; simp)]; exact if_pos HEC.out.symm
        obtain ⟨W', hW', t1, t2⟩ := put_zero H1.out.2.2.1 zeroT (.slice none 0 0) (.slice none 0 0) (.slice none 0 0)
        have e' : (((((((((w1.setCell ⟨k2, 0, none⟩ (.string ⟨#[]⟩)).setCell ⟨k2, 1, none⟩ (.string ⟨#[]⟩)).setCell ⟨k2, 2, none⟩ (.string ⟨#[]⟩)).setCell ⟨k2, 3, none⟩ (.slice none 0 0)).setCell ⟨k2, 4, none⟩ (.slice none 0 0)).setCell ⟨k2, 5, none⟩ (.slice none 0 0)).setCell ⟨k2, 6, none⟩ (.bool false)).setCell ⟨k2, 7, none⟩ (.string ⟨#[]⟩)).setCell ⟨k2, 8, none⟩ (.int .i64 0)).setCell ⟨k2, 9, none⟩ (.string ⟨#[]⟩) = W' := hW'.symm
        have HX9 : Hid (Ext w W') := H1.out.1.grown t2 H1.out.1.size (by intro k e; injection e with e; have := HK.out; omega)
        have T1 := Lib.hid t1
        clear hW' t1 t2
        go_wp2_with (first | (go_at_call 70; refine (rname_any _ _ hmx).mono ?_; rintro e w' ⟨rfl, rfl⟩) | (go_at_call 71; refine (rhas_any hd HF1.out.2.2).mono ?_; rw [← HEC.out]; rintro e w' ⟨rfl, rfl⟩))
        refine bodyPost_ret (results_ct rfl _ _ k2 rfl T1.out) rfl ?_
        exact hold_bad HE.out (by decide) HX9.out
      | false =>
        have h3 : 3 < o.holds.length := by
          rcases Nat.lt_or_ge 3 o.holds.length with h | h
          · exact h
          · refine absurd ?_ HBAD.out
            unfold holdE
            rw [if_pos H0.out, if_neg (by rw [← HEB.out]; simp), if_neg (by rw [← HEC.out]; simp), if_neg (by omega)]
        have d1 : decide (3 < (o.holds.length : Int)) = true := decide_eq_true (by omega)
        have d2 : decide (3 < o.holds.length) = true := decide_eq_true h3
        have H3 := Lib.hid h3
        clear h3
        have HE : Hid (holdE o hd = 2) := by unfold Hid holdE; rw [if_pos H0.out, if_neg (by rw [← HEB.out]; simp), if_neg (by rw [← HEC.out]; simp)]; exact if_pos H3.out
        obtain ⟨W', hW', t1, t2⟩ := put_zero H1.out.2.2.1 zeroT (.slice none 0 0) (.slice none 0 0) (.slice none 0 0)
        have e' : (((((((((w1.setCell ⟨k2, 0, none⟩ (.string ⟨#[]⟩)).setCell ⟨k2, 1, none⟩ (.string ⟨#[]⟩)).setCell ⟨k2, 2, none⟩ (.string ⟨#[]⟩)).setCell ⟨k2, 3, none⟩ (.slice none 0 0)).setCell ⟨k2, 4, none⟩ (.slice none 0 0)).setCell ⟨k2, 5, none⟩ (.slice none 0 0)).setCell ⟨k2, 6, none⟩ (.bool false)).setCell ⟨k2, 7, none⟩ (.string ⟨#[]⟩)).setCell ⟨k2, 8, none⟩ (.int .i64 0)).setCell ⟨k2, 9, none⟩ (.string ⟨#[]⟩) = W' := hW'.symm
        have HX9 : Hid (Ext w W') := H1.out.1.grown t2 H1.out.1.size (by intro k e; injection e with e; have := HK.out; omega)
        have T1 := Lib.hid t1
        clear hW' t1 t2
        go_wp2_with (first | (go_at_call 70; refine (rname_any _ _ hmx).mono ?_; rintro e w' ⟨rfl, rfl⟩) | (go_at_call 71; refine (rhas_any hd HF1.out.2.2).mono ?_; rw [← HEC.out]; rintro e w' ⟨rfl, rfl⟩))
        refine bodyPost_ret (results_ct rfl _ _ k2 rfl T1.out) rfl ?_
        exact hold_bad HE.out (by decide) HX9.out
  · have hb1 : (nameI hd != 0) = true := by simp [h0]
    have H0 := Lib.hid h0
    clear h0
    have HE : Hid (holdE o hd = nameI hd) := by unfold Hid holdE; exact if_neg H0.out
    obtain ⟨W', hW', t1, t2⟩ := put_zero H1.out.2.2.1 zeroT (.slice none 0 0) (.slice none 0 0) (.slice none 0 0)
    have e' : (((((((((w1.setCell ⟨k2, 0, none⟩ (.string ⟨#[]⟩)).setCell ⟨k2, 1, none⟩ (.string ⟨#[]⟩)).setCell ⟨k2, 2, none⟩ (.string ⟨#[]⟩)).setCell ⟨k2, 3, none⟩ (.slice none 0 0)).setCell ⟨k2, 4, none⟩ (.slice none 0 0)).setCell ⟨k2, 5, none⟩ (.slice none 0 0)).setCell ⟨k2, 6, none⟩ (.bool false)).setCell ⟨k2, 7, none⟩ (.string ⟨#[]⟩)).setCell ⟨k2, 8, none⟩ (.int .i64 0)).setCell ⟨k2, 9, none⟩ (.string ⟨#[]⟩) = W' := hW'.symm
    have HX9 : Hid (Ext w W') := H1.out.1.grown t2 H1.out.1.size (by intro k e; injection e with e; have := HK.out; omega)
    have T1 := Lib.hid t1
    clear hW' t1 t2
    go_wp2_with (go_at_call 70; refine (rname_any _ _ hmx).mono ?_; rintro e w' ⟨rfl, rfl⟩)
    refine bodyPost_ret (results_ct rfl _ _ k2 rfl T1.out) rfl ?_
    exact hold_bad HE.out H0.out HX9.out
set_option maxRecDepth 100000 in
set_option maxHeartbeats 4000000 in
theorem rhold_good' (B : Nat) (o : Thing) (vl vo vh : Value) (hd : ByteArray) (w : World) (hB : B ≤ w.heap.size) (h : o.fits B w vl vo vh) (hz : hd.size ≤ 1048576) (h0 : nameI hd = 0) (he : o.ending = false) (hc : hasS o.holds hd = false) (h3 : ¬ 3 < o.holds.length) :
    Calls Try.prog 25 #[o.val vl vo vh, .string hd] w (HoldPost w o hd) := by
  have HGD : Hid (holdE o hd = 0) := by unfold Hid holdE; rw [if_pos h0, if_neg (by rw [he]; simp), if_neg (by rw [hc]; simp), if_neg h3]
  have HSM := Lib.hid (more_small h.small hz (by omega))
  have HF0 := Lib.hid (And.intro h hB)
  obtain ⟨w1, hw1, hx1, hg1, hz1, hs1⟩ := two_boxes w o vl vo vh
  obtain ⟨k1, hk1⟩ : ∃ k, k = w.heap.size := ⟨_, rfl⟩
  obtain ⟨k2, hk2⟩ : ∃ k, k = w.heap.size + 1 := ⟨_, rfl⟩
  rw [← hk1] at hg1
  rw [← hk2] at hz1
  have HF1 := Lib.hid (h.below (hx1.mono hB) (Nat.le_refl _))
  obtain ⟨L1, l1, L2, l2, L3, l3, rfl, rfl, rfl⟩ := h.slices
  have H1 := Lib.hid (And.intro hx1 (And.intro hg1 (And.intro hz1 hs1)))
  obtain ⟨g0, g1, g2, g3, g4, g5, g6, g7, g8, g9⟩ := hg1.cells
  have HK := Lib.hid (And.intro hk1 hk2)
  have hmx : hd.size ≤ maxLen := by unfold maxLen; omega
  have hne : k1 ≠ k2 := by omega
  have HEC := Lib.hid hc
  rw [he] at g6
  have hb1 : (nameI hd != 0) = false := by simp [h0]
  have H0 := Lib.hid h0
  have d1 : decide (3 < (o.holds.length : Int)) = false := decide_eq_false (by omega)
  have d2 : decide (3 < o.holds.length) = false := decide_eq_false h3
  have HJ : Hid (o.holds.length ≤ 1099511627776) := by unfold Hid; omega
  clear h hx1 hg1 hz1 hs1 hB h0 he hc h3
  unfold Thing.val
  go_enter Try.func25, Try.ntmps25
  go_upto_region 1 with fail
  rw [← hw1, ← hk2, ← hk1]
  clear hw1 hk1 hk2
  go_upto_region 11 with (first | (go_at_call 70; refine (rname_any _ _ hmx).mono ?_; rintro e w' ⟨rfl, rfl⟩) | (go_at_call 71; refine (rhas_any hd HF1.out.2.2).mono ?_; rw [HEC.out]; rintro e w' ⟨rfl, rfl⟩))
  clear g6
  go_wp2_with fail
  refine Calls.mono (copyS_any w1.heap.size _ o.holds _ (strs_src HF1.out.2.2) HJ.out (Nat.le_refl _)) ?_
  rintro e w2 ⟨A3, c3, rfl, hr2, hx2, _⟩
  have HR2 := Lib.hid hr2
  have hT2 := H1.out.2.1.ext hx2
  have hZ2 := H1.out.2.2.1.ext hx2
  have HT2 := Lib.hid (And.intro hT2 hZ2)
  have HX2 : Hid (Ext w w2) := H1.out.1.trans hx2
  have HW2 : Hid (w1.heap.size ≤ w2.heap.size) := hx2.size
  have hkb : k1 < w1.heap.size ∧ k2 < w1.heap.size := by have h1 := HK.out; have h2 := H1.out.2.2.2; omega
  have HKB := Lib.hid hkb
  clear g0 g1 g2 g3 g4 g5 g7 g8 g9 hr2 hx2 hT2 hZ2 hkb
  have HE := Lib.hid (fun x => (Below.refl w2.heap.size w2).alloc (Nat.le_refl _) x)
  go_wp2_with (at_builtin; refine append_str (by rfl) _ _ (by rfl) w1.heap.size w2.heap.size o.holds.length hd _ _ o.holds (by rfl) (by rfl) (HR2.out.ext (HE.out _)) (heap_new rfl) rfl HJ.out ?c1 ?_)
  case c1 => exact Nat.le_trans HW2.out (HE.out _).size
  intro g c9 w4 ho hgr hat
  have hrow : ∀ k, k < w1.heap.size → (Value.slice A3 o.holds.length c3).ownBlock ≠ some k := fun k hk e => by have := (HR2.out.block k e).1; omega
  have hT4 := (HT2.out.1.ext (HE.out _)).kept hgr (hrow k1 HKB.out.1)
  have hZ4 := (HT2.out.2.ext (HE.out _)).kept' hgr (hrow k2 HKB.out.2)
  have hX4 : Ext w w4 := (HX2.out.trans (HE.out _)).grown hgr (Nat.le_trans HX2.out.size (HE.out _).size) (fun k e => Nat.le_trans H1.out.1.size (HR2.out.block k e).1)
  obtain ⟨W5, hW5, t1, t2⟩ := put_holds hT4 (.slice (some ⟨g, 0, none⟩) (o.holds.length + 1) c9)
  have HZ5 := Lib.hid (hZ4.kept t2 (Ne.symm hne))
  have HT5 := Lib.hid t1
  have HO5 := Lib.hid (ho.kept t2 fun q e h2 => by have := (ho.block q e).1; have := HKB.out.1; injection h2 with h2; omega)
  have HX5 : Hid (Ext w W5) := hX4.grown t2 hX4.size (by intro k e; injection e with e; have := HK.out; omega)
  have e5 : w4.setCell ⟨k1, 5, none⟩ (.slice (some ⟨g, 0, none⟩) (o.holds.length + 1) c9) = W5 := hW5.symm
  have g5 := hT4.cells.2.2.2.2.2.1
  have f5 := free_of hT4 5
  clear hW5 t1 t2 hrow hT4 hZ4 hX4 ho hgr hat
  go_upto_region 12 with fail
  clear e5 g5 f5
  obtain ⟨g0, g1, g2, g3, g4, g5, g6, g7, g8, g9⟩ := HT5.out.cells
  obtain ⟨i0, i1, i2, i3, i4, i5, i6, i7, i8, i9⟩ := HZ5.out.free
  obtain ⟨j0, j1, j2, j3, j4, j5, j6, j7, j8, j9⟩ := HZ5.out.cells
  obtain ⟨W', hW', t1, t2⟩ := put_zero HZ5.out (o.more hd) (.slice L1 o.labels.length l1) (.slice L2 o.owners.length l2) (.slice (some ⟨g, 0, none⟩) (o.holds.length + 1) c9)
  have e' : (((((((((W5.setCell ⟨k2, 0, none⟩ (.string o.kind)).setCell ⟨k2, 1, none⟩ (.string o.space)).setCell ⟨k2, 2, none⟩ (.string o.name)).setCell ⟨k2, 3, none⟩ (.slice L1 o.labels.length l1)).setCell ⟨k2, 4, none⟩ (.slice L2 o.owners.length l2)).setCell ⟨k2, 5, none⟩ (.slice (some ⟨g, 0, none⟩) (o.holds.length + 1) c9)).setCell ⟨k2, 6, none⟩ (.bool o.ending)).setCell ⟨k2, 7, none⟩ (.string o.uid)).setCell ⟨k2, 8, none⟩ (.int .i64 o.rev)).setCell ⟨k2, 9, none⟩ (.string o.doc) = W' := hW'.symm
  have T1 := Lib.hid t1
  have hX9 : Ext w W' := HX5.out.grown t2 HX5.out.size (by intro k e; injection e with e; have := HK.out; omega)
  have HX9 := Lib.hid hX9
  have hr9 := HO5.out.kept t2 fun q e h2 => by have := (HO5.out.block q e).1; have := HKB.out.2; injection h2 with h2; omega
  have hf9 := HF0.out.1.below (hX9.mono HF0.out.2) (Nat.le_trans HF0.out.2 hX9.size)
  have HF9 : Hid ((o.more hd).fits W'.heap.size W' (.slice L1 o.labels.length l1) (.slice L2 o.owners.length l2) (.slice (some ⟨g, 0, none⟩) (o.holds.length + 1) c9)) := ⟨hf9.1, hf9.2.1, hr9.strs HSM.out.2.2.1 HSM.out.2.2.2⟩
  clear hW' t1 t2 hX9 hr9 hf9
  go_wp2
  refine bodyPost_ret (results_ct rfl _ _ k2 rfl T1.out) rfl ?_
  exact hold_good HGD.out HF9.out HX9.out
end Go.Proofs.Ytpbbohinhbboaaa.Sx
