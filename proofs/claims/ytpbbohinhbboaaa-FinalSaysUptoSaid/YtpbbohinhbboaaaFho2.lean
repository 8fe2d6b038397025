/-
  The program's final.Hold, where it holds.
-/
import Derived.Test.YtpbbohinhbboaaaFho
namespace Go.Proofs.Ytpbbohinhbboaaa.Sx
open Go Go.RowKit

theorem ThingIn.kept {w w' : World} {k : Nat} {o : Thing} {vl vo vh : Value} {row : Option Nat} (h : ThingIn w k o vl vo vh) (hG : w.grownBy w' row) (hne : row ≠ some k) : ThingIn w' k o vl vo vh := (hG.block k (heap_lt h) (fun e => hne e.symm)).trans h
theorem ZeroIn.kept' {w w' : World} {k : Nat} {row : Option Nat} (h : ZeroIn w k) (hG : w.grownBy w' row) (hne : row ≠ some k) : ZeroIn w' k := (hG.block k (heap_lt h) (fun e => hne e.symm)).trans h
theorem put_holds {w : World} {k : Nat} {o : Thing} {vl vo vh : Value} (h : ThingIn w k o vl vo vh) (u : Value) : ∃ W, W = w.setCell ⟨k, 5, none⟩ u ∧ ThingIn W k o vl vo u ∧ w.grownBy W (some k) :=
  ⟨_, rfl, heap_setCells [u] [.string o.kind, .string o.space, .string o.name, vl, vo] [vh] [.bool o.ending, .string o.uid, .int .i64 o.rev, .string o.doc] w rfl h, grown_setCells w k 5 [u]⟩
/-- The holds' row has grown. -/
theorem OwnT.grow {base g n c : Nat} {X w4 : World} {o : Thing} {ul uo uh : Value} {xs : List ByteArray} (h : OwnT base X o ul uo uh) (hG : X.grownBy w4 uh.ownBlock) (hr : SRow base w4 (.slice (some ⟨g, 0, none⟩) n c) xs) (hat : uh.ownBlock = some g ∨ g = X.heap.size) :
    OwnT base w4 { o with holds := xs } ul uo (.slice (some ⟨g, 0, none⟩) n c) := by
  obtain ⟨y1, y2, y3, y4⟩ := h
  refine ⟨y1.kept hG ?_, y2.kept hG (fun g1 e1 e2 => y4 g1 e1 e2), hr, ?_⟩
  · rcases y1.2 with ⟨e, _⟩ | ⟨g1, _, _, e, _, h1, _⟩
    · rw [e]; exact .inl rfl
    · refine .inr ?_
      rw [e]
      rcases y3 with ⟨e3, _⟩ | ⟨g2, rest, e3, _, h2, _⟩
      · rw [e3]; simp [Value.ownBlock]
      · rw [e3]
        intro hh
        have hgg : g1 = g2 := by simpa [Value.ownBlock] using hh
        subst hgg
        rw [h1] at h2
        injection h2 with h2
        injection h2 with _ h2 _
        exact absurd h2 (by decide)
  · intro g1 e1 e2
    have hg : g = g1 := by simpa [Value.ownBlock] using e2
    subst hg
    rcases hat with e | e
    · exact y4 g e1 e
    · have := (y2.block g e1).2
      omega
theorem more_small {o : Thing} {h : ByteArray} (hs : o.small) (hz : h.size ≤ 1048576) (hn : o.holds.length ≤ 8) : (o.more h).small := by
  refine ⟨hs.1, hs.2.1, ?_, ?_⟩
  · simp only [Thing.more, List.length_append, List.length_cons, List.length_nil]; omega
  · intro x hx
    simp only [Thing.more, List.mem_append, List.mem_singleton] at hx
    rcases hx with hx | rfl
    · exact hs.2.2.2 x hx
    · exact hz

set_option maxRecDepth 100000 in
set_option maxHeartbeats 4000000 in
theorem hold_good' (B : Nat) (o : Thing) (vl vo vh : Value) (hd : ByteArray) (w : World) (hB : B ≤ w.heap.size) (h : o.fits B w vl vo vh) (hz : hd.size ≤ 1048576) (h0 : nameI hd = 0) (he : o.ending = false) (hc : hasS o.holds hd = false) (h3 : ¬ 3 < o.holds.length) :
    Calls Try.prog 24 #[o.val vl vo vh, .string hd] w (HoldPost w o hd) := by
  have HGD : Hid (holdE o hd = 0) := by unfold Hid holdE; rw [if_pos h0, if_neg (by rw [he]; simp), if_neg (by rw [hc]; simp), if_neg h3]
  have HSM := Lib.hid (more_small h.small hz (by omega))
  obtain ⟨w1, hw1, hx1, hg1, hz1, hs1⟩ := two_boxes w o vl vo vh
  obtain ⟨k1, hk1⟩ : ∃ k, k = w.heap.size := ⟨_, rfl⟩
  obtain ⟨k2, hk2⟩ : ∃ k, k = w.heap.size + 1 := ⟨_, rfl⟩
  rw [← hk1] at hg1
  rw [← hk2] at hz1
  have HF1 := Lib.hid (h.below (hx1.mono hB) (Nat.le_refl _))
  obtain ⟨L1, l1, L2, l2, L3, l3, rfl, rfl, rfl⟩ := h.slices
  have H1 := Lib.hid (And.intro hx1 (And.intro hg1 (And.intro hz1 hs1)))
  have HB1 : Hid (B ≤ w1.heap.size) := Nat.le_trans hB hx1.size
  obtain ⟨g0, g1, g2, g3, g4, g5, g6, g7, g8, g9⟩ := hg1.cells
  have HK := Lib.hid (And.intro hk1 hk2)
  have hmx : hd.size ≤ maxLen := by unfold maxLen; omega
  have hne : k1 ≠ k2 := by omega
  have HEB := Lib.hid he
  have HEC := Lib.hid hc
  rw [he] at g6
  have hb1 : (nameI hd != 0) = false := by simp [h0]
  have d1 : decide (4 ≤ (o.holds.length : Int)) = false := decide_eq_false (by omega)
  have d2 : decide (4 ≤ o.holds.length) = false := decide_eq_false h3
  have HJ : Hid (o.holds.length ≤ 1099511627776) := by unfold Hid; omega
  clear h hx1 hg1 hz1 hs1 hB h0 he hc h3
  unfold Thing.val
  go_enter Try.func24, Try.ntmps24
  go_upto_region 1 with fail
  rw [← hw1, ← hk2, ← hk1]
  clear hw1 hk1 hk2
  go_upto_region 10 with (first | (go_at_call 68; refine (check_any _ _ hmx).mono ?_; rintro e w' ⟨rfl, rfl⟩) | (go_at_call 69; refine (contains_strs hd HF1.out.2.2).mono ?_; rw [HEC.out]; rintro e w' ⟨rfl, rfl⟩))
  clear g6
  have g6 := H1.out.2.1.cells.2.2.2.2.2.2.1
  go_wp2_with fail
  refine Calls.mono (copy_thing B o _ _ _ _ HB1.out HF1.out) ?_
  rintro e w2 ⟨ul, uo, uh, rfl, hO, hx2⟩
  obtain ⟨A1, c1, A2, c2, A3, c3, rfl, rfl, rfl⟩ := hO.slices
  have hg2 := H1.out.2.1.ext hx2
  have hz2 := H1.out.2.2.1.ext hx2
  obtain ⟨W1, hW1, t1, t2⟩ := put_over hg2 o (.slice A1 o.labels.length c1) (.slice A2 o.owners.length c2) (.slice A3 o.holds.length c3)
  have HZ3 := Lib.hid (hz2.kept t2 (Ne.symm hne))
  have HT1 := Lib.hid t1
  have hkb : k1 < w1.heap.size ∧ k2 < w1.heap.size := by have h1 := HK.out; have h2 := H1.out.2.2.2; omega
  have HO1 := Lib.hid (hO.kept t2 hkb.1)
  have HKB := Lib.hid hkb
  have HX3 : Hid (Ext w W1) := (H1.out.1.trans hx2).grown t2 (Nat.le_trans H1.out.1.size hx2.size) (by intro k e; injection e with e; have := HK.out; omega)
  have HW1 : Hid (w1.heap.size ≤ W1.heap.size) := Nat.le_trans hx2.size t2.size
  clear g0 g1 g2 g3 g4 g5 g6 g7 g8 g9
  obtain ⟨g0, g1, g2, g3, g4, g5, g6, g7, g8, g9⟩ := hg2.cells
  have fz := fun j => free_of hg2 j
  have e1 : (((((((((w2.setCell ⟨k1, 0, none⟩ (.string o.kind)).setCell ⟨k1, 1, none⟩ (.string o.space)).setCell ⟨k1, 2, none⟩ (.string o.name)).setCell ⟨k1, 3, none⟩ (.slice A1 o.labels.length c1)).setCell ⟨k1, 4, none⟩ (.slice A2 o.owners.length c2)).setCell ⟨k1, 5, none⟩ (.slice A3 o.holds.length c3)).setCell ⟨k1, 6, none⟩ (.bool o.ending)).setCell ⟨k1, 7, none⟩ (.string o.uid)).setCell ⟨k1, 8, none⟩ (.int .i64 o.rev)).setCell ⟨k1, 9, none⟩ (.string o.doc) = W1 := hW1.symm
  clear hW1 t1 t2 hkb hg2 hz2 hO hx2
  unfold Thing.val
  go_upto_region 11 with fail
  clear e1 fz g0 g1 g2 g3 g4 g5 g6 g7 g8 g9
  have g5 := HT1.out.cells.2.2.2.2.2.1
  have HE := Lib.hid (fun x => (Below.refl W1.heap.size W1).alloc (Nat.le_refl _) x)
  go_wp2_with (at_builtin; refine append_str (by rfl) _ _ (by rfl) w1.heap.size W1.heap.size o.holds.length hd _ _ o.holds (by rfl) (by rfl) (HO1.out.2.2.1.ext (HE.out _)) (heap_new rfl) rfl HJ.out ?c1 ?_)
  case c1 => exact Nat.le_trans HW1.out (HE.out _).size
  intro g c9 w4 ho hgr hat
  have hO4 : OwnT w1.heap.size w4 (o.more hd) (.slice A1 o.labels.length c1) (.slice A2 o.owners.length c2) (.slice (some ⟨g, 0, none⟩) (o.holds.length + 1) c9) := (HO1.out.ext (HE.out _)).grow hgr ho (by rcases hat with e | e; (exact .inl e); (exact .inr (by rw [e]; simp)))
  have hrow : ∀ k, k < w1.heap.size → (Value.slice A3 o.holds.length c3).ownBlock ≠ some k := fun k hk e => by have := (HO1.out.2.2.1.block k e).1; omega
  have hT4 := (HT1.out.ext (HE.out _)).kept hgr (hrow k1 HKB.out.1)
  have hZ4 := (HZ3.out.ext (HE.out _)).kept' hgr (hrow k2 HKB.out.2)
  have hX4 : Ext w w4 := (HX3.out.trans (HE.out _)).grown hgr (Nat.le_trans HX3.out.size (HE.out _).size) (fun k e => Nat.le_trans H1.out.1.size (HO1.out.2.2.1.block k e).1)
  obtain ⟨W5, hW5, t1, t2⟩ := put_holds hT4 (.slice (some ⟨g, 0, none⟩) (o.holds.length + 1) c9)
  have HZ5 := Lib.hid (hZ4.kept t2 (Ne.symm hne))
  have HT5 := Lib.hid t1
  have HO5 := Lib.hid (hO4.kept t2 HKB.out.1)
  have HX5 : Hid (Ext w W5) := hX4.grown t2 hX4.size (by intro k e; injection e with e; have := HK.out; omega)
  have e5 : w4.setCell ⟨k1, 5, none⟩ (.slice (some ⟨g, 0, none⟩) (o.holds.length + 1) c9) = W5 := hW5.symm
  clear g5
  have g5 := hT4.cells.2.2.2.2.2.1
  have f5 := free_of hT4 5
  clear hW5 t1 t2 hO4 hrow hT4 hZ4 hX4 ho hgr hat
  go_upto_region 12 with fail
  clear e5 g5 f5
  obtain ⟨g0, g1, g2, g3, g4, g5, g6, g7, g8, g9⟩ := HT5.out.cells
  obtain ⟨i0, i1, i2, i3, i4, i5, i6, i7, i8, i9⟩ := HZ5.out.free
  obtain ⟨j0, j1, j2, j3, j4, j5, j6, j7, j8, j9⟩ := HZ5.out.cells
  obtain ⟨W', hW', t1, t2⟩ := put_zero HZ5.out (o.more hd) (.slice A1 o.labels.length c1) (.slice A2 o.owners.length c2) (.slice (some ⟨g, 0, none⟩) (o.holds.length + 1) c9)
  have e' : (((((((((W5.setCell ⟨k2, 0, none⟩ (.string o.kind)).setCell ⟨k2, 1, none⟩ (.string o.space)).setCell ⟨k2, 2, none⟩ (.string o.name)).setCell ⟨k2, 3, none⟩ (.slice A1 o.labels.length c1)).setCell ⟨k2, 4, none⟩ (.slice A2 o.owners.length c2)).setCell ⟨k2, 5, none⟩ (.slice (some ⟨g, 0, none⟩) (o.holds.length + 1) c9)).setCell ⟨k2, 6, none⟩ (.bool o.ending)).setCell ⟨k2, 7, none⟩ (.string o.uid)).setCell ⟨k2, 8, none⟩ (.int .i64 o.rev)).setCell ⟨k2, 9, none⟩ (.string o.doc) = W' := hW'.symm
  have T1 := Lib.hid t1
  have HX9 : Hid (Ext w W') := HX5.out.grown t2 HX5.out.size (by intro k e; injection e with e; have := HK.out; omega)
  have HF9 := Lib.hid ((HO5.out.kept t2 HKB.out.2).fits HSM.out)
  clear hW' t1 t2
  go_wp2
  refine bodyPost_ret (results_ct rfl _ _ k2 rfl T1.out) rfl ?_
  exact hold_good HGD.out HF9.out HX9.out
end Go.Proofs.Ytpbbohinhbboaaa.Sx
