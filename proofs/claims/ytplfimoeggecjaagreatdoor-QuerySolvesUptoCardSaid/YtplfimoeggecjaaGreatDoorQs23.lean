/-
  The law QuerySolves: it returns true.
-/
import Derived.Test.YtplfimoeggecjaaGreatDoorQs22
import Derived.Test.YtplfimoeggecjaaGreatDoorEqLab
namespace Go.Proofs.YtplfimoeggecjaaGreatDoor.Qs
open Go Go.RowKit Go.Lib Go.Proofs.YtplfimoeggecjaaGreatDoor.Sx Go.Proofs.YtplfimoeggecjaaGreatDoor.Dc

set_option maxRecDepth 100000 in
set_option maxHeartbeats 4000000 in
theorem querySolves_walk (B : Nat) (v u : Value) (a b : List Req) (w : World) (hB : B ≤ w.heap.size) (hv : ReqsR B w v a) (hu : ReqsR B w u b) (hm : MaxC w) :
    Calls Tryz.prog 3 #[v, u] w fun e w' => e = .returned (.bool true) ∧ Ext w w' := by
  have hst : ∀ w', Ext w w' → B ≤ w'.heap.size ∧ ReqsR B w' v a ∧ ReqsR B w' u b ∧ MaxC w' := fun w' hx => ⟨Nat.le_trans hB hx.size, hv.below (hx.mono hB) (Nat.le_refl _), hu.below (hx.mono hB) (Nat.le_refl _), hm.ext hx⟩
  have HST := Lib.hid hst
  have S0 := Lib.hid (hst w (Below.refl _ _))
  clear hm hst hv hu
  go_enter Tryz.func3, Tryz.ntmps3
  go_wp2_with fail
  refine Calls.mono (Solve_any B _ a _ S0.out.1 S0.out.2.1 S0.out.2.2.2) ?_
  rintro e w1 ⟨o1, rfl, hl1, hx1⟩
  have HX1 := Lib.hid hx1
  have HL1 := Lib.hid hl1
  have S1 := Lib.hid (HST.out _ hx1)
  clear hx1 hl1
  go_wp2_with fail
  refine Calls.mono (rSolve_any B _ a _ S1.out.1 S1.out.2.1 S1.out.2.2.2) ?_
  rintro e w2 ⟨o2, rfl, hl2, hx2⟩
  have HX2 := Lib.hid (HX1.out.trans hx2)
  have HL2 := Lib.hid (And.intro (HL1.out.below hx2 hx2.size) hl2)
  have S2 := Lib.hid (HST.out _ HX2.out)
  clear hx2 hl2 HL1 S1
  go_wp2_with fail
  refine Calls.mono (Implies_any B _ _ a b _ S2.out.1 S2.out.2.1 S2.out.2.2.1 S2.out.2.2.2) ?_
  rintro e w3 ⟨o3, rfl, hl3, hx3⟩
  have HX3 := Lib.hid (HX2.out.trans hx3)
  have HL3 := Lib.hid (And.intro (HL2.out.1.below hx3 hx3.size) (And.intro (HL2.out.2.below hx3 hx3.size) hl3))
  have S3 := Lib.hid (HST.out _ HX3.out)
  clear hx3 hl3 HL2 S2
  go_wp2_with fail
  refine Calls.mono (rImplies_any B _ _ a b _ S3.out.1 S3.out.2.1 S3.out.2.2.1 S3.out.2.2.2) ?_
  rintro e w4 ⟨o4, rfl, hl4, hx4⟩
  have HX4 := Lib.hid (HX3.out.trans hx4)
  have HL4 := Lib.hid (And.intro (And.intro (HL3.out.1.below hx4 hx4.size) (HL3.out.2.1.below hx4 hx4.size)) (And.intro (HL3.out.2.2.below hx4 hx4.size) hl4))
  clear hx4 hl4 HL3 S3
  obtain ⟨b1, hb1⟩ : ∃ b1, b1 = (solR a).isSome := ⟨_, rfl⟩
  obtain ⟨n1, hn1⟩ : ∃ n1, n1 = checkQ a := ⟨_, rfl⟩
  obtain ⟨b2, hb2⟩ : ∃ b2, b2 = (decide (impE a b = 0) && (impR a b).isNone) := ⟨_, rfl⟩
  obtain ⟨n2, hn2⟩ : ∃ n2, n2 = impE a b := ⟨_, rfl⟩
  rw [← hb1, ← hn1, ← hb2, ← hn2]
  clear hb1 hn1 hb2 hn2
  have e1 : (b1 == b1) = true := by simp
  have e2 : (n1 == n1) = true := by simp
  have e3 : (b2 == b2) = true := by simp
  have e4 : (n2 == n2) = true := by simp
  go_wp2_with fail
  refine Calls.mono (eq_labs (Nat.le_refl _) HL4.out.1.1 HL4.out.1.2) ?_
  rintro e w5 ⟨rfl, hx5⟩
  have HX5 := Lib.hid (HX4.out.trans hx5)
  have HL5 := Lib.hid (And.intro (HL4.out.2.1.below hx5 hx5.size) (HL4.out.2.2.below hx5 hx5.size))
  clear hx5 HL4
  go_wp2_with fail
  refine Calls.mono (eq_labs (Nat.le_refl _) HL5.out.1 HL5.out.2) ?_
  rintro e w6 ⟨rfl, hx6⟩
  have HX6 := Lib.hid (HX5.out.trans hx6)
  clear hx6 HL5
  go_wp2
  go_ret
  exact ⟨rfl, HX6.out⟩
end Go.Proofs.YtplfimoeggecjaaGreatDoor.Qs
