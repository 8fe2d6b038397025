/-
  The law QueryChecks: it returns true.
-/
import Derived.Test.YtpbbohinhbboaaaDoorPrnR
import Derived.Lib.QuietBelow
namespace Go.Proofs.YtpbbohinhbboaaaDoor.Sx
open Go Go.RowKit Go.Sort

set_option maxRecDepth 100000 in
set_option maxHeartbeats 2000000 in
theorem queryChecks_walk (B : Nat) (v u : Value) (l : List Req) (ls : List Lab) (w : World) (hB : B ≤ w.heap.size) (hv : ReqsR B w v l) (hu : LabsR B w u ls) (hm : MaxC w) :
    Calls Tryd.prog 6 #[v, u] w fun e w' => e = .returned (.bool true) ∧ Ext w w' := by
  have HV := Lib.hid (And.intro hv hu)
  have HM := Lib.hid hm
  have hst : ∀ w', Ext w w' → B ≤ w'.heap.size ∧ ReqsR B w' v l ∧ LabsR B w' u ls ∧ MaxC w' := fun w' hx => ⟨Nat.le_trans hB hx.size, hv.below (hx.mono hB) (Nat.le_refl _), hu.below (hx.mono hB) (Nat.le_refl _), hm.ext hx⟩
  have HST := Lib.hid hst
  clear hm hst hv hu
  go_enter Tryd.func6, Tryd.ntmps6
  go_wp2_with fail
  refine Calls.mono (match_any B _ _ l ls _ hB HV.out.1 HV.out.2 HM.out) ?_
  rintro e w1 ⟨rfl, hx1⟩
  have HX1 := Lib.hid hx1
  have S1 := Lib.hid (HST.out _ hx1)
  clear hx1
  go_wp2_with fail
  refine Calls.mono (rmatch_any B _ _ l ls _ S1.out.1 S1.out.2.1 S1.out.2.2.1 S1.out.2.2.2) ?_
  rintro e w2 ⟨rfl, hx2⟩
  have HX2 := Lib.hid (HX1.out.trans hx2)
  have S2 := Lib.hid (HST.out _ HX2.out)
  clear hx2
  go_wp2_with fail
  refine Calls.mono (print_any B _ l _ S2.out.1 S2.out.2.1 S2.out.2.2.2) ?_
  rintro e w3 ⟨rfl, hx3⟩
  have HX3 := Lib.hid (HX2.out.trans hx3)
  have S3 := Lib.hid (HST.out _ HX3.out)
  clear hx3
  go_wp2_with fail
  refine Calls.mono (rprint_any B _ l _ S3.out.1 S3.out.2.1 S3.out.2.2.2) ?_
  rintro e w4 ⟨rfl, hx4⟩
  have HX4 := Lib.hid (HX3.out.trans hx4)
  have S4 := Lib.hid (HST.out _ HX4.out)
  clear hx4
  have hJ : ((printS l).toList == (printS l).toList) = true := by simp
  go_wp2_with fail
  refine Calls.mono (qcheck_any B _ l _ S4.out.1 S4.out.2.1 S4.out.2.2.2) ?_
  rintro e w5 ⟨rfl, hx5⟩
  have HX5 := Lib.hid (HX4.out.trans hx5)
  have S5 := Lib.hid (HST.out _ HX5.out)
  clear hx5
  go_wp2_with fail
  refine Calls.mono (rqcheck_any B _ l _ S5.out.1 S5.out.2.1 S5.out.2.2.2) ?_
  rintro e w6 ⟨rfl, hx6⟩
  have HX6 := Lib.hid (HX5.out.trans hx6)
  have S6 := Lib.hid (HST.out _ HX6.out)
  clear hx6
  go_wp2_with fail
  refine Calls.mono (qlabs_any B _ ls _ S6.out.1 S6.out.2.2.1 S6.out.2.2.2) ?_
  rintro e w7 ⟨rfl, hx7⟩
  have HX7 := Lib.hid (HX6.out.trans hx7)
  have S7 := Lib.hid (HST.out _ HX7.out)
  clear hx7
  go_wp2_with fail
  refine Calls.mono (rqlabs_any B _ ls _ S7.out.1 S7.out.2.2.1 S7.out.2.2.2) ?_
  rintro e w8 ⟨rfl, hx8⟩
  have HX8 := Lib.hid (HX7.out.trans hx8)
  clear hx8
  go_wp2
  go_ret
  exact ⟨rfl, HX8.out⟩
end Go.Proofs.YtpbbohinhbboaaaDoor.Sx
