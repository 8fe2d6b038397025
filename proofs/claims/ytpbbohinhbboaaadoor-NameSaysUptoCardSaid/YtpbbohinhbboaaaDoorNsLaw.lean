/-
  The law NameSays: it returns true.
-/
import Derived.Test.YtpbbohinhbboaaaDoorJoin
import Derived.Lib.QuietBelow
import Derived.BigQuiet
namespace Go.Proofs.YtpbbohinhbboaaaDoor.Sx
open Go Go.RowKit Go.Sort

set_option maxRecDepth 100000 in
set_option maxHeartbeats 2000000 in
theorem nameSays_walk (a b : ByteArray) (w : World) (ha : a.size ≤ 1048576) (hb : b.size ≤ 1048576) (hm : MaxC w) :
    Calls Tryd.prog 3 #[.string a, .string b] w fun e w' => e = .returned (.bool true) ∧ Ext w w' := by
  have HM := Lib.hid hm
  have hmx : a.size ≤ maxLen := by unfold maxLen; omega
  have hmx2 : b.size ≤ maxLen := by unfold maxLen; omega
  have HMX := Lib.hid (And.intro hmx hmx2)
  clear hm hmx hmx2
  go_enter Tryd.func3, Tryd.ntmps3
  go_wp2_with fail
  refine Calls.mono (join_any a b _ ha hb) ?_
  rintro e w1 ⟨rfl, hx1⟩
  go_wp2_with fail
  refine Calls.mono (rjoin_any a b _ ha hb) ?_
  rintro e w2 ⟨rfl, hx2⟩
  have HX2 := Lib.hid (hx1.trans hx2)
  have HM2 := Lib.hid (HM.out.ext HX2.out)
  clear hx1 hx2
  have hbs : (b.toList == b.toList) = true := by simp
  have hJ : ((joinS a b).toList == (joinS a b).toList) = true := by simp
  go_wp2_with (first | (go_at_call 9; refine (check_any _ _ HMX.out.1).mono ?_; rintro e w' ⟨rfl, rfl⟩) | (go_at_call 10; refine (rname_any _ _ HMX.out.1).mono ?_; rintro e w' ⟨rfl, rfl⟩))
  refine Calls.mono (checkKey_any b _ hb HM2.out) ?_
  rintro e w3 ⟨rfl, hx3⟩
  have HX3 := Lib.hid (HX2.out.trans hx3)
  have HM3 := Lib.hid (HM2.out.ext hx3)
  clear hx3
  go_wp2_with fail
  refine Calls.mono (rkey_any b _ hb HM3.out) ?_
  rintro e w4 ⟨rfl, hx4⟩
  have HX4 := Lib.hid (HX3.out.trans hx4)
  clear hx4
  go_wp2_with (first | (go_at_call 13; refine (checkVal_any _ _ HMX.out.2).mono ?_; rintro e w' ⟨rfl, rfl⟩) | (go_at_call 14; refine (rval_any _ _ HMX.out.2).mono ?_; rintro e w' ⟨rfl, rfl⟩))
  go_ret
  exact ⟨rfl, HX4.out⟩
end Go.Proofs.YtpbbohinhbboaaaDoor.Sx
