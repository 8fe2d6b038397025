/-
  The program's grants.check: the grants, the user, the space: the first thing that is wrong.
-/
import Derived.Test.YtplfimoeggecjaaDoorHld3
namespace Go.Proofs.YtplfimoeggecjaaDoor.Sx
open Go Go.RowKit

def checkI (g : Grants) (u : User) (sp : ByteArray) : Int := spaceI (say (say 0 (grantsI g)) (userI u)) sp

set_option maxRecDepth 100000 in
set_option maxHeartbeats 2000000 in
theorem gck_any (B : Nat) (vr vb vu : Value) (g : Grants) (u : User) (sp : ByteArray) (w : World) (hB : B ≤ w.heap.size) (hr : RolesAt B w vr g.roles) (hb : BindsAt B w vb g.binds) (hu : StrsAt B w vu u.groups) (hz : u.name.size ≤ 1048576) (hsp : sp.size ≤ 1048576) :
    Calls Tryd.prog 17 #[.agg #[vr, vb], .agg #[.string u.name, vu], .string sp] w (CheckPost w (checkI g u sp)) := by
  have HV := Lib.hid (And.intro hr (And.intro hb hu))
  obtain ⟨hn1, A, c, rfl, _⟩ := hr
  obtain ⟨hn2, A', c', rfl, _⟩ := hb
  obtain ⟨hn3, Au, cu, rfl, _⟩ := hu
  go_enter Tryd.func17, Tryd.ntmps17
  go_wp2_with fail
  obtain ⟨w0, hw0⟩ : ∃ w0, w0 = ((w.alloc (.cells #[.slice A g.roles.length c, .slice A' g.binds.length c'] 25)).alloc (.cells #[.string u.name, .slice Au u.groups.length cu] 28)).alloc (.cells #[.int .i64 0] 50) := ⟨_, rfl⟩
  have hx0 : Ext w w0 := by rw [hw0]; exact (((Below.refl _ _).alloc (Nat.le_refl _) _).alloc (by simp) _).alloc (by simp; omega) _
  have hu0 : w0.heap[w.heap.size + 1]? = some (.cells #[.string u.name, .slice Au u.groups.length cu] 28 (0, 0)) := by rw [hw0]; exact heap_old (heap_new (by simp))
  have hc0 : Chk w0 (w.heap.size + 1 + 1) 0 := by rw [hw0]; exact heap_new (by simp)
  rw [← hw0]
  have hbl := hx0.mono hB
  have HX0 := Lib.hid hx0
  have HU0 := Lib.hid hu0
  have HC0 := Lib.hid hc0
  clear hw0 hx0 hu0 hc0
  refine Calls.mono (gcheck_any B _ _ g _ (Nat.le_trans hB HX0.out.size) (HV.out.1.below hbl) (HV.out.2.1.below hbl)) ?_
  rintro e w1 ⟨rfl, hx1⟩
  clear hbl
  go_wp2_with fail
  refine Calls.mono (says_any _ 0 _ _ ((hx1.block _ (heap_lt HC0.out)).trans HC0.out)) ?_
  rintro e w2 ⟨rfl, hc2, hm2⟩
  have hm02 : Mod eT (w.heap.size + 1 + 1) w0 w2 := (Mod.of_ext hx1).trans hm2
  have hu2 : w2.heap[w.heap.size + 1]? = some (.cells #[.string u.name, .slice Au u.groups.length cu] 28 (0, 0)) := hm02.heap (.inl (by omega)) HU0.out
  obtain ⟨y0, y1⟩ := cells2 hu2
  have HM2 := Lib.hid hm02
  have HC2 := Lib.hid hc2
  have hsz : w.heap.size + 1 + 1 ≤ w0.heap.size := Nat.le_of_lt (heap_lt HC0.out)
  have HB2 : Hid (Below B w w2) := (HX0.out.mono hB).trans ((HM2.out.below hsz).mono (by omega))
  clear hx1 hc2 hm2 hm02 hu2
  go_wp2_with fail
  refine Calls.mono (user_any B _ u _ (Nat.le_trans hB HB2.out.size) hz (HV.out.2.2.below HB2.out)) ?_
  rintro e w3 ⟨rfl, hx3⟩
  go_wp2_with fail
  refine Calls.mono (says_any _ _ _ _ ((hx3.block _ (heap_lt HC2.out)).trans HC2.out)) ?_
  rintro e w4 ⟨rfl, hc4, hm4⟩
  have HC4 := Lib.hid hc4
  have HM4 := Lib.hid ((HM2.out.trans (Mod.of_ext hx3)).trans hm4)
  clear hx3 hc4 hm4
  go_wp2_with fail
  refine Calls.mono (space_any _ _ _ _ HC4.out hsp) ?_
  rintro e w5 ⟨rfl, hc5, hm5⟩
  have hcb : w5.cell? ⟨w.heap.size + 1 + 1, 0, none⟩ = some (.int .i64 (checkI g u sp)) := by have := cell_of hc5 0; simpa [checkI] using this
  have HE : Hid (Ext w w5) := Below.trans HX0.out (((HM4.out.trans hm5).below hsz).mono (by omega))
  clear hc5 hm5
  go_wp2
  go_ret
  exact ⟨rfl, HE.out⟩
end Go.Proofs.YtplfimoeggecjaaDoor.Sx
