/-
  The program's grants.Held: the walk.
-/
import Derived.Test.YtpbbohinhbboaaaCpy2
import Derived.Test.YtpbbohinhbboaaaCk
import Derived.Test.YtpbbohinhbboaaaRgh
namespace Go.Proofs.Ytpbbohinhbboaaa.Sx
open Go Go.RowKit

set_option maxRecDepth 100000 in
set_option maxHeartbeats 2000000 in
theorem ghd_any (B : Nat) (vr vb vu : Value) (g : Grants) (u : User) (sp : ByteArray) (w : World) (hB : B ≤ w.heap.size) (hr : RolesAt B w vr g.roles) (hb : BindsAt B w vb g.binds) (hu : StrsAt B w vu u.groups) (hz : u.name.size ≤ 1048576) (hsp : sp.size ≤ 1048576) (hf : g.few) :
    Calls Try.prog 41 #[.agg #[vr, vb], .agg #[.string u.name, vu], .string sp] w (HeldPost w g u sp) := by
  have HV := Lib.hid (And.intro hr (And.intro hb hu))
  have HF := Lib.hid hf
  obtain ⟨hn1, A, c, rfl, _⟩ := hr
  obtain ⟨hn2, A', c', rfl, _⟩ := hb
  obtain ⟨hn3, Au, cu, rfl, _⟩ := hu
  clear hf
  go_enter Try.func41, Try.ntmps41
  go_wp2_with fail
  obtain ⟨w0, hw0⟩ : ∃ w0, w0 = (w.alloc (.cells #[.slice A g.roles.length c, .slice A' g.binds.length c'] 66)).alloc (.cells #[.string u.name, .slice Au u.groups.length cu] 78) := ⟨_, rfl⟩
  have hx0 : Ext w w0 := by rw [hw0]; exact ((Below.refl _ _).alloc (Nat.le_refl _) _).alloc (by simp) _
  have hg0 : w0.heap[w.heap.size]? = some (.cells #[.slice A g.roles.length c, .slice A' g.binds.length c'] 66 (0, 0)) := by rw [hw0]; exact heap_old (heap_new rfl)
  have hu0 : w0.heap[w.heap.size + 1]? = some (.cells #[.string u.name, .slice Au u.groups.length cu] 78 (0, 0)) := by rw [hw0]; exact heap_new (by simp)
  rw [← hw0]
  have HX0 := Lib.hid hx0
  have H0 := Lib.hid (And.intro hg0 hu0)
  have hbl0 := hx0.mono hB
  clear hw0 hx0 hg0 hu0
  refine Calls.mono (gck_any B _ _ _ g u _ _ (Nat.le_trans hB HX0.out.size) (HV.out.1.below hbl0) (HV.out.2.1.below hbl0) (HV.out.2.2.below hbl0) hz hsp) ?_
  rintro e w1 ⟨rfl, hx1⟩
  have h1 : w1.heap[w.heap.size]? = _ := (hx1.block _ (heap_lt H0.out.1)).trans H0.out.1
  have h2 : w1.heap[w.heap.size + 1]? = _ := (hx1.block _ (heap_lt H0.out.2)).trans H0.out.2
  have HX1 := Lib.hid (HX0.out.trans hx1)
  obtain ⟨g0, g1⟩ := cells2 h1
  obtain ⟨y0, y1⟩ := cells2 h2
  clear hx1 h1 h2 hbl0
  by_cases h4 : checkI g u sp = 0
  · have hb1 : (checkI g u sp != 0) = false := by simp [h4]
    have H4 := Lib.hid h4
    have h6 := HX1.out.mono hB
    clear h4
    go_wp2_with fail
    refine Calls.mono (gheld_any B _ _ _ g u _ _ (Nat.le_trans hB HX1.out.size) (HV.out.1.below h6) (HV.out.2.1.below h6) ((StrsAt.toR HV.out.2.2).below h6 (Nat.le_refl _)) HF.out) ?_
    rintro e w7 ⟨A9, c9, rfl, hR, hx7⟩
    have HX7 := Lib.hid (HX1.out.trans hx7)
    have HR := Lib.hid hR
    clear hx7 h6 hR
    go_wp2_with fail
    refine Calls.mono (gcopied_any _ _ _ _ (Nat.le_refl _) HR.out) ?_
    rintro e w8 ⟨A8, c8, rfl, hR, hx8⟩
    have HX8 := Lib.hid (HX7.out.trans hx8)
    have HR8 := Lib.hid hR
    clear hx8 hR
    go_wp2
    go_ret2
    exact heldPost_good H4.out HR8.out HX8.out
  · have hb1 : (checkI g u sp != 0) = true := by simp [h4]
    have H4 := Lib.hid h4
    clear h4
    go_wp2
    go_ret2
    exact heldPost_bad H4.out HX1.out
end Go.Proofs.Ytpbbohinhbboaaa.Sx
