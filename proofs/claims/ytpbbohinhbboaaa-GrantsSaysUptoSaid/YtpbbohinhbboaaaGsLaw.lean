/-
  The law GrantsSays: it returns true.
-/
import Derived.Test.YtpbbohinhbboaaaGhd
import Derived.Test.YtpbbohinhbboaaaSame3
import Derived.Lib.QuietBelow
import Derived.BigQuiet
namespace Go.Proofs.Ytpbbohinhbboaaa.Sx
open Go Go.RowKit Go.Sort

set_option maxRecDepth 100000 in
set_option maxHeartbeats 2000000 in
theorem grantsSays_walk (B : Nat) (vr vb vu : Value) (g : Grants) (u : User) (sp : ByteArray) (a : Ask) (w : World) (hB : B ≤ w.heap.size) (hr : RolesAt B w vr g.roles) (hb : BindsAt B w vb g.binds) (hu : StrsAt B w vu u.groups) (hz : u.name.size ≤ 1048576) (hsp : sp.size ≤ 1048576) (ha : a.small) (hf : g.few) (hK : grantsW g < 8796093022208) :
    Calls Try.prog 9 #[.agg #[vr, vb], .agg #[.string u.name, vu], .string sp, a.val] w fun e w' => e = .returned (.bool true) ∧ Ext w w' := by
  have HV := Lib.hid (And.intro hr (And.intro hb hu))
  have HF := Lib.hid hf
  have HA := Lib.hid ha
  have HK := Lib.hid hK
  obtain ⟨hn1, A, c, rfl, _⟩ := hr
  obtain ⟨hn2, A', c', rfl, _⟩ := hb
  obtain ⟨hn3, Au, cu, rfl, _⟩ := hu
  clear hf ha hK
  unfold Ask.val
  go_enter Try.func9, Try.ntmps9
  go_wp2_with fail
  obtain ⟨w0, hw0⟩ : ∃ w0, w0 = ((w.alloc (.cells #[.slice A g.roles.length c, .slice A' g.binds.length c'] 66)).alloc (.cells #[.string u.name, .slice Au u.groups.length cu] 78)).alloc (.cells #[.string a.verb, .string a.kind, .string a.space, .string a.name] 68) := ⟨_, rfl⟩
  have hx0 : Ext w w0 := by rw [hw0]; exact (((Below.refl _ _).alloc (Nat.le_refl _) _).alloc (by simp) _).alloc (by simp; omega) _
  have hg0 : w0.heap[w.heap.size]? = some (.cells #[.slice A g.roles.length c, .slice A' g.binds.length c'] 66 (0, 0)) := by rw [hw0]; exact heap_old (heap_old (heap_new rfl))
  have hu0 : w0.heap[w.heap.size + 1]? = some (.cells #[.string u.name, .slice Au u.groups.length cu] 78 (0, 0)) := by rw [hw0]; exact heap_old (heap_new (by simp))
  have ha0 : AskIn w0 (w.heap.size + 1 + 1) a := by rw [hw0]; exact heap_new (by simp)
  rw [← hw0]
  have HX0 := Lib.hid hx0
  have H0 := Lib.hid (And.intro hg0 (And.intro hu0 ha0))
  have HB0 : Hid (B ≤ w0.heap.size) := Nat.le_trans hB hx0.size
  have HR0 := Lib.hid (HV.out.1.below (hx0.mono hB))
  have HN0 := Lib.hid (HV.out.2.1.below (hx0.mono hB))
  have HU0 := Lib.hid (HV.out.2.2.below (hx0.mono hB))
  clear hw0 hx0 hg0 hu0 ha0
  have hst : ∀ w', Ext w0 w' → w'.heap[w.heap.size]? = some (.cells #[.slice A g.roles.length c, .slice A' g.binds.length c'] 66 (0, 0)) ∧ w'.heap[w.heap.size + 1]? = some (.cells #[.string u.name, .slice Au u.groups.length cu] 78 (0, 0)) ∧ AskIn w' (w.heap.size + 1 + 1) a ∧ B ≤ w'.heap.size ∧ Below B w0 w' := fun w' hk =>
    ⟨(hk.block _ (heap_lt H0.out.1)).trans H0.out.1, (hk.block _ (heap_lt H0.out.2.1)).trans H0.out.2.1, (hk.block _ (heap_lt H0.out.2.2)).trans H0.out.2.2, Nat.le_trans HB0.out hk.size, hk.mono HB0.out⟩
  have HST := Lib.hid hst
  clear hst
  have B0 := Lib.hid (HST.out w0 (Below.refl _ _))
  refine Calls.mono (ghd_any B _ _ _ g u sp _ B0.out.2.2.2.1 HR0.out HN0.out HU0.out hz hsp HF.out) ?_
  rintro e w1 ⟨A1, c1, rfl, hR1, hx1⟩
  have HX1 := Lib.hid hx1
  have HR1 := Lib.hid hR1
  have B1 := Lib.hid (HST.out _ hx1)
  obtain ⟨g0, g1⟩ := cells2 B1.out.1
  obtain ⟨y0, y1⟩ := cells2 B1.out.2.1
  clear hx1 hR1
  go_wp2_with fail
  refine Calls.mono (rgh_any B _ _ _ g u sp _ B1.out.2.2.2.1 (HR0.out.below B1.out.2.2.2.2) (HN0.out.below B1.out.2.2.2.2) (HU0.out.below B1.out.2.2.2.2) hz hsp HF.out HK.out) ?_
  rintro e w2 ⟨A2, c2, rfl, hR2, hx2⟩
  have HX2 := Lib.hid (HX1.out.trans hx2)
  have HR1' := Lib.hid (HR1.out.below hx2 hx2.size)
  have HR2 := Lib.hid hR2
  have B2 := Lib.hid (HST.out _ HX2.out)
  clear g0 g1 y0 y1 hx2 hR2
  obtain ⟨g0, g1⟩ := cells2 B2.out.1
  obtain ⟨y0, y1⟩ := cells2 B2.out.2.1
  obtain ⟨a0, a1, a2, a3⟩ := cells4 B2.out.2.2.1
  go_wp2_with fail
  refine Calls.mono (gmay_any B _ _ _ g u a _ B2.out.2.2.2.1 (HR0.out.below B2.out.2.2.2.2) (HN0.out.below B2.out.2.2.2.2) (HU0.out.below B2.out.2.2.2.2) hz HA.out HF.out) ?_
  rintro e w3 ⟨rfl, hx3⟩
  have HX3 := Lib.hid (HX2.out.trans hx3)
  have HR1'' := Lib.hid (HR1'.out.below hx3 hx3.size)
  have HR2' := Lib.hid (HR2.out.below hx3 hx3.size)
  have B3 := Lib.hid (HST.out _ HX3.out)
  clear g0 g1 y0 y1 a0 a1 a2 a3 hx3
  obtain ⟨g0, g1⟩ := cells2 B3.out.1
  obtain ⟨y0, y1⟩ := cells2 B3.out.2.1
  obtain ⟨a0, a1, a2, a3⟩ := cells4 B3.out.2.2.1
  go_wp2_with fail
  refine Calls.mono (rmay_any B _ _ _ g u a _ B3.out.2.2.2.1 (HR0.out.below B3.out.2.2.2.2) (HN0.out.below B3.out.2.2.2.2) (HU0.out.below B3.out.2.2.2.2) hz HA.out HF.out HK.out) ?_
  rintro e w4 ⟨rfl, hx4⟩
  have HX4 := Lib.hid (HX3.out.trans hx4)
  have HL1 := Lib.hid (HR1''.out.below hx4 hx4.size)
  have HL2 := Lib.hid (HR2'.out.below hx4 hx4.size)
  have B4 := Lib.hid (HST.out _ HX4.out)
  clear g0 g1 y0 y1 a0 a1 a2 a3 hx4
  obtain ⟨a0, a1, a2, a3⟩ := cells4 B4.out.2.2.1
  obtain ⟨L, hL⟩ : ∃ L, L = heldR g u sp := ⟨_, rfl⟩
  rw [← hL] at HL1 HL2
  rw [← hL]
  have l0 := cell_regrown a0
  have l1 := cell_regrown a1
  have l2 := cell_regrown a2
  have l3 := cell_regrown a3
  have hbel : ∀ d os, Ext w4 (grow (redrawn w4 d) os) := fun d os => below_regrown w4 d os
  have cS := fun d os => Calls.regrown_of (w := w4) (d := d) (os := os) (sameRules_any w4.heap.size _ _ L _ (hbel d os).size (HL1.out.below (hbel d os) (Nat.le_refl _)) (HL2.out.below (hbel d os) (Nat.le_refl _)))
  have cG := fun d os => Calls.regrown_of (w := w4) (d := d) (os := os) (gallows_any w4.heap.size _ L a _ (hbel d os).size (HL1.out.below (hbel d os) (Nat.le_refl _)))
  have cR := fun d os => Calls.regrown_of (w := w4) (d := d) (os := os) (rallows_any w4.heap.size _ L a _ (hbel d os).size (HL2.out.below (hbel d os) (Nat.le_refl _)))
  unfold Ask.val at cG cR
  have CS := Lib.hid cS
  have CG := Lib.hid cG
  have CR := Lib.hid cR
  have HX9 := Lib.hid (fun d os => HX0.out.trans (HX4.out.trans (hbel d os)))
  clear cS cG cR hbel hL a0 a1 a2 a3
  go_wp2_with fail
  refine wp_region_quiet_below (by kernel_rfl) (by kernel_rfl) ?_
  repeat (quiet_step (first | (go_at_call 45; exact CS.out _ _) | (go_at_call 47; exact CG.out _ _) | (go_at_call 48; exact CR.out _ _)))
  refine wpQuiet_nil ?_
  intro _ hw'
  obtain ⟨⟨dq, osq⟩, hw''⟩ := hw'
  subst hw''
  go_wp2
  go_ret
  exact ⟨rfl, HX9.out _ _⟩
end Go.Proofs.Ytpbbohinhbboaaa.Sx
