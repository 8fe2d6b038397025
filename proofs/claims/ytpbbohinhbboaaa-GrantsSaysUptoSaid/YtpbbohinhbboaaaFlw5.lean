/-
  The reference's GrantsAsk, and the law GrantsChecks.
-/
import Derived.Test.YtpbbohinhbboaaaFlw4
import Derived.Lib.QuietBelow
import Derived.BigQuiet
namespace Go.Proofs.Ytpbbohinhbboaaa.Sx
open Go Go.RowKit Go.Sort

theorem askI_eq (a : Ask) : askI a = spaceI (spaceI (say (say 0 (nameI a.verb)) (nameI a.kind)) a.space) a.name := rfl

set_option maxRecDepth 100000 in
set_option maxHeartbeats 1000000 in
theorem rask_any (a : Ask) (w : World) (ha : a.small) : Calls Try.prog 32 #[a.val] w (CheckPost w (askI a)) := by
  obtain ⟨h1, h2, h3, h4⟩ := ha
  unfold Ask.val
  go_enter Try.func32, Try.ntmps32
  go_wp2_with fail
  obtain ⟨w0, hw0⟩ : ∃ w0, w0 = ((w.alloc (.cells #[.string a.verb, .string a.kind, .string a.space, .string a.name] 68)).alloc (.cells #[.slice none 0 0] 141)) := ⟨_, rfl⟩
  have hg0 : w0.heap[w.heap.size]? = some (.cells #[.string a.verb, .string a.kind, .string a.space, .string a.name] 68 (0, 0)) := by rw [hw0]; exact heap_old (heap_new rfl)
  have hc0 : Flw w0 (w.heap.size + 1) 0 0 := by rw [hw0]; exact Flw.new (by simp)
  have hx0 : Ext w w0 := by rw [hw0]; exact ((Below.refl _ _).alloc (Nat.le_refl _) _).alloc (by simp) _
  have hsz : w.heap.size + 1 ≤ w0.heap.size := Nat.le_of_lt hc0.lt
  have HX0 := Lib.hid hx0
  have B0 : Hid (w0.heap[w.heap.size]? = some (.cells #[.string a.verb, .string a.kind, .string a.space, .string a.name] 68 (0, 0)) ∧ Flw w0 (w.heap.size + 1) 0 0 ∧ Mod eT (w.heap.size + 1) w0 w0) := ⟨hg0, hc0, Mod.refl⟩
  have hstep : ∀ w1 w2 c K c' K', (w1.heap[w.heap.size]? = some (.cells #[.string a.verb, .string a.kind, .string a.space, .string a.name] 68 (0, 0)) ∧ Flw w1 (w.heap.size + 1) c K ∧ Mod eT (w.heap.size + 1) w0 w1) → Flw w2 (w.heap.size + 1) c' K' → Mod eT (w.heap.size + 1) w1 w2 →
      (w2.heap[w.heap.size]? = some (.cells #[.string a.verb, .string a.kind, .string a.space, .string a.name] 68 (0, 0)) ∧ Flw w2 (w.heap.size + 1) c' K' ∧ Mod eT (w.heap.size + 1) w0 w2) := fun w1 w2 c K c' K' h hc hm => ⟨hm.heap (safe_of (by omega) h.1 (by decide)) h.1, hc, h.2.2.trans hm⟩
  have HST := Lib.hid hstep
  rw [← hw0]
  clear hw0 hx0 hg0 hc0 hstep
  refine Calls.mono (rname_any _ _ (by unfold maxLen; omega)) ?_
  rintro e w' ⟨rfl, rfl⟩
  go_wp2_with fail
  refine Calls.mono (fsays_any _ _ _ _ _ B0.out.2.1 (by omega)) ?_
  rintro e w1 ⟨rfl, hc, hm⟩
  have B1 := Lib.hid (HST.out _ _ _ _ _ _ B0.out hc hm)
  obtain ⟨g0, g1, g2, g3⟩ := cells4 B1.out.1
  clear hc hm
  go_wp2_with fail
  refine Calls.mono (rname_any _ _ (by unfold maxLen; omega)) ?_
  rintro e w' ⟨rfl, rfl⟩
  go_wp2_with fail
  refine Calls.mono (fsays_any _ _ _ _ _ B1.out.2.1 (by omega)) ?_
  rintro e w2 ⟨rfl, hc, hm⟩
  have B2 := Lib.hid (HST.out _ _ _ _ _ _ B1.out hc hm)
  obtain ⟨g0, g1, g2, g3⟩ := cells4 B2.out.1
  clear hc hm
  go_wp2_with fail
  refine Calls.mono (fspace_any _ _ _ _ _ B2.out.2.1 (by omega) h3) ?_
  rintro e w3 ⟨rfl, hc, hm⟩
  have B3 := Lib.hid (HST.out _ _ _ _ _ _ B2.out hc hm)
  obtain ⟨g0, g1, g2, g3⟩ := cells4 B3.out.1
  clear hc hm
  go_wp2_with fail
  refine Calls.mono (fspace_any _ _ _ _ _ B3.out.2.1 (by omega) h4) ?_
  rintro e w4 ⟨rfl, hc, hm⟩
  have B4 := Lib.hid (HST.out _ _ _ _ _ _ B3.out hc hm)
  clear hc hm
  have HE : Hid (Ext w w4) := Below.trans HX0.out ((B4.out.2.2.below hsz).mono (Nat.le_succ _))
  obtain ⟨vf, Lf, hf1, hf2⟩ := B4.out.2.1
  have hcf := cell_of hf1 0
  simp at hcf
  clear hf1 hf2
  go_wp2_with fail
  refine Calls.mono (first_any _ _ _ _ _ B4.out.2.1 hcf (by omega)) ?_
  rintro e w' ⟨rfl, rfl⟩
  go_wp2
  go_ret
  exact ⟨rfl, HE.out⟩

set_option maxRecDepth 100000 in
set_option maxHeartbeats 1000000 in
theorem grantsChecks_walk (B : Nat) (vr vb : Value) (gr : Grants) (a : Ask) (w : World) (hB : B ≤ w.heap.size) (hr : RolesAt B w vr gr.roles) (hb : BindsAt B w vb gr.binds) (ha : a.small) (hK : grantsW gr < 8796093022208) :
    Calls Try.prog 7 #[.agg #[vr, vb], a.val] w fun e w' => e = .returned (.bool true) ∧ Ext w w' := by
  have hr0 := hr
  have hb0 := hb
  obtain ⟨hn, A, cap, rfl, _, _, _⟩ := hr
  obtain ⟨hn', A', cap', rfl, _, _, _⟩ := hb
  have HR := Lib.hid hr0
  have HB := Lib.hid hb0
  have HK := Lib.hid hK
  have HA := Lib.hid ha
  clear hr0 hb0 hK ha
  unfold Ask.val
  go_enter Try.func7, Try.ntmps7
  go_wp2
  obtain ⟨w0, hw0⟩ : ∃ w0, w0 = (w.alloc (.cells #[.slice A gr.roles.length cap, .slice A' gr.binds.length cap'] 66)).alloc (.cells #[.string a.verb, .string a.kind, .string a.space, .string a.name] 68) := ⟨_, rfl⟩
  have hx0 : Ext w w0 := by rw [hw0]; exact ((Below.refl _ _).alloc (Nat.le_refl _) _).alloc (by simp) _
  have hg0 : w0.heap[w.heap.size]? = some (.cells #[.slice A gr.roles.length cap, .slice A' gr.binds.length cap'] 66 (0, 0)) := by rw [hw0]; exact heap_old (heap_new rfl)
  have ha0 : w0.heap[w.heap.size + 1]? = some (.cells #[.string a.verb, .string a.kind, .string a.space, .string a.name] 68 (0, 0)) := by rw [hw0]; exact heap_new (by simp)
  rw [← hw0]
  obtain ⟨g0, g1⟩ := cells2 hg0
  obtain ⟨a0, a1, a2, a3⟩ := cells4 ha0
  have HX0 := Lib.hid hx0
  clear hw0 hx0 hg0 ha0
  have k0 := cell_regrown g0
  have k1 := cell_regrown g1
  have l0 := cell_regrown a0
  have l1 := cell_regrown a1
  have l2 := cell_regrown a2
  have l3 := cell_regrown a3
  have hbel : ∀ d os, Below B w (grow (redrawn w0 d) os) := fun d os => (HX0.out.trans (below_regrown w0 d os)).mono hB
  have hBs : ∀ d os, B ≤ (grow (redrawn w0 d) os).heap.size := fun d os => Nat.le_trans hB (hbel d os).size
  have cG := fun d os => Calls.regrown_of (w := w0) (d := d) (os := os) (gcheck_any B _ _ gr _ (hBs d os) (HR.out.below (hbel d os)) (HB.out.below (hbel d os)))
  have cR := fun d os => Calls.regrown_of (w := w0) (d := d) (os := os) (rcheck_any B _ _ gr _ (hBs d os) (HR.out.below (hbel d os)) (HB.out.below (hbel d os)) HK.out)
  have cA := fun d os => Calls.regrown_of (w := w0) (d := d) (os := os) (gask_any a _ HA.out)
  have cB := fun d os => Calls.regrown_of (w := w0) (d := d) (os := os) (rask_any a _ HA.out)
  unfold Ask.val at cA cB
  have CG := Lib.hid cG
  have CR := Lib.hid cR
  have CA := Lib.hid cA
  have CB := Lib.hid cB
  clear cG cR cA cB hbel hBs g0 g1 a0 a1 a2 a3
  refine wp_region_quiet_below (by kernel_rfl) (by kernel_rfl) ?_
  repeat (quiet_step (first | (go_at_call 29; exact CG.out _ _) | (go_at_call 30; exact CR.out _ _) | (go_at_call 31; exact CA.out _ _) | (go_at_call 32; exact CB.out _ _)))
  refine wpQuiet_nil ?_
  intro _ hw'
  obtain ⟨⟨dq, osq⟩, hw''⟩ := hw'
  subst hw''
  go_wp2
  go_ret
  exact ⟨rfl, HX0.out.trans (below_regrown w0 dq osq)⟩
end Go.Proofs.Ytpbbohinhbboaaa.Sx
