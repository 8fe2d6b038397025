/-
  The reference's GrantsMay: the walk.
-/
import Derived.Test.YtpbbohinhbboaaaMay
import Derived.Test.YtpbbohinhbboaaaFlw5
import Derived.Test.YtpbbohinhbboaaaUsr2
import Derived.Test.YtpbbohinhbboaaaAlw3
namespace Go.Proofs.Ytpbbohinhbboaaa.Sx
open Go Go.RowKit

theorem mayE_eq (g : Grants) (u : User) (a : Ask) : say (say (say 0 (grantsI g)) (userI u)) (askI a) = mayE g u a := by
  unfold mayE checkI spaceI
  rw [if_pos (by rfl)]

set_option maxRecDepth 100000 in
set_option maxHeartbeats 2000000 in
theorem rmay_any (B : Nat) (vr vb vu : Value) (g : Grants) (u : User) (a : Ask) (w : World) (hB : B ≤ w.heap.size) (hr : RolesAt B w vr g.roles) (hb : BindsAt B w vb g.binds) (hu : StrsAt B w vu u.groups) (hz : u.name.size ≤ 1048576) (ha : a.small) (hf : g.few) (hK : grantsW g < 8796093022208) :
    Calls Try.prog 44 #[.agg #[vr, vb], .agg #[.string u.name, vu], a.val] w fun e w' => e = .returned (.tuple #[.bool (mayB g u a), .int .i64 (mayE g u a)]) ∧ Ext w w' := by
  have HV := Lib.hid (And.intro hr (And.intro hb hu))
  have HF := Lib.hid hf
  have HA := Lib.hid ha
  have HK := Lib.hid hK
  obtain ⟨hn1, A, c, rfl, _⟩ := hr
  obtain ⟨hn2, A', c', rfl, _⟩ := hb
  obtain ⟨hn3, Au, cu, rfl, _⟩ := hu
  clear hf ha hK
  unfold Ask.val
  go_enter Try.func44, Try.ntmps44
  go_wp2_with fail
  obtain ⟨w0, hw0⟩ : ∃ w0, w0 = (((w.alloc (.cells #[.slice A g.roles.length c, .slice A' g.binds.length c'] 66)).alloc (.cells #[.string u.name, .slice Au u.groups.length cu] 78)).alloc (.cells #[.string a.verb, .string a.kind, .string a.space, .string a.name] 68)).alloc (.cells #[.slice none 0 0] 141) := ⟨_, rfl⟩
  have hx0 : Ext w w0 := by rw [hw0]; exact ((((Below.refl _ _).alloc (Nat.le_refl _) _).alloc (by simp) _).alloc (by simp; omega) _).alloc (by simp; omega) _
  have hg0 : w0.heap[w.heap.size]? = some (.cells #[.slice A g.roles.length c, .slice A' g.binds.length c'] 66 (0, 0)) := by rw [hw0]; exact heap_old (heap_old (heap_old (heap_new rfl)))
  have hu0 : w0.heap[w.heap.size + 1]? = some (.cells #[.string u.name, .slice Au u.groups.length cu] 78 (0, 0)) := by rw [hw0]; exact heap_old (heap_old (heap_new (by simp)))
  have ha0 : AskIn w0 (w.heap.size + 1 + 1) a := by rw [hw0]; exact heap_old (heap_new (by simp))
  have hc0 : Flw w0 (w.heap.size + 1 + 1 + 1) 0 0 := by rw [hw0]; exact Flw.new (by simp)
  rw [← hw0]
  have HX0 := Lib.hid hx0
  have H0 := Lib.hid (And.intro hg0 (And.intro hu0 ha0))
  have HC0 := Lib.hid hc0
  have hbl0 := hx0.mono hB
  clear hw0 hx0 hg0 hu0 ha0 hc0
  refine Calls.mono (rcheck_any B _ _ g _ (Nat.le_trans hB HX0.out.size) (HV.out.1.below hbl0) (HV.out.2.1.below hbl0) HK.out) ?_
  rintro e w1 ⟨rfl, hx1⟩
  clear hbl0
  go_wp2_with fail
  refine Calls.mono (fsays_any _ _ _ _ _ (HC0.out.ext hx1) (by omega)) ?_
  rintro e w2 ⟨rfl, hc2, hm2⟩
  have hsz : w.heap.size + 1 + 1 + 1 ≤ w0.heap.size := Nat.le_of_lt HC0.out.lt
  have hst : ∀ w', Mod eT (w.heap.size + 1 + 1 + 1) w0 w' → w'.heap[w.heap.size]? = some (.cells #[.slice A g.roles.length c, .slice A' g.binds.length c'] 66 (0, 0)) ∧ w'.heap[w.heap.size + 1]? = some (.cells #[.string u.name, .slice Au u.groups.length cu] 78 (0, 0)) ∧ AskIn w' (w.heap.size + 1 + 1) a ∧ Ext w w' := fun w' hm =>
    ⟨hm.heap (.inl (by omega)) H0.out.1, hm.heap (.inl (by omega)) H0.out.2.1, hm.heap (.inl (by omega)) H0.out.2.2, Below.trans HX0.out ((hm.below hsz).mono (by omega))⟩
  have HST := Lib.hid hst
  have HM2 := Lib.hid ((Mod.of_ext hx1).trans hm2)
  have HC2 := Lib.hid hc2
  clear hst hx1 hm2 hc2
  have B2 := Lib.hid (HST.out _ HM2.out)
  obtain ⟨y0, y1⟩ := cells2 B2.out.2.1
  go_wp2_with fail
  refine Calls.mono (ruser_any B _ u _ (Nat.le_trans hB B2.out.2.2.2.size) hz (HV.out.2.2.below (B2.out.2.2.2.mono hB))) ?_
  rintro e w3 ⟨rfl, hx3⟩
  go_wp2_with fail
  refine Calls.mono (fsays_any _ _ _ _ _ (HC2.out.ext hx3) (by omega)) ?_
  rintro e w4 ⟨rfl, hc4, hm4⟩
  have HM4 := Lib.hid ((HM2.out.trans (Mod.of_ext hx3)).trans hm4)
  have HC4 := Lib.hid hc4
  clear hx3 hm4 hc4 y0 y1
  have B4 := Lib.hid (HST.out _ HM4.out)
  obtain ⟨a0, a1, a2, a3⟩ := cells4 B4.out.2.2.1
  go_wp2_with fail
  refine Calls.mono (rask_any a _ HA.out) ?_
  rintro e w5 ⟨rfl, hx5⟩
  go_wp2_with fail
  refine Calls.mono (fsays_any _ _ _ _ _ (HC4.out.ext hx5) (by omega)) ?_
  rintro e w6 ⟨rfl, hc6, hm6⟩
  rw [mayE_eq] at hc6
  have HM6 := Lib.hid ((HM4.out.trans (Mod.of_ext hx5)).trans hm6)
  have HC6 := Lib.hid hc6
  clear hx5 hm6 hc6 a0 a1 a2 a3
  have B6 := Lib.hid (HST.out _ HM6.out)
  obtain ⟨vf, Lf, hf1, hf2⟩ := HC6.out
  have hcf := cell_of hf1 0
  simp at hcf
  clear hf1 hf2
  go_wp2_with fail
  refine Calls.mono (first_any _ _ _ _ _ HC6.out hcf (by omega)) ?_
  rintro e w' ⟨rfl, rfl⟩
  by_cases h4 : mayE g u a = 0
  · have hb1 : (mayE g u a != 0) = false := by simp [h4]
    have hE3 : Hid (mayE g u a = 0 ∧ mayB g u a = allowsL (heldL g u a.space) a) := by
      refine ⟨h4, ?_⟩
      unfold mayB
      rw [h4]
      simp
    obtain ⟨g0, g1⟩ := cells2 B6.out.1
    obtain ⟨y0, y1⟩ := cells2 B6.out.2.1
    obtain ⟨a0, a1, a2, a3⟩ := cells4 B6.out.2.2.1
    clear h4
    go_wp2
    have hcs : ∀ w', Ext w6 w' → Ext w6 w' ∧ w'.cell? ⟨w.heap.size, 0, none⟩ = some (.slice A g.roles.length c) ∧ w'.cell? ⟨w.heap.size, 1, none⟩ = some (.slice A' g.binds.length c') ∧ w'.cell? ⟨w.heap.size + 1, 0, none⟩ = some (.string u.name) ∧ w'.cell? ⟨w.heap.size + 1, 1, none⟩ = some (.slice Au u.groups.length cu) ∧ w'.cell? ⟨w.heap.size + 1 + 1, 0, none⟩ = some (.string a.verb) ∧ w'.cell? ⟨w.heap.size + 1 + 1, 1, none⟩ = some (.string a.kind) ∧ w'.cell? ⟨w.heap.size + 1 + 1, 2, none⟩ = some (.string a.space) ∧ w'.cell? ⟨w.heap.size + 1 + 1, 3, none⟩ = some (.string a.name) := fun w' hk => by
      obtain ⟨e0, e1⟩ := cells2 ((hk.block _ (heap_lt B6.out.1)).trans B6.out.1)
      obtain ⟨e2, e3⟩ := cells2 ((hk.block _ (heap_lt B6.out.2.1)).trans B6.out.2.1)
      obtain ⟨e4, e5, e6, e7⟩ := cells4 ((hk.block _ (heap_lt B6.out.2.2.1)).trans B6.out.2.2.1)
      exact ⟨hk, e0, e1, e2, e3, e4, e5, e6, e7⟩
    have hCH : ∀ wk, Ext w6 wk → Calls Try.prog 106 #[.agg #[.slice A g.roles.length c, .slice A' g.binds.length c'], .agg #[.string u.name, .slice Au u.groups.length cu], .string a.space] wk fun e w' => ∃ A9 c9, e = .returned (.slice A9 (heldL g u a.space).length c9) ∧ RulesR w'.heap.size w' (.slice A9 (heldL g u a.space).length c9) (heldL g u a.space) ∧ Ext w6 w' ∧ w'.cell? ⟨w.heap.size, 0, none⟩ = some (.slice A g.roles.length c) ∧ w'.cell? ⟨w.heap.size, 1, none⟩ = some (.slice A' g.binds.length c') ∧ w'.cell? ⟨w.heap.size + 1, 0, none⟩ = some (.string u.name) ∧ w'.cell? ⟨w.heap.size + 1, 1, none⟩ = some (.slice Au u.groups.length cu) ∧ w'.cell? ⟨w.heap.size + 1 + 1, 0, none⟩ = some (.string a.verb) ∧ w'.cell? ⟨w.heap.size + 1 + 1, 1, none⟩ = some (.string a.kind) ∧ w'.cell? ⟨w.heap.size + 1 + 1, 2, none⟩ = some (.string a.space) ∧ w'.cell? ⟨w.heap.size + 1 + 1, 3, none⟩ = some (.string a.name) := fun wk hk => by
      have h5 := (B6.out.2.2.2.trans hk)
      have h6 := h5.mono hB
      exact (rheld_any B _ _ _ g u _ _ (Nat.le_trans hB h5.size) (HV.out.1.below h6) (HV.out.2.1.below h6) ((StrsAt.toR HV.out.2.2).below h6 (Nat.le_refl _)) HF.out).mono fun e w' ⟨A9, c9, he, hR, hx⟩ => ⟨A9, c9, he, hR, hcs w' (hk.trans hx)⟩
    have hCA : ∀ wk A9 c9, Ext w6 wk → RulesR wk.heap.size wk (.slice A9 (heldL g u a.space).length c9) (heldL g u a.space) → Calls Try.prog 48 #[.slice A9 (heldL g u a.space).length c9, .agg #[.string a.verb, .string a.kind, .string a.space, .string a.name]] wk fun e w' => e = .returned (.bool (allowsL (heldL g u a.space) a)) ∧ Ext w6 w' ∧ w'.cell? ⟨w.heap.size, 0, none⟩ = some (.slice A g.roles.length c) ∧ w'.cell? ⟨w.heap.size, 1, none⟩ = some (.slice A' g.binds.length c') ∧ w'.cell? ⟨w.heap.size + 1, 0, none⟩ = some (.string u.name) ∧ w'.cell? ⟨w.heap.size + 1, 1, none⟩ = some (.slice Au u.groups.length cu) ∧ w'.cell? ⟨w.heap.size + 1 + 1, 0, none⟩ = some (.string a.verb) ∧ w'.cell? ⟨w.heap.size + 1 + 1, 1, none⟩ = some (.string a.kind) ∧ w'.cell? ⟨w.heap.size + 1 + 1, 2, none⟩ = some (.string a.space) ∧ w'.cell? ⟨w.heap.size + 1 + 1, 3, none⟩ = some (.string a.name) := fun wk A9 c9 hk hR =>
      (rallows_any wk.heap.size _ _ a _ (Nat.le_refl _) hR).mono fun e w' ⟨he, hx⟩ => ⟨he, hcs w' (hk.trans hx)⟩
    have CH := Lib.hid hCH
    have CA := Lib.hid hCA
    clear hCH hCA hcs
    have hxx : Ext w6 w6 := Below.refl _ _
    go_region_held3 (fun w' => Ext w6 w' ∧ w'.cell? ⟨w.heap.size, 0, none⟩ = some (.slice A g.roles.length c) ∧ w'.cell? ⟨w.heap.size, 1, none⟩ = some (.slice A' g.binds.length c') ∧ w'.cell? ⟨w.heap.size + 1, 0, none⟩ = some (.string u.name) ∧ w'.cell? ⟨w.heap.size + 1, 1, none⟩ = some (.slice Au u.groups.length cu) ∧ w'.cell? ⟨w.heap.size + 1 + 1, 0, none⟩ = some (.string a.verb) ∧ w'.cell? ⟨w.heap.size + 1 + 1, 1, none⟩ = some (.string a.kind) ∧ w'.cell? ⟨w.heap.size + 1 + 1, 2, none⟩ = some (.string a.space) ∧ w'.cell? ⟨w.heap.size + 1 + 1, 3, none⟩ = some (.string a.name))
      (first | (refine ⟨Below.drew (by assumption), ?_, ?_, ?_, ?_, ?_, ?_, ?_, ?_⟩ <;> go_keep) | (refine ⟨by assumption, by assumption, by assumption, by assumption, by assumption, by assumption, by assumption, by assumption, by assumption⟩) | go_keep)
      (first
        | (go_at_call 106; refine (CH.out _ (by first | assumption | (apply Below.drew; assumption))).mono ?_; rintro e w' ⟨A9, c9, rfl, hR, q0, q1, q2, q3, q4, q5, q6, q7, q8⟩)
        | (go_at_call 48; refine (CA.out _ _ _ (by first | assumption | (apply Below.drew; assumption)) (by first | assumption | exact RulesR.below (by assumption) (Below.drew (Below.refl _ _)) (Nat.le_refl _))).mono ?_; rintro e w' ⟨rfl, q0, q1, q2, q3, q4, q5, q6, q7, q8⟩))
    all_goals go_wp2
    all_goals go_ret2
    all_goals exact ⟨by rw [hE3.out.1, hE3.out.2]; rfl, B6.out.2.2.2.trans (by assumption)⟩
  · have hb1 : (mayE g u a != 0) = true := by simp [h4]
    have hE3 : Hid (mayB g u a = false) := by unfold Hid mayB; simp [h4]
    clear h4
    go_wp2
    go_ret2
    exact ⟨by rw [hE3.out]; rfl, B6.out.2.2.2⟩
end Go.Proofs.Ytpbbohinhbboaaa.Sx
