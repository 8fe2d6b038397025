/-
  The program's grants.May: the walk.
-/
import Derived.Test.YtpbbohinhbboaaaCk
import Derived.Deep.RegionHeld3
namespace Go.Proofs.Ytpbbohinhbboaaa.Sx
open Go Go.RowKit

def mayE (g : Grants) (u : User) (a : Ask) : Int := say (checkI g u ⟨#[]⟩) (askI a)
def mayB (g : Grants) (u : User) (a : Ask) : Bool := decide (mayE g u a = 0) && allowsL (heldL g u a.space) a
theorem ext_cells {w w' : World} (h : Ext w w') {k : Nat} {j : Nat} {x : Value} (hc : w.cell? ⟨k, j, none⟩ = some x) (hk : k < w.heap.size) : w'.cell? ⟨k, j, none⟩ = some x := (h.cell (p := ⟨k, j, none⟩) hk).trans hc

set_option maxRecDepth 100000 in
set_option maxHeartbeats 2000000 in
theorem gmay_any (B : Nat) (vr vb vu : Value) (g : Grants) (u : User) (a : Ask) (w : World) (hB : B ≤ w.heap.size) (hr : RolesAt B w vr g.roles) (hb : BindsAt B w vb g.binds) (hu : StrsAt B w vu u.groups) (hz : u.name.size ≤ 1048576) (ha : a.small) (hf : g.few) :
    Calls Try.prog 43 #[.agg #[vr, vb], .agg #[.string u.name, vu], a.val] w fun e w' => e = .returned (.tuple #[.bool (mayB g u a), .int .i64 (mayE g u a)]) ∧ Ext w w' := by
  have HV := Lib.hid (And.intro hr (And.intro hb hu))
  have HF := Lib.hid hf
  have HA := Lib.hid ha
  obtain ⟨hn1, A, c, rfl, _⟩ := hr
  obtain ⟨hn2, A', c', rfl, _⟩ := hb
  obtain ⟨hn3, Au, cu, rfl, _⟩ := hu
  clear hf ha
  unfold Ask.val
  go_enter Try.func43, Try.ntmps43
  go_wp2_with fail
  obtain ⟨w0, hw0⟩ : ∃ w0, w0 = ((w.alloc (.cells #[.slice A g.roles.length c, .slice A' g.binds.length c'] 66)).alloc (.cells #[.string u.name, .slice Au u.groups.length cu] 78)).alloc (.cells #[.string a.verb, .string a.kind, .string a.space, .string a.name] 68) := ⟨_, rfl⟩
  have hx0 : Ext w w0 := by rw [hw0]; exact (((Below.refl _ _).alloc (Nat.le_refl _) _).alloc (by simp) _).alloc (by simp; omega) _
  have hg0 : w0.heap[w.heap.size]? = some (.cells #[.slice A g.roles.length c, .slice A' g.binds.length c'] 66 (0, 0)) := by rw [hw0]; exact heap_old (heap_old (heap_new rfl))
  have hu0 : w0.heap[w.heap.size + 1]? = some (.cells #[.string u.name, .slice Au u.groups.length cu] 78 (0, 0)) := by rw [hw0]; exact heap_old (heap_new (by simp))
  have ha0 : AskIn w0 (w.heap.size + 1 + 1) a := by rw [hw0]; exact heap_new (by simp)
  rw [← hw0]
  have HX0 := Lib.hid hx0
  have H0 := Lib.hid (And.intro hg0 (And.intro hu0 ha0))
  clear hw0 hx0 hg0 hu0 ha0
  have hbl0 := HX0.out.mono hB
  refine Calls.mono (gck_any B _ _ _ g u _ _ (Nat.le_trans hB HX0.out.size) (HV.out.1.below hbl0) (HV.out.2.1.below hbl0) (HV.out.2.2.below hbl0) hz (by decide)) ?_
  rintro e w1 ⟨rfl, hx1⟩
  have h1 : w1.heap[w.heap.size]? = _ := (hx1.block _ (heap_lt H0.out.1)).trans H0.out.1
  have h2 : w1.heap[w.heap.size + 1]? = _ := (hx1.block _ (heap_lt H0.out.2.1)).trans H0.out.2.1
  have h3 : AskIn w1 (w.heap.size + 1 + 1) a := (hx1.block _ (heap_lt H0.out.2.2)).trans H0.out.2.2
  have H1 := Lib.hid (And.intro h1 (And.intro h2 h3))
  have HX1 := Lib.hid (HX0.out.trans hx1)
  obtain ⟨g0, g1⟩ := cells2 h1
  obtain ⟨y0, y1⟩ := cells2 h2
  obtain ⟨a0, a1, a2, a3⟩ := cells4 h3
  clear hx1 h1 h2 h3 hbl0
  have hE : Hid (mayE g u a = say (checkI g u ⟨#[]⟩) (askI a)) := rfl
  by_cases h0 : checkI g u ⟨#[]⟩ = 0
  · have hb0 : (checkI g u ⟨#[]⟩ == 0) = true := by simp [h0]
    have hE2 : Hid (mayE g u a = askI a) := by unfold Hid; rw [hE.out, h0, say_zero]
    clear h0
    go_wp2_with fail
    refine Calls.mono (gask_any a _ HA.out) ?_
    rintro e w2 ⟨rfl, hx2⟩
    have h1 : w2.heap[w.heap.size]? = _ := (hx2.block _ (heap_lt H1.out.1)).trans H1.out.1
    have h2 : w2.heap[w.heap.size + 1]? = _ := (hx2.block _ (heap_lt H1.out.2.1)).trans H1.out.2.1
    have h3 : AskIn w2 (w.heap.size + 1 + 1) a := (hx2.block _ (heap_lt H1.out.2.2)).trans H1.out.2.2
    have H2 := Lib.hid (And.intro h1 (And.intro h2 h3))
    have HX2 := Lib.hid (HX1.out.trans hx2)
    clear g0 g1 y0 y1 a0 a1 a2 a3
    obtain ⟨g0, g1⟩ := cells2 h1
    obtain ⟨y0, y1⟩ := cells2 h2
    obtain ⟨a0, a1, a2, a3⟩ := cells4 h3
    clear hx2 h1 h2 h3
    by_cases h4 : askI a = 0
    · have hb1 : (askI a != 0) = false := by simp [h4]
      have hE3 : Hid (mayE g u a = 0 ∧ mayB g u a = allowsL (heldL g u a.space) a) := by
        have e1 := hE2.out.trans h4
        refine ⟨e1, ?_⟩
        unfold mayB
        rw [e1]
        simp
      clear h4
      go_wp2
      have hcs : ∀ w', Ext w2 w' → Ext w2 w' ∧ w'.cell? ⟨w.heap.size, 0, none⟩ = some (.slice A g.roles.length c) ∧ w'.cell? ⟨w.heap.size, 1, none⟩ = some (.slice A' g.binds.length c') ∧ w'.cell? ⟨w.heap.size + 1, 0, none⟩ = some (.string u.name) ∧ w'.cell? ⟨w.heap.size + 1, 1, none⟩ = some (.slice Au u.groups.length cu) ∧ w'.cell? ⟨w.heap.size + 1 + 1, 0, none⟩ = some (.string a.verb) ∧ w'.cell? ⟨w.heap.size + 1 + 1, 1, none⟩ = some (.string a.kind) ∧ w'.cell? ⟨w.heap.size + 1 + 1, 2, none⟩ = some (.string a.space) ∧ w'.cell? ⟨w.heap.size + 1 + 1, 3, none⟩ = some (.string a.name) := fun w' hk => by
        obtain ⟨e0, e1⟩ := cells2 ((hk.block _ (heap_lt H2.out.1)).trans H2.out.1)
        obtain ⟨e2, e3⟩ := cells2 ((hk.block _ (heap_lt H2.out.2.1)).trans H2.out.2.1)
        obtain ⟨e4, e5, e6, e7⟩ := cells4 ((hk.block _ (heap_lt H2.out.2.2)).trans H2.out.2.2)
        exact ⟨hk, e0, e1, e2, e3, e4, e5, e6, e7⟩
      have hCH : ∀ wk, Ext w2 wk → Calls Try.prog 104 #[.agg #[.slice A g.roles.length c, .slice A' g.binds.length c'], .agg #[.string u.name, .slice Au u.groups.length cu], .string a.space] wk fun e w' => ∃ A9 c9, e = .returned (.slice A9 (heldL g u a.space).length c9) ∧ RulesR w'.heap.size w' (.slice A9 (heldL g u a.space).length c9) (heldL g u a.space) ∧ Ext w2 w' ∧ w'.cell? ⟨w.heap.size, 0, none⟩ = some (.slice A g.roles.length c) ∧ w'.cell? ⟨w.heap.size, 1, none⟩ = some (.slice A' g.binds.length c') ∧ w'.cell? ⟨w.heap.size + 1, 0, none⟩ = some (.string u.name) ∧ w'.cell? ⟨w.heap.size + 1, 1, none⟩ = some (.slice Au u.groups.length cu) ∧ w'.cell? ⟨w.heap.size + 1 + 1, 0, none⟩ = some (.string a.verb) ∧ w'.cell? ⟨w.heap.size + 1 + 1, 1, none⟩ = some (.string a.kind) ∧ w'.cell? ⟨w.heap.size + 1 + 1, 2, none⟩ = some (.string a.space) ∧ w'.cell? ⟨w.heap.size + 1 + 1, 3, none⟩ = some (.string a.name) := fun wk hk => by
        have h5 := (HX2.out.trans hk)
        have h6 := h5.mono hB
        exact (gheld_any B _ _ _ g u _ _ (Nat.le_trans hB h5.size) (HV.out.1.below h6) (HV.out.2.1.below h6) ((StrsAt.toR HV.out.2.2).below h6 (Nat.le_refl _)) HF.out).mono fun e w' ⟨A9, c9, he, hR, hx⟩ => ⟨A9, c9, he, hR, hcs w' (hk.trans hx)⟩
      have hCA : ∀ wk A9 c9, Ext w2 wk → RulesR wk.heap.size wk (.slice A9 (heldL g u a.space).length c9) (heldL g u a.space) → Calls Try.prog 47 #[.slice A9 (heldL g u a.space).length c9, .agg #[.string a.verb, .string a.kind, .string a.space, .string a.name]] wk fun e w' => e = .returned (.bool (allowsL (heldL g u a.space) a)) ∧ Ext w2 w' ∧ w'.cell? ⟨w.heap.size, 0, none⟩ = some (.slice A g.roles.length c) ∧ w'.cell? ⟨w.heap.size, 1, none⟩ = some (.slice A' g.binds.length c') ∧ w'.cell? ⟨w.heap.size + 1, 0, none⟩ = some (.string u.name) ∧ w'.cell? ⟨w.heap.size + 1, 1, none⟩ = some (.slice Au u.groups.length cu) ∧ w'.cell? ⟨w.heap.size + 1 + 1, 0, none⟩ = some (.string a.verb) ∧ w'.cell? ⟨w.heap.size + 1 + 1, 1, none⟩ = some (.string a.kind) ∧ w'.cell? ⟨w.heap.size + 1 + 1, 2, none⟩ = some (.string a.space) ∧ w'.cell? ⟨w.heap.size + 1 + 1, 3, none⟩ = some (.string a.name) := fun wk A9 c9 hk hR =>
        (gallows_any wk.heap.size _ _ a _ (Nat.le_refl _) hR).mono fun e w' ⟨he, hx⟩ => ⟨he, hcs w' (hk.trans hx)⟩
      have CH := Lib.hid hCH
      have CA := Lib.hid hCA
      clear hCH hCA hcs
      have hxx : Ext w2 w2 := Below.refl _ _
      go_region_held3 (fun w' => Ext w2 w' ∧ w'.cell? ⟨w.heap.size, 0, none⟩ = some (.slice A g.roles.length c) ∧ w'.cell? ⟨w.heap.size, 1, none⟩ = some (.slice A' g.binds.length c') ∧ w'.cell? ⟨w.heap.size + 1, 0, none⟩ = some (.string u.name) ∧ w'.cell? ⟨w.heap.size + 1, 1, none⟩ = some (.slice Au u.groups.length cu) ∧ w'.cell? ⟨w.heap.size + 1 + 1, 0, none⟩ = some (.string a.verb) ∧ w'.cell? ⟨w.heap.size + 1 + 1, 1, none⟩ = some (.string a.kind) ∧ w'.cell? ⟨w.heap.size + 1 + 1, 2, none⟩ = some (.string a.space) ∧ w'.cell? ⟨w.heap.size + 1 + 1, 3, none⟩ = some (.string a.name))
        (first | (refine ⟨Below.drew (by assumption), ?_, ?_, ?_, ?_, ?_, ?_, ?_, ?_⟩ <;> go_keep) | (refine ⟨by assumption, by assumption, by assumption, by assumption, by assumption, by assumption, by assumption, by assumption, by assumption⟩) | go_keep)
        (first
          | (go_at_call 104; refine (CH.out _ (by first | assumption | (apply Below.drew; assumption))).mono ?_; rintro e w' ⟨A9, c9, rfl, hR, q0, q1, q2, q3, q4, q5, q6, q7, q8⟩)
          | (go_at_call 47; refine (CA.out _ _ _ (by first | assumption | (apply Below.drew; assumption)) (by first | assumption | exact RulesR.below (by assumption) (Below.drew (Below.refl _ _)) (Nat.le_refl _))).mono ?_; rintro e w' ⟨rfl, q0, q1, q2, q3, q4, q5, q6, q7, q8⟩))
      all_goals go_wp2
      all_goals go_ret2
      all_goals exact ⟨by rw [hE3.out.1, hE3.out.2]; rfl, HX2.out.trans (by assumption)⟩
    · have hb1 : (askI a != 0) = true := by simp [h4]
      have hE3 : Hid (mayB g u a = false) := by unfold Hid mayB; rw [hE2.out]; simp [h4]
      clear h4
      go_wp2
      go_ret2
      exact ⟨by rw [hE3.out, hE2.out]; rfl, HX2.out⟩
  · have hb0 : (checkI g u ⟨#[]⟩ == 0) = false := by simp [h0]
    have hb1 : (checkI g u ⟨#[]⟩ != 0) = true := by simp [h0]
    have hE2 : Hid (mayE g u a = checkI g u ⟨#[]⟩) := by unfold Hid; rw [hE.out, say_ne h0]
    have hE3 : Hid (mayB g u a = false) := by unfold Hid mayB; rw [hE2.out]; simp [h0]
    clear h0
    go_wp2
    go_ret2
    exact ⟨by rw [hE3.out, hE2.out]; rfl, HX1.out⟩
end Go.Proofs.Ytpbbohinhbboaaa.Sx
