/-
  The reference's GrantsHeld: the walk.
-/
import Derived.Test.YtpbbohinhbboaaaMay2
namespace Go.Proofs.Ytpbbohinhbboaaa.Sx
open Go Go.RowKit

def heldR (g : Grants) (u : User) (sp : ByteArray) : List Rule := if checkI g u sp = 0 then heldL g u sp else []
/-- What both Held return: a list that reads as heldR, and the error. -/
def HeldPost (w : World) (g : Grants) (u : User) (sp : ByteArray) (e : Ending) (w' : World) : Prop :=
  ∃ A c, e = .returned (.tuple #[.slice A (heldR g u sp).length c, .int .i64 (checkI g u sp)]) ∧ RulesR w'.heap.size w' (.slice A (heldR g u sp).length c) (heldR g u sp) ∧ Ext w w'
theorem heldPost_bad {w w' : World} {g : Grants} {u : User} {sp : ByteArray} (h : checkI g u sp ≠ 0) (hx : Ext w w') : HeldPost w g u sp (.returned (.tuple #[.slice none 0 0, .int .i64 (checkI g u sp)])) w' := by
  have e : heldR g u sp = [] := if_neg h
  refine ⟨none, 0, by rw [e]; rfl, ?_, hx⟩
  rw [e]
  exact ⟨by simp, none, 0, rfl, fun i hi => by simp at hi⟩
theorem heldPost_good {w w' : World} {g : Grants} {u : User} {sp : ByteArray} {A : Option Addr} {c : Nat} (h : checkI g u sp = 0) (hr : RulesR w'.heap.size w' (.slice A (heldL g u sp).length c) (heldL g u sp)) (hx : Ext w w') :
    HeldPost w g u sp (.returned (.tuple #[.slice A (heldL g u sp).length c, .int .i64 0])) w' := by
  have e : heldR g u sp = heldL g u sp := if_pos h
  exact ⟨A, c, by rw [e, h], by rw [e]; exact hr, hx⟩

set_option maxRecDepth 100000 in
set_option maxHeartbeats 2000000 in
theorem rgh_any (B : Nat) (vr vb vu : Value) (g : Grants) (u : User) (sp : ByteArray) (w : World) (hB : B ≤ w.heap.size) (hr : RolesAt B w vr g.roles) (hb : BindsAt B w vb g.binds) (hu : StrsAt B w vu u.groups) (hz : u.name.size ≤ 1048576) (hsp : sp.size ≤ 1048576) (hf : g.few) (hK : grantsW g < 8796093022208) :
    Calls Try.prog 42 #[.agg #[vr, vb], .agg #[.string u.name, vu], .string sp] w (HeldPost w g u sp) := by
  have HV := Lib.hid (And.intro hr (And.intro hb hu))
  have HF := Lib.hid hf
  have HK := Lib.hid hK
  obtain ⟨hn1, A, c, rfl, _⟩ := hr
  obtain ⟨hn2, A', c', rfl, _⟩ := hb
  obtain ⟨hn3, Au, cu, rfl, _⟩ := hu
  clear hf hK
  go_enter Try.func42, Try.ntmps42
  go_wp2_with fail
  obtain ⟨w0, hw0⟩ : ∃ w0, w0 = ((w.alloc (.cells #[.slice A g.roles.length c, .slice A' g.binds.length c'] 66)).alloc (.cells #[.string u.name, .slice Au u.groups.length cu] 78)).alloc (.cells #[.slice none 0 0] 141) := ⟨_, rfl⟩
  have hx0 : Ext w w0 := by rw [hw0]; exact (((Below.refl _ _).alloc (Nat.le_refl _) _).alloc (by simp) _).alloc (by simp; omega) _
  have hg0 : w0.heap[w.heap.size]? = some (.cells #[.slice A g.roles.length c, .slice A' g.binds.length c'] 66 (0, 0)) := by rw [hw0]; exact heap_old (heap_old (heap_new rfl))
  have hu0 : w0.heap[w.heap.size + 1]? = some (.cells #[.string u.name, .slice Au u.groups.length cu] 78 (0, 0)) := by rw [hw0]; exact heap_old (heap_new (by simp))
  have hc0 : Flw w0 (w.heap.size + 1 + 1) 0 0 := by rw [hw0]; exact Flw.new (by simp)
  rw [← hw0]
  have HX0 := Lib.hid hx0
  have H0 := Lib.hid (And.intro hg0 hu0)
  have HC0 := Lib.hid hc0
  have hbl0 := hx0.mono hB
  clear hw0 hx0 hg0 hu0 hc0
  refine Calls.mono (rcheck_any B _ _ g _ (Nat.le_trans hB HX0.out.size) (HV.out.1.below hbl0) (HV.out.2.1.below hbl0) HK.out) ?_
  rintro e w1 ⟨rfl, hx1⟩
  clear hbl0
  go_wp2_with fail
  refine Calls.mono (fsays_any _ _ _ _ _ (HC0.out.ext hx1) (by omega)) ?_
  rintro e w2 ⟨rfl, hc2, hm2⟩
  have hsz : w.heap.size + 1 + 1 ≤ w0.heap.size := Nat.le_of_lt HC0.out.lt
  have hst : ∀ w', Mod eT (w.heap.size + 1 + 1) w0 w' → w'.heap[w.heap.size]? = some (.cells #[.slice A g.roles.length c, .slice A' g.binds.length c'] 66 (0, 0)) ∧ w'.heap[w.heap.size + 1]? = some (.cells #[.string u.name, .slice Au u.groups.length cu] 78 (0, 0)) ∧ Ext w w' := fun w' hm =>
    ⟨hm.heap (.inl (by omega)) H0.out.1, hm.heap (.inl (by omega)) H0.out.2, Below.trans HX0.out ((hm.below hsz).mono (by omega))⟩
  have HST := Lib.hid hst
  have HM2 := Lib.hid ((Mod.of_ext hx1).trans hm2)
  have HC2 := Lib.hid hc2
  clear hst hx1 hm2 hc2
  have B2 := Lib.hid (HST.out _ HM2.out)
  obtain ⟨y0, y1⟩ := cells2 B2.out.2.1
  go_wp2_with fail
  refine Calls.mono (ruser_any B _ u _ (Nat.le_trans hB B2.out.2.2.size) hz (HV.out.2.2.below (B2.out.2.2.mono hB))) ?_
  rintro e w3 ⟨rfl, hx3⟩
  go_wp2_with fail
  refine Calls.mono (fsays_any _ _ _ _ _ (HC2.out.ext hx3) (by omega)) ?_
  rintro e w4 ⟨rfl, hc4, hm4⟩
  have HM4 := Lib.hid ((HM2.out.trans (Mod.of_ext hx3)).trans hm4)
  have HC4 := Lib.hid hc4
  clear hx3 hm4 hc4 y0 y1
  go_wp2_with fail
  refine Calls.mono (fspace_any _ _ _ _ _ HC4.out (by omega) hsp) ?_
  rintro e w6 ⟨rfl, hc6, hm6⟩
  have HC6 : Hid (Flw w6 (w.heap.size + 1 + 1) (checkI g u sp) (0 + 1 + 1 + 1)) := hc6
  have HM6 := Lib.hid (HM4.out.trans hm6)
  clear hm6 hc6
  have B6 := Lib.hid (HST.out _ HM6.out)
  obtain ⟨vf, Lf, hf1, hf2⟩ := HC6.out
  have hcf := cell_of hf1 0
  simp at hcf
  clear hf1 hf2
  go_wp2_with fail
  refine Calls.mono (first_any _ _ _ _ _ HC6.out hcf (by omega)) ?_
  rintro e w' ⟨rfl, rfl⟩
  by_cases h4 : checkI g u sp = 0
  · have hb1 : (checkI g u sp != 0) = false := by simp [h4]
    have H4 := Lib.hid h4
    obtain ⟨g0, g1⟩ := cells2 B6.out.1
    obtain ⟨y0, y1⟩ := cells2 B6.out.2.1
    have h6 := B6.out.2.2.mono hB
    clear h4
    go_wp2_with fail
    refine Calls.mono (rheld_any B _ _ _ g u _ _ (Nat.le_trans hB B6.out.2.2.size) (HV.out.1.below h6) (HV.out.2.1.below h6) ((StrsAt.toR HV.out.2.2).below h6 (Nat.le_refl _)) HF.out) ?_
    rintro e w7 ⟨A9, c9, rfl, hR, hx7⟩
    have HR := Lib.hid hR
    have HX7 := Lib.hid (B6.out.2.2.trans hx7)
    clear hR hx7 h6
    go_wp2
    go_ret2
    exact heldPost_good H4.out HR.out HX7.out
  · have hb1 : (checkI g u sp != 0) = true := by simp [h4]
    have H4 := Lib.hid h4
    clear h4
    go_wp2
    go_ret2
    exact heldPost_bad H4.out B6.out.2.2
end Go.Proofs.Ytpbbohinhbboaaa.Sx
