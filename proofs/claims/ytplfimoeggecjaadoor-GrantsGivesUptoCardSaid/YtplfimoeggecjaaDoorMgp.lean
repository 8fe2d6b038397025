/-
  May a user grant these rules, in plain words; what is few where nothing is wrong.
  The program's grants.MayGrant: the walk.
  The reference's MayGrant: the walk.
-/
import Derived.Test.YtplfimoeggecjaaDoorBey0
import Derived.Test.YtplfimoeggecjaaDoorCk
import Derived.Test.YtplfimoeggecjaaDoorCov
import Derived.Test.YtplfimoeggecjaaDoorRbey
import Derived.Test.YtplfimoeggecjaaDoorFlw4
import Derived.Test.YtplfimoeggecjaaDoorUsr2
import Derived.Test.YtplfimoeggecjaaDoorHld3
namespace Go.Proofs.YtplfimoeggecjaaDoor.Sx
open Go Go.RowKit

def escA : Ask := ⟨⟨#[101, 115, 99, 97, 108, 97, 116, 101]⟩, ⟨#[114, 111, 108, 101, 115]⟩, ⟨#[]⟩, ⟨#[]⟩⟩
def grantE (g : Grants) (u : User) (sp : ByteArray) (l : List Rule) : Int := rulesI (say 0 (checkI g u sp)) l
noncomputable def coversA (own l : List Rule) : Bool := l.all fun r => (beyondL own r).isNone
noncomputable def mayGrantI (g : Grants) (u : User) (sp : ByteArray) (l : List Rule) : Int :=
  if grantE g u sp l = 0 then (if allowsL (heldL g u sp) escA = true then 0 else if coversA (heldL g u sp) l = true then 0 else 14) else grantE g u sp l

def Rule.low (r : Rule) : Prop := r.verbs.length ≤ 6 ∧ r.kinds.length ≤ 6 ∧ r.names.length ≤ 6
theorem say_both {c e : Int} (h : say c e = 0) : c = 0 ∧ e = 0 := by
  unfold say at h
  split at h
  · next h0 => exact ⟨h0, h⟩
  · next h0 => exact absurd h h0
theorem nameI1_both {star : Bool} {c : Int} {s : ByteArray} (h : nameI1 star c s = 0) : c = 0 := by
  unfold nameI1 at h
  split at h
  · exact h
  · exact (say_both h).1
theorem namesI_both {star : Bool} {l : List ByteArray} : ∀ {c : Int}, namesI c l star = 0 → c = 0 := by
  induction l with
  | nil => exact fun h => h
  | cons x l ih => exact fun h => nameI1_both (ih h)
theorem ruleI_both {c : Int} {r : Rule} (h : ruleI c r = 0) : c = 0 ∧ r.low := by
  have h1 := say_both (namesI_both (namesI_both (namesI_both h)))
  have h2 := say_both h1.1
  refine ⟨h2.1, ?_⟩
  have h3 := h2.2
  unfold ruleBad at h3
  split at h3
  · exact absurd h3 (by decide)
  · unfold Rule.low; omega
theorem rulesF_both {l : List Rule} : ∀ {c : Int}, l.foldl ruleI c = 0 → c = 0 ∧ ∀ r ∈ l, r.low := by
  induction l with
  | nil => exact fun h => ⟨h, fun r hr => by cases hr⟩
  | cons x l ih =>
    intro c h
    have h1 := ih h
    have h2 := ruleI_both h1.1
    refine ⟨h2.1, fun r hr => ?_⟩
    rcases List.mem_cons.1 hr with rfl | hr
    · exact h2.2
    · exact h1.2 r hr
theorem rulesI_both {c : Int} {l : List Rule} (h : rulesI c l = 0) : c = 0 ∧ l.length ≤ 8 ∧ ∀ r ∈ l, r.low := by
  have h1 := rulesF_both h
  have h2 := say_both h1.1
  refine ⟨h2.1, ?_, h1.2⟩
  have h3 := h2.2
  unfold manyI at h3
  split at h3
  · exact absurd h3 (by decide)
  · omega
theorem spaceI_both {c : Int} {s : ByteArray} (h : spaceI c s = 0) : c = 0 := by
  unfold spaceI at h
  split at h
  · exact h
  · exact (say_both h).1
theorem rolesTo_both {l : List Role} {c : Int} : ∀ {k : Nat}, rolesTo c l k = 0 → c = 0 ∧ ∀ j (h : j < l.length), j < k → l[j].rules.length ≤ 8 ∧ ∀ r ∈ l[j].rules, r.low
  | 0, h => ⟨h, fun j _ hj => by omega⟩
  | k + 1, h => by
    rcases Nat.lt_or_ge k l.length with hk | hk
    · rw [rolesTo_succ c l k hk] at h
      have h1 := rulesI_both h
      have h2 := say_both (say_both h1.1).1
      have h3 := rolesTo_both (spaceI_both h2.1)
      refine ⟨h3.1, fun j hj hjk => ?_⟩
      rcases Nat.lt_or_ge j k with h4 | h4
      · exact h3.2 j hj h4
      · have e : j = k := by omega
        subst e
        exact h1.2
    · rw [rolesTo, List.getElem?_eq_none hk] at h
      have h3 := rolesTo_both h
      exact ⟨h3.1, fun j hj hjk => h3.2 j hj (by omega)⟩
theorem bindsTo_both {l : List Bind} {c : Int} : ∀ {k : Nat}, bindsTo c l k = 0 → c = 0
  | 0, h => h
  | k + 1, h => by
    rcases Nat.lt_or_ge k l.length with hk | hk
    · rw [bindsTo_succ c l k hk] at h
      have h1 := say_both (say_both (say_both (namesI_both (namesI_both h))).1).1
      exact bindsTo_both (spaceI_both (namesI_both h1.1))
    · rw [bindsTo, List.getElem?_eq_none hk] at h
      exact bindsTo_both h
theorem grantsI_both {g : Grants} (h : grantsI g = 0) : g.roles.length ≤ 12 ∧ g.binds.length ≤ 12 ∧ ∀ q ∈ g.roles, q.rules.length ≤ 8 ∧ ∀ r ∈ q.rules, r.low := by
  have h1 := rolesTo_both (bindsTo_both h)
  have h2 := (say_both h1.1).2
  unfold overI at h2
  split at h2
  · exact absurd h2 (by decide)
  · refine ⟨by omega, by omega, fun q hq => ?_⟩
    obtain ⟨j, hj, rfl⟩ := List.mem_iff_getElem.1 hq
    exact h1.2 j hj hj
theorem checkI_both {g : Grants} {u : User} {sp : ByteArray} (h : checkI g u sp = 0) : grantsI g = 0 := (say_both (say_both (spaceI_both h)).1).2
theorem held_of {g : Grants} {u : User} {sp : ByteArray} {r : Rule} (h : r ∈ heldL g u sp) : ∃ q ∈ g.roles, r ∈ q.rules := by
  unfold heldL heldTo at h
  obtain ⟨b, _, h1⟩ := List.mem_flatMap.1 h
  unfold bindRules at h1
  split at h1
  · unfold pickTo at h1
    obtain ⟨q, h2, h3⟩ := List.mem_flatMap.1 h1
    unfold rulesOf at h3
    split at h3
    · exact ⟨q, List.mem_of_mem_take h2, h3⟩
    · cases h3
  · cases h1
theorem total_low {l : List Role} (h : ∀ q ∈ l, q.rules.length ≤ 8) : totalR l ≤ 8 * l.length := by
  unfold totalR
  induction l with
  | nil => simp
  | cons q l ih =>
    have h1 := ih fun x hx => h x (List.mem_cons_of_mem _ hx)
    have h2 := h q List.mem_cons_self
    simp only [List.map_cons, List.sum_cons, List.length_cons]
    omega
theorem flat_low {f : Rule → List ByteArray} {l : List Rule} (h : ∀ r ∈ l, (f r).length ≤ 6) : ((l.map f).flatten).length ≤ 6 * l.length := by
  induction l with
  | nil => simp
  | cons q l ih =>
    have h1 := ih fun x hx => h x (List.mem_cons_of_mem _ hx)
    have h2 := h q List.mem_cons_self
    simp only [List.map_cons, List.flatten_cons, List.length_append, List.length_cons]
    omega
/-- Where nothing is wrong, what the user has is few. -/
theorem held_low {g : Grants} {u : User} {sp : ByteArray} {l : List Rule} (h : grantE g u sp l = 0) :
    (heldL g u sp).length ≤ 1048576 ∧ (verbsOf (heldL g u sp)).length ≤ 1048576 ∧ (kindsOf (heldL g u sp)).length ≤ 1048576 ∧ (namesOf (heldL g u sp)).length ≤ 1048576 := by
  have h1 := grantsI_both (checkI_both (say_both (rulesI_both h).1).2)
  have h2 : (heldL g u sp).length ≤ 1152 := by
    have a := heldTo_le g u sp g.binds.length
    have b := total_low fun q hq => (h1.2.2 q hq).1
    have c : g.binds.length * totalR g.roles ≤ 12 * 96 := Nat.mul_le_mul h1.2.1 (by omega)
    unfold heldL
    omega
  have h3 : ∀ r ∈ heldL g u sp, r.low := fun r hr => by
    obtain ⟨q, hq, hr⟩ := held_of hr
    exact (h1.2.2 q hq).2 r hr
  refine ⟨by omega, ?_, ?_, ?_⟩
  · have := flat_low (f := fun r => r.verbs) fun r hr => (h3 r hr).1
    unfold verbsOf
    omega
  · have := flat_low (f := fun r => r.kinds) fun r hr => (h3 r hr).2.1
    unfold kindsOf
    omega
  · have := flat_low (f := fun r => r.names) fun r hr => (h3 r hr).2.2
    unfold namesOf
    omega
theorem coversA_all {own l : List Rule} (h : ∀ i (hi : i < l.length), (beyondL own l[i]).isNone = true) : coversA own l = true :=
  List.all_eq_true.2 fun r hr => by
    obtain ⟨i, hi, rfl⟩ := List.mem_iff_getElem.1 hr
    exact h i hi
theorem coversA_not {own l : List Rule} {i : Nat} (hi : i < l.length) (h : (beyondL own l[i]).isNone = false) : coversA own l = false := by
  cases hc : coversA own l with
  | false => rfl
  | true =>
    have := List.all_eq_true.1 hc l[i] (List.getElem_mem hi)
    rw [h] at this
    cases this
theorem mayGrant_ways (g : Grants) (u : User) (sp : ByteArray) (l : List Rule) (h : grantE g u sp l = 0) :
    (allowsL (heldL g u sp) escA = true → mayGrantI g u sp l = 0) ∧ (coversA (heldL g u sp) l = true → mayGrantI g u sp l = 0) ∧ (allowsL (heldL g u sp) escA = false → coversA (heldL g u sp) l = false → mayGrantI g u sp l = 14) := by
  unfold mayGrantI
  rw [if_pos h]
  refine ⟨fun h1 => ?_, fun h2 => ?_, fun h1 h2 => ?_⟩
  · rw [if_pos h1]
  · rw [h2]; simp
  · rw [h1, h2]; rfl
end Go.Proofs.YtplfimoeggecjaaDoor.Sx
namespace Go.Proofs.YtplfimoeggecjaaDoor.Sx
open Go Go.RowKit Go.Proofs.YtplfimoeggecjaaDoor.Dc

set_option maxRecDepth 100000 in
set_option maxHeartbeats 8000000 in
theorem gmaygrant_any (B : Nat) (vr vb vu vl : Value) (g : Grants) (u : User) (sp : ByteArray) (l : List Rule) (w : World) (hB : B ≤ w.heap.size) (hr : RolesAt B w vr g.roles) (hb : BindsAt B w vb g.binds) (hu : StrsAt B w vu u.groups) (hl : RulesAt B w vl l) (hz : u.name.size ≤ 1048576) (hsp : sp.size ≤ 1048576) (hf : g.few) (htab : Tab10 w) :
    Calls Tryd.prog 7 #[.agg #[vr, vb], .agg #[.string u.name, vu], .string sp, vl] w fun e w' => e = .returned (.int .i64 (mayGrantI g u sp l)) ∧ Ext w w' := by
  have HV := Lib.hid (And.intro hr (And.intro hb (And.intro hu hl)))
  have HF := Lib.hid hf
  have HT := Lib.hid htab
  obtain ⟨hn1, A, c, rfl, _⟩ := hr
  obtain ⟨hn2, A', c', rfl, _⟩ := hb
  obtain ⟨hn3, Au, cu, rfl, _⟩ := hu
  obtain ⟨hn4, Al, cl, rfl, _⟩ := hl
  clear hf htab
  go_enter Tryd.func7, Tryd.ntmps7
  go_wp2_with fail
  obtain ⟨w0, hw0⟩ : ∃ w0, w0 = ((w.alloc (.cells #[.slice A g.roles.length c, .slice A' g.binds.length c'] 25)).alloc (.cells #[.string u.name, .slice Au u.groups.length cu] 28)).alloc (.cells #[.int .i64 0] 50) := ⟨_, rfl⟩
  have hx0 : Ext w w0 := by rw [hw0]; exact (((Below.refl _ _).alloc (Nat.le_refl _) _).alloc (by simp) _).alloc (by simp; omega) _
  have hg0 : w0.heap[w.heap.size]? = some (.cells #[.slice A g.roles.length c, .slice A' g.binds.length c'] 25 (0, 0)) := by rw [hw0]; exact heap_old (heap_old (heap_new rfl))
  have hu0 : w0.heap[w.heap.size + 1]? = some (.cells #[.string u.name, .slice Au u.groups.length cu] 28 (0, 0)) := by rw [hw0]; exact heap_old (heap_new (by simp))
  have hc0 : Chk w0 (w.heap.size + 1 + 1) 0 := by rw [hw0]; exact heap_new (by simp)
  obtain ⟨g0, g1⟩ := cells2 hg0
  obtain ⟨y0, y1⟩ := cells2 hu0
  rw [← hw0]
  have hbl := hx0.mono hB
  have HX0 := Lib.hid hx0
  have HG0 := Lib.hid hg0
  have HU0 := Lib.hid hu0
  have HC0 := Lib.hid hc0
  clear hw0 hx0 hu0 hc0 hg0
  refine Calls.mono (gck_any B _ _ _ g u _ _ (Nat.le_trans hB HX0.out.size) (HV.out.1.below hbl) (HV.out.2.1.below hbl) (HV.out.2.2.1.below hbl) hz hsp) ?_
  rintro e w1 ⟨rfl, hx1⟩
  clear hbl
  go_wp2_with fail
  refine Calls.mono (says_any _ 0 _ _ ((hx1.block _ (heap_lt HC0.out)).trans HC0.out)) ?_
  rintro e w2 ⟨rfl, hc2, hm2⟩
  have HM2 := Lib.hid ((Mod.of_ext hx1).trans hm2)
  have HC2 := Lib.hid hc2
  have hsz : w.heap.size + 1 + 1 ≤ w0.heap.size := Nat.le_of_lt (heap_lt HC0.out)
  have HB2 : Hid (Below B w w2) := (HX0.out.mono hB).trans ((HM2.out.below hsz).mono (by omega))
  clear hx1 hc2 hm2 g0 g1 y0 y1
  go_wp2_with fail
  refine Calls.mono (rules_any B _ _ _ l _ HC2.out (by omega) (HV.out.2.2.2.below HB2.out)) ?_
  rintro e w3 ⟨rfl, hc3, hm3⟩
  have HM3 := Lib.hid (HM2.out.trans hm3)
  have hcb : w3.cell? ⟨w.heap.size + 1 + 1, 0, none⟩ = some (.int .i64 (grantE g u sp l)) := by have := cell_of hc3 0; simpa [grantE] using this
  have HX3 : Hid (Ext w w3) := Below.trans HX0.out ((HM3.out.below hsz).mono (by omega))
  obtain ⟨g0, g1⟩ := cells2 (HM3.out.heap (.inl (by omega)) HG0.out)
  obtain ⟨y0, y1⟩ := cells2 (HM3.out.heap (.inl (by omega)) HU0.out)
  clear hc3 hm3
  by_cases h0 : grantE g u sp l = 0
  · have hb1 : (grantE g u sp l != 0) = false := by simp [h0]
    have HL := Lib.hid (held_low h0)
    have HW := Lib.hid (mayGrant_ways g u sp l h0)
    clear h0
    go_wp2_with fail
    have hbl := HX3.out.mono hB
    refine Calls.mono (gheld_any B _ _ _ g u sp _ (Nat.le_trans hB HX3.out.size) (HV.out.1.below hbl) (HV.out.2.1.below hbl) ((StrsAt.toR HV.out.2.2.1).below hbl (Nat.le_refl _)) HF.out) ?_
    rintro e w4 ⟨A9, c9, rfl, hR, hx4⟩
    have HX4 := Lib.hid (HX3.out.trans hx4)
    have HR := Lib.hid hR
    clear hbl hx4 hR g0 g1 y0 y1 hcb hb1
    obtain ⟨own, hown⟩ : ∃ o, o = heldL g u sp := ⟨_, rfl⟩
    rw [← hown] at HL HW HR
    rw [← hown]
    clear hown
    obtain ⟨q0, hq0⟩ : ∃ q, q = allowsL own escA := ⟨_, rfl⟩
    have CA : Hid (Calls Tryd.prog 11 #[.slice A9 own.length c9, .agg #[.string ⟨#[101, 115, 99, 97, 108, 97, 116, 101]⟩, .string ⟨#[114, 111, 108, 101, 115]⟩, .string ⟨#[]⟩, .string ⟨#[]⟩]] w4 fun e w' => e = .returned (.bool q0) ∧ Ext w4 w') := by
      rw [hq0]
      exact gallows_any w4.heap.size _ own escA w4 (Nat.le_refl _) HR.out
    rw [← hq0] at HW
    clear hq0
    cases q0 with
    | true =>
      have HE := Lib.hid (HW.out.1 rfl)
      go_wp2_with (go_at_call 11; (with_reducible refine CA.out.mono ?_); rintro e w5 ⟨rfl, hx5⟩)
      go_ret
      exact ⟨ret_int HE.out.symm, HX4.out.trans hx5⟩
    | false =>
      have HE := Lib.hid (HW.out.2.1)
      have HN := Lib.hid (HW.out.2.2 rfl)
      go_wp2_with (go_at_call 11; (with_reducible refine CA.out.mono ?_); rintro e w5 ⟨rfl, hx5⟩)
      have HX5 := Lib.hid hx5
      clear hx5
      go_loopw [42] (fun k wr => ∃ j : Nat, j ≤ l.length ∧ k = .int .i64 j ∧ Hid (∀ i (hi : i < l.length), i < j → (beyondL own l[i]).isNone = true) ∧ Hid (Ext w4 wr)) (fun k _ => l.length - (intOf k).toNat)
      case atStart => exact ⟨0, Nat.zero_le _, rfl, fun i _ h => absurd h (Nat.not_lt_zero _), HX5.out⟩
      case round =>
        obtain ⟨j, hj, rfl, hA, hX⟩ := hrel
        obtain ⟨wj, rfl⟩ : ∃ wj : World, wj = wr := ⟨_, rfl⟩
        have hxw : Ext w wj := HX4.out.trans hX.out
        have HXW := Lib.hid hxw
        by_cases hlt : j < l.length
        · obtain ⟨b, off, E1, f1, E2, f2, E3, f3, e, hbl, z1, z2, z3, s1, s2, s3⟩ := (RulesAt.toR HV.out.2.2.2).at_ hlt
          subst e
          have hbw : b < w.heap.size := Nat.lt_of_lt_of_le hbl hB
          have z1' := (hxw.cell (p := ⟨b, off + j * 3, none⟩) hbw).trans z1
          have z2' := (hxw.cell (p := ⟨b, off + j * 3 + 1, none⟩) hbw).trans z2
          have z3' := (hxw.cell (p := ⟨b, off + j * 3 + 2, none⟩) hbw).trans z3
          obtain ⟨q, hq⟩ : ∃ q, q = (beyondL own l[j]).isNone := ⟨_, rfl⟩
          have CC : Hid (∀ W, Ext wj W → Calls Tryd.prog 6 #[.slice A9 own.length c9, .agg #[.slice E1 l[j].verbs.length f1, .slice E2 l[j].kinds.length f2, .slice E3 l[j].names.length f3]] W fun e w' => e = .returned (.bool q) ∧ Ext W w') := fun W hW => by
            rw [hq]
            have h4 : Ext w4 W := hX.out.trans hW
            have hw : Below B w W := (HX4.out.trans h4).mono hB
            have hB4 : B ≤ w4.heap.size := Nat.le_trans hB HX4.out.size
            exact gcovers_any w4.heap.size _ _ _ _ own l[j] W h4.size (HR.out.below h4 (Nat.le_refl _)) (s1.below hw hB4) (s2.below hw hB4) (s3.below hw hB4) HL.out.1 (HT.out.ext (HX4.out.trans h4)) HL.out.2.1 HL.out.2.2.1 HL.out.2.2.2
          have HQ := Lib.hid hq
          clear hq z1 z2 z3 s1 s2 s3 hbl hxw
          cases q with
          | true =>
            go_wp2_with (go_at_call 6; (with_reducible refine (CC.out _ (new_ext wj _)).mono ?_); rintro e w6 ⟨rfl, hx6⟩; have HX6 := Lib.hid hx6; clear hx6)
            go_roundw
            case rel =>
              refine ⟨j + 1, hlt, by go_num, fun i hi hij => ?_, (hX.out.trans (new_ext wj _)).trans HX6.out⟩
              rcases Nat.lt_or_ge i j with h | h
              · exact hA.out i hi h
              · obtain rfl : i = j := by omega
                exact HQ.out.symm
            case measure => simp [intOf]; omega
          | false =>
            go_wp2_with (go_at_call 6; (with_reducible refine (CC.out _ (new_ext wj _)).mono ?_); rintro e w6 ⟨rfl, hx6⟩; have HX6 := Lib.hid hx6; clear hx6)
            go_ret
            exact ⟨ret_int (HN.out (coversA_not hlt HQ.out.symm)).symm, (HXW.out.trans (new_ext wj _)).trans HX6.out⟩
        · have tk : decide (j < l.length) = false := by simp; omega
          clear hxw
          go_wp2_with fail
          go_ret
          exact ⟨ret_int (HE.out (coversA_all fun i hi => hA.out i hi (by omega))).symm, HXW.out⟩
  · have hb1 : (grantE g u sp l != 0) = true := by simp [h0]
    have HE : Hid (mayGrantI g u sp l = grantE g u sp l) := by unfold Hid mayGrantI; rw [if_neg h0]
    clear h0
    go_wp2
    go_ret
    exact ⟨ret_int HE.out.symm, HX3.out⟩
end Go.Proofs.YtplfimoeggecjaaDoor.Sx
namespace Go.Proofs.YtplfimoeggecjaaDoor.Sx
open Go Go.RowKit Go.Proofs.YtplfimoeggecjaaDoor.Dc

theorem grantE_eq (g : Grants) (u : User) (sp : ByteArray) (l : List Rule) : rulesI (spaceI (say (say 0 (grantsI g)) (userI u)) sp) l = grantE g u sp l := rfl
/-- Is there one among the first ones that others don't cover? -/
noncomputable def denyB (own l : List Rule) (k : Nat) : Bool := (l.take k).any fun r => (beyondL own r).isSome
theorem denyB_zero (own l : List Rule) : denyB own l 0 = false := by unfold denyB; rw [List.take_zero]; rfl
theorem denyB_succ {own l : List Rule} {k : Nat} (h : k < l.length) : denyB own l (k + 1) = (denyB own l k || (beyondL own l[k]).isSome) := by
  unfold denyB
  rw [List.take_succ_eq_append_getElem h, List.any_append]
  simp
theorem denyB_all {own l : List Rule} : denyB own l l.length = !coversA own l := by
  unfold denyB coversA
  rw [List.take_length, List.not_all_eq_any_not]
  congr 1
  funext r
  cases beyondL own r <;> rfl
theorem beyV_some {o : Option Ask} {x : Bool} (h : x = o.isSome) : ∃ a0 a1 a2 a3 : ByteArray, beyV o = .tuple #[.agg #[.string a0, .string a1, .string a2, .string a3], .bool x] := by
  cases o with
  | none => subst h; exact ⟨⟨#[]⟩, ⟨#[]⟩, ⟨#[]⟩, ⟨#[]⟩, rfl⟩
  | some a => subst h; exact ⟨a.verb, a.kind, a.space, a.name, rfl⟩

set_option maxRecDepth 100000 in
set_option maxHeartbeats 8000000 in
theorem rmaygrant_any (B : Nat) (vr vb vu vl : Value) (g : Grants) (u : User) (sp : ByteArray) (l : List Rule) (w : World) (hB : B ≤ w.heap.size) (hr : RolesAt B w vr g.roles) (hb : BindsAt B w vb g.binds) (hu : StrsAt B w vu u.groups) (hl : RulesAt B w vl l) (hz : u.name.size ≤ 1048576) (hsp : sp.size ≤ 1048576) (hf : g.few) (hK : grantsW g < 8796093022208) (hK2 : rulesW l < 8796093022200) :
    Calls Tryd.prog 8 #[.agg #[vr, vb], .agg #[.string u.name, vu], .string sp, vl] w fun e w' => e = .returned (.int .i64 (mayGrantI g u sp l)) ∧ Ext w w' := by
  have HV := Lib.hid (And.intro hr (And.intro hb (And.intro hu hl)))
  have HF := Lib.hid hf
  have HK := Lib.hid (And.intro hK hK2)
  obtain ⟨hn1, A, c, rfl, _⟩ := hr
  obtain ⟨hn2, A', c', rfl, _⟩ := hb
  obtain ⟨hn3, Au, cu, rfl, _⟩ := hu
  obtain ⟨hn4, Al, cl, rfl, _⟩ := hl
  clear hf hK hK2
  go_enter Tryd.func8, Tryd.ntmps8
  go_wp2_with fail
  obtain ⟨w0, hw0⟩ : ∃ w0, w0 = ((w.alloc (.cells #[.slice A g.roles.length c, .slice A' g.binds.length c'] 25)).alloc (.cells #[.string u.name, .slice Au u.groups.length cu] 28)).alloc (.cells #[.slice none 0 0] 56) := ⟨_, rfl⟩
  have hx0 : Ext w w0 := by rw [hw0]; exact (((Below.refl _ _).alloc (Nat.le_refl _) _).alloc (by simp) _).alloc (by simp; omega) _
  have hg0 : w0.heap[w.heap.size]? = some (.cells #[.slice A g.roles.length c, .slice A' g.binds.length c'] 25 (0, 0)) := by rw [hw0]; exact heap_old (heap_old (heap_new rfl))
  have hu0 : w0.heap[w.heap.size + 1]? = some (.cells #[.string u.name, .slice Au u.groups.length cu] 28 (0, 0)) := by rw [hw0]; exact heap_old (heap_new (by simp))
  have hc0 : Flw w0 (w.heap.size + 1 + 1) 0 0 := by rw [hw0]; exact Flw.new (by simp)
  obtain ⟨g0, g1⟩ := cells2 hg0
  obtain ⟨y0, y1⟩ := cells2 hu0
  rw [← hw0]
  have HX0 := Lib.hid hx0
  have H0 := Lib.hid (And.intro hg0 hu0)
  have HC0 := Lib.hid hc0
  have hbl0 := hx0.mono hB
  clear hw0 hx0 hg0 hu0 hc0
  refine Calls.mono (rcheck_any B _ _ g _ (Nat.le_trans hB HX0.out.size) (HV.out.1.below hbl0) (HV.out.2.1.below hbl0) HK.out.1) ?_
  rintro e w1 ⟨rfl, hx1⟩
  clear hbl0
  go_wp2_with fail
  refine Calls.mono (fsays_any _ _ _ _ _ (HC0.out.ext hx1) (by omega)) ?_
  rintro e w2 ⟨rfl, hc2, hm2⟩
  have hsz : w.heap.size + 1 + 1 ≤ w0.heap.size := Nat.le_of_lt HC0.out.lt
  have hst : ∀ w', Mod eT (w.heap.size + 1 + 1) w0 w' → w'.heap[w.heap.size]? = some (.cells #[.slice A g.roles.length c, .slice A' g.binds.length c'] 25 (0, 0)) ∧ w'.heap[w.heap.size + 1]? = some (.cells #[.string u.name, .slice Au u.groups.length cu] 28 (0, 0)) ∧ Ext w w' := fun w' hm =>
    ⟨hm.heap (.inl (by omega)) H0.out.1, hm.heap (.inl (by omega)) H0.out.2, Below.trans HX0.out ((hm.below hsz).mono (by omega))⟩
  have HST := Lib.hid hst
  have HM2 := Lib.hid ((Mod.of_ext hx1).trans hm2)
  have HC2 := Lib.hid hc2
  clear hst hx1 hm2 hc2 g0 g1 y0 y1
  have B2 := Lib.hid (HST.out _ HM2.out)
  obtain ⟨y0, y1⟩ := cells2 B2.out.2.1
  go_wp2_with fail
  refine Calls.mono (ruser_any B _ u _ (Nat.le_trans hB B2.out.2.2.size) hz (HV.out.2.2.1.below (B2.out.2.2.mono hB))) ?_
  rintro e w3 ⟨rfl, hx3⟩
  go_wp2_with fail
  refine Calls.mono (fsays_any _ _ _ _ _ (HC2.out.ext hx3) (by omega)) ?_
  rintro e w4 ⟨rfl, hc4, hm4⟩
  have HM4 := Lib.hid ((HM2.out.trans (Mod.of_ext hx3)).trans hm4)
  have HC4 := Lib.hid hc4
  clear hx3 hm4 hc4 y0 y1
  go_wp2_with fail
  refine Calls.mono (fspace_any _ _ _ sp _ HC4.out (by omega) hsp) ?_
  rintro e w5 ⟨rfl, hc5, hm5⟩
  have HM5 := Lib.hid (HM4.out.trans hm5)
  have HC5 := Lib.hid hc5
  clear hm5 hc5
  have B5 := Lib.hid (HST.out _ HM5.out)
  go_wp2_with fail
  refine Calls.mono (frules_any B _ _ _ _ l _ HC5.out (by omega) (HV.out.2.2.2.below (B5.out.2.2.mono hB)) (by have := HK.out.2; omega)) ?_
  rintro e w6 ⟨rfl, hc6, hm6⟩
  rw [grantE_eq] at hc6
  have HM6 := Lib.hid (HM5.out.trans hm6)
  have HC6 := Lib.hid hc6
  clear hm6 hc6
  have B6 := Lib.hid (HST.out _ HM6.out)
  obtain ⟨vf, Lf, hf1, hf2⟩ := HC6.out
  have hcf := cell_of hf1 0
  simp at hcf
  clear hf1 hf2
  go_wp2_with fail
  refine Calls.mono (first_any _ _ _ _ _ HC6.out hcf (by have := HK.out.2; omega)) ?_
  rintro e w' ⟨rfl, rfl⟩
  by_cases h4 : grantE g u sp l = 0
  · have hb1 : (grantE g u sp l != 0) = false := by simp [h4]
    have HL := Lib.hid (held_low h4)
    have HW := Lib.hid (mayGrant_ways g u sp l h4)
    obtain ⟨g0, g1⟩ := cells2 B6.out.1
    obtain ⟨y0, y1⟩ := cells2 B6.out.2.1
    clear h4 hcf
    go_wp2_with fail
    have hbl := B6.out.2.2.mono hB
    refine Calls.mono (rheld_any B _ _ _ g u sp _ (Nat.le_trans hB B6.out.2.2.size) (HV.out.1.below hbl) (HV.out.2.1.below hbl) ((StrsAt.toR HV.out.2.2.1).below hbl (Nat.le_refl _)) HF.out) ?_
    rintro e w8 ⟨A9, c9, rfl, hR, hx8⟩
    have HX8 := Lib.hid (B6.out.2.2.trans hx8)
    have HR := Lib.hid hR
    clear hbl hx8 hR g0 g1 y0 y1 hb1
    obtain ⟨own, hown⟩ : ∃ o, o = heldL g u sp := ⟨_, rfl⟩
    rw [← hown] at HL HW HR
    rw [← hown]
    clear hown
    go_wp2_with fail
    go_loopw [12, 38] (fun d k wr => ∃ j : Nat, j ≤ l.length ∧ d = .bool (denyB own l j) ∧ k = .int .i64 j ∧ Hid (Ext w8 wr)) (fun _ k _ => l.length - (intOf k).toNat)
    case atStart => exact ⟨0, Nat.zero_le _, by rw [denyB_zero], rfl, Below.refl _ _⟩
    case round =>
      obtain ⟨j, hj, rfl, rfl, hX⟩ := hrel
      obtain ⟨wj, rfl⟩ : ∃ wj : World, wj = wr := ⟨_, rfl⟩
      have hxw : Ext w wj := HX8.out.trans hX.out
      have HXW := Lib.hid hxw
      by_cases hlt : j < l.length
      · obtain ⟨b, off, E1, f1, E2, f2, E3, f3, e, hbl, z1, z2, z3, s1, s2, s3⟩ := (RulesAt.toR HV.out.2.2.2).at_ hlt
        subst e
        have hbw : b < w.heap.size := Nat.lt_of_lt_of_le hbl hB
        have z1' := (hxw.cell (p := ⟨b, off + j * 3, none⟩) hbw).trans z1
        have z2' := (hxw.cell (p := ⟨b, off + j * 3 + 1, none⟩) hbw).trans z2
        have z3' := (hxw.cell (p := ⟨b, off + j * 3 + 2, none⟩) hbw).trans z3
        obtain ⟨q, hq⟩ : ∃ q, q = (beyondL own l[j]).isSome := ⟨_, rfl⟩
        obtain ⟨a0, a1, a2, a3, ha⟩ := beyV_some hq
        have CC : Hid (∀ W, Ext wj W → Calls Tryd.prog 5 #[.slice A9 own.length c9, .agg #[.slice E1 l[j].verbs.length f1, .slice E2 l[j].kinds.length f2, .slice E3 l[j].names.length f3]] W fun e w' => e = .returned (.tuple #[.agg #[.string a0, .string a1, .string a2, .string a3], .bool q]) ∧ Ext W w') := fun W hW => by
          rw [← ha]
          have h4 : Ext w8 W := hX.out.trans hW
          have hw : Below B w W := (HX8.out.trans h4).mono hB
          have hB4 : B ≤ w8.heap.size := Nat.le_trans hB HX8.out.size
          exact rbeyond_any w8.heap.size _ _ _ _ own l[j] W h4.size (HR.out.below h4 (Nat.le_refl _)) (s1.below hw hB4) (s2.below hw hB4) (s3.below hw hB4) HL.out.1 HL.out.2.1 HL.out.2.2.1 HL.out.2.2.2
        have HS : Hid (denyB own l (j + 1) = (denyB own l j || q)) := by rw [hq]; exact denyB_succ hlt
        obtain ⟨d, hd⟩ : ∃ d, d = denyB own l j := ⟨_, rfl⟩
        rw [← hd] at HS
        rw [← hd]
        clear hd hq ha z1 z2 z3 s1 s2 s3 hbl hxw
        cases d <;> cases q
        all_goals
          go_wp2_with (go_at_call 5; (with_reducible refine (CC.out _ (new_ext wj _)).mono ?_); rintro e w6 ⟨rfl, hx6⟩; have HX6 := Lib.hid hx6; clear hx6)
          go_roundw
          case rel => exact ⟨j + 1, hlt, by rw [HS.out]; rfl, by go_num, ((hX.out.trans (new_ext wj _)).trans HX6.out).trans (new_ext _ _)⟩
          case measure => simp [intOf]; omega
      · obtain rfl : j = l.length := by omega
        have HD : Hid (denyB own l l.length = !coversA own l) := denyB_all
        have tk : decide (l.length < l.length) = false := by simp
        obtain ⟨q, hq⟩ : ∃ q, q = allowsL own escA := ⟨_, rfl⟩
        have CA : Hid (Calls Tryd.prog 15 #[.slice A9 own.length c9, .agg #[.string ⟨#[101, 115, 99, 97, 108, 97, 116, 101]⟩, .string ⟨#[114, 111, 108, 101, 115]⟩, .string ⟨#[]⟩, .string ⟨#[]⟩]] wj fun e w' => e = .returned (.bool q) ∧ Ext wj w') := by
          rw [hq]
          exact rallows_any w8.heap.size _ own escA wj hX.out.size (HR.out.below hX.out (Nat.le_refl _))
        obtain ⟨d, hd⟩ : ∃ d, d = denyB own l l.length := ⟨_, rfl⟩
        rw [← hd]
        rw [← hd] at HD
        clear hd hxw
        cases d with
        | false =>
          clear hq
          have HE : Hid (mayGrantI g u sp l = 0) := HW.out.2.1 (by have := HD.out; cases h : coversA own l; (· rw [h] at this; cases this); (· rfl))
          go_wp2_with fail
          go_ret
          exact ⟨ret_int HE.out.symm, HXW.out⟩
        | true =>
          have hcv : coversA own l = false := by have := HD.out; cases h : coversA own l; (· rfl); (· rw [h] at this; cases this)
          cases q with
          | true =>
            have HE : Hid (mayGrantI g u sp l = 0) := HW.out.1 hq.symm
            clear hq hcv
            go_wp2_with (go_at_call 15; (with_reducible refine CA.out.mono ?_); rintro e w9 ⟨rfl, hx9⟩)
            go_ret
            exact ⟨ret_int HE.out.symm, HXW.out.trans hx9⟩
          | false =>
            have HE : Hid (mayGrantI g u sp l = 14) := HW.out.2.2 hq.symm hcv
            clear hq hcv
            go_wp2_with (go_at_call 15; (with_reducible refine CA.out.mono ?_); rintro e w9 ⟨rfl, hx9⟩)
            go_ret
            exact ⟨ret_int HE.out.symm, HXW.out.trans hx9⟩
  · have hb1 : (grantE g u sp l != 0) = true := by simp [h4]
    have HE : Hid (mayGrantI g u sp l = grantE g u sp l) := by unfold Hid mayGrantI; rw [if_neg h4]
    clear h4
    go_wp2
    go_ret
    exact ⟨ret_int HE.out.symm, B6.out.2.2⟩
end Go.Proofs.YtplfimoeggecjaaDoor.Sx
