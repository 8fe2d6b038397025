/-
  The law GrantsGives: it returns true.
  The statement GrantsGivesUptoCardSaid: the law GrantsGives returns true, where what is handed in is of bulk at most 1048576; the three listed tables are tied to the program's text.
-/
import Derived.Test.YtplfimoeggecjaaDoorMgp
import Derived.Lib.QuietBelow
import Derived.BigQuiet
import Derived.Test.YtplfimoeggecjaaDoorGop
import Derived.Test.YtplfimoeggecjaaDoorLd3
import Derived.Test.YtplfimoeggecjaaDoorOp3
import Derived.JoinedCond
import Derived.SevenTiedAt
namespace Go.Proofs.YtplfimoeggecjaaDoor.Sx
open Go Go.RowKit Go.Sort Go.Proofs.YtplfimoeggecjaaDoor.Dc

set_option maxRecDepth 100000 in
set_option maxHeartbeats 8000000 in
theorem grantsGives_walk (B : Nat) (vr vb vu vh v1 v2 v3 vl : Value) (g : Grants) (u : User) (sp : ByteArray) (held : List Rule) (r : Rule) (l : List Rule) (w : World) (hB : B ≤ w.heap.size) (hr : RolesAt B w vr g.roles) (hb : BindsAt B w vb g.binds) (hu : StrsAt B w vu u.groups)
    (hh : RulesAt B w vh held) (h1 : StrsAt B w v1 r.verbs) (h2 : StrsAt B w v2 r.kinds) (h3 : StrsAt B w v3 r.names) (hl : RulesAt B w vl l) (hz : u.name.size ≤ 1048576) (hsp : sp.size ≤ 1048576) (hf : g.few) (hK : grantsW g < 8796093022208) (hK2 : rulesW l < 8796093022200)
    (hn : held.length ≤ 1048576) (hf1 : (verbsOf held).length ≤ 1048576) (hf2 : (kindsOf held).length ≤ 1048576) (hf3 : (namesOf held).length ≤ 1048576) (htab : Tab10 w) :
    Calls Tryd.prog 3 #[.agg #[vr, vb], .agg #[.string u.name, vu], .string sp, vh, .agg #[v1, v2, v3], vl] w fun e w' => e = .returned (.bool true) ∧ Ext w w' := by
  have HV := Lib.hid (And.intro hr (And.intro hb (And.intro hu hl)))
  have HR := Lib.hid (And.intro (RulesAt.toR hh) (And.intro (StrsAt.toR h1) (And.intro (StrsAt.toR h2) (StrsAt.toR h3))))
  have HF := Lib.hid hf
  have HK := Lib.hid (And.intro hK hK2)
  have HN := Lib.hid (And.intro hn (And.intro hf1 (And.intro hf2 hf3)))
  have HT := Lib.hid htab
  obtain ⟨hn1, A, c, rfl, _⟩ := hr
  obtain ⟨hn2, A', c', rfl, _⟩ := hb
  obtain ⟨hn3, Au, cu, rfl, _⟩ := hu
  obtain ⟨hn4, Ah, ch, rfl, _⟩ := hh
  obtain ⟨hn5, A1, c1, rfl, _⟩ := h1
  obtain ⟨hn6, A2, c2, rfl, _⟩ := h2
  obtain ⟨hn7, A3, c3, rfl, _⟩ := h3
  obtain ⟨hn8, Al, cl, rfl, _⟩ := hl
  clear hf hK hK2 hn hf1 hf2 hf3 htab
  go_enter Tryd.func3, Tryd.ntmps3
  go_wp2_with fail
  obtain ⟨w0, hw0⟩ : ∃ w0, w0 = ((w.alloc (.cells #[.slice A g.roles.length c, .slice A' g.binds.length c'] 25)).alloc (.cells #[.string u.name, .slice Au u.groups.length cu] 28)).alloc (.cells #[.slice A1 r.verbs.length c1, .slice A2 r.kinds.length c2, .slice A3 r.names.length c3] 31) := ⟨_, rfl⟩
  have hx0 : Ext w w0 := by rw [hw0]; exact (((Below.refl _ _).alloc (Nat.le_refl _) _).alloc (by simp) _).alloc (by simp; omega) _
  have hg0 : w0.heap[w.heap.size]? = some (.cells #[.slice A g.roles.length c, .slice A' g.binds.length c'] 25 (0, 0)) := by rw [hw0]; exact heap_old (heap_old (heap_new rfl))
  have hu0 : w0.heap[w.heap.size + 1]? = some (.cells #[.string u.name, .slice Au u.groups.length cu] 28 (0, 0)) := by rw [hw0]; exact heap_old (heap_new (by simp))
  have hr0 : w0.heap[w.heap.size + 1 + 1]? = some (.cells #[.slice A1 r.verbs.length c1, .slice A2 r.kinds.length c2, .slice A3 r.names.length c3] 31 (0, 0)) := by rw [hw0]; exact heap_new (by simp)
  rw [← hw0]
  have HX0 := Lib.hid hx0
  have H0 := Lib.hid (And.intro hg0 (And.intro hu0 hr0))
  have hst : ∀ w', Ext w0 w' → w'.heap[w.heap.size]? = some (.cells #[.slice A g.roles.length c, .slice A' g.binds.length c'] 25 (0, 0)) ∧ w'.heap[w.heap.size + 1]? = some (.cells #[.string u.name, .slice Au u.groups.length cu] 28 (0, 0)) ∧ w'.heap[w.heap.size + 1 + 1]? = some (.cells #[.slice A1 r.verbs.length c1, .slice A2 r.kinds.length c2, .slice A3 r.names.length c3] 31 (0, 0)) := fun w' hk =>
    ⟨(hk.block _ (heap_lt H0.out.1)).trans H0.out.1, (hk.block _ (heap_lt H0.out.2.1)).trans H0.out.2.1, (hk.block _ (heap_lt H0.out.2.2)).trans H0.out.2.2⟩
  have HST := Lib.hid hst
  clear hw0 hx0 hg0 hu0 hr0 hst
  obtain ⟨o, ho⟩ : ∃ o, o = beyondL held r := ⟨_, rfl⟩
  obtain ⟨q, hq⟩ : ∃ q, q = o.isSome := ⟨_, rfl⟩
  obtain ⟨a0, a1, a2, a3, ha⟩ := beyV_some hq
  obtain ⟨M, hM⟩ : ∃ M, M = mayGrantI g u sp l := ⟨_, rfl⟩
  have hE : ∀ W, Ext w0 W → B ≤ W.heap.size ∧ Below B w W := fun W hW => ⟨Nat.le_trans hB (Nat.le_trans HX0.out.size hW.size), (HX0.out.trans hW).mono hB⟩
  have HE := Lib.hid hE
  have CB : Hid (∀ W, Ext w0 W → Calls Tryd.prog 4 #[.slice Ah held.length ch, .agg #[.slice A1 r.verbs.length c1, .slice A2 r.kinds.length c2, .slice A3 r.names.length c3]] W fun e w' => e = .returned (.tuple #[.agg #[.string a0, .string a1, .string a2, .string a3], .bool q]) ∧ Ext W w') := fun W hW => by
    rw [← ha, ho]
    obtain ⟨e1, e2⟩ := HE.out W hW
    exact gbeyond_any B _ _ _ _ held r W e1 (HR.out.1.below e2 (Nat.le_refl _)) (HR.out.2.1.below e2 (Nat.le_refl _)) (HR.out.2.2.1.below e2 (Nat.le_refl _)) (HR.out.2.2.2.below e2 (Nat.le_refl _)) HN.out.1 (HT.out.ext (HX0.out.trans hW)) HN.out.2.1 HN.out.2.2.1 HN.out.2.2.2
  have CR : Hid (∀ W, Ext w0 W → Calls Tryd.prog 5 #[.slice Ah held.length ch, .agg #[.slice A1 r.verbs.length c1, .slice A2 r.kinds.length c2, .slice A3 r.names.length c3]] W fun e w' => e = .returned (.tuple #[.agg #[.string a0, .string a1, .string a2, .string a3], .bool q]) ∧ Ext W w') := fun W hW => by
    rw [← ha, ho]
    obtain ⟨e1, e2⟩ := HE.out W hW
    exact rbeyond_any B _ _ _ _ held r W e1 (HR.out.1.below e2 (Nat.le_refl _)) (HR.out.2.1.below e2 (Nat.le_refl _)) (HR.out.2.2.1.below e2 (Nat.le_refl _)) (HR.out.2.2.2.below e2 (Nat.le_refl _)) HN.out.1 HN.out.2.1 HN.out.2.2.1 HN.out.2.2.2
  have CC : Hid (∀ W, Ext w0 W → Calls Tryd.prog 6 #[.slice Ah held.length ch, .agg #[.slice A1 r.verbs.length c1, .slice A2 r.kinds.length c2, .slice A3 r.names.length c3]] W fun e w' => e = .returned (.bool !q) ∧ Ext W w') := fun W hW => by
    have hqn : (!q) = (beyondL held r).isNone := by rw [hq, ho]; cases beyondL held r <;> rfl
    rw [hqn]
    obtain ⟨e1, e2⟩ := HE.out W hW
    exact gcovers_any B _ _ _ _ held r W e1 (HR.out.1.below e2 (Nat.le_refl _)) (HR.out.2.1.below e2 (Nat.le_refl _)) (HR.out.2.2.1.below e2 (Nat.le_refl _)) (HR.out.2.2.2.below e2 (Nat.le_refl _)) HN.out.1 (HT.out.ext (HX0.out.trans hW)) HN.out.2.1 HN.out.2.2.1 HN.out.2.2.2
  have CM : Hid (∀ W, Ext w0 W → Calls Tryd.prog 7 #[.agg #[.slice A g.roles.length c, .slice A' g.binds.length c'], .agg #[.string u.name, .slice Au u.groups.length cu], .string sp, .slice Al l.length cl] W fun e w' => e = .returned (.int .i64 M) ∧ Ext W w') := fun W hW => by
    rw [hM]
    obtain ⟨e1, e2⟩ := HE.out W hW
    exact gmaygrant_any B _ _ _ _ g u sp l W e1 (HV.out.1.below e2) (HV.out.2.1.below e2) (HV.out.2.2.1.below e2) (HV.out.2.2.2.below e2) hz hsp HF.out (HT.out.ext (HX0.out.trans hW))
  have CN : Hid (∀ W, Ext w0 W → Calls Tryd.prog 8 #[.agg #[.slice A g.roles.length c, .slice A' g.binds.length c'], .agg #[.string u.name, .slice Au u.groups.length cu], .string sp, .slice Al l.length cl] W fun e w' => e = .returned (.int .i64 M) ∧ Ext W w') := fun W hW => by
    rw [hM]
    obtain ⟨e1, e2⟩ := HE.out W hW
    exact rmaygrant_any B _ _ _ _ g u sp l W e1 (HV.out.1.below e2) (HV.out.2.1.below e2) (HV.out.2.2.1.below e2) (HV.out.2.2.2.below e2) hz hsp HF.out HK.out.1 HK.out.2
  clear ho hq ha hM hE
  obtain ⟨z0, z1, z2⟩ : w0.cell? ⟨w.heap.size + 1 + 1, 0, none⟩ = some (.slice A1 r.verbs.length c1) ∧ w0.cell? ⟨w.heap.size + 1 + 1, 1, none⟩ = some (.slice A2 r.kinds.length c2) ∧ w0.cell? ⟨w.heap.size + 1 + 1, 2, none⟩ = some (.slice A3 r.names.length c3) := ⟨cell_of H0.out.2.2 0, cell_of H0.out.2.2 1, cell_of H0.out.2.2 2⟩
  go_wp2_with (go_at_call 4; (with_reducible refine (CB.out _ (Below.refl _ _)).mono ?_); rintro e w1 ⟨rfl, hx1⟩; have HX1 := Lib.hid hx1; have hsz1 := heap_lt ((hx1.block _ (heap_lt H0.out.2.2)).trans H0.out.2.2); have y0 := cell_of ((hx1.block _ (heap_lt H0.out.2.2)).trans H0.out.2.2) 0; have y1 := cell_of ((hx1.block _ (heap_lt H0.out.2.2)).trans H0.out.2.2) 1; have y2 := cell_of ((hx1.block _ (heap_lt H0.out.2.2)).trans H0.out.2.2) 2; clear hx1 z0 z1 z2)
  obtain ⟨kA, hkA⟩ : ∃ k, k = w1.heap.size := ⟨_, rfl⟩
  obtain ⟨wA, hwA⟩ : ∃ wA, wA = w1.alloc (.cells #[.string a0, .string a1, .string a2, .string a3] 33 (0, 0)) := ⟨_, rfl⟩
  rw [← hwA, ← hkA]
  have HXA : Hid (Ext w0 wA) := by rw [hwA]; exact HX1.out.trans (new_ext _ _)
  have HA : Hid (wA.heap[kA]? = some (.cells #[.string a0, .string a1, .string a2, .string a3] 33 (0, 0))) := by rw [hwA]; exact heap_new hkA
  clear hwA hkA hsz1 y0 y1 y2
  refine Calls.mono (CR.out _ HXA.out) ?_
  rintro e w2 ⟨rfl, hx2⟩
  have HX2 := Lib.hid hx2
  clear hx2
  go_wp2_with fail
  obtain ⟨kC, hkC⟩ : ∃ k, k = w2.heap.size := ⟨_, rfl⟩
  obtain ⟨wC, hwC⟩ : ∃ wC, wC = w2.alloc (.cells #[.string a0, .string a1, .string a2, .string a3] 33 (0, 0)) := ⟨_, rfl⟩
  rw [← hwC, ← hkC]
  have HXC : Hid (Ext w0 wC) := by rw [hwC]; exact (HXA.out.trans HX2.out).trans (new_ext _ _)
  have hA2 : wC.heap[kA]? = some (.cells #[.string a0, .string a1, .string a2, .string a3] 33 (0, 0)) := by rw [hwC]; exact ((HX2.out.trans (new_ext _ _)).block _ (heap_lt HA.out)).trans HA.out
  have hC2 : wC.heap[kC]? = some (.cells #[.string a0, .string a1, .string a2, .string a3] 33 (0, 0)) := by rw [hwC]; exact heap_new hkC
  have hst := HST.out _ HXC.out
  obtain ⟨b0, b1, b2, b3⟩ := cells4 hA2
  obtain ⟨d0, d1, d2, d3⟩ := cells4 hC2
  obtain ⟨g0, g1⟩ := cells2 hst.1
  obtain ⟨y0, y1⟩ := cells2 hst.2.1
  have r0 := cell_of hst.2.2 0
  have r1 := cell_of hst.2.2 1
  have r2 := cell_of hst.2.2 2
  clear hwC hkC hA2 hC2 hst
  have n0 := cell_regrown b0
  have n1 := cell_regrown b1
  have n2 := cell_regrown b2
  have n3 := cell_regrown b3
  have n4 := cell_regrown d0
  have n5 := cell_regrown d1
  have n6 := cell_regrown d2
  have n7 := cell_regrown d3
  have n8 := cell_regrown g0
  have n9 := cell_regrown g1
  have n10 := cell_regrown y0
  have n11 := cell_regrown y1
  have n12 := cell_regrown r0
  have n13 := cell_regrown r1
  have n14 := cell_regrown r2
  have hbel : ∀ d os, Ext wC (grow (redrawn wC d) os) := fun d os => below_regrown wC d os
  have cC := fun d os => Calls.regrown_of (w := wC) (d := d) (os := os) (CC.out _ (HXC.out.trans (hbel d os)))
  have cM := fun d os => Calls.regrown_of (w := wC) (d := d) (os := os) (CM.out _ (HXC.out.trans (hbel d os)))
  have cN := fun d os => Calls.regrown_of (w := wC) (d := d) (os := os) (CN.out _ (HXC.out.trans (hbel d os)))
  have RC := Lib.hid cC
  have RM := Lib.hid cM
  have RN := Lib.hid cN
  have HX9 := Lib.hid (fun d os => HX0.out.trans (HXC.out.trans (hbel d os)))
  have e0 : (a0.toList == a0.toList) = true := by simp
  have e1 : (a1.toList == a1.toList) = true := by simp
  have e2 : (a2.toList == a2.toList) = true := by simp
  have e3 : (a3.toList == a3.toList) = true := by simp
  have e4 : (M == M) = true := by simp
  clear cC cM cN hbel b0 b1 b2 b3 d0 d1 d2 d3 g0 g1 y0 y1 r0 r1 r2
  cases q
  all_goals
    refine wp_region_quiet_below (by kernel_rfl) (by kernel_rfl) ?_
    repeat (quiet_step (first | (go_at_call 6; exact RC.out _ _) | (go_at_call 7; exact RM.out _ _) | (go_at_call 8; exact RN.out _ _)))
    refine wpQuiet_nil ?_
    intro _ hw'
    obtain ⟨⟨dq, osq⟩, hw''⟩ := hw'
    subst hw''
    go_wp2
    go_ret
    exact ⟨rfl, HX9.out _ _⟩
end Go.Proofs.YtplfimoeggecjaaDoor.Sx
namespace Go.Proofs.YtplfimoeggecjaaDoor.grantsGives
open Go Go.ChangeShapes Go.WideShapes Go.ChangeAt Go.RowKit Go.Joins Go.Deep Go.Proofs.YtplfimoeggecjaaDoor.Sx Go.Proofs.YtplfimoeggecjaaDoor.Op Go.Proofs.YtplfimoeggecjaaDoor.Gop
open Go.ChangeMaps (open_string)

set_option maxRecDepth 100000 in
theorem contract (H : Type) (enc : TypeId × Value → H) (W : World) (base : Nat) (args : Array Value) (ds gs : List (DataW H)) (before : List MemPlace)
    (hval : ∀ (j : Nat) t v, Tryd.f3.params[j]? = some t → args[j]? = some v → Value.okWide Tryd.prog W .any base t v)
    (hW : DataW.Whole enc Tryd.prog Tryd.f3.params.toList Rows.grantsGivesSpec.vars false W args.toList ds gs before) (hk : Rows.uptoSmall H (ds ++ gs) = true) (ht : Sx.Tab10 W) :
    Calls Tryd.prog 3 args W fun e W' => ∃ v, e = .returned v ∧ Rows.grantsGivesSpec.post enc Tryd.prog Tryd.f3 false true false false W args v W' := by
  have hW' := hW
  obtain ⟨p, q, hA0, hV, rfl, hfz, hnd⟩ := hW
  have hA : DataW.TrodAll enc Tryd.prog W 0 (fun _ => true) true Tryd.f3.params.toList args.toList ds p := hA0
  have hbk := bulk_bound hk
  rw [Tryd.params3] at hA hval
  obtain ⟨v0, v1, v2, v3, v4, v5, d0, d1, d2, d3, d4, d5, p0, p1, p2, p3, p4, p5, rfl, rfl, rfl, h0, h1, h2, h3, h4, h5⟩ := trodAll_six hA
  obtain ⟨rfl, rfl⟩ := trodVars_none hV
  simp only [List.append_nil, Rows.uptoBulkAll] at hbk
  obtain ⟨vr, vb, g, rfl, hr, hb, hw, hf⟩ := grants_open2 Tryd.underlying25 rfl rfl (by kernel_rfl) (by kernel_rfl) (hval 0 _ _ rfl rfl) h0 (by omega)
  obtain ⟨vu, u, rfl, hu, hz⟩ := user_open Tryd.underlying28 rfl rfl (by kernel_rfl) (by kernel_rfl) (hval 1 _ _ rfl rfl) h1 (by omega)
  obtain ⟨sp, rfl, rfl, rfl, _⟩ := open_string Tryd.underlying9 (hval 2 _ _ rfl rfl) h2
  obtain ⟨hs, hh, hhb⟩ := rules_arg (hval 3 _ _ rfl rfl) h3 (by omega)
  obtain ⟨v1, v2, v3', r, rfl, q1, q2, q3⟩ := rule_open Tryd.underlying31 rfl rfl rfl (by kernel_rfl) (by kernel_rfl) (hval 4 _ _ rfl rfl) h4 (by omega)
  obtain ⟨l, hl, hlb⟩ := rules_arg (hval 5 _ _ rfl rfl) h5 (by omega)
  simp [Rows.uptoBulk] at hbk
  have k1 := flat_le (f := fun r => r.verbs) (fun r => by unfold fRule; omega) hs
  have k2 := flat_le (f := fun r => r.kinds) (fun r => by unfold fRule; omega) hs
  have k3 := flat_le (f := fun r => r.names) (fun r => by unfold fRule; omega) hs
  have k4 := rulesW_le l
  refine (Sx.grantsGives_walk W.heap.size vr vb vu v3 v1 v2 v3' v5 g u sp hs r l W (Nat.le_refl _) hr hb hu hh q1 q2 q3 hl hz (by omega) hf hw (by omega) (by omega) (by unfold verbsOf; omega) (by unfold kindsOf; omega) (by unfold namesOf; omega) ht).mono fun e W' ⟨he, hg⟩ => ?_
  subst he
  exact ⟨_, rfl, Fr.post_law Fr.laidOut (by kernel_rfl) rfl Tryd.underlying4 rfl rfl hW' hg⟩

theorem reads (os : Os) {H : Type} (enc : TypeId × Value → H) : ∃ places, DataW.whole enc Tryd.prog ((Ld.laidWorld os).forCall (fun _ _ => 0) ⟨#[], #[.agg #[.slice none 0 0, .slice none 0 0], .agg #[.string ByteArray.empty, .slice none 0 0], .string ByteArray.empty, .slice none 0 0, .agg #[.slice none 0 0, .slice none 0 0, .slice none 0 0], .slice none 0 0], []⟩).memory Tryd.f3.params.toList Rows.grantsGivesSpec.vars false (#[Value.agg #[.slice none 0 0, .slice none 0 0], .agg #[.string ByteArray.empty, .slice none 0 0], .string ByteArray.empty, .slice none 0 0, .agg #[.slice none 0 0, .slice none 0 0, .slice none 0 0], .slice none 0 0] : Array Value).toList 8 = some ([.agg [.nil, .nil], .agg [.lit (.string []), .nil], .lit (.string []), .nil, .agg [.nil, .nil, .nil], .nil], [], places) :=
  ⟨[], by kernel_rfl⟩

set_option maxRecDepth 100000 in
theorem lifted (os : Os) (started : os.Started) (H : Type) (enc : TypeId × Value → H) (F : Stop.Interp) :
    ReturnsInHanded {} Tryd.checked os 3 .any ((Rows.OpenSpec.upto Rows.grantsGivesSpec).preRow enc Tryd.prog Tryd.f3 Rows.grantsGivesUptoRow.domain false Rows.grantsGivesUptoRow.laid) (((Rows.OpenSpec.upto Rows.grantsGivesSpec).at F).post enc Tryd.prog Tryd.f3 false true false false) := by
  obtain ⟨places, hx⟩ := reads os enc
  refine returnsInHanded_of_row (C := Tryd.checked) (s := Rows.OpenSpec.upto Rows.grantsGivesSpec) Fr.own started (by kernel_rfl) Tryd.func3
    (witness_row_at (enc := enc) (C := Tryd.checked) false (Ld.laidWorld os) #[.agg #[.slice none 0 0, .slice none 0 0], .agg #[.string ByteArray.empty, .slice none 0 0], .string ByteArray.empty, .slice none 0 0, .agg #[.slice none 0 0, .slice none 0 0, .slice none 0 0], .slice none 0 0] rfl (by kernel_rfl) (by kernel_rfl) (by kernel_rfl)
      (OpenSpec.preRow_of_cond 8 hx (by kernel_rfl) (fun k hk => by cases hk; kernel_rfl) (by kernel_rfl) (Ld.laid_met os _))) ?_
  intro W base args ds gs before hval hW _ hcond _ hlaid _ _
  exact contract H enc W base args ds gs before hval hW (hcond _ rfl) (Ld.tab_ten hlaid)

theorem said : Rows.GrantsGivesUptoSaid :=
  OpenClaim.holds_of_cond 3 Tryd.f3 rfl rfl rfl rfl rfl rfl rfl ⟨rfl, rfl, rfl, rfl, rfl⟩ rfl rfl rfl rfl rfl (by kernel_rfl) Tryd.func3 (by kernel_rfl)
    (of_decide_eq_true (by kernel_rfl)) (by unfold Func.isWrapper; first | (rw [if_pos (by decide +kernel)]; kernel_rfl) | (rw [if_neg (by decide +kernel)]; exact ⟨rfl, rfl⟩))
    (fun os started H enc _ F => by rw [OpenClaim.pre_eq_preRow]; exact lifted os started H enc F)

theorem plain (f : FuncId) (fn : Func) (hf : Tryd.pinned.checked.prog.funcNamed "seneschal/seneschallaw.GrantsGives" = some f) (hfn : Tryd.pinned.checked.prog.funcs[f]? = some fn) :
    false = Tryd.pinned.checked.prog.looks [] ∧ ∀ (j : Nat) t, fn.params[j]? = some t → Tryd.pinned.checked.prog.wantsStandIn t = false := by
  obtain rfl : f = 3 := Option.some.inj ((show Tryd.prog.funcNamed "seneschal/seneschallaw.GrantsGives" = some 3 by kernel_rfl).symm.trans hf) |>.symm
  obtain rfl : fn = Tryd.f3 := (Option.some.inj (Tryd.func3.symm.trans hfn)).symm
  refine ⟨by kernel_rfl, fun j t ht => ?_⟩
  rw [Tryd.params3] at ht
  have hm := Array.mem_of_getElem? ht
  simp at hm
  rcases hm with rfl | rfl | rfl | rfl | rfl | rfl
  · exact (show Tryd.prog.wantsStandIn 25 = false by kernel_rfl)
  · exact (show Tryd.prog.wantsStandIn 28 = false by kernel_rfl)
  · exact (show Tryd.prog.wantsStandIn 9 = false by kernel_rfl)
  · exact (show Tryd.prog.wantsStandIn 29 = false by kernel_rfl)
  · exact (show Tryd.prog.wantsStandIn 31 = false by kernel_rfl)
  · exact (show Tryd.prog.wantsStandIn 29 = false by kernel_rfl)

theorem proved : Rows.GrantsGivesUptoCardSaid :=
  Claim7.holds_tied_plain_at .later [] _ _ _ _ said (fun _ h => by cases h) (by kernel_rfl) (fun _ h => by cases h) grantsGivesUpto_row_tie rfl ⟨rfl, rfl⟩ (by kernel_rfl) rfl plain (by kernel_rfl)
#print axioms proved
end Go.Proofs.YtplfimoeggecjaaDoor.grantsGives
