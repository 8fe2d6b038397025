/-
  The program's grants.held: the walk.
-/
import Derived.Test.YtplfimoeggecjaaDoorHld
namespace Go.Proofs.YtplfimoeggecjaaDoor.Sx
open Go Go.RowKit

/-- What the walk keeps of memory: the boxes of the grants and of the user (blocks k, k + 1). -/
def HeldIn (B : Nat) (w : World) (k : Nat) (g : Grants) (u : User) (A A' Au : Option Addr) (c c' cu : Nat) : Prop :=
  w.heap[k]? = some (.cells #[.slice A g.roles.length c, .slice A' g.binds.length c'] 25 (0, 0)) ∧ w.heap[k + 1]? = some (.cells #[.string u.name, .slice Au u.groups.length cu] 28 (0, 0)) ∧
    RolesAt B w (.slice A g.roles.length c) g.roles ∧ BindsAt B w (.slice A' g.binds.length c') g.binds ∧ StrsR B w (.slice Au u.groups.length cu) u.groups
theorem HeldIn.mod {B : Nat} {w w' : World} {k : Nat} {g : Grants} {u : User} {A A' Au : Option Addr} {c c' cu b : Nat} (h : HeldIn B w k g u A A' Au c c' cu) (hm : ModR rT b w w') (hB : B ≤ b) (hb : b ≤ w.heap.size) : HeldIn B w' k g u A A' Au c c' cu :=
  ⟨hm.heap h.1 (by decide), hm.heap h.2.1 (by decide), h.2.2.1.below ((hm.below hb).mono hB), h.2.2.2.1.below ((hm.below hb).mono hB), h.2.2.2.2.below ((hm.below hb).mono hB) (Nat.le_refl _)⟩

theorem old_cells2 {w : World} {k : Nat} {x y : Value} {t : TypeId} {f : Nat × Nat} (h : w.heap[k]? = some (.cells #[x, y] t f)) (o : Obj) :
    (w.alloc o).cell? ⟨k, 0, none⟩ = some x ∧ (w.alloc o).cell? ⟨k, 1, none⟩ = some y := by
  refine ⟨?_, ?_⟩ <;> simp [past_cell h]

set_option maxRecDepth 100000 in
set_option maxHeartbeats 4000000 in
theorem gheld_any (B : Nat) (vr vb vu : Value) (g : Grants) (u : User) (sp : ByteArray) (w : World) (hB : B ≤ w.heap.size) (hr : RolesAt B w vr g.roles) (hb : BindsAt B w vb g.binds) (hu : StrsR B w vu u.groups) (hf : g.few) :
    Calls Tryd.prog 19 #[.agg #[vr, vb], .agg #[.string u.name, vu], .string sp] w fun e w' => ∃ A c, e = .returned (.slice A (heldL g u sp).length c) ∧ RulesR w'.heap.size w' (.slice A (heldL g u sp).length c) (heldL g u sp) ∧ Ext w w' := by
  have HV := Lib.hid (And.intro hr (And.intro hb hu))
  have HF := Lib.hid hf
  obtain ⟨hn1, A, c, rfl, _⟩ := hr
  obtain ⟨hn2, A', c', rfl, _⟩ := hb
  obtain ⟨hn3, Au, cu, rfl, _⟩ := hu
  clear hf
  go_enter Tryd.func19, Tryd.ntmps19
  go_wp2
  obtain ⟨w0, hw0⟩ : ∃ w0, w0 = (w.alloc (.cells #[.slice A g.roles.length c, .slice A' g.binds.length c'] 25)).alloc (.cells #[.string u.name, .slice Au u.groups.length cu] 28) := ⟨_, rfl⟩
  have hx0 : Ext w w0 := by rw [hw0]; exact ((Below.refl _ _).alloc (Nat.le_refl _) _).alloc (by simp) _
  have hI0 : HeldIn B w0 w.heap.size g u A A' Au c c' cu := by
    have hbl := hx0.mono hB
    refine ⟨?_, ?_, HV.out.1.below hbl, HV.out.2.1.below hbl, HV.out.2.2.below hbl (Nat.le_refl _)⟩
    · rw [hw0]; exact heap_old (heap_new rfl)
    · rw [hw0]; exact heap_new (by simp)
  have hs0 : w0.heap.size = w.heap.size + 2 := by rw [hw0]; simp
  rw [← hw0]
  obtain ⟨g0, g1⟩ := cells2 hI0.1
  have HX0 := Lib.hid hx0
  have H0 := Lib.hid hI0
  have HS0 : Hid (B ≤ w0.heap.size) := by unfold Hid; omega
  clear hw0 hx0 hI0 hs0
  go_wp2
  go_loopw [7, 16] (fun v k wr => ∃ (i : Nat) (A7 : Option Addr) (c7 : Nat), i ≤ g.binds.length ∧ k = .int .i64 i ∧ v = .slice A7 (heldTo g u sp i).length c7 ∧ Hid (OwnRules B w0.heap.size wr (.slice A7 (heldTo g u sp i).length c7) (heldTo g u sp i)) ∧ Hid (ModR rT w0.heap.size w0 wr))
    (fun _ k _ => g.binds.length - (intOf k).toNat)
  case atStart => exact ⟨0, none, 0, Nat.zero_le _, rfl, rfl, OwnRules.nil, ModR.refl⟩
  case round =>
    obtain ⟨i, A7, c7, hi, rfl, rfl, hO, hM⟩ := hrel
    by_cases hlt : i < g.binds.length
    · have hI := H0.out.mod hM.out HS0.out (Nat.le_refl _)
      obtain ⟨blk, off, A1, c1, A2, c2, rfl, _, x0, x1, x2, x3, x4, x5, t1, t2⟩ := hI.2.2.2.1.at_ hlt
      have HSUC := Lib.hid (heldTo_succ (u := u) (sp := sp) hlt)
      have HLE := Lib.hid (heldTo_few HF.out u sp hi)
      obtain ⟨b, hb⟩ : ∃ b, b = g.binds[i] := ⟨_, rfl⟩
      rw [← hb] at x0 x1 x2 x3 x4 x5 t1 t2 HSUC
      clear hb
      have hBr : B ≤ wr.heap.size := Nat.le_trans HS0.out hM.out.size
      have hbase : w0.heap.size ≤ wr.heap.size := hM.out.size
      have yo0 := fun o => (old_cells2 hI.2.1 o).1
      have yo1 := fun o => (old_cells2 hI.2.1 o).2
      have HC := Lib.hid (And.intro t1 (And.intro t2 hI))
      clear t1 t2 hI
      go_wp2_with fail
      obtain ⟨w1, hw1⟩ : ∃ w1, w1 = wr.alloc (.cells #[.string b.space, .string b.name, .string b.role, .bool b.whole, .slice A1 b.users.length c1, .slice A2 b.groups.length c2] 71) := ⟨_, rfl⟩
      have hx1 : Ext wr w1 := by rw [hw1]; exact (Below.refl _ _).alloc (Nat.le_refl _) _
      have hb1 : BindIn w1 wr.heap.size b A1 A2 c1 c2 := by rw [hw1]; exact heap_new rfl
      rw [← hw1]
      have hbl1 := hx1.mono hBr
      refine Calls.mono (isFor_any B b _ _ _ _ _ _ u _ (Nat.le_trans hBr hx1.size) (HC.out.1.below hbl1 (Nat.le_refl _)) (HC.out.2.1.below hbl1 (Nat.le_refl _)) (HC.out.2.2.2.2.2.2.below hbl1 (Nat.le_refl _))) ?_
      rintro e w2 ⟨rfl, hx2⟩
      have hx12 := hx1.trans hx2
      have HI2 : Hid (HeldIn B w2 w.heap.size g u A (some ⟨blk, off, none⟩) Au c c' cu) := HC.out.2.2.mod (.of_ext hx12) hBr (Nat.le_refl _)
      have hb2 : BindIn w2 wr.heap.size b A1 A2 c1 c2 := (hx2.block _ (heap_lt hb1)).trans hb1
      have HO2 : Hid (OwnRules B w0.heap.size w2 (.slice A7 (heldTo g u sp i).length c7) (heldTo g u sp i)) := hO.out.ext hx12 hBr
      have HM2 : Hid (ModR rT w0.heap.size w0 w2) := hM.out.trans (.of_ext hx12)
      have HZ2 : Hid (w0.heap.size ≤ w2.heap.size) := Nat.le_trans hbase hx12.size
      obtain ⟨kb, hkb⟩ : ∃ kb, kb = wr.heap.size := ⟨_, rfl⟩
      rw [← hkb] at hb2
      rw [← hkb]
      obtain ⟨z0, z1, z2, z3, z4, z5⟩ := cells6 hb2
      obtain ⟨g2, g3⟩ := cells2 HI2.out.1
      have HB2 := Lib.hid hb2
      clear hw1 hx1 hb1 hbl1 hx2 hx12 hb2 hkb hBr hbase yo0 yo1 x0 x1 x2 x3 x4 x5 HC hO hM
      have HSK : Hid (gives b u sp = false → heldTo g u sp (i + 1) = heldTo g u sp i) := fun h => by rw [HSUC.out]; unfold bindRules; rw [h]; simp
      have HON : Hid (gives b u sp = true → heldTo g u sp (i + 1) = heldTo g u sp i ++ pickTo b g.roles g.roles.length) := fun h => by rw [HSUC.out]; unfold bindRules; rw [h]; rfl
      clear HSUC
      cases hfor : isForB b u with
      | false =>
        have HE := Lib.hid (HSK.out (by unfold gives; rw [hfor]; rfl))
        clear hfor
        go_wp2
        go_roundw
        case rel => exact ⟨i + 1, A7, c7, hlt, by go_num, by rw [HE.out], by rw [HE.out]; exact HO2, HM2⟩
        case measure => simp [intOf]; omega
      | true =>
        by_cases hg : gives b u sp = true
        · have HE := Lib.hid (HON.out hg)
          have hways : b.space.toList.isEmpty = true ∨ (b.space.toList.isEmpty = false ∧ (b.space.toList == sp.toList) = true ∧ (b.space.toList != sp.toList) = false) := by
            by_cases hz : b.space.size = 0
            · exact .inl (isEmpty_of_zero hz)
            · unfold gives at hg
              rw [hfor] at hg
              have h1 : (b.space.toList == sp.toList) = true := by simpa [hz, eqS] using hg
              exact .inr ⟨isEmpty_of_pos (by omega), h1, by unfold bne; rw [h1]; rfl⟩
          clear hfor hg
          rcases hways with e1 | ⟨e1, e2, e3⟩ <;> cases hwh : b.whole
          all_goals
            rw [hwh] at z3
            go_wp2
            obtain ⟨fr, hfr⟩ : ∃ fr : ByteArray, fr = fromS b := ⟨_, rfl⟩
            have hfr' := hfr
            unfold fromS at hfr'
            rw [hwh] at hfr'
            simp only [if_true, Bool.false_eq_true, if_false] at hfr'
            rw [← hfr']
            have HFR := Lib.hid hfr
            clear hfr hfr' hwh
            go_loopw [7, 42] (fun v k wr => ∃ (j : Nat) (A8 : Option Addr) (c8 : Nat), j ≤ g.roles.length ∧ k = .int .i64 j ∧ v = .slice A8 (heldTo g u sp i ++ pickTo b g.roles j).length c8 ∧ Hid (OwnRules B w0.heap.size wr (.slice A8 (heldTo g u sp i ++ pickTo b g.roles j).length c8) (heldTo g u sp i ++ pickTo b g.roles j)) ∧ Hid (ModR rT w0.heap.size w2 wr))
              (fun _ k _ => g.roles.length - (intOf k).toNat)
            case atStart => exact ⟨0, A7, c7, Nat.zero_le _, rfl, by rw [pickTo_zero, List.append_nil], by rw [pickTo_zero, List.append_nil]; exact HO2, ModR.refl⟩
            case round =>
              obtain ⟨j, A8, c8, hj, rfl, rfl, hO', hM'⟩ := hrel
              by_cases hjl : j < g.roles.length
              · have hI3 := HI2.out.mod hM'.out HS0.out HZ2.out
                obtain ⟨blk2, off2, A3, c3, rfl, _, r0, r1, r2, tr⟩ := hI3.2.2.1.at_ hjl
                have hb3 : BindIn wr kb b A1 A2 c1 c2 := hM'.out.heap HB2.out (by decide)
                have zo2 := fun o => past_cell hb3 2 o
                simp at zo2
                have hkbl := heap_lt hb3
                have hne : kb ≠ wr.heap.size := by omega
                have HLP := Lib.hid (pickTo_le b g.roles (j + 1))
                have HSUC2 := Lib.hid (pickTo_succ (b := b) hjl)
                have HTR := Lib.hid (RulesAt.toR tr)
                have HBW : Hid (B ≤ wr.heap.size ∧ w0.heap.size ≤ wr.heap.size) := ⟨Nat.le_trans HS0.out (Nat.le_trans HZ2.out hM'.out.size), Nat.le_trans HZ2.out hM'.out.size⟩
                have hPN := Lib.hid (fun (h : (eqS g.roles[j].space fr && eqS g.roles[j].name b.role) = false) => picks_not HFR.out h)
                have hPY := Lib.hid (fun (h : (eqS g.roles[j].space fr && eqS g.roles[j].name b.role) = true) => picks_yes HFR.out h)
                obtain ⟨r, hr⟩ : ∃ r, r = g.roles[j] := ⟨_, rfl⟩
                rw [← hr] at r0 r1 r2 HSUC2 HTR hPN hPY
                clear hr hb3 tr hI3
                have hal : Hid (∀ o, Ext wr (wr.alloc o)) := fun o => (Below.refl _ _).alloc (Nat.le_refl _) _
                cases hp : (eqS r.space fr && eqS r.name b.role) with
                | false =>
                  have HE2 : Hid (pickTo b g.roles (j + 1) = pickTo b g.roles j) := by unfold Hid; rw [HSUC2.out, hPN.out hp, List.append_nil]
                  cases h1 : (r.space.toList == fr.toList) with
                  | false =>
                    clear hp
                    go_wp2
                    go_roundw
                    case rel => exact ⟨j + 1, A8, c8, hjl, by go_num, by rw [HE2.out], by rw [HE2.out]; exact hO'.out.ext (hal.out _) HBW.out.1, hM'.out.trans (.of_ext (hal.out _))⟩
                    case measure => simp [intOf]; omega
                  | true =>
                    have h2 : (r.name.toList == b.role.toList) = false := by unfold eqS at hp; rw [h1] at hp; simpa using hp
                    clear hp
                    go_wp2
                    go_roundw
                    case rel => exact ⟨j + 1, A8, c8, hjl, by go_num, by rw [HE2.out], by rw [HE2.out]; exact hO'.out.ext (hal.out _) HBW.out.1, hM'.out.trans (.of_ext (hal.out _))⟩
                    case measure => simp [intOf]; omega
                | true =>
                  have HE2 : Hid (pickTo b g.roles (j + 1) = pickTo b g.roles j ++ r.rules) := by unfold Hid; rw [HSUC2.out, hPY.out hp]
                  have h1 : (r.space.toList == fr.toList) = true := (Bool.and_eq_true_iff.1 hp).1
                  have h2 : (r.name.toList == b.role.toList) = true := (Bool.and_eq_true_iff.1 hp).2
                  have HSM : Hid ((heldTo g u sp i ++ pickTo b g.roles j).length + r.rules.length ≤ 1099511627776) := by
                    have e1 := HLP.out
                    rw [HE2.out, List.length_append] at e1
                    have e2 := HLE.out
                    have e3 := HF.out.2
                    unfold Hid
                    rw [List.length_append]
                    omega
                  clear hp
                  go_wp2_with (at_builtin; refine append_rules rfl _ _ rfl B w0.heap.size _ _ (heldTo g u sp i ++ pickTo b g.roles j) _ _ r.rules rfl rfl (hO'.out.ext (hal.out _) HBW.out.1) (HTR.out.below ((hal.out _).mono HBW.out.1) (Nat.le_refl _)) HSM.out HS0.out ?c4 ?_)
                  case c4 => exact Nat.le_trans HBW.out.2 (hal.out _).size
                  intro A9 c9 w4 hown hm
                  have HOWN := Lib.hid hown
                  have HM4 := Lib.hid ((ModR.of_ext (hal.out _)).trans hm)
                  clear hown hm
                  go_wp2
                  go_roundw
                  case rel => exact ⟨j + 1, A9, c9, hjl, by go_num, by rw [HE2.out]; simp only [List.length_append], by unfold Hid; rw [HE2.out]; simpa only [List.length_append] using HOWN.out, hM'.out.trans HM4.out⟩
                  case measure => simp [intOf]; omega
              · obtain rfl : j = g.roles.length := by omega
                go_wp2
                go_roundw
                case rel => exact ⟨i + 1, A8, c8, hlt, by go_num, by rw [HE.out], by rw [HE.out]; exact hO', HM2.out.trans hM'.out⟩
                case measure => simp [intOf]; omega
        · have HE := Lib.hid (HSK.out (by simpa using hg))
          have hz : ¬ b.space.size = 0 := fun h => hg (by unfold gives; rw [hfor]; simp [h])
          have e1 := isEmpty_of_pos (s := b.space) (by omega)
          have e2 : (b.space.toList == sp.toList) = false := by
            cases h : (b.space.toList == sp.toList) with
            | false => rfl
            | true => exact absurd (show gives b u sp = true by unfold gives eqS; rw [hfor, h]; simp) hg
          have e3 : (b.space.toList != sp.toList) = true := by unfold bne; rw [e2]; rfl
          clear hfor hg hz
          go_wp2
          go_roundw
          case rel => exact ⟨i + 1, A7, c7, hlt, by go_num, by rw [HE.out], by rw [HE.out]; exact HO2, HM2⟩
          case measure => simp [intOf]; omega
    · obtain rfl : i = g.binds.length := by omega
      have hR : Hid (RulesR wr.heap.size wr (.slice A7 (heldTo g u sp g.binds.length).length c7) (heldTo g u sp g.binds.length)) := hO.out.toR (heldL_few HF.out u sp) (Nat.le_trans HS0.out hM.out.size)
      have HE : Hid (Ext w wr) := Below.trans HX0.out ((hM.out.below (Nat.le_refl _)).mono HX0.out.size)
      go_wp2
      go_ret
      exact ⟨A7, c7, rfl, hR.out, HE.out⟩
end Go.Proofs.YtplfimoeggecjaaDoor.Sx
