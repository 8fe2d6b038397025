/-
  The reference's held: the walk: it gathers what the program's grants.held gathers.
-/
import Derived.Test.YtplfimoeggecjaaDoorHld2
namespace Go.Proofs.YtplfimoeggecjaaDoor.Sx
open Go Go.RowKit

def isTo (b : Bind) (u : User) (k : Nat) : Bool := hasS b.users u.name || groupsFor b (u.groups.take k)
theorem isTo_zero (b : Bind) (u : User) : isTo b u 0 = hasS b.users u.name := by simp [isTo, groupsFor]
theorem isTo_all (b : Bind) (u : User) : isTo b u u.groups.length = isForB b u := by simp [isTo, isForB]
theorem isTo_succ {b : Bind} {u : User} {k : Nat} (h : k < u.groups.length) : isTo b u (k + 1) = (isTo b u k || hasS b.groups u.groups[k]) := by
  unfold isTo groupsFor
  rw [List.take_succ_eq_append_getElem h, List.any_append]
  simp [Bool.or_assoc]
def accTo (b : Bind) (g : Grants) (u : User) (sp : ByteArray) (k : Nat) : List Rule := if gives b u sp then pickTo b g.roles k else []
theorem accTo_zero (b : Bind) (g : Grants) (u : User) (sp : ByteArray) : accTo b g u sp 0 = [] := by unfold accTo; split <;> rfl
def hit (b : Bind) (u : User) (sp : ByteArray) (r : Role) : Bool := gives b u sp && picks b r
theorem accTo_hit {b : Bind} {g : Grants} {u : User} {sp : ByteArray} {k : Nat} (hk : k < g.roles.length) (h : hit b u sp g.roles[k] = true) : accTo b g u sp (k + 1) = accTo b g u sp k ++ g.roles[k].rules := by
  unfold hit at h
  obtain ⟨h1, h2⟩ := Bool.and_eq_true_iff.1 h
  unfold accTo
  rw [h1, if_pos rfl, if_pos rfl, pickTo_succ hk]
  unfold rulesOf
  rw [h2, if_pos rfl]
theorem accTo_not {b : Bind} {g : Grants} {u : User} {sp : ByteArray} {k : Nat} (hk : k < g.roles.length) (h : hit b u sp g.roles[k] = false) : accTo b g u sp (k + 1) = accTo b g u sp k := by
  unfold hit at h
  unfold accTo
  cases h1 : gives b u sp with
  | false => rfl
  | true =>
    rw [h1] at h
    have h2 : picks b g.roles[k] = false := by simpa using h
    rw [if_pos rfl, if_pos rfl, pickTo_succ hk]
    unfold rulesOf
    rw [h2]
    simp
theorem accTo_le (b : Bind) (g : Grants) (u : User) (sp : ByteArray) (k : Nat) : (accTo b g u sp k).length ≤ totalR g.roles := by
  unfold accTo
  split
  · exact pickTo_le _ _ _
  · simp
theorem eqS_none (s : ByteArray) : eqS s ⟨#[]⟩ = s.toList.isEmpty := by
  unfold eqS
  rw [ByteArray.toList_eq, ByteArray.toList_eq]
  cases s.data.toList <;> rfl
theorem empty_none (s : ByteArray) : s.toList.isEmpty = decide (s.size = 0) := by
  by_cases h : s.size = 0
  · rw [isEmpty_of_zero h]; simp [h]
  · rw [isEmpty_of_pos (by omega)]; simp [h]

theorem hit_ways (b : Bind) (u : User) (sp : ByteArray) (r : Role) (th : Bool) (hth : eqS r.space (fromS b) = th) :
    (isForB b u = false ∧ hit b u sp r = false) ∨ (isForB b u = true ∧ th = false ∧ hit b u sp r = false) ∨ (isForB b u = true ∧ th = true ∧ (r.name.toList == b.role.toList) = false ∧ hit b u sp r = false) ∨
      (isForB b u = true ∧ th = true ∧ (r.name.toList == b.role.toList) = true ∧ b.space.toList.isEmpty = true ∧ hit b u sp r = true) ∨
      (isForB b u = true ∧ th = true ∧ (r.name.toList == b.role.toList) = true ∧ b.space.toList.isEmpty = false ∧ (b.space.toList == sp.toList) = true ∧ hit b u sp r = true) ∨
      (isForB b u = true ∧ th = true ∧ (r.name.toList == b.role.toList) = true ∧ b.space.toList.isEmpty = false ∧ (b.space.toList == sp.toList) = false ∧ hit b u sp r = false) := by
  unfold hit gives picks
  rw [hth, ← empty_none]
  show _
  have e1 : eqS r.name b.role = (r.name.toList == b.role.toList) := rfl
  have e2 : eqS b.space sp = (b.space.toList == sp.toList) := rfl
  rw [e1, e2]
  cases isForB b u <;> cases th <;> cases (r.name.toList == b.role.toList) <;> cases b.space.toList.isEmpty <;> cases (b.space.toList == sp.toList) <;> simp

set_option maxRecDepth 100000 in
set_option maxHeartbeats 4000000 in
theorem rheld_any (B : Nat) (vr vb vu : Value) (g : Grants) (u : User) (sp : ByteArray) (w : World) (hB : B ≤ w.heap.size) (hr : RolesAt B w vr g.roles) (hb : BindsAt B w vb g.binds) (hu : StrsR B w vu u.groups) (hf : g.few) :
    Calls Tryd.prog 26 #[.agg #[vr, vb], .agg #[.string u.name, vu], .string sp] w fun e w' => ∃ A c, e = .returned (.slice A (heldL g u sp).length c) ∧ RulesR w'.heap.size w' (.slice A (heldL g u sp).length c) (heldL g u sp) ∧ Ext w w' := by
  have HV := Lib.hid (And.intro hr (And.intro hb hu))
  have HF := Lib.hid hf
  obtain ⟨hn1, A, c, rfl, _⟩ := hr
  obtain ⟨hn2, A', c', rfl, _⟩ := hb
  obtain ⟨hn3, Au, cu, rfl, _⟩ := hu
  clear hf
  go_enter Tryd.func26, Tryd.ntmps26
  go_wp2
  obtain ⟨w0, hw0⟩ : ∃ w0, w0 = (w.alloc (.cells #[.slice A g.roles.length c, .slice A' g.binds.length c'] 25)).alloc (.cells #[.string u.name, .slice Au u.groups.length cu] 28) := ⟨_, rfl⟩
  have hx0 : Ext w w0 := by rw [hw0]; exact ((Below.refl _ _).alloc (Nat.le_refl _) _).alloc (by simp) _
  have hI0 : HeldIn B w0 w.heap.size g u A A' Au c c' cu := by
    have hbl := hx0.mono hB
    refine ⟨?_, ?_, HV.out.1.below hbl, HV.out.2.1.below hbl, HV.out.2.2.below hbl (Nat.le_refl _)⟩
    · rw [hw0]; exact heap_old (heap_new rfl)
    · rw [hw0]; exact heap_new (by simp)
  have hs0 : w0.heap.size = w.heap.size + 2 := by rw [hw0]; simp
  rw [← hw0]
  obtain ⟨g0, g1⟩ := cells2 hI0.1
  have HX0 := Lib.hid hx0
  have H0 := Lib.hid hI0
  have HS0 : Hid (B ≤ w0.heap.size) := by unfold Hid; omega
  clear hw0 hx0 hI0 hs0
  go_wp2
  go_loopw [7, 19] (fun v k wr => ∃ (i : Nat) (A7 : Option Addr) (c7 : Nat), i ≤ g.binds.length ∧ k = .int .i64 i ∧ v = .slice A7 (heldTo g u sp i).length c7 ∧ Hid (OwnRules B w0.heap.size wr (.slice A7 (heldTo g u sp i).length c7) (heldTo g u sp i)) ∧ Hid (ModR rT w0.heap.size w0 wr))
    (fun _ k _ => g.binds.length - (intOf k).toNat)
  case atStart => exact ⟨0, none, 0, Nat.zero_le _, rfl, rfl, OwnRules.nil, ModR.refl⟩
  case round =>
    obtain ⟨i, A7, c7, hi, rfl, rfl, hO, hM⟩ := hrel
    by_cases hlt : i < g.binds.length
    · have hI := H0.out.mod hM.out HS0.out (Nat.le_refl _)
      obtain ⟨blk, off, A1, c1, A2, c2, rfl, _, x0, x1, x2, x3, x4, x5, t1, t2⟩ := hI.2.2.2.1.at_ hlt
      have HSUC := Lib.hid (heldTo_succ (u := u) (sp := sp) hlt)
      have HLE := Lib.hid (heldTo_few HF.out u sp hi)
      obtain ⟨b, hb⟩ : ∃ b, b = g.binds[i] := ⟨_, rfl⟩
      rw [← hb] at x0 x1 x2 x3 x4 x5 t1 t2 HSUC
      clear hb
      have hBr : B ≤ wr.heap.size := Nat.le_trans HS0.out hM.out.size
      have hbase : w0.heap.size ≤ wr.heap.size := hM.out.size
      have yo0 := fun o => (old_cells2 hI.2.1 o).1
      have yo1 := fun o => (old_cells2 hI.2.1 o).2
      have HC := Lib.hid (And.intro t1 (And.intro t2 hI))
      clear t1 t2 hI
      go_wp2_with fail
      obtain ⟨w1, hw1⟩ : ∃ w1, w1 = wr.alloc (.cells #[.string b.space, .string b.name, .string b.role, .bool b.whole, .slice A1 b.users.length c1, .slice A2 b.groups.length c2] 71) := ⟨_, rfl⟩
      have hx1 : Ext wr w1 := by rw [hw1]; exact (Below.refl _ _).alloc (Nat.le_refl _) _
      have hb1 : BindIn w1 wr.heap.size b A1 A2 c1 c2 := by rw [hw1]; exact heap_new rfl
      rw [← hw1]
      have hbl1 := hx1.mono hBr
      have HS1 : Hid (StrsR B w1 (.slice A1 b.users.length c1) b.users ∧ StrsR B w1 (.slice A2 b.groups.length c2) b.groups) := ⟨HC.out.1.below hbl1 (Nat.le_refl _), HC.out.2.1.below hbl1 (Nat.le_refl _)⟩
      have HI1 : Hid (HeldIn B w1 w.heap.size g u A (some ⟨blk, off, none⟩) Au c c' cu) := HC.out.2.2.mod (.of_ext hx1) hBr (Nat.le_refl _)
      have HO1 : Hid (OwnRules B w0.heap.size w1 (.slice A7 (heldTo g u sp i).length c7) (heldTo g u sp i)) := hO.out.ext hx1 hBr
      have HM1 : Hid (ModR rT w0.heap.size w0 w1) := hM.out.trans (.of_ext hx1)
      have HZ1 : Hid (w0.heap.size ≤ w1.heap.size) := Nat.le_trans hbase hx1.size
      obtain ⟨kb, hkb⟩ : ∃ kb, kb = wr.heap.size := ⟨_, rfl⟩
      rw [← hkb] at hb1
      rw [← hkb]
      obtain ⟨z0, z1, z2, z3, z4, z5⟩ := cells6 hb1
      obtain ⟨g2, g3⟩ := cells2 HI1.out.1
      obtain ⟨g4, g5⟩ := cells2 HI1.out.2.1
      have HB1 := Lib.hid hb1
      clear hw1 hx1 hb1 hbl1 hkb hBr hbase yo0 yo1 x0 x1 x2 x3 x4 x5 HC hO hM
      have HSU : Hid (heldTo g u sp (i + 1) = heldTo g u sp i ++ accTo b g u sp g.roles.length) := HSUC.out
      clear HSUC
      refine Calls.mono (rhas_any _ HS1.out.1) ?_
      rintro e w' ⟨rfl, rfl⟩
      go_wp2
      go_loopw [10, 31] (fun v k wr => ∃ j : Nat, j ≤ u.groups.length ∧ k = .int .i64 j ∧ v = .bool (isTo b u j) ∧ w1 = wr) (fun _ k _ => u.groups.length - (intOf k).toNat)
      case atStart => exact ⟨0, Nat.zero_le _, rfl, by rw [isTo_zero], rfl⟩
      case round =>
        obtain ⟨j, hj, rfl, rfl, rfl⟩ := hrel
        by_cases hjl : j < u.groups.length
        · obtain ⟨bb, off', c3, hv, _, hc⟩ := StrsR.cells HI1.out.2.2.2.2 (by omega)
          injection hv with q1 q2 q3
          subst q1 q3
          have hcell := (hc j hjl).1
          have HS := Lib.hid (isTo_succ (b := b) hjl)
          obtain ⟨x, hx⟩ : ∃ x, x = u.groups[j] := ⟨_, rfl⟩
          rw [← hx] at hcell HS
          clear hx hc q2
          obtain ⟨p, hp⟩ : ∃ p, p = isTo b u j := ⟨_, rfl⟩
          rw [← hp] at HS
          rw [← hp]
          clear hp
          cases p with
          | true =>
            go_wp2
            go_roundw
            case rel => exact ⟨j + 1, hjl, by go_num, by rw [HS.out]; rfl, (by first | rfl | trivial)⟩
            case measure => simp [intOf]; omega
          | false =>
            go_wp2_with (go_at_call 13; refine (rhas_any _ HS1.out.2).mono ?_; rintro e w' ⟨rfl, rfl⟩)
            go_roundw
            case rel => exact ⟨j + 1, hjl, by go_num, by rw [HS.out]; rfl, (by first | rfl | trivial)⟩
            case measure => simp [intOf]; omega
        · obtain rfl : j = u.groups.length := by omega
          rw [isTo_all]
          go_wp2
          go_loopw [7, 46] (fun v k wr => ∃ (j : Nat) (A8 : Option Addr) (c8 : Nat), j ≤ g.roles.length ∧ k = .int .i64 j ∧ v = .slice A8 (heldTo g u sp i ++ accTo b g u sp j).length c8 ∧ Hid (OwnRules B w0.heap.size wr (.slice A8 (heldTo g u sp i ++ accTo b g u sp j).length c8) (heldTo g u sp i ++ accTo b g u sp j)) ∧ Hid (ModR rT w0.heap.size w1 wr))
            (fun _ k _ => g.roles.length - (intOf k).toNat)
          case atStart => exact ⟨0, A7, c7, Nat.zero_le _, rfl, by rw [accTo_zero, List.append_nil], by rw [accTo_zero, List.append_nil]; exact HO1, ModR.refl⟩
          case round =>
            obtain ⟨j, A8, c8, hj, rfl, rfl, hO', hM'⟩ := hrel
            by_cases hjl : j < g.roles.length
            · have hI3 := HI1.out.mod hM'.out HS0.out HZ1.out
              obtain ⟨blk2, off2, A3, c3, rfl, _, r0, r1, r2, tr⟩ := hI3.2.2.1.at_ hjl
              have hb3 : BindIn wr kb b A1 A2 c1 c2 := hM'.out.heap HB1.out (by decide)
              have zo0 := fun o => past_cell hb3 0 o
              have zo2 := fun o => past_cell hb3 2 o
              have zo3 := fun o => past_cell hb3 3 o
              simp at zo0 zo2 zo3
              have hkbl := heap_lt hb3
              have hne : kb ≠ wr.heap.size := by omega
              have HLP := Lib.hid (accTo_le b g u sp (j + 1))
              have HTR := Lib.hid (RulesAt.toR tr)
              have HBW : Hid (B ≤ wr.heap.size ∧ w0.heap.size ≤ wr.heap.size) := ⟨Nat.le_trans HS0.out (Nat.le_trans HZ1.out hM'.out.size), Nat.le_trans HZ1.out hM'.out.size⟩
              have hPN := Lib.hid (fun (h : hit b u sp g.roles[j] = false) => accTo_not hjl h)
              have hPY := Lib.hid (fun (h : hit b u sp g.roles[j] = true) => accTo_hit hjl h)
              obtain ⟨r, hr⟩ : ∃ r, r = g.roles[j] := ⟨_, rfl⟩
              rw [← hr] at r0 r1 r2 HTR hPN hPY
              clear hr hb3 tr hI3
              have hal : Hid (∀ o, Ext wr (wr.alloc o)) := fun o => (Below.refl _ _).alloc (Nat.le_refl _) _
              have hways : ∃ th, (b.whole = true → r.space.toList.isEmpty = th) ∧ (b.whole = false → (r.space.toList == b.space.toList) = th) ∧ eqS r.space (fromS b) = th := by
                refine ⟨_, fun h => ?_, fun h => ?_, rfl⟩
                · unfold fromS; rw [h, if_pos rfl, eqS_none]
                · unfold fromS; rw [h]; rfl
              obtain ⟨th, hw1, hw2, hth⟩ := hways
              have ways := hit_ways b u sp r th hth
              clear hth
              have hwx : (b.whole = true ∧ r.space.toList.isEmpty = th) ∨ (b.whole = false ∧ (r.space.toList == b.space.toList) = th) := by
                cases hwh : b.whole with
                | true => exact .inl ⟨rfl, hw1 hwh⟩
                | false => exact .inr ⟨rfl, hw2 hwh⟩
              clear hw1 hw2
              rcases hwx with ⟨hwh, h1⟩ | ⟨hwh, h1⟩ <;> rw [hwh] at zo3 <;> rcases ways with ⟨h0, hh⟩ | ⟨h0, rfl, hh⟩ | ⟨h0, rfl, h2, hh⟩ | ⟨h0, rfl, h2, h3, hh⟩ | ⟨h0, rfl, h2, h3, h4, hh⟩ | ⟨h0, rfl, h2, h3, h4, hh⟩
              all_goals
                rw [h0]
                clear hwh h0
                first
                | (have HE2 : Hid (accTo b g u sp (j + 1) = accTo b g u sp j) := hPN.out hh
                   clear hh
                   go_wp2_with fail
                   go_roundw
                   case rel => exact ⟨j + 1, A8, c8, hjl, by go_num, by rw [HE2.out], by rw [HE2.out]; exact hO'.out.ext (hal.out _) HBW.out.1, hM'.out.trans (.of_ext (hal.out _))⟩
                   case measure => simp [intOf]; omega)
                | (have HE2 : Hid (accTo b g u sp (j + 1) = accTo b g u sp j ++ r.rules) := hPY.out hh
                   clear hh
                   have HSM : Hid ((heldTo g u sp i ++ accTo b g u sp j).length + r.rules.length ≤ 1099511627776) := by
                     have e1 := HLP.out
                     rw [HE2.out, List.length_append] at e1
                     have e2 := HLE.out
                     have e3 := HF.out.2
                     unfold Hid
                     rw [List.length_append]
                     omega
                   go_wp2_with (at_builtin; refine append_rules rfl _ _ rfl B w0.heap.size _ _ (heldTo g u sp i ++ accTo b g u sp j) _ _ r.rules rfl rfl (hO'.out.ext (hal.out _) HBW.out.1) (HTR.out.below ((hal.out _).mono HBW.out.1) (Nat.le_refl _)) HSM.out HS0.out (Nat.le_trans HBW.out.2 (hal.out _).size) ?_)
                   intro A9 c9 w4 hown hm
                   have HOWN := Lib.hid hown
                   have HM4 := Lib.hid ((ModR.of_ext (hal.out _)).trans hm)
                   clear hown hm
                   go_wp2
                   go_roundw
                   case rel => exact ⟨j + 1, A9, c9, hjl, by go_num, by rw [HE2.out]; simp only [List.length_append], by unfold Hid; rw [HE2.out]; simpa only [List.length_append] using HOWN.out, hM'.out.trans HM4.out⟩
                   case measure => simp [intOf]; omega)
            · obtain rfl : j = g.roles.length := by omega
              go_wp2
              go_roundw
              case rel => exact ⟨i + 1, A8, c8, hlt, by go_num, by rw [HSU.out], by rw [HSU.out]; exact hO', HM1.out.trans hM'.out⟩
              case measure => simp [intOf]; omega
    · obtain rfl : i = g.binds.length := by omega
      have hR : Hid (RulesR wr.heap.size wr (.slice A7 (heldTo g u sp g.binds.length).length c7) (heldTo g u sp g.binds.length)) := hO.out.toR (heldL_few HF.out u sp) (Nat.le_trans HS0.out hM.out.size)
      have HE : Hid (Ext w wr) := Below.trans HX0.out ((hM.out.below (Nat.le_refl _)).mono HX0.out.size)
      go_wp2
      go_ret
      exact ⟨A7, c7, rfl, hR.out, HE.out⟩
end Go.Proofs.YtplfimoeggecjaaDoor.Sx
