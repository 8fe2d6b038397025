/-
  Schemas, the reference: SchemaCheck and SchemaFaults, where its faults answer.
  The laws SchemaChecks and SchemaFinds: the program's Check and Faults answer as the reference's.
-/
import Derived.Test.YtnccefeehkcneaaGreatDoorScw
import Derived.Test.YtnccefeehkcneaaGreatDoorScl
namespace Go.Proofs.YtnccefeehkcneaaGreatDoor.Sc
open Go Go.RowKit Go.Proofs.YtnccefeehkcneaaGreatDoor.Js Go.Proofs.YtnccefeehkcneaaGreatDoor.Sx Go.Proofs.YtnccefeehkcneaaGreatDoor.Pt Go.Proofs.YtnccefeehkcneaaGreatDoor.Jm Go.Proofs.YtnccefeehkcneaaGreatDoor.Gr Go.Proofs.YtnccefeehkcneaaGreatDoor.Ur
theorem check_empty {s : List PartS} (h : s.length = 0) : checkS s = 1 := by
  have : s = [] := List.length_eq_zero_iff.1 h
  rw [this]
  decide
theorem check_large {s : List PartS} (h : 30 < s.length) : checkS s = 2 := by
  have h1 : headC s.length = 2 := by
    unfold headC
    rw [decide_eq_true (by omega), need_true, decide_eq_false (by omega)]
    rfl
  have h2 : partsC s = 2 := by unfold partsC; rw [h1]; exact parts_bad (by decide) _
  unfold checkS
  rw [h2]
  exact defs_bad (by decide) _
theorem head_fine {n : Nat} (h1 : 0 < n) (h2 : n ≤ 30) : headC n = 0 := by
  unfold headC
  rw [decide_eq_true h1, need_true, decide_eq_true h2, need_true]
theorem tail_doc_ok {s : List PartS} (hg : GoodS s) {i : Nat} (hi : i < s.length) (hz : (partAt s i).dflt.size ≠ 0) : ∃ j, readS (partAt s i).dflt.data.toList = .ok j := by
  have h4 := (part_good (hg i hi)).2.2.2
  unfold tailS at h4
  rw [if_neg hz] at h4
  by_cases hb : (partAt s i).enum.foldl docS 0 = 0
  · rw [hb, doc_zero] at h4
    exact errOf_zero h4
  · rw [doc_bad hb] at h4
    exact absurd h4 hb
set_option maxRecDepth 100000 in
set_option maxHeartbeats 8000000 in
theorem rcheck_core (HRF : ∀ v, RFaultC v) (s : List PartS) (sv : Value) (w : World) (hs : PartsR w.heap.size w sv s) (hsm : SmallS s) :
    Calls Tryz.prog 9 #[sv] w fun e w' => e = .returned (.int .i64 (checkS s)) ∧ Ext w w' := by
  obtain ⟨A0, c0, rfl⟩ := hs.slice
  have hn0 := hs.1
  have HS := Lib.hid hs
  have HSM := Lib.hid hsm
  obtain ⟨SN, hSN⟩ : ∃ n, n = s.length := ⟨_, rfl⟩
  have HSN := Lib.hid hSN
  have hSNs : SN ≤ 1099511627776 := by omega
  have HRF2 := Lib.hid HRF
  obtain ⟨PB, hPB⟩ : ∃ PB : Nat → Int, ∀ q, PB q = (List.range q).foldl (partC s) (headC s.length) := ⟨_, fun _ => rfl⟩
  have HPB : Hid (PB 0 = headC s.length ∧ (∀ q, q < s.length → PB q = 0 → PB (q + 1) = partS s.length q 0 (partAt s q)) ∧ (∀ q, q ≤ s.length → PB q ≠ 0 → PB q = checkS s) ∧ ∀ q, q = s.length → PB q = partsC s) := by
    have hst : ∀ q, PB (q + 1) = partC s (PB q) q := fun q => by
      rw [hPB (q + 1), List.range_succ, List.foldl_append, List.foldl_cons, List.foldl_nil, ← hPB]
    have hend : PB s.length = partsC s := by rw [hPB]; rfl
    refine ⟨by rw [hPB]; rfl, fun q hq h => ?_, fun q hq h => ?_, fun q hq => by rw [hq]; exact hend⟩
    · rw [hst, h]
      unfold partC
      exact if_pos rfl
    · have hup : ∀ d, PB (q + d) = PB q := fun d => by
        induction d with
        | zero => rfl
        | succ d ih =>
          rw [← Nat.add_assoc, hst, ih]
          unfold partC
          exact if_neg h
      have h3 : PB s.length = PB q := by
        have := hup (s.length - q)
        rwa [show q + (s.length - q) = s.length by omega] at this
      unfold checkS
      rw [← hend, h3, defs_bad h]
  rw [← hSN] at HS ⊢
  clear hs hsm hSN hPB hn0 HRF
  by_cases hz : SN = 0
  · have HZ : Hid (checkS s = 1) := check_empty (by rw [← HSN.out]; exact hz)
    subst hz
    go_enter Tryz.func9, Tryz.ntmps9
    go_wp2_with fail
    go_ret
    exact ⟨by rw [HZ.out]; rfl, Below.refl _ _⟩
  · have hb0 : ((SN : Int) == 0) = false := by rw [beq_eq_false_iff_ne]; omega
    by_cases hl : 30 < SN
    · have HZ : Hid (checkS s = 2) := check_large (by rw [← HSN.out]; exact hl)
      have d1 : decide ((SN : Int) > 30) = true := decide_eq_true (by omega)
      have d2 : decide (SN > 30) = true := decide_eq_true hl
      clear hl hz
      go_enter Tryz.func9, Tryz.ntmps9
      go_wp2_with fail
      go_ret
      exact ⟨by rw [HZ.out]; rfl, Below.refl _ _⟩
    · have d1 : decide ((SN : Int) > 30) = false := decide_eq_false (by omega)
      have d2 : decide (SN > 30) = false := decide_eq_false hl
      have hSN3 : SN ≤ 30 := by omega
      have HFEW : Hid (s.length ≤ 30) := by unfold Hid; rw [← HSN.out]; exact hSN3
      have HP0 : Hid (PB 0 = 0) := by unfold Hid; rw [HPB.out.1, ← HSN.out]; exact head_fine (by omega) hSN3
      clear hl hz
      go_enter Tryz.func9, Tryz.ntmps9
      go_wp2_with fail
      clear hb0 d1 d2
      go_loopw [17] (fun ix wr => ∃ q : Nat, q ≤ SN ∧ ix = .int .i64 (q : Int) ∧ Hid (Ext w wr ∧ PB q = 0)) (fun ix _ => SN - (intOf ix).toNat)
      case atStart => exact ⟨0, Nat.zero_le _, rfl, Below.refl _ _, HP0.out⟩
      case round =>
        obtain ⟨q, hq, rfl, hR⟩ := hrel
        by_cases hlt : q < SN
        · have hql : q < s.length := by rw [← HSN.out]; exact hlt
          have hltI : (q : Int) < (SN : Int) := by omega
          have HE := Lib.hid (HPB.out.2.1 q hql hR.out.2)
          have HEN := Lib.hid (HPB.out.2.2.1 (q + 1) (by omega))
          obtain ⟨bb, off, c9, v1, v2, v3, hv9, hbB, hcl, hF, hN, hEn, -, -⟩ := PartsR.cells (HS.out.below hR.out.1) hql
          injection hv9 with e1 e2 e3
          clear e2
          subst e1 e3
          rw [← part_at hql] at hcl hF hN hEn
          obtain ⟨p, hp⟩ : ∃ p, p = partAt s q := ⟨_, rfl⟩
          rw [← hp] at hcl hF hN hEn HE
          have hsm := HSM.out q hql
          rw [← hp] at hsm
          obtain ⟨A1, c1, rfl⟩ := hF.slice
          obtain ⟨A2, c2, rfl⟩ := StrsR.slice' hN
          obtain ⟨A3, c3, rfl⟩ := StrsR.slice' hEn
          have hneed : p.need.length ≤ 1099511627776 := by have := hN.1; omega
          obtain ⟨r0, r1, r2, r3, r4, r5, r6, r7, r8⟩ := hcl
          have HFE : Hid (FldsR w.heap.size wr (.slice A1 p.fields.length c1) p.fields ∧ StrsR w.heap.size wr (.slice A3 p.enum.length c3) p.enum) := ⟨hF, hEn⟩
          have CP : Hid (∀ W, Ext wr W → Calls Tryz.prog 28 #[.slice (some ⟨bb, off, none⟩) SN c0, .int .i64 (q : Int), .agg #[.int .i64 p.kind, .slice A1 p.fields.length c1, .slice A2 p.need.length c2, .bool p.extra, .int .i64 p.items, .int .i64 p.least, .int .i64 p.most, .slice A3 p.enum.length c3, .string p.dflt]] W fun e w' => e = .returned (.int .i64 (PB (q + 1))) ∧ Ext W w') := fun W hW => by
            rw [HE.out, ← HSN.out]
            have hz := hR.out.1.size
            exact rpart_any q SN p _ A1 A2 A3 c0 c1 c2 c3 W (by omega) hlt (SlR.below (HFE.out.1.below (hW.mono hz)) (Below.refl _ _) (Nat.le_trans hz hW.size) fun _ _ h => h) (HFE.out.2.below (hW.mono hz) (Nat.le_trans hz hW.size)) hsm.1 hneed hsm.2
          obtain ⟨NF, hNF⟩ : ∃ n, n = p.fields.length := ⟨_, rfl⟩
          obtain ⟨NN, hNN⟩ : ∃ n, n = p.need.length := ⟨_, rfl⟩
          obtain ⟨NE, hNE⟩ : ∃ n, n = p.enum.length := ⟨_, rfl⟩
          rw [← hNF] at r1 CP
          rw [← hNN] at r2 CP
          rw [← hNE] at r7 CP
          clear hF hN hEn hbB hp hsm hneed hNF hNN hNE
          go_upto_region 8 with (fail)
          obtain ⟨kb, hkb⟩ : ∃ n, n = wr.heap.size := ⟨_, rfl⟩
          rw [← hkb]
          generalize hW : World.alloc wr _ = wk
          have HXK : Hid (Ext wr wk) := by rw [← hW]; exact new_ext _ _
          have hbk : wk.heap[kb]? = some (.cells #[.int .i64 p.kind, .slice A1 NF c1, .slice A2 NN c2, .bool p.extra, .int .i64 p.items, .int .i64 p.least, .int .i64 p.most, .slice A3 NE c3, .string p.dflt] partT (0, 0)) := by rw [← hW]; exact heap_new hkb
          have a0 : wk.cell? ⟨kb, 0, none⟩ = some (.int .i64 p.kind) := cell_of hbk 0
          have a1 : wk.cell? ⟨kb, 1, none⟩ = some (.slice A1 NF c1) := cell_of hbk 1
          have a2 : wk.cell? ⟨kb, 2, none⟩ = some (.slice A2 NN c2) := cell_of hbk 2
          have a3 : wk.cell? ⟨kb, 3, none⟩ = some (.bool p.extra) := cell_of hbk 3
          have a4 : wk.cell? ⟨kb, 4, none⟩ = some (.int .i64 p.items) := cell_of hbk 4
          have a5 : wk.cell? ⟨kb, 5, none⟩ = some (.int .i64 p.least) := cell_of hbk 5
          have a6 : wk.cell? ⟨kb, 6, none⟩ = some (.int .i64 p.most) := cell_of hbk 6
          have a7 : wk.cell? ⟨kb, 7, none⟩ = some (.slice A3 NE c3) := cell_of hbk 7
          have a8 : wk.cell? ⟨kb, 8, none⟩ = some (.string p.dflt) := cell_of hbk 8
          clear hW hkb hbk r0 r1 r2 r3 r4 r5 r6 r7 r8
          go_wp2_with fail
          refine Calls.mono (CP.out wk HXK.out) ?_
          rintro e w4 ⟨rfl, x4⟩
          have X4 : Hid (Ext w w4) := hR.out.1.trans (HXK.out.trans x4)
          clear x4 a0 a1 a2 a3 a4 a5 a6 a7 a8
          obtain ⟨y, hy⟩ : ∃ y, y = PB (q + 1) := ⟨_, rfl⟩
          rw [← hy] at HEN ⊢
          have HY := Lib.hid hy
          clear hy
          by_cases h0 : y = 0
          · have b1 : (y != 0) = false := by rw [h0]; rfl
            have HS0 : Hid (PB (q + 1) = 0) := by unfold Hid; rw [← HY.out]; exact h0
            clear h0
            go_wp2_with fail
            go_roundw
            case rel => exact ⟨q + 1, hlt, by go_num, X4.out, HS0.out⟩
            case measure => simp [intOf]; omega
          · have b1 : (y != 0) = true := bne_iff_ne.2 h0
            have HRES := Lib.hid (HEN.out h0)
            clear h0
            go_wp2_with fail
            go_ret
            exact ⟨by rw [HRES.out]; rfl, X4.out⟩
        · have hqN : q = SN := by omega
          have bl : decide ((q : Int) < (SN : Int)) = false := decide_eq_false (by omega)
          have bl2 : decide (q < SN) = false := decide_eq_false hlt
          have HP : Hid (partsC s = 0) := by
            have h := HPB.out.2.2.2 q (by rw [hqN]; exact HSN.out)
            rw [hR.out.2] at h
            exact h.symm
          have HG : Hid (GoodS s) := parts_good HP.out
          obtain ⟨wa, hwa⟩ : ∃ x, x = wr := ⟨_, rfl⟩
          have HXA : Hid (Ext w wa) := by unfold Hid; rw [hwa]; exact hR.out.1
          rw [← hwa]
          clear hqN hlt hR hwa hq
          go_wp2_with fail
          clear bl bl2
          go_loopw [6] (fun ix wr => ∃ m : Nat, m ≤ SN ∧ ix = .int .i64 ((m : Int) - 1) ∧ Hid (Ext w wr ∧ defsC s m 0 = checkS s)) (fun ix _ => (intOf ix + 1).toNat)
          case atStart => exact ⟨SN, Nat.le_refl _, rfl, HXA.out, by unfold checkS; rw [HP.out, HSN.out]⟩
          case round =>
            obtain ⟨m, hm, rfl, hR⟩ := hrel
            cases m with
            | zero =>
              have d1 : decide (((0 : Nat) : Int) - 1 ≥ 0) = false := by decide
              have HEQ : Hid (0 = checkS s) := hR.out.2
              go_wp2_with fail
              go_ret
              exact ⟨by rw [← HEQ.out]; rfl, hR.out.1⟩
            | succ i =>
              rw [show ((i + 1 : Nat) : Int) - 1 = (i : Int) by omega]
              have d1 : decide ((i : Int) ≥ 0) = true := decide_eq_true (by omega)
              have hil : i < s.length := by rw [← HSN.out]; exact hm
              have hiI : (i : Int) < (SN : Int) := by omega
              have HIL := Lib.hid hil
              have HDF : Hid (defsC s i (defC s i 0) = checkS s) := hR.out.2
              have hsl := (PartsR.cells (HS.out.below hR.out.1) hil)
              rw [← part_at hil] at hsl
              obtain ⟨bb, off, c9, v1, v2, v3, hv9, hbB, ⟨-, -, -, -, -, -, -, -, y8⟩, -⟩ := hsl
              injection hv9 with e1 e2 e3
              clear e2
              subst e1 e3
              obtain ⟨df, hdf⟩ : ∃ d, d = (partAt s i).dflt := ⟨_, rfl⟩
              have HDD := Lib.hid hdf
              rw [← hdf] at y8
              clear hbB hdf hil
              by_cases hz : df.size = 0
              · have z1 := isE_zero hz
                have HS1 : Hid (defC s i 0 = 0) := if_neg (fun h => h.2 (by rw [← HDD.out]; exact hz))
                clear hz
                go_wp2_with fail
                go_roundw
                case rel => exact ⟨i, Nat.le_of_succ_le hm, by go_num, hR.out.1, by rw [← HDF.out, HS1.out]⟩
                case measure => first | (simp [intOf]; done) | (simp [intOf]; omega)
              · have z1 := isE_pos hz
                have HZ := Lib.hid hz
                obtain ⟨j, hj⟩ : ∃ j, readS df.data.toList = .ok j := by
                  rw [HDD.out]
                  exact tail_doc_ok HG.out HIL.out (by rw [← HDD.out]; exact hz)
                have HJ := Lib.hid (readS_good hj)
                have HVD := Lib.hid (val_of hj)
                have CR := Lib.hid (rread_any df wr)
                rw [hj] at CR
                clear hz hj
                go_wp2_with fail
                refine Calls.mono CR.out ?_
                rintro e w6 ⟨x6, K, Bb, z, sx, Aa, na, ca, Ab, nb, cb, er, rfl, hh⟩
                obtain ⟨j2, e1, hrj⟩ : ∃ j2, Except.ok j = (Except.ok j2 : Res J) ∧ RV (fun b => wr.heap.size ≤ b) w6 j2 (v6 K Bb z sx (.slice Aa na ca) (.slice Ab nb cb)) := by
                  rcases hh with ⟨_, j2, h1, h2⟩ | ⟨_, h, _⟩
                  · exact ⟨j2, h1, h2⟩
                  · cases h
                obtain rfl : j = j2 := by injection e1
                have X6 : Hid (Ext w w6) := hR.out.1.trans x6
                have HRJ := Lib.hid hrj
                unfold v6
                clear x6 hh e1 hrj y8
                go_upto_region 17 with (fail)
                obtain ⟨gx, hgx⟩ : ∃ n, n = w6.heap.size := ⟨_, rfl⟩
                rw [← hgx]
                generalize hW : World.alloc w6 _ = w7
                have X7 : Hid (Ext w w7) := by rw [← hW]; exact X6.out.trans (new_ext _ _)
                have h7 : w7.heap[gx]? = some (.cells #[.int .i64 K, .bool Bb, .int .i64 z, .string sx, .slice Aa na ca, .slice Ab nb cb] vT (0, 0)) := by rw [← hW]; exact heap_new hgx
                have HRJ7 : Hid (RV (fun b => wr.heap.size ≤ b) w7 j (v6 K Bb z sx (.slice Aa na ca) (.slice Ab nb cb))) := by unfold Hid; rw [← hW]; exact HRJ.out.ext (new_ext _ _)
                have t0 : w7.cell? ⟨gx, 0, none⟩ = some (.int .i64 K) := cell_of h7 0
                have t1 : w7.cell? ⟨gx, 1, none⟩ = some (.bool Bb) := cell_of h7 1
                have t2 : w7.cell? ⟨gx, 2, none⟩ = some (.int .i64 z) := cell_of h7 2
                have t3 : w7.cell? ⟨gx, 3, none⟩ = some (.string sx) := cell_of h7 3
                have t4 : w7.cell? ⟨gx, 4, none⟩ = some (.slice Aa na ca) := cell_of h7 4
                have t5 : w7.cell? ⟨gx, 5, none⟩ = some (.slice Ab nb cb) := cell_of h7 5
                have CRF : Hid (Calls Tryz.prog 30 #[.slice (some ⟨bb, off, none⟩) SN c0, .int .i64 (i : Int), .agg #[.int .i64 K, .bool Bb, .int .i64 z, .string sx, .slice Aa na ca, .slice Ab nb cb], .slice none 0 0] w7 (RFlt (faultsS s j i []) w7)) := by
                  have h := HRF2.out j s i (.slice (some ⟨bb, off, none⟩) SN c0) _ w7 (fun b => wr.heap.size ≤ b) (fun _ => True) none 0 [] (PartsR.mono (HS.out.below X7.out) X7.out.size) HG.out HFEW.out HIL.out HRJ7.out HJ.out.1 (fun i hi => by cases hi) (by simp; have := HJ.out.2; omega) (by have := HJ.out.2; omega)
                  exact h
                clear hW hgx h7
                go_wp2_with fail
                refine Calls.mono CRF.out ?_
                rintro e w8 ⟨x8, B8, d8, rfl, -⟩
                have X8 : Hid (Ext w w8) := X7.out.trans x8
                obtain ⟨M, hM⟩ : ∃ M, M = (faultsS s j i []).length := ⟨_, rfl⟩
                have HS1 : Hid (defC s i 0 = needS 0 (decide (M = 0)) 19) := by
                  unfold Hid defC
                  rw [if_pos ⟨rfl, by rw [← HDD.out]; exact HZ.out⟩, ← HDD.out, HVD.out, ← hM]
                rw [← hM]
                have hMs : M ≤ 1000000 := by
                  have h1 := faults_many (good_need HG.out) j HJ.out.1 i []
                  have h2 := HJ.out.2
                  omega
                clear x8 t0 t1 t2 t3 t4 t5 hM
                by_cases hz : M = 0
                · have HS2 : Hid (defC s i 0 = 0) := by unfold Hid; rw [HS1.out, decide_eq_true hz, need_true]
                  subst hz
                  go_wp2_with fail
                  go_roundw
                  case rel => exact ⟨i, Nat.le_of_succ_le hm, by go_num, X8.out, by rw [← HDF.out, HS2.out]⟩
                  case measure => first | (simp [intOf]; done) | (simp [intOf]; omega)
                · have HS2 : Hid (checkS s = 19) := by unfold Hid; rw [← HDF.out, HS1.out, decide_eq_false hz, need_false]; exact defs_bad (by decide) _
                  have dM : decide ((M : Int) > 0) = true := decide_eq_true (by omega)
                  have dM2 : decide (M > 0) = true := decide_eq_true (by omega)
                  clear hz
                  go_wp2_with fail
                  go_ret
                  exact ⟨by rw [HS2.out]; rfl, X8.out⟩
set_option maxRecDepth 100000 in
set_option maxHeartbeats 4000000 in
theorem rfaults_core (HRF : ∀ v, RFaultC v) (s : List PartS) (sv : Value) (d : ByteArray) (w : World) (hs : PartsR w.heap.size w sv s) (hsm : SmallS s) :
    Calls Tryz.prog 11 #[sv, .string d] w (FltPost (faultsT s (bothS s d)) w) := by
  have C1 := Lib.hid (rcheck_core HRF s sv w hs hsm)
  have HRF2 := Lib.hid HRF
  obtain ⟨A0, c0, rfl⟩ := hs.slice
  have HS := Lib.hid hs
  obtain ⟨SN, hSN⟩ : ∃ n, n = s.length := ⟨_, rfl⟩
  rw [← hSN] at C1 HS ⊢
  obtain ⟨cc, hcc⟩ : ∃ c, c = checkS s := ⟨_, rfl⟩
  have HB : Hid ((cc ≠ 0 → bothS s d = .error cc) ∧ (cc = 0 → bothS s d = readS d.data.toList ∧ GoodS s ∧ s.length ≤ 30 ∧ 0 < s.length)) := by
    rw [hcc]
    refine ⟨fun h => if_pos h, fun h => ⟨if_neg (fun h2 => h2 h), (checkS_good h).1, (checkS_good h).2, ?_⟩⟩
    rcases Nat.eq_zero_or_pos s.length with h0 | h0
    · rw [check_empty h0] at h
      cases h
    · exact h0
  rw [← hcc] at C1
  clear hs hsm hSN hcc HRF
  go_enter Tryz.func11, Tryz.ntmps11
  go_wp2_with fail
  refine Calls.mono C1.out ?_
  rintro e w2 ⟨rfl, x2⟩
  have X2 := Lib.hid x2
  clear x2
  by_cases hz : cc = 0
  · have b1 : (cc != 0) = false := by rw [hz]; rfl
    have HE := Lib.hid (HB.out.2 hz)
    have C2 := Lib.hid (rread_any d w2)
    clear hz
    go_wp2_with fail
    refine Calls.mono C2.out ?_
    rintro e w3 ⟨x3, K, Bb, z, sx, Aa, na, ca, Ab, nb, cb, er, rfl, hh⟩
    have X3 : Hid (Ext w w3) := X2.out.trans x3
    unfold v6 at hh
    unfold v6
    have HH := Lib.hid hh
    clear x3 hh
    go_upto_region 5 with (fail)
    obtain ⟨gx, hgx⟩ : ∃ n, n = w3.heap.size := ⟨_, rfl⟩
    rw [← hgx]
    generalize hW : World.alloc w3 _ = w4
    have X4 : Hid (Ext w3 w4) := by rw [← hW]; exact new_ext _ _
    have h4 : w4.heap[gx]? = some (.cells #[.int .i64 K, .bool Bb, .int .i64 z, .string sx, .slice Aa na ca, .slice Ab nb cb] vT (0, 0)) := by rw [← hW]; exact heap_new hgx
    have t0 : w4.cell? ⟨gx, 0, none⟩ = some (.int .i64 K) := cell_of h4 0
    have t1 : w4.cell? ⟨gx, 1, none⟩ = some (.bool Bb) := cell_of h4 1
    have t2 : w4.cell? ⟨gx, 2, none⟩ = some (.int .i64 z) := cell_of h4 2
    have t3 : w4.cell? ⟨gx, 3, none⟩ = some (.string sx) := cell_of h4 3
    have t4 : w4.cell? ⟨gx, 4, none⟩ = some (.slice Aa na ca) := cell_of h4 4
    have t5 : w4.cell? ⟨gx, 5, none⟩ = some (.slice Ab nb cb) := cell_of h4 5
    clear hW hgx h4
    rcases HH.out with ⟨her, j, e1, hrj⟩ | ⟨hne, e1, -⟩
    · have HTE : Hid (bothS s d = .ok j) := HE.out.1.trans e1
      have HJ := Lib.hid (readS_good e1)
      have HRJ4 : Hid (RV (fun b => w2.heap.size ≤ b) w4 j (v6 K Bb z sx (.slice Aa na ca) (.slice Ab nb cb))) := hrj.ext X4.out
      subst her
      have X5 : Hid (Ext w w4) := X3.out.trans X4.out
      have CRF : Hid (Calls Tryz.prog 30 #[.slice A0 SN c0, .int .i64 ((0 : Nat) : Int), .agg #[.int .i64 K, .bool Bb, .int .i64 z, .string sx, .slice Aa na ca, .slice Ab nb cb], .slice none 0 0] w4 (RFlt (faultsS s j 0 []) w4)) :=
        HRF2.out j s 0 (.slice A0 SN c0) _ w4 (fun b => w2.heap.size ≤ b) (fun _ => True) none 0 [] (PartsR.mono (HS.out.below X5.out) X5.out.size) HE.out.2.1 HE.out.2.2.1 HE.out.2.2.2 HRJ4.out HJ.out.1 (fun i hi => by cases hi) (by simp; have := HJ.out.2; omega) (by have := HJ.out.2; omega)
      clear hrj e1
      go_wp2_with fail
      refine Calls.mono CRF.out ?_
      rintro e w8 ⟨x8, B8, d8, rfl, h8⟩
      have H8 : Hid (Ext w w8 ∧ FltAt w8 B8 (faultsS s j 0 [])) := ⟨X5.out.trans x8, flt_grow h8⟩
      obtain ⟨M, hM⟩ : ∃ M, M = (faultsS s j 0 []).length := ⟨_, rfl⟩
      have HMM := Lib.hid hM
      rw [← hM]
      clear x8 h8 hM
      go_wp2_with fail
      go_ret2
      refine ⟨H8.out.1, B8, d8, ?_, ?_⟩
      · rw [HTE.out]
        show _ = Ending.returned (.tuple #[.slice B8 (faultsS s j 0 []).length d8, .int .i64 0])
        rw [← HMM.out]
        rfl
      · rw [HTE.out]
        exact H8.out.2
    · have HTE : Hid (Ext w w4 ∧ bothS s d = .error er) := ⟨X3.out.trans X4.out, HE.out.1.trans e1⟩
      have b2 : (er != 0) = true := bne_iff_ne.2 hne
      clear hne e1
      go_wp2_with fail
      go_ret2
      exact ⟨HTE.out.1, none, 0, by rw [HTE.out.2]; rfl, by rw [HTE.out.2]; exact fun i hi => by cases hi⟩
  · have b1 : (cc != 0) = true := bne_iff_ne.2 hz
    have HE : Hid (Ext w w2 ∧ bothS s d = .error cc) := ⟨X2.out, HB.out.1 hz⟩
    clear hz
    go_wp2_with fail
    go_ret2
    exact ⟨HE.out.1, none, 0, by rw [HE.out.2]; rfl, by rw [HE.out.2]; exact fun i hi => by cases hi⟩
end Go.Proofs.YtnccefeehkcneaaGreatDoor.Sc
namespace Go.Proofs.YtnccefeehkcneaaGreatDoor.Sc
open Go Go.RowKit Go.Proofs.YtnccefeehkcneaaGreatDoor.Js Go.Proofs.YtnccefeehkcneaaGreatDoor.Sx Go.Proofs.YtnccefeehkcneaaGreatDoor.Pt Go.Proofs.YtnccefeehkcneaaGreatDoor.Jm Go.Proofs.YtnccefeehkcneaaGreatDoor.Gr Go.Proofs.YtnccefeehkcneaaGreatDoor.Ur
set_option maxRecDepth 100000 in
set_option maxHeartbeats 1000000 in
theorem eq_flts (fs : List (ByteArray × Int)) (A A' : Option Addr) (c c' : Nat) (w : World) (hz : fs.length ≤ 1000000) (h : FltAt w A fs) (h' : FltAt w A' fs) :
    Calls Tryz.prog 12 #[.slice A fs.length c, .slice A' fs.length c'] w fun e w' => e = .returned (.bool true) ∧ Ext w w' := by
  have H := Lib.hid (And.intro h h')
  have hE : Hid (∀ a : ByteArray, (a.toList != a.toList) = false ∧ (a.toList == a.toList) = true) := fun a => by simp
  have hE2 : Hid (∀ a : Int, (a != a) = false ∧ (a == a) = true) := fun a => by simp
  obtain ⟨N, hN⟩ : ∃ N, N = fs.length := ⟨_, rfl⟩
  have HN := Lib.hid hN
  have hNs : N ≤ 1000000 := by omega
  rw [← hN]
  clear h h' hN hz
  go_enter Tryz.func12, Tryz.ntmps12
  go_wp2
  go_loopw [14] (fun k wr => ∃ j : Nat, j ≤ N ∧ k = .int .i64 (j : Int) ∧ Hid (Ext w wr)) (fun k _ => N - (intOf k).toNat)
  case atStart => exact ⟨0, Nat.zero_le _, rfl, Below.refl _ _⟩
  case round =>
    obtain ⟨j, hj, rfl, hX⟩ := hrel
    by_cases hlt : j < N
    · have hjl : j < fs.length := by rw [← HN.out]; exact hlt
      obtain ⟨b, rfl, x0, x1⟩ := (H.out.1.ext hX.out) j hjl
      obtain ⟨b', rfl, y0, y1⟩ := (H.out.2.ext hX.out) j hjl
      obtain ⟨x, hx⟩ : ∃ x, x = fs[j] := ⟨_, rfl⟩
      rw [← hx] at x0 x1 y0 y1
      obtain ⟨kb, hkb⟩ : ∃ kb, kb = wr.heap.size := ⟨_, rfl⟩
      obtain ⟨w2, hw2⟩ : ∃ w2, w2 = wr.alloc (.cells #[.string x.1, .int .i64 x.2] 31) := ⟨_, rfl⟩
      have hx2 : Ext wr w2 := by rw [hw2]; exact (Below.refl _ _).alloc (Nat.le_refl _) _
      have hkbx : w2.heap[kb]? = some (.cells #[.string x.1, .int .i64 x.2] 31 (0, 0)) := by rw [hw2]; exact heap_new hkb
      have k0 : w2.cell? ⟨kb, 0, none⟩ = some (.string x.1) := cell_of hkbx 0
      have k1 : w2.cell? ⟨kb, 1, none⟩ = some (.int .i64 x.2) := cell_of hkbx 1
      have z0 := (cell_keep (hx2.block b' (cell_lt y0))).trans y0
      have z1 := (cell_keep (hx2.block b' (cell_lt y1))).trans y1
      have HX2 := Lib.hid (hX.out.trans hx2)
      have f1 := (hE.out x.1).1
      have f2 := (hE.out x.1).2
      have f3 := (hE2.out x.2).1
      have f4 := (hE2.out x.2).2
      have hl1 : (0 : Int) ≤ (j : Int) := by omega
      have hl2 : (j : Int) < (N : Int) := by omega
      clear hx hx2 hjl hkbx
      go_wp2
      rw [← hw2, ← hkb]
      clear hw2 hkb x0 x1 y0 y1
      go_quiet (fail)
      go_wp2
      go_roundw
      case rel => exact ⟨j + 1, hlt, by go_num, HX2.out.trans (ext_drewN' w2 _)⟩
      case measure => simp [intOf]; omega
    · have bl : decide ((j : Int) < (N : Int)) = false := decide_eq_false (by omega)
      go_wp2
      go_ret
      exact ⟨rfl, hX.out⟩
theorem faultsT_few (s : List PartS) (d : ByteArray) : (faultsT s (bothS s d)).1.length ≤ 1000000 := by
  unfold bothS
  by_cases hz : checkS s ≠ 0
  · rw [if_pos hz]
    exact Nat.zero_le _
  · rw [if_neg hz]
    have hg := (checkS_good (Classical.not_not.1 hz)).1
    cases hr : readS d.data.toList with
    | error e => exact Nat.zero_le _
    | ok j =>
      have h1 := readS_good hr
      have h2 := faults_many (good_need hg) j h1.1 0 []
      show (faultsS s j 0 []).length ≤ _
      omega
set_option maxRecDepth 100000 in
set_option maxHeartbeats 4000000 in
theorem schemaFinds_walk (s : List PartS) (sv : Value) (d : ByteArray) (w : World) (hs : PartsR w.heap.size w sv s) (hm : MaxC w) (ht : Tab10 w) (hsm : SmallS s) :
    Calls Tryz.prog 4 #[sv, .string d] w fun e w' => e = .returned (.bool true) ∧ Ext w w' := by
  have C1 := Lib.hid (faults_any s sv d w hs hm ht hsm)
  have C2 : Hid (∀ W, Ext w W → Calls Tryz.prog 11 #[sv, .string d] W (FltPost (faultsT s (bothS s d)) W)) := fun W hx => rfaults_core rfault_val s sv d W (PartsR.mono (hs.below hx) hx.size) hsm
  obtain ⟨R, hR⟩ : ∃ R, R = faultsT s (bothS s d) := ⟨_, rfl⟩
  have hfew := faultsT_few s d
  rw [← hR] at C1 C2 hfew
  obtain ⟨L, E⟩ := R
  unfold FltPost at C1 C2
  dsimp only at C1 C2
  have C3 : Hid (∀ (W : World) (A A' : Option Addr) (c c' : Nat), FltAt W A L → FltAt W A' L → Calls Tryz.prog 12 #[.slice A L.length c, .slice A' L.length c'] W fun e w' => e = .returned (.bool true) ∧ Ext W w') := fun W A A' c c' h h' => eq_flts L A A' c c' W hfew h h'
  obtain ⟨N, hN⟩ : ∃ N, N = L.length := ⟨_, rfl⟩
  rw [← hN] at C1 C2 C3
  clear hs hm ht hsm hR hN hfew
  go_enter Tryz.func4, Tryz.ntmps4
  go_wp2_with fail
  refine Calls.mono C1.out ?_
  rintro e w1 ⟨q1, A1, c1, rfl, h1⟩
  have Q1 := Lib.hid q1
  have H1 := Lib.hid h1
  clear q1 h1
  go_wp2_with fail
  refine Calls.mono (C2.out w1 Q1.out) ?_
  rintro e w2 ⟨q2, A2, c2, rfl, h2⟩
  have Q2 := Lib.hid (Q1.out.trans q2)
  have H2 := Lib.hid (And.intro (H1.out.ext q2) h2)
  clear q2 h2
  go_wp2_with fail
  refine Calls.mono (C3.out w2 A1 A2 c1 c2 H2.out.1 H2.out.2) ?_
  rintro e w3 ⟨rfl, q3⟩
  have Q3 := Lib.hid (Q2.out.trans q3)
  clear q3
  go_wp2_with fail
  go_ret
  exact ⟨by simp, Q3.out⟩
end Go.Proofs.YtnccefeehkcneaaGreatDoor.Sc
