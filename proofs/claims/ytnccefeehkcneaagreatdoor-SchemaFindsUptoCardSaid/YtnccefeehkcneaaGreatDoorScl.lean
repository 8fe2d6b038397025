/-
  Schemas, the reference's faults (printed by gen/scl.py).
-/
import Derived.Test.YtnccefeehkcneaaGreatDoorScw
namespace Go.Proofs.YtnccefeehkcneaaGreatDoor.Sc
open Go Go.RowKit Go.Proofs.YtnccefeehkcneaaGreatDoor.Js Go.Proofs.YtnccefeehkcneaaGreatDoor.Sx Go.Proofs.YtnccefeehkcneaaGreatDoor.Pt Go.Proofs.YtnccefeehkcneaaGreatDoor.Jm Go.Proofs.YtnccefeehkcneaaGreatDoor.Gr Go.Proofs.YtnccefeehkcneaaGreatDoor.Ur
set_option maxRecDepth 100000 in
set_option maxHeartbeats 32000000 in
theorem rfault_core (v : J) (ih : ∀ x ∈ kidsJ v, RFaultC x) : RFaultC v := by
  intro s i sv cs w F F' A c ws hs hgo hfew his hv hwj hw hl hb
  obtain ⟨b, off, c9, u1, u2, u3, rfl, hbB, hcells, hF, hN, hE, hD, hcap⟩ := hs.cells his
  rw [← part_at his] at hcells hF hN hE hD
  obtain ⟨p, hpd⟩ : ∃ p, p = partAt s i := ⟨_, rfl⟩
  have hgood := hgo i his
  have hgf := good_fields hgo his
  have hgd := good_docs hgo his
  rw [← hpd] at hcells hF hN hE hD hgood hgf hgd
  obtain ⟨A1, c1, rfl⟩ := hF.slice
  obtain ⟨A2, c2, rfl⟩ := StrsR.slice' hN
  obtain ⟨A3, c3, rfl⟩ := StrsR.slice' hE
  obtain ⟨Ja, jc, Jb, jd, rfl, hnames, hkids⟩ := hv.parts
  obtain ⟨SN, hSN⟩ : ∃ n, n = s.length := ⟨_, rfl⟩
  obtain ⟨NF, hNF⟩ : ∃ n, n = p.fields.length := ⟨_, rfl⟩
  obtain ⟨NN, hNN⟩ : ∃ n, n = p.need.length := ⟨_, rfl⟩
  obtain ⟨NE, hNE⟩ : ∃ n, n = p.enum.length := ⟨_, rfl⟩
  obtain ⟨NW, hNW⟩ : ∃ n, n = ws.length := ⟨_, rfl⟩
  obtain ⟨NM, hNM⟩ : ∃ n, n = (namesJ v).length := ⟨_, rfl⟩
  obtain ⟨NK, hNK⟩ : ∃ n, n = (kidsJ v).length := ⟨_, rfl⟩
  obtain ⟨KD, hKD⟩ : ∃ n, n = kindJ v := ⟨_, rfl⟩
  obtain ⟨BO, hBO⟩ : ∃ n, n = boolJ v := ⟨_, rfl⟩
  obtain ⟨ZN, hZN⟩ : ∃ n, n = numJ v := ⟨_, rfl⟩
  obtain ⟨TX, hTX⟩ : ∃ n, n = bx (txtJ v) := ⟨_, rfl⟩
  have hNWs : NW ≤ 1000000 := by omega
  have hhead := head_good (part_good hgood).1
  have hNEs : NE ≤ 8 := by rw [hNE]; exact hhead.2.2.2.2
  have hNNs : NN ≤ 8 := by rw [hNN]; exact hhead.2.2.2.1
  have hiI : (i : Int) < (SN : Int) := by omega
  have hfewp := Jm.parts_few v
  have hNMs : NM ≤ 1000000 := by omega
  have hNKs : NK ≤ 1000000 := by omega
  rw [← hNF] at hcells hF
  rw [← hNN] at hcells hN
  rw [← hNE] at hcells hE
  unfold v6 at hv ⊢
  rw [← hNM, ← hNK, ← hKD, ← hBO, ← hZN, ← hTX] at hv ⊢
  rw [← hSN] at hs ⊢
  rw [← hNW]
  obtain ⟨g, hg⟩ : ∃ g, g = w.heap.size := ⟨_, rfl⟩
  obtain ⟨w1, hw1⟩ : ∃ w1, w1 = (w.alloc (.cells #[.int .i64 KD, .bool BO, .int .i64 ZN, .string TX, .slice Ja NM jc, .slice Jb NK jd] vT (0, 0))).alloc (.cells #[.slice A NW c] 37 (0, 0)) := ⟨_, rfl⟩
  have hx1 : Ext w w1 := by rw [hw1]; exact (new_ext _ _).trans (new_ext _ _)
  have hg1 : w1.heap.size = g + 2 := by rw [hw1, hg]; simp
  obtain ⟨w2, hw2⟩ : ∃ w2, w2 = w1.alloc (.cells #[.int .i64 p.kind, .slice A1 NF c1, .slice A2 NN c2, .bool p.extra, .int .i64 p.items, .int .i64 p.least, .int .i64 p.most, .slice A3 NE c3, .string p.dflt] partT (0, 0)) := ⟨_, rfl⟩
  have HX2 : Hid (Ext w w2) := by rw [hw2]; exact hx1.trans (new_ext _ _)
  have e0 : w1.heap[g]? = some (.cells #[.int .i64 KD, .bool BO, .int .i64 ZN, .string TX, .slice Ja NM jc, .slice Jb NK jd] vT (0, 0)) := by rw [hw1]; exact heap_old (heap_new hg)
  have e1 : w1.heap[g + 1]? = some (.cells #[.slice A NW c] 37 (0, 0)) := by rw [hw1]; exact heap_new (by rw [hg]; simp)
  have HV2 : Hid (∀ W, Ext w2 W → W.cell? ⟨g, 0, none⟩ = some (.int .i64 KD) ∧ W.cell? ⟨g, 1, none⟩ = some (.bool BO) ∧ W.cell? ⟨g, 2, none⟩ = some (.int .i64 ZN) ∧ W.cell? ⟨g, 3, none⟩ = some (.string TX) ∧ W.cell? ⟨g, 4, none⟩ = some (.slice Ja NM jc) ∧ W.cell? ⟨g, 5, none⟩ = some (.slice Jb NK jd)) := fun W hW => by
    have h : W.heap[g]? = some (.cells #[.int .i64 KD, .bool BO, .int .i64 ZN, .string TX, .slice Ja NM jc, .slice Jb NK jd] vT (0, 0)) := (hW.block g (by rw [hw2]; exact Nat.lt_of_lt_of_le (heap_lt e0) (new_ext _ _).size)).trans (by rw [hw2]; exact heap_old e0)
    exact ⟨cell_of h 0, cell_of h 1, cell_of h 2, cell_of h 3, cell_of h 4, cell_of h 5⟩
  have HW2 : Hid (∀ W, Ext w2 W → W.cell? ⟨g + 1, 0, none⟩ = some (.slice A NW c)) := fun W hW => by
    have h : W.heap[g + 1]? = some (.cells #[.slice A NW c] 37 (0, 0)) := (hW.block (g + 1) (by rw [hw2]; exact Nat.lt_of_lt_of_le (heap_lt e1) (new_ext _ _).size)).trans (by rw [hw2]; exact heap_old e1)
    exact cell_of h 0
  have HP2 : Hid (∀ W, Ext w2 W → PBox W (g + 2) p (.slice A1 NF c1) (.slice A2 NN c2) (.slice A3 NE c3)) := fun W hW => by
    have h : PBox w2 (g + 2) p (.slice A1 NF c1) (.slice A2 NN c2) (.slice A3 NE c3) := by rw [hw2]; exact heap_new hg1.symm
    exact h.ext hW
  have hbk0 : b < w.heap.size := hbB
  have p9 : ∀ n x, w.cell? ⟨b, n, none⟩ = some x → w1.cell? ⟨b, n, none⟩ = some x := fun n x h => (cell_keep (hx1.block b hbk0)).trans h
  obtain ⟨p0', p1', p2', p3', p4', p5', p6', p7', p8'⟩ := hcells
  have p0 := p9 _ _ p0'
  have p1 := p9 _ _ p1'
  have p2 := p9 _ _ p2'
  have p3 := p9 _ _ p3'
  have p4 := p9 _ _ p4'
  have p5 := p9 _ _ p5'
  have p6 := p9 _ _ p6'
  have p7 := p9 _ _ p7'
  have p8 := p9 _ _ p8'
  have HS2 : Hid (PartsR w.heap.size w (.slice (some ⟨b, off, none⟩) SN c9) s) := hs
  have HGO : Hid (GoodS s ∧ s.length ≤ 30 ∧ i < s.length) := ⟨hgo, hfew, his⟩
  have HPF := Lib.hid hF
  have HPN := Lib.hid hN
  have HPE := Lib.hid hE
  have HGF := Lib.hid hgf
  have HGD := Lib.hid hgd
  have HGOOD := Lib.hid hgood
  have HPD := Lib.hid hpd
  have HRV := Lib.hid hv
  have HWJ := Lib.hid hwj
  have HWY := Lib.hid hw
  have HNM := Lib.hid hnames
  have HKI := Lib.hid hkids
  have HBV : Hid (bulkJ v ≤ 1000000 ∧ ws.length + bulkJ v ≤ 1000000 ∧ 32 ≤ bulkJ v) := ⟨hb, hl, bulk_low v⟩
  have HNN : Hid (NF = p.fields.length ∧ NN = p.need.length ∧ NE = p.enum.length ∧ NW = ws.length ∧ SN = s.length ∧ NM = (namesJ v).length ∧ NK = (kidsJ v).length) := ⟨hNF, hNN, hNE, hNW, hSN, hNM, hNK⟩
  have HCE : Hid (KD = kindJ v ∧ ZN = numJ v ∧ TX = bx (txtJ v)) := ⟨hKD, hZN, hTX⟩
  have HIH := Lib.hid ih
  have CJ : Hid (∀ W, Ext w W → Calls Tryz.prog 80 #[.slice A NW c] W (JoinsPost W ws)) := fun W hW => by
    have h := rjoins_any W.heap.size (.slice A ws.length c) ws W ((hw.ext hW).strs (by omega))
    rw [← hNW] at h
    exact h
  obtain ⟨jx, hjx⟩ : ∃ j, j = joinV ws := ⟨_, rfl⟩
  have HJX := Lib.hid hjx
  unfold JoinsPost at CJ
  rw [← hjx] at CJ
  have CJ2 := Lib.hid (CJ.out w2 HX2.out)
  clear ih hs hgo hfew his hv hwj hw hl hb hF hN hE hD hcap hgood hgf hgd hpd hnames hkids hSN hNF hNN hNE hNW hNM hNK hKD hBO hZN hTX hhead hfewp hx1 e0 e1 hbB hbk0 p9 p0' p1' p2' p3' p4' p5' p6' p7' p8' hjx
  go_enter Tryz.func30, Tryz.ntmps30
  go_upto_region 1 with (fail)
  rw [← hw1, ← hg]
  clear hw1 hg
  go_upto_region 2 with (fail)
  (try rw [hg1])
  rw [← hw2]
  clear hw2 hg1 p0 p1 p2 p3 p4 p5 p6 p7 p8
  have y7 := HW2.out w2 (Below.refl _ _)
  go_wp2_with fail
  refine Calls.mono CJ2.out ?_
  rintro e w3 ⟨rfl, x3⟩
  have HX3 := Lib.hid x3
  obtain ⟨y0, y1, y2, y3, y4, y5⟩ := HV2.out w3 x3
  obtain ⟨q0, -, -, -, -, -, -, -, -⟩ := (HP2.out w3 x3).at
  clear x3 y7
  by_cases hkd : KD = p.kind
  · have kb : (KD != p.kind) = false := by rw [hkd]; exact bne_self_eq_false _
    have HKD := Lib.hid hkd
    clear hkd
    go_upto_region 6 with (fail)
    obtain ⟨ko, hko⟩ : ∃ n, n = w3.heap.size := ⟨_, rfl⟩
    rw [← hko]
    generalize hW : World.alloc w3 _ = w4
    have HX4 : Hid (Ext w2 w4) := by rw [← hW]; exact HX3.out.trans (new_ext _ _)
    have HO4 : Hid (OutI ko w3 w4 []) := by rw [← hW]; exact ⟨new_ext _ _, none, 0, heap_new hko, GRow.nil⟩
    have HKO : Hid (w3.heap.size = ko ∧ w.heap.size ≤ ko) := ⟨hko.symm, by rw [hko]; exact (HX2.out.trans HX3.out).size⟩
    clear hW hko y0 y1 y2 y3 y4 y5 q0 kb
    have HWE : Hid (Ext w w2) := HX2.out
    obtain ⟨-, -, -, -, -, -, -, q7, -⟩ := (HP2.out w4 HX4.out).at
    obtain ⟨LB, hLB⟩ : ∃ LB : Nat → Bool, ∀ q, LB q = (decide (NE = 0) || (p.enum.take q).any (sameD v)) := ⟨_, fun _ => rfl⟩
    have HLB : Hid (LB 0 = decide (NE = 0) ∧ (∀ q (h : q < p.enum.length), LB (q + 1) = (LB q || sameD v p.enum[q])) ∧ ∀ q, q = p.enum.length → LB q = listedS p v) := by
      refine ⟨by rw [hLB]; simp, fun q h => by rw [hLB, hLB, List.take_succ_eq_append_getElem h, List.any_append]; simp [Bool.or_assoc], fun q h => ?_⟩
      rw [hLB, h, List.take_length]
      unfold listedS
      rw [HNN.out.2.2.1]
      cases p.enum <;> simp
    have hb0 : ((NE : Int) == 0) = LB 0 := by
      rw [hLB]
      simp only [List.take_zero, List.any_nil, Bool.or_false]
      by_cases h : NE = 0
      · rw [decide_eq_true h, h]; rfl
      · rw [decide_eq_false h, beq_eq_false_iff_ne]; omega
    have hb1 : decide (NE = 0) = LB 0 := by rw [hLB]; simp
    clear hLB
    go_wp2_with fail
    clear q7 hb0 hb1
    go_loopw [13, 54] (fun lb ix wr => ∃ q : Nat, q ≤ NE ∧ lb = .bool (LB q) ∧ ix = .int .i64 (q : Int) ∧ Hid (Ext w4 wr)) (fun _ ix _ => NE - (intOf ix).toNat)
    case atStart => exact ⟨0, Nat.zero_le _, rfl, rfl, Below.refl _ _⟩
    case round =>
      obtain ⟨q, hq, rfl, rfl, hR⟩ := hrel
      by_cases hlt : q < NE
      · have hql : q < p.enum.length := by rw [← HNN.out.2.2.1]; exact hlt
        have hxr := HX4.out.trans hR.out
        obtain ⟨be, oe, c', hv9, hbB, hcl⟩ := (HPE.out.below (HX2.out.trans hxr) (Nat.le_refl _)).cells (by omega)
        injection hv9 with e1 e2 e3
        clear e2
        subst e1 e3
        have z0 := (hcl q hql).1
        have hltI : (q : Int) < (NE : Int) := by omega
        have HE := Lib.hid (HLB.out.2.1 q hql)
        obtain ⟨j, hj⟩ := HGD.out _ (List.getElem_mem hql)
        obtain ⟨d, hd⟩ : ∃ n, n = p.enum[q] := ⟨_, rfl⟩
        rw [← hd] at z0 HE hj
        have HJ := Lib.hid (readS_good hj)
        have HSD : Hid (sameD v d = true ↔ v = j) := sameD_iff HWJ.out hj
        have CR := Lib.hid (rread_any d wr)
        rw [hj] at CR
        have HXR := Lib.hid hxr
        obtain ⟨y0, y1, y2, y3, y4, y5⟩ := HV2.out wr hxr
        clear hd hbB hcl hj hxr
        go_wp2_with fail
        refine Calls.mono CR.out ?_
        rintro e w6 ⟨x6, K, Bb, z, sx, Aa, na, ca, Ab, nb, cb, er, rfl, hh⟩
        obtain ⟨j2, e1, hrj⟩ : ∃ j2, Except.ok j = (Except.ok j2 : Res J) ∧ RV (fun b => wr.heap.size ≤ b) w6 j2 (v6 K Bb z sx (.slice Aa na ca) (.slice Ab nb cb)) := by
          rcases hh with ⟨_, j2, h1, h2⟩ | ⟨_, h, _⟩
          · exact ⟨j2, h1, h2⟩
          · cases h
        obtain rfl : j = j2 := by injection e1
        have X6 := Lib.hid x6
        have HRJ := Lib.hid hrj
        unfold v6
        clear x6 hh e1 hrj z0 y0 y1 y2 y3 y4 y5
        go_upto_region 11 with (fail)
        obtain ⟨gx, hgx⟩ : ∃ n, n = w6.heap.size := ⟨_, rfl⟩
        rw [← hgx]
        generalize hW : World.alloc w6 _ = w7
        have X7 : Hid (Ext wr w7) := by rw [← hW]; exact X6.out.trans (new_ext _ _)
        have h7 : w7.heap[gx]? = some (.cells #[.int .i64 K, .bool Bb, .int .i64 z, .string sx, .slice Aa na ca, .slice Ab nb cb] vT (0, 0)) := by rw [← hW]; exact heap_new hgx
        have HRJ7 : Hid (RV (fun b => wr.heap.size ≤ b) w7 j (v6 K Bb z sx (.slice Aa na ca) (.slice Ab nb cb))) := by unfold Hid; rw [← hW]; exact HRJ.out.ext (new_ext _ _)
        obtain ⟨y0, y1, y2, y3, y4, y5⟩ := HV2.out w7 (HXR.out.trans X7.out)
        have t0 : w7.cell? ⟨gx, 0, none⟩ = some (.int .i64 K) := cell_of h7 0
        have t1 : w7.cell? ⟨gx, 1, none⟩ = some (.bool Bb) := cell_of h7 1
        have t2 : w7.cell? ⟨gx, 2, none⟩ = some (.int .i64 z) := cell_of h7 2
        have t3 : w7.cell? ⟨gx, 3, none⟩ = some (.string sx) := cell_of h7 3
        have t4 : w7.cell? ⟨gx, 4, none⟩ = some (.slice Aa na ca) := cell_of h7 4
        have t5 : w7.cell? ⟨gx, 5, none⟩ = some (.slice Ab nb cb) := cell_of h7 5
        have CSM : Hid (Calls Tryz.prog 81 #[.agg #[.int .i64 KD, .bool BO, .int .i64 ZN, .string TX, .slice Ja NM jc, .slice Jb NK jd], .agg #[.int .i64 K, .bool Bb, .int .i64 z, .string sx, .slice Aa na ca, .slice Ab nb cb]] w7 fun e w' => e = .returned (.bool (sameD v d)) ∧ Ext w7 w') := by
          have h := same_val v j F _ _ _ w7 (HRV.out.ext (HX2.out.trans (HXR.out.trans X7.out))) HRJ7.out (by have := HBV.out.1; omega) (by have := HJ.out.2; omega)
          exact h.mono fun e w' ⟨b, h1, h2, h3⟩ => ⟨by rw [h1, show b = sameD v d from Bool.eq_iff_iff.2 (h2.trans HSD.out.symm)], h3⟩
        clear hW hgx h7
        obtain ⟨lq, hlq⟩ : ∃ b, b = LB q := ⟨_, rfl⟩
        rw [← hlq] at HE ⊢
        clear hlq
        cases lq with
        | true =>
          have HS : Hid (LB (q + 1) = true) := by unfold Hid; rw [HE.out]; rfl
          go_wp2_with fail
          go_roundw
          case rel => exact ⟨q + 1, hlt, by rw [HS.out], by go_num, hR.out.trans X7.out⟩
          case measure => simp [intOf]; omega
        | false =>
          have HS : Hid (LB (q + 1) = sameD v d) := by unfold Hid; rw [HE.out]; rfl
          go_wp2_with fail
          refine Calls.mono CSM.out ?_
          rintro e w8 ⟨rfl, x8⟩
          have X8 := Lib.hid x8
          clear x8 y0 y1 y2 y3 y4 y5 t0 t1 t2 t3 t4 t5
          go_wp2_with fail
          go_roundw
          case rel => exact ⟨q + 1, hlt, by rw [HS.out], by go_num, hR.out.trans (X7.out.trans X8.out)⟩
          case measure => simp [intOf]; omega
      · have hqN : q = NE := by omega
        have bl : decide ((q : Int) < (NE : Int)) = false := decide_eq_false (by omega)
        have bl2 : decide (q < NE) = false := decide_eq_false hlt
        have HEND := Lib.hid (HLB.out.2.2 q (by rw [hqN]; exact HNN.out.2.2.1))
        have HO5 := Lib.hid (HO4.out.ext hR.out).1
        obtain ⟨w5, hw5⟩ : ∃ x, x = wr := ⟨_, rfl⟩
        have HX5 : Hid (Ext w2 w5) := by unfold Hid; rw [hw5]; exact HX4.out.trans hR.out
        rw [← hw5] at HO5 ⊢
        rw [HEND.out]
        clear hqN hlt hR hw5 hq
        obtain ⟨ls, hls⟩ : ∃ l, l = listedS p v := ⟨_, rfl⟩
        rw [← hls]
        obtain ⟨L1, hL1⟩ : ∃ l : List (ByteArray × Int), l = if ls = true then [] else [(joinV ws, 19)] := ⟨_, rfl⟩
        have HL1 : Hid (L1.length ≤ 1) := by unfold Hid; rw [hL1]; split <;> simp
        have HL1D : Hid (L1 = if listedS p v = true then [] else [(joinV ws, 19)]) := by unfold Hid; rw [hL1, hls]
        have HHF : Hid (headF p v ws = L1 ++ (match lenJ v with | some n => spanS p n (joinV ws) | none => [])) := by unfold Hid headF; rw [HL1D.out]; rfl
        have HLEN : Hid (([] : List (ByteArray × Int)).length ≤ 2900000) := Nat.zero_le _
        clear hls
        go_upto_region 13 with (fail)
        go_upto_if 71 with (fail)
        go_cut [] (fun wx => Hid (Trn (OutF ko) w5 wx ∧ OutI ko w3 wx L1))
        case first =>
          as_aux_lemma =>
            cases ls with
            | true =>
              have HS : Hid (L1 = []) := by unfold Hid; rw [hL1]; rfl
              clear hL1
              go_wp2_with fail
              go_meet
              case rel => exact ⟨Trn.refl, by rw [HS.out]; exact HO5.out⟩
            | false =>
              have HS : Hid (L1 = [(joinV ws, 19)]) := by unfold Hid; rw [hL1]; rfl
              clear hL1
              obtain ⟨hx0_a, Axa, cxa, h3_a, hr_a⟩ := HO5.out
              obtain ⟨Ma, hMa⟩ : ∃ n, n = (([] : List (ByteArray × Int))).length := ⟨_, rfl⟩
              rw [← hMa] at h3_a hr_a
              have HMa := Lib.hid hMa
              have HBa := Lib.hid h3_a
              have HRa := Lib.hid hr_a
              have HX0a := Lib.hid hx0_a
              have z0_a : (w5).cell? ⟨ko, 0, none⟩ = some (.slice Axa Ma cxa) := cell_of h3_a 0
              have hMsa : Ma ≤ 2900000 := by have h := HLEN.out; omega
              clear hx0_a h3_a hr_a hMa
              go_wp2_with (at_builtin; refine append_g ty_flts rfl _ _ (by rfl) (ko + 1) Ma 1 _ (.slice Axa Ma cxa) (.slice (some ⟨(w5).heap.size, 0, none⟩) 1 1) (fltsV (([] : List (ByteArray × Int)))) [[.string jx, .int .i64 19]] (by rfl) (by rfl) (HRa.out.ext (new_ext _ _)) (GSrc.one rfl (by simp [Value.oneCell']) (heap_new rfl)) (by rw [flts_len]; exact HMa.out.symm) rfl (by omega) (Nat.le_trans (Nat.succ_le_of_lt (heap_lt HBa.out)) (new_ext _ _).size) ?_; intro A9a c9a w9a h9 g9 o9; have hb9 : w9a.heap[ko]? = some (.cells #[.slice Axa Ma cxa] fltsT (0, 0)) := (g9.block ko (Nat.lt_of_lt_of_le (heap_lt HBa.out) (new_ext _ _).size) (fun e => by have := (HRa.out.block ko e.symm).1; omega)).trans (((new_ext (w5) _).block ko (heap_lt HBa.out)).trans HBa.out); have y0_a := cell_of hb9 0; have y1_a : w9a.frozen? ⟨ko, 0, none⟩ = false := frozen_of hb9; have H9a := Lib.hid (And.intro h9 (And.intro g9 o9)); clear h9 g9 o9 hb9)
              obtain ⟨h9_a, g9_a, o9_a⟩ := H9a.out
              have HPa := Lib.hid (out_put (m := 1) (ys := [(joinV ws, 19)]) HKO.out.1 HX0a.out HBa.out HRa.out HMa.out rfl (new_ext (w5) (.cells #[.string jx, .int .i64 19] 31 (0, 0))) (by rw [HJX.out] at h9_a; exact h9_a) g9_a o9_a)
              clear h9_a g9_a o9_a z0_a y0_a y1_a hMsa
              go_meet
              case rel => exact ⟨HPa.out.1, by rw [HS.out]; exact HPa.out.2⟩
        case rest =>
          have hcu := hcut.out
          obtain ⟨wb, hwb⟩ : ∃ x, x = wc := ⟨_, rfl⟩
          rw [← hwb] at hcu ⊢
          have HTb : Hid (Trn (OutF ko) w5 wb) := hcu.1
          have HOb : Hid (OutI ko w3 wb L1) := hcu.2
          have HXb : Hid (Ext w2 wb) := HX3.out.trans hcu.2.1
          clear hcu hcut hwb HLEN hL1 bl bl2
          obtain ⟨y0, y1, y2, y3, y4, y5⟩ := HV2.out wb HXb.out
          obtain ⟨Z2, hZ2⟩ : ∃ z, z = if KD = 4 then (TX.size : Int) else if KD = 5 then (NK : Int) else ZN := ⟨_, rfl⟩
          have HZ2 := Lib.hid hZ2
          clear hZ2
          go_upto_if 81 with (fail)
          go_cut [18] (fun nv wx => nv = .int .i64 Z2 ∧ wx = wb)
          case first =>
            as_aux_lemma =>
              by_cases k4 : KD = 4
              · have b4 : (KD == 4) = true := by rw [k4]; rfl
                have HS : Hid (Z2 = (TX.size : Int)) := by unfold Hid; rw [HZ2.out, if_pos k4]
                clear k4
                go_wp2_with fail
                go_meet
                case rel => exact ⟨by rw [HS.out], rfl⟩
              · have b4 : (KD == 4) = false := by rw [beq_eq_false_iff_ne]; exact k4
                have HK4 := Lib.hid k4
                clear k4
                by_cases k5 : KD = 5
                · have b5 : (KD == 5) = true := by rw [k5]; rfl
                  have HS : Hid (Z2 = (NK : Int)) := by unfold Hid; rw [HZ2.out, if_neg HK4.out, if_pos k5]
                  clear k5
                  go_wp2_with fail
                  go_meet
                  case rel => exact ⟨by rw [HS.out], rfl⟩
                · have b5 : (KD == 5) = false := by rw [beq_eq_false_iff_ne]; exact k5
                  have HS : Hid (Z2 = ZN) := by unfold Hid; rw [HZ2.out, if_neg HK4.out, if_neg k5]
                  clear k5
                  go_wp2_with fail
                  go_meet
                  case rel => exact ⟨by rw [HS.out], rfl⟩
          case rest =>
              obtain ⟨rfl, hwc⟩ := hcut
              obtain ⟨we, hwe⟩ : ∃ x, x = wc := ⟨_, rfl⟩
              rw [← hwe] at hwc ⊢
              subst hwc
              clear hwe
              obtain ⟨L2, hL2⟩ : ∃ l, l = if 3 ≤ KD ∧ KD ≤ 5 then L1 ++ spanS p Z2 (joinV ws) else L1 := ⟨_, rfl⟩
              have HL2 := Lib.hid hL2
              have HLEN : Hid (L1.length ≤ 10) := by have := HL1.out; unfold Hid; omega
              clear hL2
              obtain ⟨-, -, -, -, -, q5, q6, -, -⟩ := (HP2.out we HXb.out).at
              go_upto_region 20 with (fail)
              go_cut [98] (fun bv wx => ∃ b : Bool, bv = .bool b ∧ Hid ((b = true ↔ (3 ≤ KD ∧ KD ≤ 5)) ∧ wx = we))
              case first =>
                as_aux_lemma =>
                  by_cases k3 : 3 ≤ KD
                  · have d3 : decide (KD ≥ 3) = true := decide_eq_true k3
                    have HK3 := Lib.hid k3
                    clear k3
                    go_wp2_with fail
                    go_meet
                    case rel => exact ⟨_, rfl, by rw [decide_eq_true_eq]; exact ⟨fun h => ⟨HK3.out, h⟩, fun h => h.2⟩, rfl⟩
                  · have d3 : decide (KD ≥ 3) = false := decide_eq_false k3
                    have HK3 : Hid (¬ 3 ≤ KD → True) := fun _ => trivial
                    have HK4 : Hid (KD < 3) := by unfold Hid; omega
                    clear k3
                    go_wp2_with fail
                    go_meet
                    case rel => exact ⟨false, rfl, ⟨fun h => by (cases h), fun h => by (have := HK4.out; omega)⟩, rfl⟩
              case rest =>
                obtain ⟨b9, rfl, hcu⟩ := hcut
                obtain ⟨hb9, hwc⟩ := hcu.out
                obtain ⟨wf, hwf⟩ : ∃ x, x = wc := ⟨_, rfl⟩
                rw [← hwf] at hwc ⊢
                subst hwc
                have HB9 : Hid (L2 = if b9 = true then L1 ++ spanS p Z2 (joinV ws) else L1) := by
                  unfold Hid
                  rw [HL2.out]
                  by_cases h : 3 ≤ KD ∧ KD ≤ 5
                  · rw [if_pos h, if_pos (hb9.2 h)]
                  · rw [if_neg h, if_neg (fun h2 => h (hb9.1 h2))]
                clear hwf hcu hb9
                go_upto_if 98 with (fail)
                go_cut [] (fun wx => Hid (Trn (OutF ko) wf wx ∧ OutI ko w3 wx L2))
                case first =>
                  as_aux_lemma =>
                    cases b9 with
                    | false =>
                      have HS : Hid (L2 = L1) := HB9.out
                      go_wp2_with fail
                      go_meet
                      case rel => exact ⟨Trn.refl, by rw [HS.out]; exact HOb.out⟩
                    | true =>
                      have HS0 : Hid (L2 = L1 ++ spanS p Z2 (joinV ws)) := HB9.out
                      by_cases m1 : Z2 < p.least
                      · have d1 : decide (Z2 < p.least) = true := decide_eq_true m1
                        have HM1 : Hid (spanS p Z2 (joinV ws) = [(joinV ws, 1)] ++ (if p.most < Z2 then [(joinV ws, 2)] else [])) := by unfold Hid spanS; rw [if_pos m1]
                        clear m1
                        obtain ⟨hx0_b, Axb, cxb, h3_b, hr_b⟩ := HOb.out
                        obtain ⟨Mb, hMb⟩ : ∃ n, n = (L1).length := ⟨_, rfl⟩
                        rw [← hMb] at h3_b hr_b
                        have HMb := Lib.hid hMb
                        have HBb := Lib.hid h3_b
                        have HRb := Lib.hid hr_b
                        have HX0b := Lib.hid hx0_b
                        have z0_b : (wf).cell? ⟨ko, 0, none⟩ = some (.slice Axb Mb cxb) := cell_of h3_b 0
                        have hMsb : Mb ≤ 2900000 := by have h := HLEN.out; omega
                        clear hx0_b h3_b hr_b hMb
                        go_upto_region 23 with (at_builtin; refine append_g ty_flts rfl _ _ (by rfl) (ko + 1) Mb 1 _ (.slice Axb Mb cxb) (.slice (some ⟨(wf).heap.size, 0, none⟩) 1 1) (fltsV (L1)) [[.string jx, .int .i64 1]] (by rfl) (by rfl) (HRb.out.ext (new_ext _ _)) (GSrc.one rfl (by simp [Value.oneCell']) (heap_new rfl)) (by rw [flts_len]; exact HMb.out.symm) rfl (by omega) (Nat.le_trans (Nat.succ_le_of_lt (heap_lt HBb.out)) (new_ext _ _).size) ?_; intro A9b c9b w9b h9 g9 o9; have hb9 : w9b.heap[ko]? = some (.cells #[.slice Axb Mb cxb] fltsT (0, 0)) := (g9.block ko (Nat.lt_of_lt_of_le (heap_lt HBb.out) (new_ext _ _).size) (fun e => by have := (HRb.out.block ko e.symm).1; omega)).trans (((new_ext (wf) _).block ko (heap_lt HBb.out)).trans HBb.out); have y0_b := cell_of hb9 0; have y1_b : w9b.frozen? ⟨ko, 0, none⟩ = false := frozen_of hb9; have H9b := Lib.hid (And.intro h9 (And.intro g9 o9)); clear h9 g9 o9 hb9)
                        obtain ⟨h9_b, g9_b, o9_b⟩ := H9b.out
                        have HPb := Lib.hid (out_put (m := 1) (ys := [(joinV ws, 1)]) HKO.out.1 HX0b.out HBb.out HRb.out HMb.out rfl (new_ext (wf) (.cells #[.string jx, .int .i64 1] 31 (0, 0))) (by rw [HJX.out] at h9_b; exact h9_b) g9_b o9_b)
                        clear h9_b g9_b o9_b z0_b y0_b y1_b hMsb
                        obtain ⟨wg, hwg⟩ : ∃ x, x = w9b.setCell ⟨ko, 0, none⟩ (.slice A9b (Mb + 1) c9b) := ⟨_, rfl⟩
                        rw [← hwg] at HPb ⊢
                        have HOg : Hid (OutI ko w3 wg (L1 ++ [(joinV ws, 1)])) := HPb.out.2
                        have HXg : Hid (Ext w2 wg) := HX3.out.trans HPb.out.2.1
                        have HLEN : Hid ((L1 ++ [(joinV ws, (1 : Int))]).length ≤ 10) := by have := HL1.out; unfold Hid; rw [List.length_append]; simp; omega
                        obtain ⟨-, -, -, -, -, q5, q6, -, -⟩ := (HP2.out wg HXg.out).at
                        clear hwg
                        by_cases m2 : p.most < Z2
                        · have d2 : decide (Z2 > p.most) = true := decide_eq_true m2
                          have HS : Hid (L2 = (L1 ++ [(joinV ws, 1)]) ++ [(joinV ws, 2)]) := by unfold Hid; rw [HS0.out, HM1.out, if_pos m2]; simp
                          clear m2
                          obtain ⟨hx0_c, Axc, cxc, h3_c, hr_c⟩ := HOg.out
                          obtain ⟨Mc, hMc⟩ : ∃ n, n = (L1 ++ [(joinV ws, 1)]).length := ⟨_, rfl⟩
                          rw [← hMc] at h3_c hr_c
                          have HMc := Lib.hid hMc
                          have HBc := Lib.hid h3_c
                          have HRc := Lib.hid hr_c
                          have HX0c := Lib.hid hx0_c
                          have z0_c : (wg).cell? ⟨ko, 0, none⟩ = some (.slice Axc Mc cxc) := cell_of h3_c 0
                          have hMsc : Mc ≤ 2900000 := by have h := HLEN.out; omega
                          clear hx0_c h3_c hr_c hMc
                          go_wp2_with (at_builtin; refine append_g ty_flts rfl _ _ (by rfl) (ko + 1) Mc 1 _ (.slice Axc Mc cxc) (.slice (some ⟨(wg).heap.size, 0, none⟩) 1 1) (fltsV (L1 ++ [(joinV ws, 1)])) [[.string jx, .int .i64 2]] (by rfl) (by rfl) (HRc.out.ext (new_ext _ _)) (GSrc.one rfl (by simp [Value.oneCell']) (heap_new rfl)) (by rw [flts_len]; exact HMc.out.symm) rfl (by omega) (Nat.le_trans (Nat.succ_le_of_lt (heap_lt HBc.out)) (new_ext _ _).size) ?_; intro A9c c9c w9c h9 g9 o9; have hb9 : w9c.heap[ko]? = some (.cells #[.slice Axc Mc cxc] fltsT (0, 0)) := (g9.block ko (Nat.lt_of_lt_of_le (heap_lt HBc.out) (new_ext _ _).size) (fun e => by have := (HRc.out.block ko e.symm).1; omega)).trans (((new_ext (wg) _).block ko (heap_lt HBc.out)).trans HBc.out); have y0_c := cell_of hb9 0; have y1_c : w9c.frozen? ⟨ko, 0, none⟩ = false := frozen_of hb9; have H9c := Lib.hid (And.intro h9 (And.intro g9 o9)); clear h9 g9 o9 hb9)
                          obtain ⟨h9_c, g9_c, o9_c⟩ := H9c.out
                          have HPc := Lib.hid (out_put (m := 1) (ys := [(joinV ws, 2)]) HKO.out.1 HX0c.out HBc.out HRc.out HMc.out rfl (new_ext (wg) (.cells #[.string jx, .int .i64 2] 31 (0, 0))) (by rw [HJX.out] at h9_c; exact h9_c) g9_c o9_c)
                          clear h9_c g9_c o9_c z0_c y0_c y1_c hMsc
                          go_meet
                          case rel => exact ⟨HPb.out.1.trans HPc.out.1, by rw [HS.out]; exact HPc.out.2⟩
                        · have d2 : decide (Z2 > p.most) = false := decide_eq_false m2
                          have HS : Hid (L2 = L1 ++ [(joinV ws, 1)]) := by unfold Hid; rw [HS0.out, HM1.out, if_neg m2]; simp
                          clear m2
                          go_wp2_with fail
                          go_meet
                          case rel => exact ⟨HPb.out.1, by rw [HS.out]; exact HOg.out⟩
                      · have d1 : decide (Z2 < p.least) = false := decide_eq_false m1
                        have HM1 : Hid (spanS p Z2 (joinV ws) = (if p.most < Z2 then [(joinV ws, 2)] else [])) := by unfold Hid spanS; rw [if_neg m1]; rfl
                        clear m1
                        by_cases m2 : p.most < Z2
                        · have d2 : decide (Z2 > p.most) = true := decide_eq_true m2
                          have HS : Hid (L2 = L1 ++ [(joinV ws, 2)]) := by unfold Hid; rw [HS0.out, HM1.out, if_pos m2]
                          clear m2
                          obtain ⟨hx0_d, Axd, cxd, h3_d, hr_d⟩ := HOb.out
                          obtain ⟨Md, hMd⟩ : ∃ n, n = (L1).length := ⟨_, rfl⟩
                          rw [← hMd] at h3_d hr_d
                          have HMd := Lib.hid hMd
                          have HBd := Lib.hid h3_d
                          have HRd := Lib.hid hr_d
                          have HX0d := Lib.hid hx0_d
                          have z0_d : (wf).cell? ⟨ko, 0, none⟩ = some (.slice Axd Md cxd) := cell_of h3_d 0
                          have hMsd : Md ≤ 2900000 := by have h := HLEN.out; omega
                          clear hx0_d h3_d hr_d hMd
                          go_wp2_with (at_builtin; refine append_g ty_flts rfl _ _ (by rfl) (ko + 1) Md 1 _ (.slice Axd Md cxd) (.slice (some ⟨(wf).heap.size, 0, none⟩) 1 1) (fltsV (L1)) [[.string jx, .int .i64 2]] (by rfl) (by rfl) (HRd.out.ext (new_ext _ _)) (GSrc.one rfl (by simp [Value.oneCell']) (heap_new rfl)) (by rw [flts_len]; exact HMd.out.symm) rfl (by omega) (Nat.le_trans (Nat.succ_le_of_lt (heap_lt HBd.out)) (new_ext _ _).size) ?_; intro A9d c9d w9d h9 g9 o9; have hb9 : w9d.heap[ko]? = some (.cells #[.slice Axd Md cxd] fltsT (0, 0)) := (g9.block ko (Nat.lt_of_lt_of_le (heap_lt HBd.out) (new_ext _ _).size) (fun e => by have := (HRd.out.block ko e.symm).1; omega)).trans (((new_ext (wf) _).block ko (heap_lt HBd.out)).trans HBd.out); have y0_d := cell_of hb9 0; have y1_d : w9d.frozen? ⟨ko, 0, none⟩ = false := frozen_of hb9; have H9d := Lib.hid (And.intro h9 (And.intro g9 o9)); clear h9 g9 o9 hb9)
                          obtain ⟨h9_d, g9_d, o9_d⟩ := H9d.out
                          have HPd := Lib.hid (out_put (m := 1) (ys := [(joinV ws, 2)]) HKO.out.1 HX0d.out HBd.out HRd.out HMd.out rfl (new_ext (wf) (.cells #[.string jx, .int .i64 2] 31 (0, 0))) (by rw [HJX.out] at h9_d; exact h9_d) g9_d o9_d)
                          clear h9_d g9_d o9_d z0_d y0_d y1_d hMsd
                          go_meet
                          case rel => exact ⟨HPd.out.1, by rw [HS.out]; exact HPd.out.2⟩
                        · have d2 : decide (Z2 > p.most) = false := decide_eq_false m2
                          have HS : Hid (L2 = L1) := by unfold Hid; rw [HS0.out, HM1.out, if_neg m2]; simp
                          clear m2
                          go_wp2_with fail
                          go_meet
                          case rel => exact ⟨Trn.refl, by rw [HS.out]; exact HOb.out⟩
                case rest =>
                  have hcu := hcut.out
                  obtain ⟨wg, hwg⟩ : ∃ x, x = wc := ⟨_, rfl⟩
                  rw [← hwg] at hcu ⊢
                  have HOg : Hid (OutI ko w3 wg L2) := hcu.2
                  have HXg : Hid (Ext w2 wg) := HX3.out.trans hcu.2.1
                  have HHL : Hid (headF p v ws = L2) := by
                    have h1 := HCE.out
                    have h2 := HNN.out.2.2.2.2.2.2
                    unfold Hid
                    rw [HHF.out, HL2.out, HZ2.out, h1.1, h1.2.1, h1.2.2, h2, bx_size]
                    exact head_cells p v ws L1
                  clear hcu hcut hwg q5 q6 HLEN
                  obtain ⟨kf, hkf⟩ : ∃ n, n = wg.heap.size := ⟨_, rfl⟩
                  obtain ⟨wh, hwh⟩ : ∃ W, W = World.alloc wg (.cells #[Value.func (.func 82) #[] #[.pointer (some ⟨g + 1, 0, none⟩)]] 143 (0, 0)) := ⟨_, rfl⟩
                  have hxgh : Ext wg wh := by rw [hwh]; exact new_ext _ _
                  have HXh : Hid (Ext w2 wh) := HXg.out.trans hxgh
                  have HOh : Hid (OutI ko w3 wh L2 ∧ OutF ko wh kf) := by
                    have h := HOg.out.ext hxgh
                    exact ⟨h.1, by rw [h.2]; exact HOg.out.new (by rw [hkf]; exact Nat.le_refl _)⟩
                  have hkfb : wh.heap[kf]? = some (.cells #[.func (.func 82) #[] #[.pointer (some ⟨g + 1, 0, none⟩)]] 143 (0, 0)) := by
                    rw [hwh]
                    exact heap_new hkf
                  have HFC : Hid (∀ W, Trn (OutF ko) wh W → W.cell? ⟨kf, 0, none⟩ = some (.func (.func 82) #[] #[.pointer (some ⟨g + 1, 0, none⟩)])) := fun W hW =>
                    cell_of ((hW.2 kf (heap_lt hkfb) HOh.out.2).1.trans hkfb) 0
                  have HKH : Hid (kf = wg.heap.size ∧ wh = World.alloc wg (.cells #[Value.func (.func 82) #[] #[.pointer (some ⟨g + 1, 0, none⟩)]] 143 (0, 0))) := ⟨hkf, hwh⟩
                  clear y0 y1 y2 y3 y4 y5
                  obtain ⟨y0, y1, y2, y3, y4, y5⟩ := HV2.out wg HXg.out
                  have hsf : ∀ (a : Addr) (fn : Fn) (x y : Array Value) (m : Mode) (W : World), (store a (.func fn x y) m).run Tryz.prog W = stored Tryz.prog W a (.func fn x y) m := fun a fn x y m W => run_store Tryz.prog W a _ m rfl
                  clear hkf hwh hxgh hkfb
                  go_upto_region 27 with (fail)
                  rw [← HKH.out.1, ← HKH.out.2]
                  clear HKH y0 y1 y2 y3 y4 y5 hsf
                  obtain ⟨y0, y1, y2, y3, y4, y5⟩ := HV2.out wh HXh.out
                  by_cases k5 : KD = 5
                  · have b5 : (KD == 5) = true := by rw [k5]; rfl
                    obtain ⟨l, rfl⟩ : ∃ l, v = .list l := by
                      have h := HCE.out.1
                      rw [k5] at h
                      cases v <;> first | exact ⟨_, rfl⟩ | cases h
                    have HKL : Hid (NK = l.length) := HNN.out.2.2.2.2.2.2
                    have HKI2 : Hid (RValsAt F w Jb l) := HKI.out
                    have h5 : (5 : Int) = p.kind := by rw [← HKD.out]; exact k5.symm
                    obtain ⟨it, hit, hitl⟩ := behind_lt (items_good (part_good HGOOD.out).2.2.1 h5.symm)
                    obtain ⟨LI, hLI⟩ : ∃ LI : Nat → List (ByteArray × Int), ∀ q, LI q = headF p (.list l) ws ++ listW (fun x w => faultsS s x p.items.toNat w) ws 0 (l.take q) := ⟨_, fun _ => rfl⟩
                    have HLI : Hid (LI 0 = L2 ∧ (∀ q (h : q < l.length), LI (q + 1) = LI q ++ faultsS s l[q] it (ws ++ [decS q]) ∧ (LI q).length + bulkJ l[q] ≤ 1000000) ∧ ∀ q, q = l.length → LI q = faultsS s (.list l) i ws) := by
                      refine ⟨by rw [hLI, HHL.out]; simp [listW], fun q h => ⟨?_, ?_⟩, fun q h => ?_⟩
                      · rw [hLI, hLI, List.take_succ_eq_append_getElem h, listW_snoc]
                        have e : (l.take q).length = q := by rw [List.length_take]; omega
                        rw [e, Nat.zero_add, hit, Int.toNat_natCast]
                        simp only [List.append_assoc]
                        rfl
                      · rw [hLI, List.length_append]
                        have h1 := headF_many p (.list l) ws
                        have h2 := listW_many (F := fun x w => faultsS s x p.items.toNat w) ws (l.take q) 0 fun x hx w => faults_many (good_need HGO.out.1) x (WJ_list.1 HWJ.out x (List.mem_of_mem_take hx)) _ w
                        have h3 : sumB (l.take q) + bulkJ l[q] + 1 ≤ sumB l := by
                          rw [← sumB_snoc, ← List.take_succ_eq_append_getElem h]
                          exact sum_take_le (fun x => bulkJ x + 1) l (q + 1)
                        have h4 := HBV.out.1
                        rw [bulkJ_list] at h4
                        have h6 : (l.map fun x => bulkJ x + 1).sum = sumB l := rfl
                        omega
                      · rw [hLI, h, List.take_length, HPD.out, faults_list (by rw [← HPD.out]; exact h5)]
                    have HIT : Hid (it < s.length ∧ p.items = (it : Int)) := ⟨hitl, hit⟩
                    have HKK : Hid (KD = 5) := k5
                    clear k5 h5 hit hitl hLI
                    go_wp2_with fail
                    go_loopw [125] (fun ix wr => ∃ q : Nat, q ≤ NK ∧ ix = .int .i64 (q : Int) ∧ Hid (Trn (OutF ko) wh wr ∧ OutI ko w3 wr (LI q))) (fun ix _ => NK - (intOf ix).toNat)
                    case atStart => exact ⟨0, Nat.zero_le _, rfl, Trn.refl, by rw [HLI.out.1]; exact HOh.out.1⟩
                    case round =>
                      obtain ⟨q, hq, rfl, hR⟩ := hrel
                      have HXR : Hid (Ext w2 wr) := HX3.out.trans hR.out.2.1
                      by_cases hlt : q < NK
                      · have hql : q < l.length := by rw [← HKL.out]; exact hlt
                        have hltI : (q : Int) < (NK : Int) := by omega
                        obtain ⟨gb, ob, u, rfl, -, -, hu, hrv⟩ := HKI2.out q hql
                        obtain ⟨K5, B5, z5, s5, A7, n7, c7, A8, n8, c8, rfl⟩ := RV.shape hrv
                        have hk : ∀ k x, (v6 K5 B5 z5 s5 (.slice A7 n7 c7) (.slice A8 n8 c8))[k]? = some x → wr.cell? ⟨gb, ob + q * 6 + k, none⟩ = some x := fun k x h => (cell_keep ((HX2.out.trans HXR.out).block gb (cell_lt (hu k x h)))).trans (hu k x h)
                        have u0 : wr.cell? ⟨gb, ob + q * 6, none⟩ = some (.int .i64 K5) := by have := hk 0 _ rfl; rwa [Nat.add_zero] at this
                        have u1 := hk 1 _ rfl
                        have u2 := hk 2 _ rfl
                        have u3 := hk 3 _ rfl
                        have u4 := hk 4 _ rfl
                        have u5 := hk 5 _ rfl
                        have HRV5 := Lib.hid hrv
                        have HE := Lib.hid (HLI.out.2.1 q hql)
                        have HBQ : Hid (bulkJ l[q] + 1 ≤ sumB l) := by
                          have h3 : sumB (l.take q) + bulkJ l[q] + 1 ≤ sumB l := by
                            rw [← sumB_snoc, ← List.take_succ_eq_append_getElem hql]
                            exact sum_take_le (fun x => bulkJ x + 1) l (q + 1)
                          unfold Hid
                          omega
                        clear hk hu hrv
                        go_upto_region 31 with (fail)
                        obtain ⟨ke, hke⟩ : ∃ n, n = wr.heap.size := ⟨_, rfl⟩
                        rw [← hke]
                        generalize hW : World.alloc wr _ = wk
                        have HXK : Hid (Ext wr wk) := by rw [← hW]; exact new_ext _ _
                        have hbk : wk.heap[ke]? = some (.cells #[.int .i64 K5, .bool B5, .int .i64 z5, .string s5, .slice A7 n7 c7, .slice A8 n8 c8] vT (0, 0)) := by rw [← hW]; exact heap_new hke
                        obtain ⟨hx08, Ax8, cx8, h38, hr8⟩ := hR.out.2
                        obtain ⟨M8, hM8⟩ : ∃ n, n = (LI q).length := ⟨_, rfl⟩
                        obtain ⟨YS, hYS⟩ : ∃ y, y = faultsS s l[q] it (ws ++ [decS q]) := ⟨_, rfl⟩
                        obtain ⟨M9, hM9⟩ : ∃ n, n = YS.length := ⟨_, rfl⟩
                        have hMM : M8 + M9 ≤ 1073741824 := by
                          have h1 := HE.out.2
                          have h2 := faults_many (good_need HGO.out.1) l[q] (WJ_list.1 HWJ.out _ (List.getElem_mem hql)) it (ws ++ [decS q])
                          rw [hM9, hYS]
                          omega
                        rw [← hM8] at h38 hr8
                        have HM8 := Lib.hid hM8
                        have HM9 := Lib.hid hM9
                        have HB8 := Lib.hid h38
                        have HR8 := Lib.hid hr8
                        have HX08 := Lib.hid hx08
                        have HYS := Lib.hid hYS
                        have HST : Hid (∀ W, Ext wk W → W.cell? ⟨ko, 0, none⟩ = some (.slice Ax8 M8 cx8) ∧ W.cell? ⟨g + 2, 4, none⟩ = some (.int .i64 (it : Int)) ∧ W.cell? ⟨ke, 0, none⟩ = some (.int .i64 K5) ∧ W.cell? ⟨ke, 1, none⟩ = some (.bool B5) ∧ W.cell? ⟨ke, 2, none⟩ = some (.int .i64 z5) ∧ W.cell? ⟨ke, 3, none⟩ = some (.string s5) ∧ W.cell? ⟨ke, 4, none⟩ = some (.slice A7 n7 c7) ∧ W.cell? ⟨ke, 5, none⟩ = some (.slice A8 n8 c8) ∧ W.cell? ⟨kf, 0, none⟩ = some (.func (.func 82) #[] #[.pointer (some ⟨g + 1, 0, none⟩)])) := fun W hW => by
                          have hw := HXK.out.trans hW
                          have ho : W.heap[ko]? = some (.cells #[.slice Ax8 M8 cx8] fltsT (0, 0)) := (hw.block ko (heap_lt HB8.out)).trans HB8.out
                          have hb : W.heap[ke]? = some (.cells #[.int .i64 K5, .bool B5, .int .i64 z5, .string s5, .slice A7 n7 c7, .slice A8 n8 c8] vT (0, 0)) := (hW.block ke (heap_lt hbk)).trans hbk
                          have h4 := (HP2.out W (HXR.out.trans hw)).at.2.2.2.2.1
                          rw [HIT.out.2] at h4
                          exact ⟨cell_of ho 0, h4, cell_of hb 0, cell_of hb 1, cell_of hb 2, cell_of hb 3, cell_of hb 4, cell_of hb 5, HFC.out W (hR.out.1.trans (hR.out.2.turn hw))⟩
                        have CDI : Hid (∀ W, Calls Tryz.prog 85 #[.int .i64 (q : Int)] W fun e w' => e = .returned (.string (decS q)) ∧ Ext W w') := fun W => digits_any q W (by omega)
                        have CBL : Hid (∀ W, Ext wk W → Calls Tryz.prog 82 #[.string (decS q), .pointer (some ⟨g + 1, 0, none⟩)] W fun e w' => ∃ A' c', e = .returned (.slice A' (NW + 1) c') ∧ WayAt (fun b => W.heap.size ≤ b) w' A' (ws ++ [decS q]) ∧ Ext W w') := fun W hW => by
                          have hw := HXR.out.trans (HXK.out.trans hW)
                          have h := below_any (g + 1) A c ws (decS q) W (by rw [← HNN.out.2.2.2.1]; exact HW2.out W hw) ((HWY.out.ext (HX2.out.trans hw)).keep (fun _ _ _ => rfl) (fun _ _ _ => trivial)) (by have := HBV.out.2.1; omega) (decS_len q (by omega))
                          rw [← HNN.out.2.2.2.1] at h
                          exact h
                        have CRF : Hid (∀ W A' c' (F'' : Nat → Prop), Ext wk W → WayAt F'' W A' (ws ++ [decS q]) → Calls Tryz.prog 30 #[.slice (some ⟨b, off, none⟩) SN c9, .int .i64 (it : Int), .agg #[.int .i64 K5, .bool B5, .int .i64 z5, .string s5, .slice A7 n7 c7, .slice A8 n8 c8], .slice A' (NW + 1) c'] W (RFlt YS W)) := fun W A' c' F'' hW hwy => by
                          have hw := HX2.out.trans (HXR.out.trans (HXK.out.trans hW))
                          have h4 := HBV.out.1
                          rw [bulkJ_list] at h4
                          have h6 : (l.map fun x => bulkJ x + 1).sum = sumB l := rfl
                          have h7 := HBV.out.2.1
                          rw [bulkJ_list] at h7
                          have h8 := HBQ.out
                          have h := HIH.out l[q] (List.getElem_mem hql) s it (.slice (some ⟨b, off, none⟩) SN c9) _ W F F'' A' c' (ws ++ [decS q]) (PartsR.mono (HS2.out.below hw) hw.size) HGO.out.1 HGO.out.2.1 HIT.out.1 (HRV5.out.ext hw) (WJ_list.1 HWJ.out _ (List.getElem_mem hql)) hwy (by rw [List.length_append]; simp only [List.length_cons, List.length_nil]; omega) (by omega)
                          rw [List.length_append, ← HNN.out.2.2.2.1] at h
                          rw [hYS]
                          exact h
                        clear hW hke hbk hx08 h38 hr8 hM8 hM9 u0 u1 u2 u3 u4 u5 y0 y1 y2 y3 y4 y5
                        (try clear HW2)
                        (try clear HP2)
                        (try clear HPF)
                        (try clear HPN)
                        (try clear HPE)
                        (try clear HGF)
                        (try clear HGD)
                        (try clear HGOOD)
                        (try clear HPD)
                        (try clear HWY)
                        (try clear CJ)
                        (try clear HJX)
                        (try clear CJ2)
                        (try clear HKD)
                        (try clear HX4)
                        (try clear HO4)
                        (try clear HWE)
                        (try clear HO5)
                        (try clear HX5)
                        (try clear HL1)
                        (try clear HZ2)
                        (try clear HL2)
                        (try clear HTb)
                        (try clear HOb)
                        (try clear HXb)
                        (try clear HB9)
                        (try clear HOg)
                        (try clear HXg)
                        (try clear HXh)
                        (try clear HOh)
                        (try clear HFC)
                        (try clear b5)
                        (try clear HK5)
                        (try clear b6)
                        (try clear HWJ)
                        (try clear HBV)
                        (try clear HNN)
                        (try clear HCE)
                        (try clear HIH)
                        (try clear HLB)
                        (try clear HL1D)
                        (try clear HHF)
                        (try clear HHL)
                        (try clear HKL)
                        (try clear HBO)
                        (try clear HOBJ)
                        (try clear HEND)
                        (try clear HNZ)
                        (try clear CHS)
                        (try clear CPO)
                        (try clear CTL)
                        (try clear HQF)
                        (try clear HI5)
                        (try clear HI6)
                        (try clear HNM)
                        (try clear HNM2)
                        (try clear HTZ)
                        (try clear C1)
                        (try clear HQI)
                        (try clear HTK)
                        (try clear HRV5)
                        (try clear HBQ)
                        (try clear HKI)
                        (try clear HKI2)
                        (try clear HV2)
                        (try clear HRV)
                        (try clear HJb)
                        (try clear HE0)
                        (try clear HXR)
                        (try clear HXR8)
                        (try clear HGO)
                        (try clear HS2)
                        (try clear HIT)
                        (try clear HKK)
                        (try clear HLI)
                        (try clear hNWs)
                        (try clear hNEs)
                        (try clear hNNs)
                        (try clear hiI)
                        (try clear bl)
                        (try clear bl2)
                        refine wp_region_split (fun w' => w'.cell? ⟨ko, 0, none⟩ = some (.slice Ax8 M8 cx8) ∧ w'.cell? ⟨g + 2, 4, none⟩ = some (.int .i64 (it : Int)) ∧ w'.cell? ⟨ke, 0, none⟩ = some (.int .i64 K5) ∧ w'.cell? ⟨ke, 1, none⟩ = some (.bool B5) ∧ w'.cell? ⟨ke, 2, none⟩ = some (.int .i64 z5) ∧ w'.cell? ⟨ke, 3, none⟩ = some (.string s5) ∧ w'.cell? ⟨ke, 4, none⟩ = some (.slice A7 n7 c7) ∧ w'.cell? ⟨ke, 5, none⟩ = some (.slice A8 n8 c8) ∧ w'.cell? ⟨kf, 0, none⟩ = some (.func (.func 82) #[] #[.pointer (some ⟨g + 1, 0, none⟩)])) 10 (by kernel_rfl) (by kernel_rfl) (by exact HST.out _ (Below.refl _ _).drew) (fun hHeld => ?_)
                        simp only [List.take_succ_cons, List.take_zero, List.drop_succ_cons, List.drop_zero]
                        generalize hd : World.drew wk = wd0 at hHeld ⊢
                        have x_wd0 : Ext wk wd0 := by rw [← hd]; exact (Below.refl _ _).drew
                        clear hd
                        refine wpAnyH_take (i := 0) (v := ?_) rfl (by kernel_rfl) (by kernel_rfl) (by kernel_rfl) (fun _ _ _ h => h) (Or.inl ⟨by rfl, ?_⟩) (by assumption) ?_
                        rotate_left
                        · intro w hSw
                          (try dsimp only at hSw)
                          go_simp
                          (try with_reducible rfl)
                        (try simp only [Act.put, List.setIfInBounds_toArray])
                        refine wpAnyH_take (i := 1) (v := ?_) rfl (by kernel_rfl) (by kernel_rfl) (by kernel_rfl) (fun _ _ _ h => h) (Or.inl ⟨by rfl, ?_⟩) (by assumption) ?_
                        rotate_left
                        · intro w hSw
                          (try dsimp only at hSw)
                          go_simp
                          (try with_reducible rfl)
                        (try simp only [Act.put])
                        refine wpAnyH_take (i := 2) (v := ?_) rfl (by kernel_rfl) (by kernel_rfl) (by kernel_rfl) (fun _ _ _ h => h) (Or.inl ⟨by rfl, ?_⟩) (by assumption) ?_
                        rotate_left
                        · intro w hSw
                          (try dsimp only at hSw)
                          go_simp
                          (try with_reducible rfl)
                        (try simp only [Act.put])
                        refine wpAnyH_take (i := 3) (v := ?_) rfl (by kernel_rfl) (by kernel_rfl) (by kernel_rfl) (fun _ _ _ h => h) (Or.inl ⟨by rfl, ?_⟩) (by assumption) ?_
                        rotate_left
                        · intro w hSw
                          (try dsimp only at hSw)
                          go_simp
                          (try with_reducible rfl)
                        (try simp only [Act.put])
                        refine wpAnyH_take (i := 4) (v := ?_) rfl (by kernel_rfl) (by kernel_rfl) (by kernel_rfl) (fun _ _ _ h => h) (Or.inl ⟨by rfl, ?_⟩) (by assumption) ?_
                        rotate_left
                        · intro w hSw
                          (try dsimp only at hSw)
                          go_simp
                          (try with_reducible rfl)
                        (try simp only [Act.put])
                        refine wpAnyH_take (i := 5) (v := ?_) rfl (by kernel_rfl) (by kernel_rfl) (by kernel_rfl) (fun _ _ _ h => h) (Or.inl ⟨by rfl, ?_⟩) (by assumption) ?_
                        rotate_left
                        · intro w hSw
                          (try dsimp only at hSw)
                          go_simp
                          (try with_reducible rfl)
                        (try simp only [Act.put])
                        refine wpAnyH_take (i := 6) (v := ?_) rfl (by kernel_rfl) (by kernel_rfl) (by kernel_rfl) (fun _ _ _ h => h) (Or.inl ⟨by rfl, ?_⟩) (by assumption) ?_
                        rotate_left
                        · intro w hSw
                          (try dsimp only at hSw)
                          go_simp
                          (try with_reducible rfl)
                        (try simp only [Act.put])
                        refine wpAnyH_ready (rs := [7]) (by kernel_rfl) (by simp) ?_
                        refine AllReadyH.cons rfl (fun KQ hKQ => ?_) AllReadyH.nil
                        go_simp
                        refine Calls.mono (CDI.out wd0) ?_
                        rintro e wd1 ⟨rfl, y_wd1⟩
                        (try dsimp only)
                        have x_wd1 : Ext wk wd1 := x_wd0.trans y_wd1
                        refine hKQ.out _ _ (by exact HST.out wd1 x_wd1) (fun hHeld => ?_)
                        clear hKQ KQ
                        (try simp only [Act.put, List.setIfInBounds_toArray, List.set_cons_zero, List.set_cons_succ])
                        refine wpAnyH_ready (rs := [8]) (by kernel_rfl) (by simp) ?_
                        refine AllReadyH.cons rfl (fun KQ hKQ => ?_) AllReadyH.nil
                        go_simp
                        refine Calls.mono (CBL.out wd1 x_wd1) ?_
                        rintro e wd2 ⟨A9, c10, rfl, hwy, y_wd2⟩
                        (try dsimp only)
                        have x_wd2 : Ext wk wd2 := x_wd1.trans y_wd2
                        refine hKQ.out _ _ (by exact HST.out wd2 x_wd2) (fun hHeld => ?_)
                        clear hKQ KQ
                        (try simp only [Act.put, List.setIfInBounds_toArray, List.set_cons_zero, List.set_cons_succ])
                        refine wpAnyH_ready (rs := [9]) (by kernel_rfl) (by simp) ?_
                        refine AllReadyH.cons rfl (fun KQ hKQ => ?_) AllReadyH.nil
                        go_simp
                        refine Calls.mono (CRF.out wd2 A9 c10 _ x_wd2 hwy) ?_
                        rintro e wd3 ⟨y_wd3, B9, d9, rfl, hr9⟩
                        (try dsimp only)
                        have x_wd3 : Ext wk wd3 := x_wd2.trans y_wd3
                        refine hKQ.out _ _ (by exact HST.out wd3 x_wd3) (fun hHeld => ?_)
                        clear hKQ KQ
                        (try simp only [Act.put, List.setIfInBounds_toArray, List.set_cons_zero, List.set_cons_succ])
                        refine wpAnyH_done (by kernel_rfl) ?_ _
                        refine TailQ.normal ?_
                        have HXW : Hid (Ext wr wd3) := HXK.out.trans x_wd3
                        rw [← HM9.out]
                        go_wp2_with (at_builtin; refine append_g ty_flts rfl _ _ (by rfl) (ko + 1) M8 M9 _ (.slice Ax8 M8 cx8) (.slice B9 M9 d9) (fltsV (LI q)) (fltsV YS) (by rfl) (by rfl) (HR8.out.ext HXW.out) (by rw [HM9.out]; exact hr9.src) (by rw [flts_len]; exact HM8.out.symm) (by rw [flts_len]; exact HM9.out.symm) (by omega) (Nat.le_trans (Nat.succ_le_of_lt (heap_lt HB8.out)) HXW.out.size) ?_; intro A9x c9x w9x h9 g9 o9; have hb9 : w9x.heap[ko]? = some (.cells #[.slice Ax8 M8 cx8] fltsT (0, 0)) := (g9.block ko (Nat.lt_of_lt_of_le (heap_lt HB8.out) HXW.out.size) (fun e => by have := (HR8.out.block ko e.symm).1; omega)).trans ((HXW.out.block ko (heap_lt HB8.out)).trans HB8.out); have y0_x := cell_of hb9 0; have y1_x : w9x.frozen? ⟨ko, 0, none⟩ = false := frozen_of hb9; have H9x := Lib.hid (And.intro h9 (And.intro g9 o9)); clear h9 g9 o9 hb9)
                        obtain ⟨h9_x, g9_x, o9_x⟩ := H9x.out
                        have HPx := Lib.hid (out_put (m := M9) (ys := YS) HKO.out.1 HX08.out HB8.out HR8.out HM8.out HM9.out HXW.out h9_x g9_x o9_x)
                        clear h9_x g9_x o9_x y0_x y1_x
                        go_roundw
                        case rel => exact ⟨q + 1, hlt, by go_num, hR.out.1.trans HPx.out.1, by rw [HE.out.1, ← HYS.out]; exact HPx.out.2⟩
                        case measure => simp [intOf]; omega
                      · have hqN : q = NK := by omega
                        have bl : decide ((q : Int) < (NK : Int)) = false := decide_eq_false (by omega)
                        have bl2 : decide (q < NK) = false := decide_eq_false hlt
                        have HEND := Lib.hid (HLI.out.2.2 q (by rw [hqN]; exact HKL.out))
                        obtain ⟨hxE, AE, cE, h3E, hrE⟩ := hR.out.2
                        obtain ⟨ME, hME⟩ : ∃ n, n = (LI q).length := ⟨_, rfl⟩
                        rw [← hME] at h3E hrE
                        have HRE : Hid (RFlt (LI q) w (.returned (.slice AE ME cE)) wr) := rflt_done HX2.out HX3.out HKO.out.2 hME hxE hrE
                        have zE : wr.cell? ⟨ko, 0, none⟩ = some (.slice AE ME cE) := cell_of h3E 0
                        have b6 : ((5 : Int) != 6) = true := rfl
                        obtain ⟨y0, y1, y2, y3, y4, y5⟩ := HV2.out wr HXR.out
                        rw [HKK.out] at y0
                        clear hqN hxE h3E hrE hME
                        go_wp2_with fail
                        go_ret
                        rw [← HEND.out]
                        exact HRE.out
                  · have b5 : (KD == 5) = false := by rw [beq_eq_false_iff_ne]; exact k5
                    have HK5 := Lib.hid k5
                    clear k5
                    by_cases k6 : KD = 6
                    · have b6 : (KD != 6) = false := by rw [k6]; rfl
                      obtain ⟨ns, l, rfl⟩ : ∃ ns l, v = .obj ns l := by
                        have h := HCE.out.1
                        rw [k6] at h
                        cases v <;> first | exact ⟨_, _, rfl⟩ | cases h
                      have HKL : Hid (NM = ns.length ∧ NK = l.length ∧ NM = NK) := ⟨HNN.out.2.2.2.2.2.1, HNN.out.2.2.2.2.2.2, by
                        have h1 := HNN.out.2.2.2.2.2.1
                        have h2 := HNN.out.2.2.2.2.2.2
                        have h3 : ns.length = l.length := (WJ_obj.1 HWJ.out).1.1
                        rw [h1, h2]
                        exact h3⟩
                      have HWO : Hid (WO (ns, l)) := HWJ.out
                      have HNM2 : Hid (NamesAt F w Ja ns) := HNM.out
                      have HKI2 : Hid (RValsAt F w Jb l) := HKI.out
                      have HBO : Hid (32 + bulkO (ns, l) ≤ 1000000 ∧ ws.length + (32 + bulkO (ns, l)) ≤ 1000000 ∧ ns.length + sumB l ≤ bulkO (ns, l)) := by
                        have h1 := HBV.out.1
                        have h2 := HBV.out.2.1
                        rw [bulk_obj] at h1 h2
                        have h3 := len_namesB ns
                        have h4 : bulkO (ns, l) = sumB l + namesB ns := rfl
                        exact ⟨h1, h2, by omega⟩
                      obtain ⟨NE3, UN3, OB3, hob⟩ := obj_lists L2 p (ns, l) s ws HWO.out (by have := HNN.out.2.1; omega) (good_need HGO.out.1) (by
                        have h1 : L2.length ≤ 3 := by rw [← HHL.out]; exact headF_many p _ ws
                        have h2 := HBO.out
                        simp only
                        omega)
                      have HOBJ := Lib.hid hob
                      have HEND : Hid (∀ j, j = ns.length → OB3 j = faultsS s (.obj ns l) i ws) := fun j hj => by
                        have h := HOBJ.out.2.2.2 j hj
                        rw [h, HPD.out, faults_obj (by rw [← HPD.out, ← HKD.out]; exact k6.symm), ← HPD.out, HHL.out]
                      have HNZ : Hid (∀ x ∈ ns, x.length ≤ 1000000) := fun x hx => by
                        have h1 := names_long (ns, l) x hx
                        have h2 := HBO.out.1
                        omega
                      have CHS : Hid (∀ (W : World) (t : ByteArray), Ext w W → Calls Tryz.prog 77 #[.slice Ja NM jc, .string t] W fun e w' => e = .returned (.bool (hasS (ns.map bx) t)) ∧ W = w') := fun W t hW => by
                        have h := strs_names (c := jc) (HNM2.out.ext hW) (by have := HBO.out; omega) (fun x hx => by have := HNZ.out x hx; omega)
                        rw [← HKL.out.1] at h
                        exact rhas_any t h
                      have CPO : Hid (∀ (W : World) (t : ByteArray), Ext w W → Calls Tryz.prog 86 #[.agg #[.int .i64 p.kind, .slice A1 NF c1, .slice A2 NN c2, .bool p.extra, .int .i64 p.items, .int .i64 p.least, .int .i64 p.most, .slice A3 NE c3, .string p.dflt], .string t] W fun e w' => e = .returned (.int .i64 ((partOf p.fields t).getD (-1))) ∧ Ext W w') := fun W t hW =>
                        rpartOf_any w.heap.size p _ _ _ t W hW.size (HPF.out.below hW)
                      have CTL : Hid (∀ (W : World) (L : List (ByteArray × Int)) (t : ByteArray) (er : Int), Trn (OutF ko) wh W → OutI ko w3 W L → t.size ≤ 1048576 → L.length ≤ 2900000 → Calls Tryz.prog 84 #[.string t, .int .i64 er, .pointer (some ⟨kf, 0, none⟩), .pointer (some ⟨ko, 0, none⟩)] W (OutPost ko w3 W (L ++ [(joinV (ws ++ [t]), er)]))) := fun W L t er hT hI hz hL => by
                        have hw := HX3.out.trans hI.1
                        exact tellf_any ko kf (g + 1) w3 W L A c ws t er HKO.out.1 hI (HFC.out W hT) (by rw [← HNN.out.2.2.2.1]; exact HW2.out W hw) ((HWY.out.ext (HX2.out.trans hw)).keep (fun _ _ _ => rfl) (fun _ _ _ => trivial)) (by have := HBV.out.2; omega) hz (by omega)
                      have HQF : Hid (∀ t q, partOf p.fields t = some q → ∃ i : Nat, q = (i : Int) ∧ i < s.length) := HGF.out
                      clear k6 hob
                      obtain ⟨-, -, a2, -, -, -, -, -, -⟩ := (HP2.out wh HXh.out).at
                      go_wp2_with fail
                      clear a2 y0 y1 y2 y3 y4 y5 b5 b6
                      go_loopw [149] (fun ix wr => ∃ j : Nat, j ≤ NN ∧ ix = .int .i64 (j : Int) ∧ Hid (Trn (OutF ko) wh wr ∧ OutI ko w3 wr (NE3 j))) (fun ix _ => NN - (intOf ix).toNat)
                      case atStart => exact ⟨0, Nat.zero_le _, rfl, Trn.refl, by rw [HOBJ.out.1.1]; exact HOh.out.1⟩
                      case round =>
                        obtain ⟨j, hj, rfl, hR⟩ := hrel
                        have HXR : Hid (Ext w2 wr) := HX3.out.trans hR.out.2.1
                        by_cases hlt : j < NN
                        · have hjl : j < p.need.length := by rw [← HNN.out.2.1]; exact hlt
                          obtain ⟨bn, on, c9', hv9, hbB, hcl⟩ := (HPN.out.below (HX2.out.trans HXR.out) (Nat.le_refl _)).cells (by omega)
                          injection hv9 with e1 e2 e3
                          clear e2
                          subst e1 e3
                          have c0 := (hcl j hjl).1
                          have HTZ : Hid (p.need[j].size ≤ 1048576) := (hcl j hjl).2
                          have hltI : (j : Int) < (NN : Int) := by omega
                          have HE := Lib.hid (HOBJ.out.1.2.1 j hjl)
                          have HLE := Lib.hid (HOBJ.out.1.2.2.1 j)
                          obtain ⟨t, ht⟩ : ∃ t, t = p.need[j] := ⟨_, rfl⟩
                          rw [← ht] at c0 HTZ HE
                          obtain ⟨-, -, -, -, y4, -⟩ := HV2.out wr HXR.out
                          have C1 := Lib.hid (CHS.out wr t (HX2.out.trans HXR.out))
                          clear ht hcl hbB
                          cases hin : hasS (ns.map bx) t with
                          | true =>
                            have HS : Hid (NE3 (j + 1) = NE3 j) := by unfold Hid; rw [HE.out]; unfold needE; rw [if_pos hin, List.append_nil]
                            rw [hin] at C1
                            clear hin
                            go_wp2_with fail
                            refine Calls.mono C1.out ?_
                            rintro e w' ⟨rfl, rfl⟩
                            go_wp2_with fail
                            go_roundw
                            case rel => exact ⟨j + 1, hlt, by go_num, hR.out.1, by rw [HS.out]; exact hR.out.2⟩
                            case measure => simp [intOf]; omega
                          | false =>
                            have HS : Hid (NE3 (j + 1) = NE3 j ++ [(joinV (ws ++ [t]), 7)]) := by unfold Hid; rw [HE.out]; unfold needE; rw [if_neg (by simp only at hin ⊢; rw [hin]; exact Bool.false_ne_true)]
                            rw [hin] at C1
                            clear hin
                            go_wp2_with fail
                            refine Calls.mono C1.out ?_
                            rintro e w' ⟨rfl, rfl⟩
                            go_wp2_with fail
                            refine Calls.mono (CTL.out wr (NE3 j) t 7 hR.out.1 hR.out.2 HTZ.out HLE.out) ?_
                            rintro e w4 ⟨rfl, t4, i4⟩
                            have H4 : Hid (Trn (OutF ko) wh w4 ∧ OutI ko w3 w4 (NE3 j ++ [(joinV (ws ++ [t]), 7)])) := ⟨hR.out.1.trans t4, i4⟩
                            clear t4 i4 y4 c0
                            go_wp2_with fail
                            go_roundw
                            case rel => exact ⟨j + 1, hlt, by go_num, H4.out.1, by rw [HS.out]; exact H4.out.2⟩
                            case measure => simp [intOf]; omega
                        · have hjN : j = NN := by omega
                          have bl : decide ((j : Int) < (NN : Int)) = false := decide_eq_false (by omega)
                          have bl2 : decide (j < NN) = false := decide_eq_false hlt
                          obtain ⟨wi, hwi⟩ : ∃ w5, w5 = wr := ⟨_, rfl⟩
                          have HI5 : Hid (Trn (OutF ko) wh wi ∧ OutI ko w3 wi (UN3 0)) := by
                            have h := hR.out
                            rw [HOBJ.out.1.2.2.2 j (by rw [hjN]; exact HNN.out.2.1)] at h
                            rw [hwi]
                            exact h
                          rw [← hwi] at HXR ⊢
                          clear hlt hjN hwi hR hj
                          obtain ⟨-, -, -, -, y4, -⟩ := HV2.out wi HXR.out
                          go_wp2_with fail
                          clear bl bl2 y4
                          go_loopw [165] (fun ix wr => ∃ j : Nat, j ≤ NM ∧ ix = .int .i64 (j : Int) ∧ Hid (Trn (OutF ko) wh wr ∧ OutI ko w3 wr (UN3 j))) (fun ix _ => NM - (intOf ix).toNat)
                          case atStart => exact ⟨0, Nat.zero_le _, rfl, HI5.out⟩
                          case round =>
                            obtain ⟨j, hj, rfl, hR⟩ := hrel
                            have HXR : Hid (Ext w2 wr) := HX3.out.trans hR.out.2.1
                            by_cases hlt : j < NM
                            · have hjl : j < ns.length := by rw [← HKL.out.1]; exact hlt
                              obtain ⟨bn, on, rfl, -, c0⟩ := (HNM2.out.ext (HX2.out.trans HXR.out)) j hjl
                              have hltI : (j : Int) < (NM : Int) := by omega
                              have HE := Lib.hid (HOBJ.out.2.1.1 j hjl)
                              have HLE := Lib.hid (HOBJ.out.2.1.2.1 j)
                              have HTZ : Hid ((bx ns[j]).size ≤ 1048576) := by
                                have h := HNZ.out _ (List.getElem_mem hjl)
                                unfold Hid
                                rw [bx_size]
                                omega
                              simp only at HE
                              obtain ⟨n, hn⟩ : ∃ n, n = ns[j] := ⟨_, rfl⟩
                              rw [← hn] at c0 HTZ HE
                              obtain ⟨t, ht⟩ : ∃ t, t = bx n := ⟨_, rfl⟩
                              have HNT := Lib.hid ht
                              rw [← ht] at c0 HTZ
                              have C1 := Lib.hid (CPO.out wr t (HX2.out.trans HXR.out))
                              clear ht hn
                              obtain ⟨a0, a1, a2, a3, a4, a5, a6, a7, a8⟩ := (HP2.out wr HXR.out).at
                              cases hin : partOf p.fields t with
                              | some q =>
                                have HS : Hid (UN3 (j + 1) = UN3 j) := by unfold Hid; rw [HE.out]; unfold unkE; rw [← HNT.out, if_pos (.inl (by rw [hin]; rfl)), List.append_nil]
                                obtain ⟨qi, rfl, -⟩ := HQF.out t q hin
                                rw [hin] at C1
                                simp only [Option.getD_some] at C1
                                clear hin
                                have dq : decide ((qi : Int) < 0) = false := decide_eq_false (by omega)
                                go_wp2_with fail
                                refine Calls.mono C1.out ?_
                                rintro e w4 ⟨rfl, x4⟩
                                have H4 : Hid (Trn (OutF ko) wh w4 ∧ OutI ko w3 w4 (UN3 j)) := ⟨hR.out.1.trans (hR.out.2.turn x4), (hR.out.2.ext x4).1⟩
                                clear x4 a0 a1 a2 a3 a4 a5 a6 a7 a8 c0
                                go_wp2_with fail
                                go_roundw
                                case rel => exact ⟨j + 1, hlt, by go_num, H4.out.1, by rw [HS.out]; exact H4.out.2⟩
                                case measure => simp [intOf]; omega
                              | none =>
                                have HNI := Lib.hid hin
                                rw [hin] at C1
                                simp only [Option.getD_none] at C1
                                clear hin
                                go_wp2_with fail
                                refine Calls.mono C1.out ?_
                                rintro e w4 ⟨rfl, x4⟩
                                have H4 : Hid (Trn (OutF ko) wh w4 ∧ OutI ko w3 w4 (UN3 j)) := ⟨hR.out.1.trans (hR.out.2.turn x4), (hR.out.2.ext x4).1⟩
                                have a3' := (HP2.out w4 (HXR.out.trans x4)).at.2.2.2.1
                                clear x4 a0 a1 a2 a3 a4 a5 a6 a7 a8 c0
                                rcases Bool.eq_false_or_eq_true p.extra with hex | hex
                                · have HS : Hid (UN3 (j + 1) = UN3 j) := by unfold Hid; rw [HE.out]; unfold unkE; rw [if_pos (.inr hex), List.append_nil]
                                  rw [hex] at a3'
                                  clear hex
                                  go_wp2_with fail
                                  go_roundw
                                  case rel => exact ⟨j + 1, hlt, by go_num, H4.out.1, by rw [HS.out]; exact H4.out.2⟩
                                  case measure => simp [intOf]; omega
                                · have HS : Hid (UN3 (j + 1) = UN3 j ++ [(joinV (ws ++ [t]), 6)]) := by
                                    unfold Hid
                                    rw [HE.out]
                                    unfold unkE
                                    rw [← HNT.out, if_neg (fun h => by
                                      rcases h with h | h
                                      · rw [HNI.out] at h; cases h
                                      · rw [hex] at h; cases h)]
                                  rw [hex] at a3'
                                  clear hex
                                  go_wp2_with fail
                                  refine Calls.mono (CTL.out w4 (UN3 j) t 6 H4.out.1 H4.out.2 HTZ.out HLE.out) ?_
                                  rintro e w5 ⟨rfl, t5, i5⟩
                                  have H5 : Hid (Trn (OutF ko) wh w5 ∧ OutI ko w3 w5 (UN3 j ++ [(joinV (ws ++ [t]), 6)])) := ⟨H4.out.1.trans t5, i5⟩
                                  clear t5 i5 a3'
                                  go_wp2_with fail
                                  go_roundw
                                  case rel => exact ⟨j + 1, hlt, by go_num, H5.out.1, by rw [HS.out]; exact H5.out.2⟩
                                  case measure => simp [intOf]; omega
                            · have hjN : j = NM := by omega
                              have bl : decide ((j : Int) < (NM : Int)) = false := decide_eq_false (by omega)
                              have bl2 : decide (j < NM) = false := decide_eq_false hlt
                              obtain ⟨wj, hwj⟩ : ∃ w5, w5 = wr := ⟨_, rfl⟩
                              have HI6 : Hid (Trn (OutF ko) wh wj ∧ OutI ko w3 wj (OB3 0)) := by
                                have h := hR.out
                                rw [HOBJ.out.2.1.2.2 j (by rw [hjN]; exact HKL.out.1)] at h
                                rw [hwj]
                                exact h
                              rw [← hwj] at HXR ⊢
                              clear hlt hjN hwj hR hj
                              obtain ⟨-, -, -, -, y4, -⟩ := HV2.out wj HXR.out
                              go_wp2_with fail
                              clear bl bl2 y4
                              go_loopw [185] (fun ix wr => ∃ j : Nat, j ≤ NM ∧ ix = .int .i64 (j : Int) ∧ Hid (Trn (OutF ko) wh wr ∧ OutI ko w3 wr (OB3 j))) (fun ix _ => NM - (intOf ix).toNat)
                              case atStart => exact ⟨0, Nat.zero_le _, rfl, HI6.out⟩
                              case round =>
                                obtain ⟨q, hq, rfl, hR⟩ := hrel
                                have HXR : Hid (Ext w2 wr) := HX3.out.trans hR.out.2.1
                                by_cases hlt : q < NM
                                · have hjl : q < ns.length := by rw [← HKL.out.1]; exact hlt
                                  have hql : q < l.length := by rw [← HKL.out.2.1, ← HKL.out.2.2]; exact hlt
                                  obtain ⟨bn, on, rfl, -, c0⟩ := (HNM2.out.ext (HX2.out.trans HXR.out)) q hjl
                                  have hltI : (q : Int) < (NM : Int) := by omega
                                  have hltK : (q : Int) < (NK : Int) := by rw [← HKL.out.2.2]; exact hltI
                                  have HE := Lib.hid (HOBJ.out.2.2.1 q hjl hql)
                                  have HTZ : Hid ((bx ns[q]).size ≤ 1048576) := by
                                    have h := HNZ.out _ (List.getElem_mem hjl)
                                    unfold Hid
                                    rw [bx_size]
                                    omega
                                  simp only at HE
                                  obtain ⟨t, ht⟩ : ∃ t, t = bx ns[q] := ⟨_, rfl⟩
                                  rw [← ht] at c0 HTZ HE
                                  have C1 := Lib.hid (CPO.out wr t (HX2.out.trans HXR.out))
                                  clear ht
                                  obtain ⟨a0, a1, a2, a3, a4, a5, a6, a7, a8⟩ := (HP2.out wr HXR.out).at
                                  cases hin : partOf p.fields t with
                                  | none =>
                                    have HS : Hid (OB3 (q + 1) = OB3 q) := by unfold Hid; rw [HE.out.1, hin]; exact List.append_nil _
                                    rw [hin] at C1
                                    simp only [Option.getD_none] at C1
                                    clear hin
                                    go_wp2_with fail
                                    refine Calls.mono C1.out ?_
                                    rintro e w4 ⟨rfl, x4⟩
                                    have H4 : Hid (Trn (OutF ko) wh w4 ∧ OutI ko w3 w4 (OB3 q)) := ⟨hR.out.1.trans (hR.out.2.turn x4), (hR.out.2.ext x4).1⟩
                                    clear x4 a0 a1 a2 a3 a4 a5 a6 a7 a8 c0
                                    go_wp2_with fail
                                    go_roundw
                                    case rel => exact ⟨q + 1, hlt, by go_num, H4.out.1, by rw [HS.out]; exact H4.out.2⟩
                                    case measure => simp [intOf]; omega
                                  | some qq =>
                                    have HS : Hid (OB3 (q + 1) = OB3 q ++ faultsS s l[q] qq.toNat (ws ++ [t])) := by unfold Hid; rw [HE.out.1, hin]
                                    obtain ⟨qi, rfl, hqi⟩ := HQF.out t qq hin
                                    have HQI := Lib.hid hqi
                                    rw [hin] at C1
                                    simp only [Option.getD_some] at C1
                                    clear hin hqi
                                    rw [Int.toNat_natCast] at HS
                                    have dq : decide ((qi : Int) ≥ 0) = true := decide_eq_true (by omega)
                                    go_wp2_with fail
                                    refine Calls.mono C1.out ?_
                                    rintro e wk ⟨rfl, xk⟩
                                    have HXK := Lib.hid xk
                                    have HTK := Lib.hid (hR.out.2.turn xk)
                                    obtain ⟨gb, ob, u, e9, -, -, hu, hrv⟩ := HKI2.out q hql
                                    have HJb := Lib.hid e9
                                    obtain ⟨K5, B5, z5, s5, A7, n7, c7, A8, n8, c8, rfl⟩ := RV.shape hrv
                                    have HRV5 := Lib.hid hrv
                                    have HBQ : Hid (bulkJ l[q] + 1 ≤ bulkO (ns, l)) := by
                                      have h3 := bulk_get (at_field HWO.out hjl hql)
                                      exact h3
                                    obtain ⟨hx08, Ax8, cx8, h38, hr8⟩ := hR.out.2
                                    obtain ⟨M8, hM8⟩ : ∃ n, n = (OB3 q).length := ⟨_, rfl⟩
                                    obtain ⟨YS, hYS⟩ : ∃ y, y = faultsS s l[q] qi (ws ++ [t]) := ⟨_, rfl⟩
                                    obtain ⟨M9, hM9⟩ : ∃ n, n = YS.length := ⟨_, rfl⟩
                                    have hMM : M8 + M9 ≤ 1073741824 := by
                                      have h1 := HE.out.2
                                      have h2 := faults_many (good_need HGO.out.1) l[q] (HWO.out.vals _ (List.getElem_mem hql)) qi (ws ++ [t])
                                      rw [hM9, hYS]
                                      omega
                                    rw [← hM8] at h38 hr8
                                    have HM8 := Lib.hid hM8
                                    have HM9 := Lib.hid hM9
                                    have HB8 := Lib.hid h38
                                    have HR8 := Lib.hid hr8
                                    have HX08 := Lib.hid hx08
                                    have HYS := Lib.hid hYS
                                    have HST : Hid (∀ W, Ext wk W → W.cell? ⟨ko, 0, none⟩ = some (.slice Ax8 M8 cx8) ∧ W.cell? ⟨g, 5, none⟩ = some (.slice Jb NK jd) ∧ W.cell? ⟨gb, ob + q * 6, none⟩ = some (.int .i64 K5) ∧ W.cell? ⟨gb, ob + q * 6 + 1, none⟩ = some (.bool B5) ∧ W.cell? ⟨gb, ob + q * 6 + 2, none⟩ = some (.int .i64 z5) ∧ W.cell? ⟨gb, ob + q * 6 + 3, none⟩ = some (.string s5) ∧ W.cell? ⟨gb, ob + q * 6 + 4, none⟩ = some (.slice A7 n7 c7) ∧ W.cell? ⟨gb, ob + q * 6 + 5, none⟩ = some (.slice A8 n8 c8) ∧ W.cell? ⟨kf, 0, none⟩ = some (.func (.func 82) #[] #[.pointer (some ⟨g + 1, 0, none⟩)])) := fun W hW => by
                                      have hw := HXK.out.trans hW
                                      have ho : W.heap[ko]? = some (.cells #[.slice Ax8 M8 cx8] fltsT (0, 0)) := (hw.block ko (heap_lt HB8.out)).trans HB8.out
                                      have hw0 := HX2.out.trans (HXR.out.trans hw)
                                      have hk : ∀ k x, (v6 K5 B5 z5 s5 (.slice A7 n7 c7) (.slice A8 n8 c8))[k]? = some x → W.cell? ⟨gb, ob + q * 6 + k, none⟩ = some x := fun k x h => (cell_keep (hw0.block gb (cell_lt (hu k x h)))).trans (hu k x h)
                                      exact ⟨cell_of ho 0, (HV2.out W (HXR.out.trans hw)).2.2.2.2.2, by have := hk 0 _ rfl; rwa [Nat.add_zero] at this, hk 1 _ rfl, hk 2 _ rfl, hk 3 _ rfl, hk 4 _ rfl, hk 5 _ rfl, HFC.out W (hR.out.1.trans (hR.out.2.turn hw))⟩
                                    have CBL : Hid (∀ W, Ext wk W → Calls Tryz.prog 82 #[.string t, .pointer (some ⟨g + 1, 0, none⟩)] W fun e w' => ∃ A' c', e = .returned (.slice A' (NW + 1) c') ∧ WayAt (fun b => W.heap.size ≤ b) w' A' (ws ++ [t]) ∧ Ext W w') := fun W hW => by
                                      have hw := HXR.out.trans (HXK.out.trans hW)
                                      have h := below_any (g + 1) A c ws t W (by rw [← HNN.out.2.2.2.1]; exact HW2.out W hw) ((HWY.out.ext (HX2.out.trans hw)).keep (fun _ _ _ => rfl) (fun _ _ _ => trivial)) (by have := HBV.out.2.1; omega) HTZ.out
                                      rw [← HNN.out.2.2.2.1] at h
                                      exact h
                                    have CRF : Hid (∀ W A' c' (F'' : Nat → Prop), Ext wk W → WayAt F'' W A' (ws ++ [t]) → Calls Tryz.prog 30 #[.slice (some ⟨b, off, none⟩) SN c9, .int .i64 (qi : Int), .agg #[.int .i64 K5, .bool B5, .int .i64 z5, .string s5, .slice A7 n7 c7, .slice A8 n8 c8], .slice A' (NW + 1) c'] W (RFlt YS W)) := fun W A' c' F'' hW hwy => by
                                      have hw := HX2.out.trans (HXR.out.trans (HXK.out.trans hW))
                                      have h4 := HBO.out
                                      have h8 := HBQ.out
                                      have h := HIH.out l[q] (List.getElem_mem hql) s qi (.slice (some ⟨b, off, none⟩) SN c9) _ W F F'' A' c' (ws ++ [t]) (PartsR.mono (HS2.out.below hw) hw.size) HGO.out.1 HGO.out.2.1 HQI.out (HRV5.out.ext hw) (HWO.out.vals _ (List.getElem_mem hql)) hwy (by rw [List.length_append]; simp only [List.length_cons, List.length_nil]; omega) (by omega)
                                      rw [List.length_append, ← HNN.out.2.2.2.1] at h
                                      rw [hYS]
                                      exact h
                                    have HXR8 := HXR
                                    subst e9
                                    clear xk hx08 h38 hr8 hM8 hM9 hYS hrv hu a0 a1 a2 a3 a4 a5 a6 a7 a8 c0
                                    go_upto_region 52 with (fail)
                                    clear dq
                                    (try clear HW2)
                                    (try clear HP2)
                                    (try clear HPF)
                                    (try clear HPN)
                                    (try clear HPE)
                                    (try clear HGF)
                                    (try clear HGD)
                                    (try clear HGOOD)
                                    (try clear HPD)
                                    (try clear HWY)
                                    (try clear CJ)
                                    (try clear HJX)
                                    (try clear CJ2)
                                    (try clear HKD)
                                    (try clear HX4)
                                    (try clear HO4)
                                    (try clear HWE)
                                    (try clear HO5)
                                    (try clear HX5)
                                    (try clear HL1)
                                    (try clear HZ2)
                                    (try clear HL2)
                                    (try clear HTb)
                                    (try clear HOb)
                                    (try clear HXb)
                                    (try clear HB9)
                                    (try clear HOg)
                                    (try clear HXg)
                                    (try clear HXh)
                                    (try clear HOh)
                                    (try clear HFC)
                                    (try clear b5)
                                    (try clear HK5)
                                    (try clear b6)
                                    (try clear HWJ)
                                    (try clear HBV)
                                    (try clear HNN)
                                    (try clear HCE)
                                    (try clear HIH)
                                    (try clear HLB)
                                    (try clear HL1D)
                                    (try clear HHF)
                                    (try clear HHL)
                                    (try clear HKL)
                                    (try clear HBO)
                                    (try clear HOBJ)
                                    (try clear HEND)
                                    (try clear HNZ)
                                    (try clear CHS)
                                    (try clear CPO)
                                    (try clear CTL)
                                    (try clear HQF)
                                    (try clear HI5)
                                    (try clear HI6)
                                    (try clear HNM)
                                    (try clear HNM2)
                                    (try clear HTZ)
                                    (try clear C1)
                                    (try clear HQI)
                                    (try clear HTK)
                                    (try clear HRV5)
                                    (try clear HBQ)
                                    (try clear HKI)
                                    (try clear HKI2)
                                    (try clear HV2)
                                    (try clear HRV)
                                    (try clear HJb)
                                    (try clear HE0)
                                    (try clear HXR)
                                    (try clear HXR8)
                                    (try clear HGO)
                                    (try clear HS2)
                                    (try clear HIT)
                                    (try clear HKK)
                                    (try clear HLI)
                                    (try clear hNWs)
                                    (try clear hNEs)
                                    (try clear hNNs)
                                    (try clear hiI)
                                    (try clear bl)
                                    (try clear bl2)
                                    refine wp_region_split (fun w' => w'.cell? ⟨ko, 0, none⟩ = some (.slice Ax8 M8 cx8) ∧ w'.cell? ⟨g, 5, none⟩ = some (.slice (some ⟨gb, ob, none⟩) NK jd) ∧ w'.cell? ⟨gb, ob + q * 6, none⟩ = some (.int .i64 K5) ∧ w'.cell? ⟨gb, ob + q * 6 + 1, none⟩ = some (.bool B5) ∧ w'.cell? ⟨gb, ob + q * 6 + 2, none⟩ = some (.int .i64 z5) ∧ w'.cell? ⟨gb, ob + q * 6 + 3, none⟩ = some (.string s5) ∧ w'.cell? ⟨gb, ob + q * 6 + 4, none⟩ = some (.slice A7 n7 c7) ∧ w'.cell? ⟨gb, ob + q * 6 + 5, none⟩ = some (.slice A8 n8 c8) ∧ w'.cell? ⟨kf, 0, none⟩ = some (.func (.func 82) #[] #[.pointer (some ⟨g + 1, 0, none⟩)])) 12 (by kernel_rfl) (by kernel_rfl) (by exact HST.out _ (Below.refl _ _).drew) (fun hHeld => ?_)
                                    simp only [List.take_succ_cons, List.take_zero, List.drop_succ_cons, List.drop_zero]
                                    generalize hd : World.drew wk = wd0 at hHeld ⊢
                                    have x_wd0 : Ext wk wd0 := by rw [← hd]; exact (Below.refl _ _).drew
                                    clear hd
                                    refine wpAnyH_take (i := 0) (v := ?_) rfl (by kernel_rfl) (by kernel_rfl) (by kernel_rfl) (fun _ _ _ h => h) (Or.inl ⟨by rfl, ?_⟩) (by assumption) ?_
                                    rotate_left
                                    · intro w hSw
                                      (try dsimp only at hSw)
                                      go_simp
                                      (try with_reducible rfl)
                                    (try simp only [Act.put, List.setIfInBounds_toArray])
                                    refine wpAnyH_take (i := 1) (v := ?_) rfl (by kernel_rfl) (by kernel_rfl) (by kernel_rfl) (fun _ _ _ h => h) (Or.inl ⟨by rfl, ?_⟩) (by assumption) ?_
                                    rotate_left
                                    · intro w hSw
                                      (try dsimp only at hSw)
                                      go_simp
                                      (try with_reducible rfl)
                                    (try simp only [Act.put])
                                    refine wpAnyH_take (i := 2) (v := ?_) rfl (by kernel_rfl) (by kernel_rfl) (by kernel_rfl) (fun _ _ _ h => h) (Or.inl ⟨by rfl, ?_⟩) (by assumption) ?_
                                    rotate_left
                                    · intro w hSw
                                      (try dsimp only at hSw)
                                      go_simp
                                      (try with_reducible rfl)
                                    (try simp only [Act.put])
                                    refine wpAnyH_take (i := 3) (v := ?_) rfl (by kernel_rfl) (by kernel_rfl) (by kernel_rfl) (fun _ _ _ h => h) (Or.inl ⟨by rfl, ?_⟩) (by assumption) ?_
                                    rotate_left
                                    · intro w hSw
                                      (try dsimp only at hSw)
                                      go_simp
                                      (try with_reducible rfl)
                                    (try simp only [Act.put])
                                    refine wpAnyH_take (i := 4) (v := ?_) rfl (by kernel_rfl) (by kernel_rfl) (by kernel_rfl) (fun _ _ _ h => h) (Or.inl ⟨by rfl, ?_⟩) (by assumption) ?_
                                    rotate_left
                                    · intro w hSw
                                      (try dsimp only at hSw)
                                      go_simp
                                      (try with_reducible rfl)
                                    (try simp only [Act.put])
                                    refine wpAnyH_take (i := 5) (v := ?_) rfl (by kernel_rfl) (by kernel_rfl) (by kernel_rfl) (fun _ _ _ h => h) (Or.inl ⟨by rfl, ?_⟩) (by assumption) ?_
                                    rotate_left
                                    · intro w hSw
                                      (try dsimp only at hSw)
                                      go_simp
                                      (try with_reducible rfl)
                                    (try simp only [Act.put])
                                    refine wpAnyH_take (i := 6) (v := ?_) rfl (by kernel_rfl) (by kernel_rfl) (by kernel_rfl) (fun _ _ _ h => h) (Or.inl ⟨by rfl, ?_⟩) (by assumption) ?_
                                    rotate_left
                                    · intro w hSw
                                      (try dsimp only at hSw)
                                      go_simp
                                      (try with_reducible rfl)
                                    (try simp only [Act.put])
                                    refine wpAnyH_take (i := 7) (v := ?_) rfl (by kernel_rfl) (by kernel_rfl) (by kernel_rfl) (fun _ _ _ h => h) (Or.inl ⟨by rfl, ?_⟩) (by assumption) ?_
                                    rotate_left
                                    · intro w hSw
                                      (try dsimp only at hSw)
                                      go_simp
                                      (try with_reducible rfl)
                                    (try simp only [Act.put])
                                    refine wpAnyH_take (i := 8) (v := ?_) rfl (by kernel_rfl) (by kernel_rfl) (by kernel_rfl) (fun _ _ _ h => h) (Or.inl ⟨by rfl, ?_⟩) (by assumption) ?_
                                    rotate_left
                                    · intro w hSw
                                      (try dsimp only at hSw)
                                      go_simp
                                      (try with_reducible rfl)
                                    (try simp only [Act.put])
                                    refine wpAnyH_take (i := 9) (v := ?_) rfl (by kernel_rfl) (by kernel_rfl) (by kernel_rfl) (fun _ _ _ h => h) (Or.inl ⟨by rfl, ?_⟩) (by assumption) ?_
                                    rotate_left
                                    · intro w hSw
                                      (try dsimp only at hSw)
                                      go_simp
                                      (try with_reducible rfl)
                                    (try simp only [Act.put])
                                    refine wpAnyH_ready (rs := [10]) (by kernel_rfl) (by simp) ?_
                                    refine AllReadyH.cons rfl (fun KQ hKQ => ?_) AllReadyH.nil
                                    go_simp
                                    refine Calls.mono (CBL.out wd0 x_wd0) ?_
                                    rintro e wd1 ⟨A9, c10, rfl, hwy, y_wd1⟩
                                    (try dsimp only)
                                    have x_wd1 : Ext wk wd1 := x_wd0.trans y_wd1
                                    refine hKQ.out _ _ (by exact HST.out wd1 x_wd1) (fun hHeld => ?_)
                                    clear hKQ KQ
                                    (try simp only [Act.put, List.setIfInBounds_toArray, List.set_cons_zero, List.set_cons_succ])
                                    refine wpAnyH_ready (rs := [11]) (by kernel_rfl) (by simp) ?_
                                    refine AllReadyH.cons rfl (fun KQ hKQ => ?_) AllReadyH.nil
                                    go_simp
                                    refine Calls.mono (CRF.out wd1 A9 c10 _ x_wd1 hwy) ?_
                                    rintro e wd2 ⟨y_wd2, B9, d9, rfl, hr9⟩
                                    (try dsimp only)
                                    have x_wd2 : Ext wk wd2 := x_wd1.trans y_wd2
                                    refine hKQ.out _ _ (by exact HST.out wd2 x_wd2) (fun hHeld => ?_)
                                    clear hKQ KQ
                                    (try simp only [Act.put, List.setIfInBounds_toArray, List.set_cons_zero, List.set_cons_succ])
                                    refine wpAnyH_done (by kernel_rfl) ?_ _
                                    refine TailQ.normal ?_
                                    have HXW : Hid (Ext wr wd2) := HXK.out.trans x_wd2
                                    rw [← HM9.out]
                                    go_wp2_with (at_builtin; refine append_g ty_flts rfl _ _ (by rfl) (ko + 1) M8 M9 _ (.slice Ax8 M8 cx8) (.slice B9 M9 d9) (fltsV (OB3 q)) (fltsV YS) (by rfl) (by rfl) (HR8.out.ext HXW.out) (by rw [HM9.out]; exact hr9.src) (by rw [flts_len]; exact HM8.out.symm) (by rw [flts_len]; exact HM9.out.symm) (by omega) (Nat.le_trans (Nat.succ_le_of_lt (heap_lt HB8.out)) HXW.out.size) ?_; intro A9x c9x w9x h9 g9 o9; have hb9 : w9x.heap[ko]? = some (.cells #[.slice Ax8 M8 cx8] fltsT (0, 0)) := (g9.block ko (Nat.lt_of_lt_of_le (heap_lt HB8.out) HXW.out.size) (fun e => by have := (HR8.out.block ko e.symm).1; omega)).trans ((HXW.out.block ko (heap_lt HB8.out)).trans HB8.out); have y0_x := cell_of hb9 0; have y1_x : w9x.frozen? ⟨ko, 0, none⟩ = false := frozen_of hb9; have H9x := Lib.hid (And.intro h9 (And.intro g9 o9)); clear h9 g9 o9 hb9)
                                    obtain ⟨h9_x, g9_x, o9_x⟩ := H9x.out
                                    have HPx := Lib.hid (out_put (m := M9) (ys := YS) HKO.out.1 HX08.out HB8.out HR8.out HM8.out HM9.out HXW.out h9_x g9_x o9_x)
                                    clear h9_x g9_x o9_x y0_x y1_x
                                    go_roundw
                                    case rel => exact ⟨q + 1, hlt, by go_num, hR.out.1.trans HPx.out.1, by rw [HS.out, ← HYS.out]; exact HPx.out.2⟩
                                    case measure => simp [intOf]; omega
                                · have hqN : q = NM := by omega
                                  have bl : decide ((q : Int) < (NM : Int)) = false := decide_eq_false (by omega)
                                  have bl2 : decide (q < NM) = false := decide_eq_false hlt
                                  have HEN := Lib.hid (HEND.out q (by rw [hqN]; exact HKL.out.1))
                                  obtain ⟨hxE, AE, cE, h3E, hrE⟩ := hR.out.2
                                  obtain ⟨ME, hME⟩ : ∃ n, n = (OB3 q).length := ⟨_, rfl⟩
                                  rw [← hME] at h3E hrE
                                  have HRE : Hid (RFlt (OB3 q) w (.returned (.slice AE ME cE)) wr) := rflt_done HX2.out HX3.out HKO.out.2 hME hxE hrE
                                  have zE : wr.cell? ⟨ko, 0, none⟩ = some (.slice AE ME cE) := cell_of h3E 0
                                  clear hqN hxE h3E hrE hME
                                  go_wp2_with fail
                                  go_ret
                                  rw [← HEN.out]
                                  exact HRE.out
                    · have b6 : (KD != 6) = true := bne_iff_ne.2 k6
                      have HEND : Hid (L2 = faultsS s v i ws) := by
                        unfold Hid
                        rw [faults_flat (by rw [← HPD.out, ← HCE.out.1]; exact HKD.out) ws (by rw [← HCE.out.1]; exact HK5.out) (by rw [← HCE.out.1]; exact k6), ← HPD.out, HHL.out]
                      obtain ⟨hxE, AE, cE, h3E, hrE⟩ := HOh.out.1
                      obtain ⟨ME, hME⟩ : ∃ n, n = L2.length := ⟨_, rfl⟩
                      rw [← hME] at h3E hrE
                      have HRE : Hid (RFlt L2 w (.returned (.slice AE ME cE)) wh) := rflt_done HX2.out HX3.out HKO.out.2 hME hxE hrE
                      have zE : wh.cell? ⟨ko, 0, none⟩ = some (.slice AE ME cE) := cell_of h3E 0
                      clear k6 hxE h3E hrE hME
                      go_wp2_with fail
                      go_ret
                      rw [← HEND.out]
                      exact HRE.out
  · have kb : (KD != p.kind) = true := bne_iff_ne.2 hkd
    have HKD := Lib.hid (faults_kind (s := s) (k := i) (v := v) (by rw [← HPD.out, ← HCE.out.1]; exact hkd) ws)
    clear hkd
    go_wp2_with fail
    go_ret
    refine ⟨HX2.out.trans (HX3.out.trans (new_ext _ _)), some ⟨w3.heap.size, 0, none⟩, 1, by rw [HKD.out]; rfl, ?_⟩
    rw [HKD.out]
    refine ⟨fun r hr => ?_, .inr ⟨w3.heap.size, 1, [], rfl, (HX2.out.trans HX3.out).size, ?_, rfl, Nat.le_refl _, by unfold maxLen; omega⟩⟩
    · rw [show fltsV [(joinV ws, (8 : Int))] = [[.string (joinV ws), .int .i64 8]] from rfl, List.mem_singleton] at hr
      rw [hr]
      refine ⟨rfl, fun u hu => ?_⟩
      rcases List.mem_cons.1 hu with rfl | hu
      · rfl
      · rw [List.mem_singleton] at hu
        rw [hu]
        rfl
    · rw [HJX.out]
      exact heap_new rfl
theorem rfault_val (v : J) : RFaultC v := by
  induction v using J.ind with
  | hl l ih => exact rfault_core _ ih
  | ho ns l ih => exact rfault_core _ ih
  | hn => exact rfault_core _ (fun x hx => by cases hx)
  | hb b => exact rfault_core _ (fun x hx => by cases hx)
  | hi n => exact rfault_core _ (fun x hx => by cases hx)
  | ht t => exact rfault_core _ (fun x hx => by cases hx)
end Go.Proofs.YtnccefeehkcneaaGreatDoor.Sc
