/-
  Schemas, the program's checker: a part (printed by gen/scg.py).
-/
import Derived.Test.YtnccefeehkcneaaGreatDoorScy
import Derived.Test.YtnccefeehkcneaaGreatDoorScz
namespace Go.Proofs.YtnccefeehkcneaaGreatDoor.Sc
open Go Go.RowKit Go.Proofs.YtnccefeehkcneaaGreatDoor.Js Go.Proofs.YtnccefeehkcneaaGreatDoor.Sx Go.Proofs.YtnccefeehkcneaaGreatDoor.Pt Go.Proofs.YtnccefeehkcneaaGreatDoor.Jm Go.Proofs.YtnccefeehkcneaaGreatDoor.Gr Go.Proofs.YtnccefeehkcneaaGreatDoor.Ur
theorem isE_pos {s : ByteArray} (h : s.size ≠ 0) : s.toList.isEmpty = false := by
  rw [ByteArray.toList_eq, List.isEmpty_eq_false_iff]
  intro e
  have h1 : s.data.toList.length = 0 := by rw [e]; rfl
  have h2 : s.data.toList.length = s.size := by simp
  omega
theorem isE_zero {s : ByteArray} (h : s.size = 0) : s.toList.isEmpty = true := by
  rw [ByteArray.toList_eq, List.isEmpty_iff]
  apply List.eq_nil_of_length_eq_zero
  have h2 : s.data.toList.length = s.size := by simp
  omega
set_option maxRecDepth 100000 in
theorem run_head_f (b off n c q : Nat) (hq : q ≤ c) (W : World) : (Instr.slice 60 (.slice (some ⟨b, off, none⟩) n c) none (some (.int .i64 (q : Int))) none).run Tryz.prog W = .ok (.slice (some ⟨b, off, none⟩) q c) W := by
  have h := run_slice_h (P := Tryz.prog) (w := W) 60 (some ⟨b, off, none⟩) n c Tryz.underlying60 .i64 (q : Int) (by omega) (by omega)
  rw [h]
  have e1 : (sizeOf (Tryz.prog.elem 60)).run Tryz.prog W = .ok 2 W := by kernel_rfl
  rw [e1]
  simp only [Result.andThen, sliced]
  congr 2
  simp
  intro _
  rfl
theorem fields_at {n i : Nat} {b : Int} {fs : List (ByteArray × Int)} {q : Nat} (h : q < fs.length) :
    ((fs.take (q + 1)).foldl (fieldS n i) ([], b)).2 = needS (needS ((fs.take q).foldl (fieldS n i) ([], b)).2 (!(fs.take q).any fun f => eqS f.1 fs[q].1) 5) (behindS n i fs[q].2) 7 := by
  have h1 : ∀ (l : List (ByteArray × Int)) (st : List ByteArray × Int), (l.foldl (fieldS n i) st).1 = st.1 ++ l.map (·.1) := fun l => by
    induction l with
    | nil => intro st; simp
    | cons x r ih => intro st; rw [List.foldl_cons, ih]; simp [fieldS]
  rw [fold_at _ _ _ _ h]
  show needS (needS _ (!hasS _ _) 5) _ 7 = _
  rw [h1]
  unfold hasS
  rw [List.nil_append, List.any_map]
  rfl
set_option maxRecDepth 100000 in
set_option maxHeartbeats 16000000 in
theorem part_any (k i : Nat) (w0 w : World) (bad : Int) (s : List PartS) (sv : Value) (hk : w0.heap.size = k) (hi : ChkI k w0 w bad) (hs : PartsR w0.heap.size w0 sv s) (hl : s.length ≤ 30) (his : i < s.length) (hfn : (partAt s i).fields.length ≤ 1048576 ∧ (partAt s i).enum.length ≤ 1048576) :
    Calls Tryz.prog 25 #[.pointer (some ⟨k, 0, none⟩), sv, .int .i64 (i : Int)] w (ChkPost k w0 w (partS s.length i bad (partAt s i))) := by
  obtain ⟨b, off, c9, v1, v2, v3, rfl, hbB, hcells, hF, hN, hE, hD, hcap⟩ := hs.cells his
  rw [← part_at his] at hcells hF hN hE hD
  obtain ⟨p, hpd⟩ : ∃ p, p = partAt s i := ⟨_, rfl⟩
  rw [← hpd] at hcells hF hN hE hD hfn ⊢
  obtain ⟨A3, c3, rfl⟩ := StrsR.slice' hE
  obtain ⟨A1, c1, rfl⟩ := hF.slice
  obtain ⟨A2, c2, rfl⟩ := StrsR.slice' hN
  have hcp : p.fields.length ≤ c1 := by
    obtain ⟨A, n, c, e, h⟩ := hcap
    injection e with _ e2 e3
    omega
  have hnf := hfn.1
  have hnn := hN.1
  have hne := hfn.2
  obtain ⟨SN, hSN⟩ : ∃ n, n = s.length := ⟨_, rfl⟩
  obtain ⟨NF, hNF⟩ : ∃ n, n = p.fields.length := ⟨_, rfl⟩
  obtain ⟨NN, hNN⟩ : ∃ n, n = p.need.length := ⟨_, rfl⟩
  obtain ⟨NE, hNE⟩ : ∃ n, n = p.enum.length := ⟨_, rfl⟩
  have hiI : (i : Int) < (SN : Int) := by omega
  have hSNs : SN ≤ 30 := by omega
  rw [← hNF] at hcells hF hnf hcp
  have HCP := Lib.hid hcp
  rw [← hNN] at hcells hN hnn
  rw [← hNE] at hcells hE hne
  rw [← hSN]
  obtain ⟨g, hg⟩ : ∃ g, g = w.heap.size := ⟨_, rfl⟩
  have hkg : k < g := by rw [hg]; exact heap_lt hi.2
  obtain ⟨w1, hw1⟩ : ∃ w1, w1 = (w.alloc (.cells #[.slice (some ⟨b, off, none⟩) SN c9] 22 (0, 0))).alloc (.cells #[.int .i64 (i : Int)] 3 (0, 0)) := ⟨_, rfl⟩
  have hx1 : Ext w w1 := by rw [hw1]; exact (new_ext _ _).trans (new_ext _ _)
  have hg1 : w1.heap.size = g + 2 := by rw [hw1, hg]; simp
  obtain ⟨w2, hw2⟩ : ∃ w2, w2 = w1.alloc (.cells #[.int .i64 p.kind, .slice A1 NF c1, .slice A2 NN c2, .bool p.extra, .int .i64 p.items, .int .i64 p.least, .int .i64 p.most, .slice A3 NE c3, .string p.dflt] partT (0, 0)) := ⟨_, rfl⟩
  have HX2 : Hid (Ext w w2) := by rw [hw2]; exact hx1.trans (new_ext _ _)
  have e0 : w1.heap[g]? = some (.cells #[.slice (some ⟨b, off, none⟩) SN c9] 22 (0, 0)) := by rw [hw1]; exact heap_old (heap_new hg)
  have e1 : w1.heap[g + 1]? = some (.cells #[.int .i64 (i : Int)] 3 (0, 0)) := by rw [hw1]; exact heap_new (by rw [hg]; simp)
  have y0 : w1.cell? ⟨g, 0, none⟩ = some (.slice (some ⟨b, off, none⟩) SN c9) := cell_of e0 0
  have y1 : w1.cell? ⟨g + 1, 0, none⟩ = some (.int .i64 (i : Int)) := cell_of e1 0
  have f0 : w2.heap[g]? = some (.cells #[.slice (some ⟨b, off, none⟩) SN c9] 22 (0, 0)) := by rw [hw2]; exact heap_old e0
  have f1 : w2.heap[g + 1]? = some (.cells #[.int .i64 (i : Int)] 3 (0, 0)) := by rw [hw2]; exact heap_old e1
  have f2 : PBox w2 (g + 2) p (.slice A1 NF c1) (.slice A2 NN c2) (.slice A3 NE c3) := by rw [hw2]; exact heap_new hg1.symm
  have HBX : Hid (∀ W, Trn (NotK k) w2 W → W.cell? ⟨g, 0, none⟩ = some (.slice (some ⟨b, off, none⟩) SN c9) ∧ W.cell? ⟨g + 1, 0, none⟩ = some (.int .i64 (i : Int)) ∧ PBox W (g + 2) p (.slice A1 NF c1) (.slice A2 NN c2) (.slice A3 NE c3)) := fun W hW =>
    ⟨cell_of ((hW.2 g (heap_lt f0) (by unfold NotK; omega)).1.trans f0) 0, cell_of ((hW.2 (g + 1) (heap_lt f1) (by unfold NotK; omega)).1.trans f1) 0, (f2.trn hW (by unfold NotK; omega)).1⟩
  have hbk0 : b < w0.heap.size := hbB
  have HCL : Hid (∀ W, Ext w0 W → W.cell? ⟨b, off + i * 9, none⟩ = some (.int .i64 p.kind) ∧ W.cell? ⟨b, off + i * 9 + 1, none⟩ = some (.slice A1 NF c1) ∧ W.cell? ⟨b, off + i * 9 + 2, none⟩ = some (.slice A2 NN c2) ∧ W.cell? ⟨b, off + i * 9 + 3, none⟩ = some (.bool p.extra) ∧ W.cell? ⟨b, off + i * 9 + 4, none⟩ = some (.int .i64 p.items) ∧ W.cell? ⟨b, off + i * 9 + 5, none⟩ = some (.int .i64 p.least) ∧ W.cell? ⟨b, off + i * 9 + 6, none⟩ = some (.int .i64 p.most) ∧ W.cell? ⟨b, off + i * 9 + 7, none⟩ = some (.slice A3 NE c3) ∧ W.cell? ⟨b, off + i * 9 + 8, none⟩ = some (.string p.dflt)) := fun W hW => by
    have hk' : ∀ n x, w0.cell? ⟨b, n, none⟩ = some x → W.cell? ⟨b, n, none⟩ = some x := fun n x h => (cell_keep (hW.block b hbk0)).trans h
    obtain ⟨e0, e1, e2, e3, e4, e5, e6, e7, e8⟩ := hcells
    exact ⟨hk' _ _ e0, hk' _ _ e1, hk' _ _ e2, hk' _ _ e3, hk' _ _ e4, hk' _ _ e5, hk' _ _ e6, hk' _ _ e7, hk' _ _ e8⟩
  have HI2 := Lib.hid (hi.ext HX2.out)
  have HPF := Lib.hid hF
  have HPE := Lib.hid hE
  have HK := Lib.hid hk
  have HKG := Lib.hid hkg
  have HNN : Hid (NF = p.fields.length ∧ NN = p.need.length ∧ NE = p.enum.length ∧ SN = s.length) := ⟨hNF, hNN, hNE, hSN⟩
  have CN : Hid (∀ (W : World) (x e : Int) (is : Bool), ChkI k w0 W x → Calls Tryz.prog 24 #[.pointer (some ⟨k, 0, none⟩), .bool is, .int .i64 e] W (ChkPost k w0 W (needS x is e))) := fun W x e is h => need_any k w0 W x e is hk h
  have CD : Hid (∀ (W : World) (x : Int) (d : ByteArray), ChkI k w0 W x → Calls Tryz.prog 63 #[.pointer (some ⟨k, 0, none⟩), .string d] W (ChkPost k w0 W (docS x d))) := fun W x d h => document_any k w0 W x d hk h
  have CB : Hid (∀ (W : World) (x : Int), Trn (NotK k) w2 W → Calls Tryz.prog 60 #[.int .i64 x, .pointer (some ⟨g + 1, 0, none⟩), .pointer (some ⟨g, 0, none⟩)] W fun e w' => e = .returned (.bool (behindS SN i x)) ∧ W = w') := fun W x hW => behind_any (g + 1) g i SN c9 (some ⟨b, off, none⟩) x W (HBX.out W hW).2.1 (HBX.out W hW).1
  obtain ⟨B1, hB1⟩ : ∃ B, B = needS bad (decide (2 ≤ p.kind) && decide (p.kind ≤ 6)) 1 := ⟨_, rfl⟩
  obtain ⟨B2, hB2⟩ : ∃ B, B = needS B1 (decide (NF ≤ 8) && decide (NN ≤ 8) && decide (NE ≤ 8)) 2 := ⟨_, rfl⟩
  obtain ⟨ob, hob⟩ : ∃ x, (p.kind == 6) = x := ⟨_, rfl⟩
  obtain ⟨li, hli⟩ : ∃ x, (p.kind == 5) = x := ⟨_, rfl⟩
  obtain ⟨B3, hB3⟩ : ∃ B, B = needS B2 (ob || (decide (NF + NN = 0) && !p.extra)) 1 := ⟨_, rfl⟩
  obtain ⟨B4, hB4⟩ : ∃ B, B = needS B3 (li || (p.items == 0)) 1 := ⟨_, rfl⟩
  obtain ⟨B5, hB5⟩ : ∃ B, B = needS B4 ((!li && !ob) || decide (NE = 0)) 1 := ⟨_, rfl⟩
  obtain ⟨B6, hB6⟩ : ∃ B, B = needS B5 ((!ob && !(p.kind == 2)) || ((p.least == 0) && (p.most == 0))) 1 := ⟨_, rfl⟩
  have HHD : Hid (headS bad p = B6) := by
    unfold Hid headS
    rw [hB6, hB5, hB4, hB3, hB2, hB1, ← hob, ← hli, ← hNF, ← hNN, ← hNE]
    rfl
  have HB1 := Lib.hid hB1
  have HB2 := Lib.hid hB2
  have HB3 := Lib.hid hB3
  have HB4 := Lib.hid hB4
  have HB5 := Lib.hid hB5
  have HB6 := Lib.hid hB6
  have HLI := Lib.hid hli
  obtain ⟨p0, p1, p2, p3, p4, p5, p6, p7, p8⟩ := HCL.out w1 (hi.1.trans hx1)
  clear hcp hcap hk hi hs hcells hF hN hE hD hSN hNF hNN hNE hbB hbk0 hfn hpd e0 e1 f0 f1 f2 hB1 hB2 hB3 hB4 hB5 hB6 hx1 hkg
  go_enter Tryz.func25, Tryz.ntmps25
  go_upto_region 1 with (fail)
  rw [← hw1, ← hg]
  clear hw1 hg
  go_upto_region 3 with (fail)
  (try rw [hg1])
  rw [← hw2]
  clear hw2 hg1 y0 y1 p0 p1 p2 p3 p4 p5 p6 p7 p8
  have HR0 : Hid (Trn (NotK k) w2 w2 ∧ ChkI k w0 w2 bad) := ⟨Trn.refl, HI2.out⟩
  go_cut [] (fun wx => Hid (Trn (NotK k) w2 wx ∧ ChkI k w0 wx B1))
  case first =>
    as_aux_lemma =>
      obtain ⟨x0, -, -, -, -, -, -, -, -⟩ := (HBX.out _ HR0.out.1).2.2.at
      by_cases h1 : 2 ≤ p.kind
      · have d1 : decide (p.kind ≥ 2) = true := decide_eq_true h1
        have E1 := Lib.hid (decide_eq_true h1)
        clear h1
        go_wp2_with fail
        refine Calls.mono (CN.out _ _ _ _ HR0.out.2) ?_
        rintro e wn ⟨rfl, tn, cn⟩
        have TN := Lib.hid (HR0.out.1.trans tn)
        have HCN := Lib.hid cn
        clear tn cn
        go_wp2_with fail
        go_meet
        case rel =>
          refine ⟨TN.out, ?_⟩
          have h := HCN.out
          rw [HB1.out]
          rw [E1.out, Bool.true_and]
          exact h
      · have d1 : decide (p.kind ≥ 2) = false := decide_eq_false h1
        have E1 := Lib.hid (decide_eq_false h1)
        clear h1
        go_wp2_with fail
        refine Calls.mono (CN.out _ _ _ _ HR0.out.2) ?_
        rintro e wn ⟨rfl, tn, cn⟩
        have TN := Lib.hid (HR0.out.1.trans tn)
        have HCN := Lib.hid cn
        clear tn cn
        go_wp2_with fail
        go_meet
        case rel =>
          refine ⟨TN.out, ?_⟩
          have h := HCN.out
          rw [HB1.out]
          rw [E1.out, Bool.false_and]
          exact h
  case rest =>
    obtain ⟨wv3, hwv⟩ : ∃ x, x = wc := ⟨_, rfl⟩
    rw [← hwv] at hcut ⊢
    have HR3 := Lib.hid hcut.out
    clear hcut hwv
    go_upto_region 4 with (fail)
    go_cut [] (fun wx => Hid (Trn (NotK k) w2 wx ∧ ChkI k w0 wx B2))
    case first =>
      as_aux_lemma =>
        obtain ⟨-, x1, x2, -, -, -, -, x7, -⟩ := (HBX.out _ HR3.out.1).2.2.at
        by_cases h1 : NF ≤ 8
        · have d1 : decide ((NF : Int) ≤ 8) = true := decide_eq_true (by omega)
          have c1 : decide (NF ≤ 8) = true := decide_eq_true h1
          have E1 := Lib.hid (decide_eq_true h1)
          clear h1
          by_cases h2 : NN ≤ 8
          · have d2 : decide ((NN : Int) ≤ 8) = true := decide_eq_true (by omega)
            have c2 : decide (NN ≤ 8) = true := decide_eq_true h2
            have E2 := Lib.hid (decide_eq_true h2)
            clear h2
            by_cases h3 : NE ≤ 8
            · have d3 : decide ((NE : Int) ≤ 8) = true := decide_eq_true (by omega)
              have c3 : decide (NE ≤ 8) = true := decide_eq_true h3
              have E3 := Lib.hid (decide_eq_true h3)
              clear h3
              go_wp2_with fail
              refine Calls.mono (CN.out _ _ _ _ HR3.out.2) ?_
              rintro e wn ⟨rfl, tn, cn⟩
              have TN := Lib.hid (HR3.out.1.trans tn)
              have HCN := Lib.hid cn
              clear tn cn
              go_wp2_with fail
              go_meet
              case rel =>
                refine ⟨TN.out, ?_⟩
                have h := HCN.out
                rw [HB2.out]
                rw [E1.out, E2.out, E3.out]
                simp only [Bool.true_and]
                exact h
            · have d3 : decide ((NE : Int) ≤ 8) = false := decide_eq_false (by omega)
              have c3 : decide (NE ≤ 8) = false := decide_eq_false h3
              have E3 := Lib.hid (decide_eq_false h3)
              clear h3
              go_wp2_with fail
              refine Calls.mono (CN.out _ _ _ _ HR3.out.2) ?_
              rintro e wn ⟨rfl, tn, cn⟩
              have TN := Lib.hid (HR3.out.1.trans tn)
              have HCN := Lib.hid cn
              clear tn cn
              go_wp2_with fail
              go_meet
              case rel =>
                refine ⟨TN.out, ?_⟩
                have h := HCN.out
                rw [HB2.out]
                rw [E1.out, E2.out, E3.out]
                simp only [Bool.true_and]
                exact h
          · have d2 : decide ((NN : Int) ≤ 8) = false := decide_eq_false (by omega)
            have c2 : decide (NN ≤ 8) = false := decide_eq_false h2
            have E2 := Lib.hid (decide_eq_false h2)
            clear h2
            go_wp2_with fail
            refine Calls.mono (CN.out _ _ _ _ HR3.out.2) ?_
            rintro e wn ⟨rfl, tn, cn⟩
            have TN := Lib.hid (HR3.out.1.trans tn)
            have HCN := Lib.hid cn
            clear tn cn
            go_wp2_with fail
            go_meet
            case rel =>
              refine ⟨TN.out, ?_⟩
              have h := HCN.out
              rw [HB2.out]
              rw [E1.out, E2.out]
              simp only [Bool.true_and, Bool.false_and]
              exact h
        · have d1 : decide ((NF : Int) ≤ 8) = false := decide_eq_false (by omega)
          have c1 : decide (NF ≤ 8) = false := decide_eq_false h1
          have E1 := Lib.hid (decide_eq_false h1)
          clear h1
          go_wp2_with fail
          refine Calls.mono (CN.out _ _ _ _ HR3.out.2) ?_
          rintro e wn ⟨rfl, tn, cn⟩
          have TN := Lib.hid (HR3.out.1.trans tn)
          have HCN := Lib.hid cn
          clear tn cn
          go_wp2_with fail
          go_meet
          case rel =>
            refine ⟨TN.out, ?_⟩
            have h := HCN.out
            rw [HB2.out]
            rw [E1.out]
            simp only [Bool.false_and]
            exact h
    case rest =>
      obtain ⟨wv4, hwv⟩ : ∃ x, x = wc := ⟨_, rfl⟩
      rw [← hwv] at hcut ⊢
      have HR4 := Lib.hid hcut.out
      clear hcut hwv
      go_upto_region 5 with (fail)
      obtain ⟨x0, -, -, -, -, -, -, -, -⟩ := (HBX.out _ HR4.out.1).2.2.at
      go_quiet (fail)
      generalize hW : World.drewN wv4 _ = w5
      have HR5 : Hid (Trn (NotK k) w2 w5 ∧ ChkI k w0 w5 B2) := by
        have hx : Ext wv4 w5 := by rw [← hW]; exact ext_drewN' _ _
        exact ⟨HR4.out.1.trans (notk_ext hx), HR4.out.2.ext hx⟩
      have HOB := Lib.hid hob
      clear hW x0 hob hli
      go_upto_region 6 with (fail)
      go_cut [] (fun wx => Hid (Trn (NotK k) w2 wx ∧ ChkI k w0 wx B3))
      case first =>
        as_aux_lemma =>
          obtain ⟨-, x1, x2, x3, -, -, -, -, -⟩ := (HBX.out _ HR5.out.1).2.2.at
          cases ob with
          | true =>
            go_wp2_with fail
            refine Calls.mono (CN.out _ _ _ _ HR5.out.2) ?_
            rintro e wn ⟨rfl, tn, cn⟩
            have TN := Lib.hid (HR5.out.1.trans tn)
            have HCN := Lib.hid cn
            clear tn cn
            go_wp2_with fail
            go_meet
            case rel =>
              refine ⟨TN.out, ?_⟩
              have h := HCN.out
              rw [HB3.out]
              simp only [Bool.true_or]
              exact h
          | false =>
            by_cases hz : NF + NN = 0
            · have d1 : ((NF : Int) + (NN : Int) == 0) = true := by rw [beq_iff_eq]; omega
              have E1 := Lib.hid (decide_eq_true hz)
              have c1 : NF = 0 ∧ NN = 0 := by omega
              clear hz
              go_wp2_with fail
              refine Calls.mono (CN.out _ _ _ _ HR5.out.2) ?_
              rintro e wn ⟨rfl, tn, cn⟩
              have TN := Lib.hid (HR5.out.1.trans tn)
              have HCN := Lib.hid cn
              clear tn cn
              go_wp2_with fail
              go_meet
              case rel =>
                refine ⟨TN.out, ?_⟩
                have h := HCN.out
                rw [HB3.out]
                rw [E1.out]
                simp only [Bool.true_and, Bool.false_or]
                exact h
            · have d1 : ((NF : Int) + (NN : Int) == 0) = false := by rw [beq_eq_false_iff_ne]; omega
              have E1 := Lib.hid (decide_eq_false hz)
              clear hz
              go_wp2_with fail
              refine Calls.mono (CN.out _ _ _ _ HR5.out.2) ?_
              rintro e wn ⟨rfl, tn, cn⟩
              have TN := Lib.hid (HR5.out.1.trans tn)
              have HCN := Lib.hid cn
              clear tn cn
              go_wp2_with fail
              go_meet
              case rel =>
                refine ⟨TN.out, ?_⟩
                have h := HCN.out
                rw [HB3.out]
                rw [E1.out]
                simp only [Bool.false_and, Bool.false_or]
                exact h
      case rest =>
        obtain ⟨wv6, hwv⟩ : ∃ x, x = wc := ⟨_, rfl⟩
        rw [← hwv] at hcut ⊢
        have HR6 := Lib.hid hcut.out
        clear hcut hwv
        go_upto_region 7 with (fail)
        go_cut [] (fun wx => Hid (Trn (NotK k) w2 wx ∧ ChkI k w0 wx B4))
        case first =>
          as_aux_lemma =>
            obtain ⟨-, -, -, -, x4, -, -, -, -⟩ := (HBX.out _ HR6.out.1).2.2.at
            cases li with
            | true =>
              go_wp2_with fail
              refine Calls.mono (CN.out _ _ _ _ HR6.out.2) ?_
              rintro e wn ⟨rfl, tn, cn⟩
              have TN := Lib.hid (HR6.out.1.trans tn)
              have HCN := Lib.hid cn
              clear tn cn
              go_wp2_with fail
              go_meet
              case rel =>
                refine ⟨TN.out, ?_⟩
                have h := HCN.out
                rw [HB4.out]
                simp only [Bool.true_or]
                exact h
            | false =>
              go_wp2_with fail
              refine Calls.mono (CN.out _ _ _ _ HR6.out.2) ?_
              rintro e wn ⟨rfl, tn, cn⟩
              have TN := Lib.hid (HR6.out.1.trans tn)
              have HCN := Lib.hid cn
              clear tn cn
              go_wp2_with fail
              go_meet
              case rel =>
                refine ⟨TN.out, ?_⟩
                have h := HCN.out
                rw [HB4.out]
                simp only [Bool.false_or]
                exact h
        case rest =>
          obtain ⟨wv7, hwv⟩ : ∃ x, x = wc := ⟨_, rfl⟩
          rw [← hwv] at hcut ⊢
          have HR7 := Lib.hid hcut.out
          clear hcut hwv
          go_upto_region 8 with (fail)
          go_cut [] (fun wx => Hid (Trn (NotK k) w2 wx ∧ ChkI k w0 wx B5))
          case first =>
            as_aux_lemma =>
              obtain ⟨-, -, -, -, -, -, -, x7, -⟩ := (HBX.out _ HR7.out.1).2.2.at
              cases li with
              | true =>
                have hz : decide (NE = 0) = ((NE : Int) == 0) := by
                  by_cases h : NE = 0
                  · rw [decide_eq_true h, h]; rfl
                  · rw [decide_eq_false h]; symm; rw [beq_eq_false_iff_ne]; omega
                have EZ := Lib.hid hz
                clear hz
                go_wp2_with fail
                refine Calls.mono (CN.out _ _ _ _ HR7.out.2) ?_
                rintro e wn ⟨rfl, tn, cn⟩
                have TN := Lib.hid (HR7.out.1.trans tn)
                have HCN := Lib.hid cn
                clear tn cn
                go_wp2_with fail
                go_meet
                case rel =>
                  refine ⟨TN.out, ?_⟩
                  have h := HCN.out
                  rw [HB5.out]
                  rw [EZ.out]
                  simp only [Bool.not_true, Bool.false_and, Bool.false_or]
                  exact h
              | false =>
                cases ob with
                | true =>
                  have hz : decide (NE = 0) = ((NE : Int) == 0) := by
                    by_cases h : NE = 0
                    · rw [decide_eq_true h, h]; rfl
                    · rw [decide_eq_false h]; symm; rw [beq_eq_false_iff_ne]; omega
                  have EZ := Lib.hid hz
                  clear hz
                  go_wp2_with fail
                  refine Calls.mono (CN.out _ _ _ _ HR7.out.2) ?_
                  rintro e wn ⟨rfl, tn, cn⟩
                  have TN := Lib.hid (HR7.out.1.trans tn)
                  have HCN := Lib.hid cn
                  clear tn cn
                  go_wp2_with fail
                  go_meet
                  case rel =>
                    refine ⟨TN.out, ?_⟩
                    have h := HCN.out
                    rw [HB5.out]
                    rw [EZ.out]
                    simp only [Bool.not_true, Bool.not_false, Bool.true_and, Bool.false_or]
                    exact h
                | false =>
                  go_wp2_with fail
                  refine Calls.mono (CN.out _ _ _ _ HR7.out.2) ?_
                  rintro e wn ⟨rfl, tn, cn⟩
                  have TN := Lib.hid (HR7.out.1.trans tn)
                  have HCN := Lib.hid cn
                  clear tn cn
                  go_wp2_with fail
                  go_meet
                  case rel =>
                    refine ⟨TN.out, ?_⟩
                    have h := HCN.out
                    rw [HB5.out]
                    simp only [Bool.not_false, Bool.true_and, Bool.true_or]
                    exact h
          case rest =>
            obtain ⟨wv8, hwv⟩ : ∃ x, x = wc := ⟨_, rfl⟩
            rw [← hwv] at hcut ⊢
            have HR8 := Lib.hid hcut.out
            clear hcut hwv
            go_upto_region 9 with (fail)
            go_cut [] (fun wx => Hid (Trn (NotK k) w2 wx ∧ ChkI k w0 wx B6))
            case first =>
              as_aux_lemma =>
                obtain ⟨x0, -, -, -, -, x5, x6, -, -⟩ := (HBX.out _ HR8.out.1).2.2.at
                cases ob with
                | true =>
                  have ET : Hid (true = true) := rfl
                  cases hz : (p.least == 0) with
                  | true =>
                    have EZ := Lib.hid hz
                    go_wp2_with fail
                    refine Calls.mono (CN.out _ _ _ _ HR8.out.2) ?_
                    rintro e wn ⟨rfl, tn, cn⟩
                    have TN := Lib.hid (HR8.out.1.trans tn)
                    have HCN := Lib.hid cn
                    clear tn cn
                    go_wp2_with fail
                    go_meet
                    case rel =>
                      refine ⟨TN.out, ?_⟩
                      have h := HCN.out
                      rw [HB6.out]
                      rw [EZ.out]
                      simp only [Bool.not_true, Bool.false_and, Bool.true_and, Bool.false_or]
                      exact h
                  | false =>
                    have EZ := Lib.hid hz
                    go_wp2_with fail
                    refine Calls.mono (CN.out _ _ _ _ HR8.out.2) ?_
                    rintro e wn ⟨rfl, tn, cn⟩
                    have TN := Lib.hid (HR8.out.1.trans tn)
                    have HCN := Lib.hid cn
                    clear tn cn
                    go_wp2_with fail
                    go_meet
                    case rel =>
                      refine ⟨TN.out, ?_⟩
                      have h := HCN.out
                      rw [HB6.out]
                      rw [EZ.out]
                      simp only [Bool.not_true, Bool.false_and, Bool.false_or]
                      exact h
                | false =>
                  cases ht : (p.kind == 2) with
                  | true =>
                    have ET := Lib.hid ht
                    have ht2 : (p.kind != 2) = false := by rw [bne, ht]; rfl
                    cases hz : (p.least == 0) with
                    | true =>
                      have EZ := Lib.hid hz
                      go_wp2_with fail
                      refine Calls.mono (CN.out _ _ _ _ HR8.out.2) ?_
                      rintro e wn ⟨rfl, tn, cn⟩
                      have TN := Lib.hid (HR8.out.1.trans tn)
                      have HCN := Lib.hid cn
                      clear tn cn
                      go_wp2_with fail
                      go_meet
                      case rel =>
                        refine ⟨TN.out, ?_⟩
                        have h := HCN.out
                        rw [HB6.out]
                        rw [EZ.out]
                        simp only [Bool.not_true, Bool.not_false, Bool.true_and, Bool.false_or, ET.out]
                        exact h
                    | false =>
                      have EZ := Lib.hid hz
                      go_wp2_with fail
                      refine Calls.mono (CN.out _ _ _ _ HR8.out.2) ?_
                      rintro e wn ⟨rfl, tn, cn⟩
                      have TN := Lib.hid (HR8.out.1.trans tn)
                      have HCN := Lib.hid cn
                      clear tn cn
                      go_wp2_with fail
                      go_meet
                      case rel =>
                        refine ⟨TN.out, ?_⟩
                        have h := HCN.out
                        rw [HB6.out]
                        rw [EZ.out]
                        simp only [Bool.not_true, Bool.not_false, Bool.false_and, Bool.true_and, Bool.false_or, ET.out]
                        exact h
                  | false =>
                    have ET := Lib.hid ht
                    have ht2 : (p.kind != 2) = true := by rw [bne, ht]; rfl
                    go_wp2_with fail
                    refine Calls.mono (CN.out _ _ _ _ HR8.out.2) ?_
                    rintro e wn ⟨rfl, tn, cn⟩
                    have TN := Lib.hid (HR8.out.1.trans tn)
                    have HCN := Lib.hid cn
                    clear tn cn
                    go_wp2_with fail
                    go_meet
                    case rel =>
                      refine ⟨TN.out, ?_⟩
                      have h := HCN.out
                      rw [HB6.out]
                      rw [ET.out]
                      simp only [Bool.not_false, Bool.true_and, Bool.true_or]
                      exact h
            case rest =>
              obtain ⟨wv9, hwv⟩ : ∃ x, x = wc := ⟨_, rfl⟩
              rw [← hwv] at hcut ⊢
              have HR9 := Lib.hid hcut.out
              clear hcut hwv
              obtain ⟨FB, hFB⟩ : ∃ FB : Nat → Int, ∀ q, FB q = ((p.fields.take q).foldl (fieldS SN i) ([], B6)).2 := ⟨_, fun _ => rfl⟩
              have HFB : Hid (FB 0 = B6 ∧ (∀ q (h : q < p.fields.length), FB (q + 1) = needS (needS (FB q) (!(p.fields.take q).any fun f => eqS f.1 p.fields[q].1) 5) (behindS SN i p.fields[q].2) 7) ∧ ∀ q, q = p.fields.length → FB q = fieldsS SN i B6 p) := by
                refine ⟨by rw [hFB]; rfl, fun q h => by rw [hFB, hFB]; exact fields_at h, fun q h => ?_⟩
                rw [hFB, h, List.take_length]
                rfl
              have hNFs : NF ≤ 1048576 := hnf
              obtain ⟨-, x1, -, -, -, -, -, -, -⟩ := (HBX.out _ HR9.out.1).2.2.at
              clear hFB
              go_wp2_with fail
              clear x1
              go_loopw [115] (fun ix wr => ∃ q : Nat, q ≤ NF ∧ ix = .int .i64 (q : Int) ∧ Hid (Trn (NotK k) w2 wr ∧ ChkI k w0 wr (FB q))) (fun ix _ => NF - (intOf ix).toNat)
              case atStart => exact ⟨0, Nat.zero_le _, rfl, HR9.out.1, by rw [HFB.out.1]; exact HR9.out.2⟩
              case round =>
                obtain ⟨q, hq, rfl, hR⟩ := hrel
                by_cases hlt : q < NF
                · have hql : q < p.fields.length := by rw [← HNN.out.1]; exact hlt
                  obtain ⟨bf, of, c', hv9, hbB, z0, z1⟩ := (HPF.out.below hR.out.2.1).cells hql
                  injection hv9 with e1 e2 e3
                  clear e2
                  subst e1 e3
                  have hltI : (q : Int) < (NF : Int) := by omega
                  have HE := Lib.hid (HFB.out.2.1 q hql)
                  have CH : Hid (∀ (W : World) (kk : Nat) (s' : ByteArray) (q' : Int), Ext w0 W → W.heap[kk]? = some (.cells #[.string s', .int .i64 q'] 81 (0, 0)) → Calls Tryz.prog 61 #[.slice (some ⟨bf, of, none⟩) q c1, .func (.func 62) #[] #[.pointer (some ⟨kk, 0, none⟩)]] W fun e w' => e = .returned (.bool ((p.fields.take q).any fun f => eqS f.1 s')) ∧ Ext W w') := fun W kk s' q' hW hkk =>
                    name_has kk s' q' w0.heap.size (some ⟨bf, of, none⟩) c1 q p.fields W hkk hW.size (by have h := HPF.out.below hW; rw [HNN.out.1] at h; exact h) (by rw [← HNN.out.1]; omega) (by rw [← HNN.out.1]; omega)
                  obtain ⟨nm, hnm⟩ : ∃ n, n = p.fields[q].1 := ⟨_, rfl⟩
                  obtain ⟨fp, hfp⟩ : ∃ n, n = p.fields[q].2 := ⟨_, rfl⟩
                  rw [← hnm] at z0 HE
                  rw [← hfp] at z1 HE
                  clear hnm hfp hbB
                  go_upto_region 13 with (fail)
                  obtain ⟨gf, hgf⟩ : ∃ n, n = wr.heap.size := ⟨_, rfl⟩
                  rw [← hgf]
                  generalize hW : World.alloc wr _ = w6
                  have HX6 : Hid (Ext wr w6) := by rw [← hW]; exact new_ext _ _
                  have HF6 : Hid (w6.heap[gf]? = some (.cells #[.string nm, .int .i64 fp] 81 (0, 0)) ∧ gf ≠ k) := ⟨by rw [← hW]; exact heap_new hgf, by have := heap_lt hR.out.2.2; omega⟩
                  have HT6 := Lib.hid (hR.out.1.trans (notk_ext HX6.out))
                  have HC6 := Lib.hid (hR.out.2.ext HX6.out)
                  obtain ⟨-, x1, -, -, -, -, -, -, -⟩ := (HBX.out _ HT6.out).2.2.at
                  have s1 := run_head_f bf of NF c1 q (by have := HCP.out; omega)
                  have C1 := Lib.hid (CH.out w6 gf nm fp HC6.out.1 HF6.out.1)
                  clear hW hgf z0 z1
                  go_wp2_with fail
                  refine Calls.mono C1.out ?_
                  rintro e w7 ⟨rfl, x7⟩
                  have X7 := Lib.hid x7
                  clear x7 x1 s1
                  go_wp2_with fail
                  refine Calls.mono (CN.out _ _ _ _ (HC6.out.ext X7.out)) ?_
                  rintro e w8 ⟨rfl, t8, c8⟩
                  have HT8 := Lib.hid ((HT6.out.trans (notk_ext X7.out)).trans t8)
                  have HC8 := Lib.hid c8
                  have h8 := t8.2 gf (Nat.lt_of_lt_of_le (heap_lt HF6.out.1) X7.out.size) HF6.out.2
                  have z1 : w8.cell? ⟨gf, 1, none⟩ = some (.int .i64 fp) := cell_of (h8.1.trans ((X7.out.block gf (heap_lt HF6.out.1)).trans HF6.out.1)) 1
                  have C2 := Lib.hid (CB.out w8 fp HT8.out)
                  clear t8 c8 h8
                  go_wp2_with fail
                  refine Calls.mono C2.out ?_
                  rintro e w' ⟨rfl, rfl⟩
                  clear z1
                  go_wp2_with fail
                  refine Calls.mono (CN.out _ _ _ _ HC8.out) ?_
                  rintro e w9 ⟨rfl, t9, c9'⟩
                  have HT9 := Lib.hid (HT8.out.trans t9)
                  have HC9 := Lib.hid c9'
                  clear t9 c9'
                  go_wp2_with fail
                  go_roundw
                  case rel => exact ⟨q + 1, hlt, by go_num, HT9.out, by rw [HE.out]; exact HC9.out⟩
                  case measure => simp [intOf]; omega
                · have hqN : q = NF := by omega
                  have bl : decide ((q : Int) < (NF : Int)) = false := decide_eq_false (by omega)
                  have bl2 : decide (q < NF) = false := decide_eq_false hlt
                  have HEND := Lib.hid (HFB.out.2.2 q (by rw [hqN]; exact HNN.out.1))
                  have hR' : Hid (Trn (NotK k) w2 wr ∧ ChkI k w0 wr (fieldsS SN i B6 p)) := by unfold Hid; rw [← HEND.out]; exact hR.out
                  obtain ⟨wa, hwa⟩ : ∃ x, x = wr := ⟨_, rfl⟩
                  rw [← hwa] at hR' ⊢
                  obtain ⟨B7, hB7⟩ : ∃ B, B = fieldsS SN i B6 p := ⟨_, rfl⟩
                  rw [← hB7] at hR'
                  have HB7 := Lib.hid hB7
                  have HRa := Lib.hid hR'.out
                  clear hqN hlt hR hR' hwa hB7 hq
                  go_upto_region 16 with (fail)
                  obtain ⟨B8, hB8⟩ : ∃ B, B = needS B7 (!li || behindS SN i p.items) 7 := ⟨_, rfl⟩
                  have HB8 := Lib.hid hB8
                  clear hB8 bl bl2
                  go_cut [] (fun wx => Hid (Trn (NotK k) w2 wx ∧ ChkI k w0 wx B8))
                  case first =>
                    obtain ⟨-, -, -, -, x4, -, -, -, -⟩ := (HBX.out _ HRa.out.1).2.2.at
                    cases li with
                    | true =>
                      have C2 := Lib.hid (CB.out wa p.items HRa.out.1)
                      go_wp2_with fail
                      refine Calls.mono C2.out ?_
                      rintro e w' ⟨rfl, rfl⟩
                      go_wp2_with fail
                      refine Calls.mono (CN.out _ _ _ _ HRa.out.2) ?_
                      rintro e wn ⟨rfl, tn, cn⟩
                      have TN := Lib.hid (HRa.out.1.trans tn)
                      have HCN := Lib.hid cn
                      clear tn cn
                      go_wp2_with fail
                      go_meet
                      case rel => exact ⟨TN.out, by rw [HB8.out]; exact HCN.out⟩
                    | false =>
                      go_wp2_with fail
                      refine Calls.mono (CN.out _ _ _ _ HRa.out.2) ?_
                      rintro e wn ⟨rfl, tn, cn⟩
                      have TN := Lib.hid (HRa.out.1.trans tn)
                      have HCN := Lib.hid cn
                      clear tn cn
                      go_wp2_with fail
                      go_meet
                      case rel => exact ⟨TN.out, by rw [HB8.out]; exact HCN.out⟩
                  case rest =>
                    obtain ⟨wb, hwb⟩ : ∃ x, x = wc := ⟨_, rfl⟩
                    rw [← hwb] at hcut ⊢
                    have HRb := Lib.hid hcut.out
                    clear hcut hwb
                    have hNEs : NE ≤ 1048576 := hne
                    obtain ⟨EB, hEB⟩ : ∃ EB : Nat → Int, ∀ q, EB q = (p.enum.take q).foldl docS B8 := ⟨_, fun _ => rfl⟩
                    have HEB : Hid (EB 0 = B8 ∧ (∀ q (h : q < p.enum.length), EB (q + 1) = docS (EB q) p.enum[q]) ∧ ∀ q, q = p.enum.length → EB q = p.enum.foldl docS B8) :=
                      ⟨by rw [hEB]; rfl, fun q h => by rw [hEB, hEB]; exact fold_at _ _ _ _ h, fun q h => by rw [hEB, h, List.take_length]⟩
                    obtain ⟨-, -, -, -, -, -, -, x7, -⟩ := (HBX.out _ HRb.out.1).2.2.at
                    clear hEB
                    go_wp2_with fail
                    clear x7
                    go_loopw [149] (fun ix wr => ∃ q : Nat, q ≤ NE ∧ ix = .int .i64 (q : Int) ∧ Hid (Trn (NotK k) w2 wr ∧ ChkI k w0 wr (EB q))) (fun ix _ => NE - (intOf ix).toNat)
                    case atStart => exact ⟨0, Nat.zero_le _, rfl, HRb.out.1, by rw [HEB.out.1]; exact HRb.out.2⟩
                    case round =>
                      obtain ⟨q, hq, rfl, hR⟩ := hrel
                      by_cases hlt : q < NE
                      · have hql : q < p.enum.length := by rw [← HNN.out.2.2.1]; exact hlt
                        obtain ⟨be, oe, c', hv9, hbB, hcl⟩ := (HPE.out.below hR.out.2.1 (Nat.le_refl _)).cells (by omega)
                        injection hv9 with e1 e2 e3
                        clear e2
                        subst e1 e3
                        have z0 := (hcl q hql).1
                        have hltI : (q : Int) < (NE : Int) := by omega
                        have HE := Lib.hid (HEB.out.2.1 q hql)
                        obtain ⟨d, hd⟩ : ∃ n, n = p.enum[q] := ⟨_, rfl⟩
                        rw [← hd] at z0 HE
                        clear hd hbB hcl
                        go_wp2_with fail
                        refine Calls.mono (CD.out _ _ d hR.out.2) ?_
                        rintro e w9 ⟨rfl, t9, c9'⟩
                        have HT9 := Lib.hid (hR.out.1.trans t9)
                        have HC9 := Lib.hid c9'
                        clear t9 c9' z0
                        go_wp2_with fail
                        go_roundw
                        case rel => exact ⟨q + 1, hlt, by go_num, HT9.out, by rw [HE.out]; exact HC9.out⟩
                        case measure => simp [intOf]; omega
                      · have hqN : q = NE := by omega
                        have bl : decide ((q : Int) < (NE : Int)) = false := decide_eq_false (by omega)
                        have bl2 : decide (q < NE) = false := decide_eq_false hlt
                        have HEND := Lib.hid (HEB.out.2.2 q (by rw [hqN]; exact HNN.out.2.2.1))
                        have HPS : Hid (partS SN i bad p = if p.dflt.size = 0 then EB q else docS (EB q) p.dflt) := by
                          unfold Hid partS itemsS
                          rw [HEND.out, HB8.out, HB7.out, HHD.out, ← HLI.out]
                          rfl
                        obtain ⟨-, -, -, -, -, -, -, -, x8⟩ := (HBX.out _ hR.out.1).2.2.at
                        clear hqN hlt
                        by_cases hz : p.dflt.size = 0
                        · have b1 := isE_zero hz
                          have HS : Hid (partS SN i bad p = EB q) := by unfold Hid; rw [HPS.out, if_pos hz]
                          clear hz
                          go_wp2_with fail
                          go_end0
                          exact ⟨rfl, (notk_ext HX2.out).trans hR.out.1, by rw [HS.out]; exact hR.out.2⟩
                        · have b1 := isE_pos hz
                          have HS : Hid (partS SN i bad p = docS (EB q) p.dflt) := by unfold Hid; rw [HPS.out, if_neg hz]
                          clear hz
                          go_wp2_with fail
                          refine Calls.mono (CD.out _ _ p.dflt hR.out.2) ?_
                          rintro e w9 ⟨rfl, t9, c9'⟩
                          have HT9 := Lib.hid (hR.out.1.trans t9)
                          have HC9 := Lib.hid c9'
                          clear t9 c9' x8
                          go_wp2_with fail
                          go_end0
                          exact ⟨rfl, (notk_ext HX2.out).trans HT9.out, by rw [HS.out]; exact HC9.out⟩
end Go.Proofs.YtnccefeehkcneaaGreatDoor.Sc
