/-
  Schemas, the reference: partOf, part (printed by gen/sci.py).
-/
import Derived.Test.YtnccefeehkcneaaGreatDoorSch
namespace Go.Proofs.YtnccefeehkcneaaGreatDoor.Sc
open Go Go.RowKit Go.Proofs.YtnccefeehkcneaaGreatDoor.Js Go.Proofs.YtnccefeehkcneaaGreatDoor.Sx Go.Proofs.YtnccefeehkcneaaGreatDoor.Pt Go.Proofs.YtnccefeehkcneaaGreatDoor.Jm Go.Proofs.YtnccefeehkcneaaGreatDoor.Gr Go.Proofs.YtnccefeehkcneaaGreatDoor.Ur
set_option maxRecDepth 100000 in
set_option maxHeartbeats 2000000 in
theorem rpartOf_any (B : Nat) (p : PartS) (v1 v2 v3 : Value) (t : ByteArray) (w : World) (hB : B ≤ w.heap.size) (hv : FldsR B w v1 p.fields) :
    Calls Tryz.prog 86 #[.agg #[.int .i64 p.kind, v1, v2, .bool p.extra, .int .i64 p.items, .int .i64 p.least, .int .i64 p.most, v3, .string p.dflt], .string t] w fun e w' => e = .returned (.int .i64 ((partOf p.fields t).getD (-1))) ∧ Ext w w' := by
  obtain ⟨A, c, rfl⟩ := hv.slice
  have hn := hv.1
  obtain ⟨fs, hfs⟩ : ∃ fs, fs = p.fields := ⟨_, rfl⟩
  rw [← hfs] at hv hn ⊢
  obtain ⟨M, hM⟩ : ∃ M, M = fs.length := ⟨_, rfl⟩
  have HM := Lib.hid hM
  have HV := Lib.hid hv
  rw [← hM]
  obtain ⟨g, hg⟩ : ∃ g, g = w.heap.size := ⟨_, rfl⟩
  obtain ⟨w1, hw1⟩ : ∃ w1, w1 = w.alloc (.cells #[.int .i64 p.kind, .slice A M c, v2, .bool p.extra, .int .i64 p.items, .int .i64 p.least, .int .i64 p.most, v3, .string p.dflt] partT (0, 0)) := ⟨_, rfl⟩
  have HX1 : Hid (Ext w w1) := by rw [hw1]; exact new_ext _ _
  have hb1 : PBox w1 g p (.slice A M c) v2 v3 := by rw [hw1]; exact heap_new hg
  obtain ⟨-, a1, -, -, -, -, -, -, -⟩ := hb1.at
  have hMs : M ≤ 1099511627776 := by omega
  have HBW := Lib.hid hB
  clear hb1 hv hn hM hfs hB
  go_enter Tryz.func86, Tryz.ntmps86
  go_upto_region 1 with (fail)
  rw [← hw1, ← hg]
  clear hw1 hg
  go_wp2_with fail
  clear a1
  go_loopw [10] (fun ix wr => ∃ j : Nat, j ≤ M ∧ ix = .int .i64 (j : Int) ∧ Hid (noneTo (fun f => eqS f.1 t) fs j) ∧ Hid (Ext w1 wr)) (fun ix _ => M - (intOf ix).toNat)
  case atStart => exact ⟨0, Nat.zero_le _, rfl, fun i hi h => by omega, Below.refl _ _⟩
  case round =>
    obtain ⟨j, hj, rfl, hN, hX⟩ := hrel
    by_cases hlt : j < M
    · have hjl : j < fs.length := by rw [← HM.out]; exact hlt
      obtain ⟨b, off, c', hv9, hbB, x0, x1⟩ := HV.out.cells hjl
      injection hv9 with e1 _ e3
      subst e1 e3
      have hxr := HX1.out.trans hX.out
      have hbl : b < w.heap.size := Nat.lt_of_lt_of_le hbB HBW.out
      have c0 := (cell_keep (hxr.block b hbl)).trans x0
      have c1 := (cell_keep (hxr.block b hbl)).trans x1
      have hltI : (j : Int) < (M : Int) := by omega
      obtain ⟨nm, hnm⟩ : ∃ n, n = fs[j].1 := ⟨_, rfl⟩
      obtain ⟨q, hq⟩ : ∃ n, n = fs[j].2 := ⟨_, rfl⟩
      have HS : Hid ((eqS nm t = true → partOf fs t = some q) ∧ (eqS nm t = false → noneTo (fun f => eqS f.1 t) fs (j + 1))) := by
        rw [hnm, hq]
        exact ⟨fun h => partOf_some hjl hN.out h, fun h => noneTo_succ hN.out hjl h⟩
      rw [← hnm] at c0
      rw [← hq] at c1
      clear hnm hq x0 x1 hxr hbB hbl
      cases hb : eqS nm t with
      | true =>
        have HP := Lib.hid (HS.out.1 hb)
        have b1 : (nm.toList == t.toList) = true := hb
        clear hb
        go_wp2_with fail
        go_ret
        refine ⟨by rw [HP.out]; rfl, HX1.out.trans ?_⟩
        exact hX.out.trans (new_ext _ _)
      | false =>
        have HP := Lib.hid (HS.out.2 hb)
        have b1 : (nm.toList == t.toList) = false := hb
        clear hb
        go_wp2_with fail
        go_roundw
        case rel => exact ⟨j + 1, hlt, by go_num, HP.out, hX.out.trans (new_ext _ _)⟩
        case measure => simp [intOf]; omega
    · have hjM : j = M := by omega
      have HP : Hid (partOf fs t = none) := partOf_none (by rw [← HM.out, ← hjM]; exact hN.out)
      have bl : decide ((j : Int) < (M : Int)) = false := decide_eq_false (by omega)
      clear hjM
      go_wp2_with fail
      go_ret
      exact ⟨by rw [HP.out]; rfl, HX1.out.trans hX.out⟩
theorem head_eq (p : PartS) : headS 0 p = if (decide (2 ≤ p.kind) && decide (p.kind ≤ 6)) = true then (if (decide (p.fields.length ≤ 8) && decide (p.need.length ≤ 8) && decide (p.enum.length ≤ 8)) = true then (if ((decide (p.kind = 6) || (decide (p.fields.length + p.need.length = 0) && !p.extra)) && (decide (p.kind = 5) || decide (p.items = 0)) && ((!decide (p.kind = 5) && !decide (p.kind = 6)) || decide (p.enum.length = 0)) && ((!decide (p.kind = 6) && !decide (p.kind = 2)) || (decide (p.least = 0) && decide (p.most = 0)))) = true then 0 else 1) else 2) else 1 := by
  unfold headS
  generalize (decide (2 ≤ p.kind) && decide (p.kind ≤ 6)) = a
  generalize (decide (p.fields.length ≤ 8) && decide (p.need.length ≤ 8) && decide (p.enum.length ≤ 8)) = b
  generalize (decide (p.kind = 6) || (decide (p.fields.length + p.need.length = 0) && !p.extra)) = c
  generalize (decide (p.kind = 5) || decide (p.items = 0)) = d
  generalize ((!decide (p.kind = 5) && !decide (p.kind = 6)) || decide (p.enum.length = 0)) = e
  generalize ((!decide (p.kind = 6) && !decide (p.kind = 2)) || (decide (p.least = 0) && decide (p.most = 0))) = f
  cases a <;> cases b <;> cases c <;> cases d <;> cases e <;> cases f <;> decide
theorem seen_strs {base : Nat} {w : World} {A : Option Addr} {n c : Nat} {xs : List ByteArray} (h : GRow 9 1 base w (.slice A n c) (Jm.one (strVals xs))) (hn : n = xs.length) (hl : n ≤ 1048576) (hz : ∀ x ∈ xs, x.size ≤ 1048576) : StrsR w.heap.size w (.slice A n c) xs := by
  have h1 := h.owns
  rw [one_flat, one_len, strVals_len] at h1
  rw [hn]
  rw [hn] at h1
  exact strs_of_own h1 (by omega) hz
set_option maxRecDepth 100000 in
set_option maxHeartbeats 16000000 in
theorem rpart_any (i n : Nat) (p : PartS) (A0 A1 A2 A3 : Option Addr) (c0 c1 c2 c3 : Nat) (w : World) (_hn : n ≤ 1000) (_hi : i < n) (hF : FldsR w.heap.size w (.slice A1 p.fields.length c1) p.fields) (hE : StrsR w.heap.size w (.slice A3 p.enum.length c3) p.enum) (h1 : p.fields.length ≤ 1048576) (h2 : p.need.length ≤ 1099511627776) (h3 : p.enum.length ≤ 1048576) :
    Calls Tryz.prog 28 #[.slice A0 n c0, .int .i64 (i : Int), .agg #[.int .i64 p.kind, .slice A1 p.fields.length c1, .slice A2 p.need.length c2, .bool p.extra, .int .i64 p.items, .int .i64 p.least, .int .i64 p.most, .slice A3 p.enum.length c3, .string p.dflt]] w fun e w' => e = .returned (.int .i64 (partS n i 0 p)) ∧ Ext w w' := by
  obtain ⟨NF, hNF⟩ : ∃ n, n = p.fields.length := ⟨_, rfl⟩
  obtain ⟨NN, hNN⟩ : ∃ n, n = p.need.length := ⟨_, rfl⟩
  obtain ⟨NE, hNE⟩ : ∃ n, n = p.enum.length := ⟨_, rfl⟩
  have HFZ : Hid (∀ q (h : q < p.fields.length), p.fields[q].1.size ≤ 1048576) := fun q h => by
    obtain ⟨_, A, c, _, hh⟩ := hF
    obtain ⟨_, _, _, _, _, _, ⟨_, hz⟩, _⟩ := hh q h
    exact hz
  rw [← hNF] at hF h1 ⊢
  rw [← hNN] at h2 ⊢
  rw [← hNE] at hE h3 ⊢
  obtain ⟨g, hg⟩ : ∃ g, g = w.heap.size := ⟨_, rfl⟩
  obtain ⟨w1, hw1⟩ : ∃ w1, w1 = w.alloc (.cells #[.int .i64 p.kind, .slice A1 NF c1, .slice A2 NN c2, .bool p.extra, .int .i64 p.items, .int .i64 p.least, .int .i64 p.most, .slice A3 NE c3, .string p.dflt] partT (0, 0)) := ⟨_, rfl⟩
  have HX1 : Hid (Ext w w1) := by rw [hw1]; exact new_ext _ _
  have HB1 : Hid (PBox w1 g p (.slice A1 NF c1) (.slice A2 NN c2) (.slice A3 NE c3)) := by rw [hw1]; exact heap_new hg
  have HPF := Lib.hid hF
  have HPE := Lib.hid hE
  have HN : Hid (NF = p.fields.length ∧ NN = p.need.length ∧ NE = p.enum.length) := ⟨hNF, hNN, hNE⟩
  obtain ⟨K1, hK1⟩ : ∃ x, x = (decide (2 ≤ p.kind) && decide (p.kind ≤ 6)) := ⟨_, rfl⟩
  obtain ⟨K2, hK2⟩ : ∃ x, x = (decide (NF ≤ 8) && decide (NN ≤ 8) && decide (NE ≤ 8)) := ⟨_, rfl⟩
  obtain ⟨ob, hob⟩ : ∃ x, (p.kind == 6) = x := ⟨_, rfl⟩
  obtain ⟨li, hli⟩ : ∃ x, (p.kind == 5) = x := ⟨_, rfl⟩
  obtain ⟨k2, hk2⟩ : ∃ x, (p.kind == 2) = x := ⟨_, rfl⟩
  obtain ⟨it, hit⟩ : ∃ x, (p.items == 0) = x := ⟨_, rfl⟩
  obtain ⟨le, hle⟩ : ∃ x, (p.least == 0) = x := ⟨_, rfl⟩
  obtain ⟨mo, hmo⟩ : ∃ x, (p.most == 0) = x := ⟨_, rfl⟩
  obtain ⟨ex, hex⟩ : ∃ x, x = p.extra := ⟨_, rfl⟩
  obtain ⟨CC, hCC⟩ : ∃ x, x = ((ob || (decide (NF + NN = 0) && !ex)) && (li || it) && ((!li && !ob) || decide (NE = 0)) && ((!ob && !k2) || (le && mo))) := ⟨_, rfl⟩
  have HHD : Hid (headS 0 p = if K1 = true then (if K2 = true then (if CC = true then 0 else 1) else 2) else 1) := by
    unfold Hid
    rw [head_eq, hCC, hK1, hK2, hNF, hNN, hNE, ← hob, ← hli, ← hk2, ← hit, ← hle, ← hmo, hex]
    rfl
  have HCC := Lib.hid hCC
  have HK1 := Lib.hid hK1
  have HK2 := Lib.hid hK2
  have HLI := Lib.hid hli
  have HEX := Lib.hid hex
  have n_it : (p.items != 0) = !it := by rw [← hit]; rfl
  have n_le : (p.least != 0) = !le := by rw [← hle]; rfl
  have n_mo : (p.most != 0) = !mo := by rw [← hmo]; rfl
  have HNI := Lib.hid n_it
  have HNL := Lib.hid n_le
  have HNM := Lib.hid n_mo
  have HK2R := Lib.hid hk2
  obtain ⟨x0, x1, x2, -, -, -, -, x7, -⟩ := HB1.out.at
  clear hNF hNN hNE hF hE hK1 hK2 hCC hex n_it n_le n_mo hit hle hmo hk2
  go_enter Tryz.func28, Tryz.ntmps28
  go_upto_region 1 with (fail)
  rw [← hw1, ← hg]
  clear hw1 hg
  by_cases q1 : p.kind < 2
  · have d1 : decide (p.kind < 2) = true := decide_eq_true q1
    have HS : Hid (partS n i 0 p = 1) := part_head (by rw [HHD.out, HK1.out, decide_eq_false (by omega)]; rfl) (by decide)
    clear q1
    go_wp2_with fail
    go_ret
    exact ⟨by rw [HS.out]; rfl, HX1.out⟩
  have d1 : decide (p.kind < 2) = false := decide_eq_false q1
  by_cases q2 : p.kind > 6
  · have d2 : decide (p.kind > 6) = true := decide_eq_true q2
    have HS : Hid (partS n i 0 p = 1) := part_head (by rw [HHD.out, HK1.out, decide_eq_false (show ¬ p.kind ≤ 6 by omega), Bool.and_false]; rfl) (by decide)
    clear q1 q2
    go_wp2_with fail
    go_ret
    exact ⟨by rw [HS.out]; rfl, HX1.out⟩
  have d2 : decide (p.kind > 6) = false := decide_eq_false q2
  have HK1T : Hid (K1 = true) := by unfold Hid; rw [HK1.out, decide_eq_true (by omega), decide_eq_true (by omega)]; rfl
  clear q1 q2
  go_upto_region 3 with (fail)
  go_cut [36] (fun bv wx => ∃ b : Bool, bv = .bool b ∧ Hid ((b = true ↔ ¬ (NF ≤ 8 ∧ NN ≤ 8 ∧ NE ≤ 8)) ∧ wx = w1))
  case first =>
    by_cases m1 : NF < NN
    · by_cases m2 : NN < NE
      · have i2 : (NN : Int) < (NE : Int) := by omega
        go_wp2_with fail
        go_meet
        case rel => exact ⟨_, rfl, by rw [decide_eq_true_eq]; omega, rfl⟩
      · have i2 : ¬ (NN : Int) < (NE : Int) := by omega
        go_wp2_with fail
        go_meet
        case rel => exact ⟨_, rfl, by rw [decide_eq_true_eq]; omega, rfl⟩
    · by_cases m2 : NF < NE
      · have i2 : (NF : Int) < (NE : Int) := by omega
        go_wp2_with fail
        go_meet
        case rel => exact ⟨_, rfl, by rw [decide_eq_true_eq]; omega, rfl⟩
      · have i2 : ¬ (NF : Int) < (NE : Int) := by omega
        go_wp2_with fail
        go_meet
        case rel => exact ⟨_, rfl, by rw [decide_eq_true_eq]; omega, rfl⟩
  case rest =>
  obtain ⟨b8, rfl, hcu⟩ := hcut
  obtain ⟨hb8, hwc⟩ := hcu.out
  obtain ⟨wq, hwq⟩ : ∃ x, x = wc := ⟨_, rfl⟩
  rw [← hwq] at hwc ⊢
  subst hwc
  clear hwq hcu
  cases b8 with
  | true =>
    have HS : Hid (partS n i 0 p = 2) := part_head (by
      rw [HHD.out, if_pos HK1T.out, HK2.out, if_neg]
      rw [Bool.and_eq_true, Bool.and_eq_true, decide_eq_true_eq, decide_eq_true_eq, decide_eq_true_eq]
      have := hb8.1 rfl
      omega) (by decide)
    clear hb8
    go_wp2_with fail
    go_ret
    exact ⟨by rw [HS.out]; rfl, HX1.out⟩
  | false =>
  have hall : NF ≤ 8 ∧ NN ≤ 8 ∧ NE ≤ 8 := Classical.not_not.1 fun h => by have := hb8.2 h; cases this
  have HK2T : Hid (K2 = true) := by unfold Hid; rw [HK2.out, decide_eq_true hall.1, decide_eq_true hall.2.1, decide_eq_true hall.2.2]; rfl
  have hNFs : NF ≤ 8 := hall.1
  have hNEs : NE ≤ 8 := hall.2.2
  clear hb8 hall
  go_upto_region 5 with (fail)
  go_quiet (fail)
  generalize hW : World.drewN wq _ = w5
  have HX5 : Hid (Ext w w5) := by rw [← hW]; exact HX1.out.trans (ext_drewN' _ _)
  have HB5 : Hid (PBox w5 g p (.slice A1 NF c1) (.slice A2 NN c2) (.slice A3 NE c3)) := by rw [← hW]; exact HB1.out.ext (ext_drewN' _ _)
  clear hW x0 x1 x2 x7 hob hli d1 d2
  go_upto_region 6 with (fail)
  go_cut [99] (fun bv wx => bv = .bool (!CC) ∧ wx = w5)
  case first =>
    as_aux_lemma =>
      obtain ⟨y0, y1, y2, y3, y4, y5, y6, y7, -⟩ := HB5.out.at
      rw [← HEX.out] at y3
      have n_it := HNI.out
      have n_le := HNL.out
      have n_mo := HNM.out
      have n_k2 := HK2R.out
      cases ob with
      | true =>
        cases li with
        | true =>
          by_cases hne : NE = 0
          · have dne : decide ((NE : Int) > 0) = false := decide_eq_false (by omega)
            have ene : decide (0 < NE) = false := decide_eq_false (by omega)
            have Zne : Hid (decide (NE = 0) = true) := decide_eq_true hne
            clear hne
            cases k2 with
            | true =>
              cases le with
              | true =>
                cases mo with
                | true =>
                  go_wp2_with fail
                  go_meet
                  case rel => exact ⟨by rw [HCC.out]; simp [Zne.out], rfl⟩
                | false =>
                  go_wp2_with fail
                  go_meet
                  case rel => exact ⟨by rw [HCC.out]; simp [Zne.out], rfl⟩
              | false =>
                go_wp2_with fail
                go_meet
                case rel => exact ⟨by rw [HCC.out]; simp [Zne.out], rfl⟩
            | false =>
              cases le with
              | true =>
                cases mo with
                | true =>
                  go_wp2_with fail
                  go_meet
                  case rel => exact ⟨by rw [HCC.out]; simp [Zne.out], rfl⟩
                | false =>
                  go_wp2_with fail
                  go_meet
                  case rel => exact ⟨by rw [HCC.out]; simp [Zne.out], rfl⟩
              | false =>
                go_wp2_with fail
                go_meet
                case rel => exact ⟨by rw [HCC.out]; simp [Zne.out], rfl⟩
          · have dne : decide ((NE : Int) > 0) = true := decide_eq_true (by omega)
            have ene : decide (0 < NE) = true := decide_eq_true (by omega)
            have Zne : Hid (decide (NE = 0) = false) := decide_eq_false hne
            clear hne
            go_wp2_with fail
            go_meet
            case rel => exact ⟨by rw [HCC.out]; simp [Zne.out], rfl⟩
        | false =>
          cases it with
          | true =>
            by_cases hne : NE = 0
            · have dne : decide ((NE : Int) > 0) = false := decide_eq_false (by omega)
              have ene : decide (0 < NE) = false := decide_eq_false (by omega)
              have Zne : Hid (decide (NE = 0) = true) := decide_eq_true hne
              clear hne
              cases k2 with
              | true =>
                cases le with
                | true =>
                  cases mo with
                  | true =>
                    go_wp2_with fail
                    go_meet
                    case rel => exact ⟨by rw [HCC.out]; simp [Zne.out], rfl⟩
                  | false =>
                    go_wp2_with fail
                    go_meet
                    case rel => exact ⟨by rw [HCC.out]; simp [Zne.out], rfl⟩
                | false =>
                  go_wp2_with fail
                  go_meet
                  case rel => exact ⟨by rw [HCC.out]; simp [Zne.out], rfl⟩
              | false =>
                cases le with
                | true =>
                  cases mo with
                  | true =>
                    go_wp2_with fail
                    go_meet
                    case rel => exact ⟨by rw [HCC.out]; simp [Zne.out], rfl⟩
                  | false =>
                    go_wp2_with fail
                    go_meet
                    case rel => exact ⟨by rw [HCC.out]; simp [Zne.out], rfl⟩
                | false =>
                  go_wp2_with fail
                  go_meet
                  case rel => exact ⟨by rw [HCC.out]; simp [Zne.out], rfl⟩
            · have dne : decide ((NE : Int) > 0) = true := decide_eq_true (by omega)
              have ene : decide (0 < NE) = true := decide_eq_true (by omega)
              have Zne : Hid (decide (NE = 0) = false) := decide_eq_false hne
              clear hne
              go_wp2_with fail
              go_meet
              case rel => exact ⟨by rw [HCC.out]; simp [Zne.out], rfl⟩
          | false =>
            go_wp2_with fail
            go_meet
            case rel => exact ⟨by rw [HCC.out]; simp [], rfl⟩
      | false =>
        by_cases hnf : NF = 0
        · have dnf : decide ((NF : Int) > 0) = false := decide_eq_false (by omega)
          have enf : decide (0 < NF) = false := decide_eq_false (by omega)
          have Znf : Hid (decide (NF = 0) = true) := decide_eq_true hnf
          clear hnf
          by_cases hnn : NN = 0
          · have dnn : decide ((NN : Int) > 0) = false := decide_eq_false (by omega)
            have enn : decide (0 < NN) = false := decide_eq_false (by omega)
            have Znn : Hid (decide (NN = 0) = true) := decide_eq_true hnn
            clear hnn
            cases ex with
            | true =>
              go_wp2_with fail
              go_meet
              case rel => exact ⟨by rw [HCC.out]; simp [Znf.out, Znn.out], rfl⟩
            | false =>
              cases li with
              | true =>
                by_cases hne : NE = 0
                · have dne : decide ((NE : Int) > 0) = false := decide_eq_false (by omega)
                  have ene : decide (0 < NE) = false := decide_eq_false (by omega)
                  have Zne : Hid (decide (NE = 0) = true) := decide_eq_true hne
                  clear hne
                  cases k2 with
                  | true =>
                    cases le with
                    | true =>
                      cases mo with
                      | true =>
                        go_wp2_with fail
                        go_meet
                        case rel => exact ⟨by rw [HCC.out]; simp [Znf.out, Znn.out, Zne.out], rfl⟩
                      | false =>
                        go_wp2_with fail
                        go_meet
                        case rel => exact ⟨by rw [HCC.out]; simp [Znf.out, Znn.out, Zne.out], rfl⟩
                    | false =>
                      go_wp2_with fail
                      go_meet
                      case rel => exact ⟨by rw [HCC.out]; simp [Znf.out, Znn.out, Zne.out], rfl⟩
                  | false =>
                    go_wp2_with fail
                    go_meet
                    case rel => exact ⟨by rw [HCC.out]; simp [Znf.out, Znn.out, Zne.out], rfl⟩
                · have dne : decide ((NE : Int) > 0) = true := decide_eq_true (by omega)
                  have ene : decide (0 < NE) = true := decide_eq_true (by omega)
                  have Zne : Hid (decide (NE = 0) = false) := decide_eq_false hne
                  clear hne
                  go_wp2_with fail
                  go_meet
                  case rel => exact ⟨by rw [HCC.out]; simp [Znf.out, Znn.out, Zne.out], rfl⟩
              | false =>
                cases it with
                | true =>
                  cases k2 with
                  | true =>
                    cases le with
                    | true =>
                      cases mo with
                      | true =>
                        go_wp2_with fail
                        go_meet
                        case rel => exact ⟨by rw [HCC.out]; simp [Znf.out, Znn.out], rfl⟩
                      | false =>
                        go_wp2_with fail
                        go_meet
                        case rel => exact ⟨by rw [HCC.out]; simp [Znf.out, Znn.out], rfl⟩
                    | false =>
                      go_wp2_with fail
                      go_meet
                      case rel => exact ⟨by rw [HCC.out]; simp [Znf.out, Znn.out], rfl⟩
                  | false =>
                    go_wp2_with fail
                    go_meet
                    case rel => exact ⟨by rw [HCC.out]; simp [Znf.out, Znn.out], rfl⟩
                | false =>
                  go_wp2_with fail
                  go_meet
                  case rel => exact ⟨by rw [HCC.out]; simp [Znf.out, Znn.out], rfl⟩
          · have dnn : decide ((NN : Int) > 0) = true := decide_eq_true (by omega)
            have enn : decide (0 < NN) = true := decide_eq_true (by omega)
            have Znn : Hid (decide (NN = 0) = false) := decide_eq_false hnn
            clear hnn
            go_wp2_with fail
            go_meet
            case rel => exact ⟨by rw [HCC.out]; simp [Znf.out, Znn.out], rfl⟩
        · have dnf : decide ((NF : Int) > 0) = true := decide_eq_true (by omega)
          have enf : decide (0 < NF) = true := decide_eq_true (by omega)
          have Znf : Hid (decide (NF = 0) = false) := decide_eq_false hnf
          clear hnf
          go_wp2_with fail
          go_meet
          case rel => exact ⟨by rw [HCC.out]; simp [Znf.out], rfl⟩
  case rest =>
    obtain ⟨rfl, hwc⟩ := hcut
    obtain ⟨wd, hwd⟩ : ∃ x, x = wc := ⟨_, rfl⟩
    rw [← hwd] at hwc ⊢
    subst hwc
    clear hwd
    cases CC with
    | false =>
      have HS : Hid (partS n i 0 p = 1) := part_head (by rw [HHD.out, if_pos HK1T.out, if_pos HK2T.out]; rfl) (by decide)
      go_wp2_with fail
      go_ret
      exact ⟨by rw [HS.out]; rfl, HX5.out⟩
    | true =>
      have H0 : Hid (headS 0 p = 0) := by unfold Hid; rw [HHD.out, if_pos HK1T.out, if_pos HK2T.out]; rfl
      go_upto_region 9 with (fail)
      obtain ⟨gs, hgs⟩ : ∃ n, n = wd.heap.size := ⟨_, rfl⟩
      rw [← hgs]
      generalize hW : World.alloc wd _ = w6
      have HX6 : Hid (Ext wd w6) := by rw [← hW]; exact new_ext _ _
      have HGS : Hid (wd.heap.size = gs) := hgs.symm
      have HR6 : Hid (GRow 9 1 gs w6 (.slice (some ⟨gs, 0, none⟩) 0 0) (Jm.one (strVals (nmOf (p.fields.take 0))))) := by
        rw [← hW]
        exact grow_of (cs := []) (rest := []) (fun u hu => by cases hu) (Nat.le_refl _) (heap_new hgs) rfl rfl (by unfold maxLen; omega)
      obtain ⟨-, x1, -, -, -, -, -, -, -⟩ := (HB5.out.ext HX6.out).at
      clear hW hgs
      go_wp2_with fail
      clear x1
      go_loopw [9, 104] (fun sn ix wr => ∃ (q : Nat) (A : Option Addr) (c : Nat), q ≤ NF ∧ sn = .slice A q c ∧ ix = .int .i64 (q : Int) ∧ Hid (Ext wd wr ∧ gs < wr.heap.size ∧ GRow 9 1 gs wr (.slice A q c) (Jm.one (strVals (nmOf (p.fields.take q)))) ∧ (p.fields.take q).foldl (fieldS n i) ([], 0) = (nmOf (p.fields.take q), 0))) (fun _ ix _ => NF - (intOf ix).toNat)
      case atStart => exact ⟨0, some ⟨gs, 0, none⟩, 0, Nat.zero_le _, rfl, rfl, HX6.out, (by obtain ⟨_, h⟩ := HR6.out; rcases h with ⟨h, _⟩ | ⟨g, _, _, h, _, h2, _⟩; (· cases h); injection h with h; injection h with h; injection h with h; rw [h]; exact heap_lt h2), HR6.out, rfl⟩
      case round =>
        obtain ⟨q, As, cs, hq, rfl, rfl, hR⟩ := hrel
        by_cases hlt : q < NF
        · have hql : q < p.fields.length := by rw [← HN.out.1]; exact hlt
          have hxw := HX5.out.trans hR.out.1
          obtain ⟨bf, of, c', hv9, hbB, z0, z1⟩ := (HPF.out.below hxw).cells hql
          injection hv9 with e1 e2 e3
          clear e2
          subst e1 e3
          have hltI : (q : Int) < (NF : Int) := by omega
          have HFA : Hid ((p.fields.take (q + 1)).foldl (fieldS n i) ([], 0) = (nmOf (p.fields.take q) ++ [p.fields[q].1], needS (needS 0 (!hasS (nmOf (p.fields.take q)) p.fields[q].1) 5) (behindS n i p.fields[q].2) 7)) := by
            unfold Hid
            rw [fold_at _ _ _ _ hql, hR.out.2.2.2]
            rfl
          have HNT : Hid (nmOf (p.fields.take (q + 1)) = nmOf (p.fields.take q) ++ [p.fields[q].1]) := by
            unfold Hid nmOf
            rw [List.take_succ_eq_append_getElem hql, List.map_append]
            rfl
          have HNL : Hid ((nmOf (p.fields.take q)).length = q) := by
            unfold Hid nmOf
            rw [List.length_map, List.length_take]
            omega
          have HSTR : Hid (∀ W, Ext wr W → StrsR W.heap.size W (.slice As q cs) (nmOf (p.fields.take q))) := fun W hW =>
            seen_strs (hR.out.2.2.1.ext hW) HNL.out.symm (by omega) fun x hx => by
              unfold nmOf at hx
              obtain ⟨f, hf, rfl⟩ := List.mem_map.1 hx
              obtain ⟨m, hm, rfl⟩ := List.mem_iff_getElem.1 (List.mem_of_mem_take hf)
              exact HFZ.out m hm
          obtain ⟨nm, hnm⟩ : ∃ n, n = p.fields[q].1 := ⟨_, rfl⟩
          obtain ⟨fp, hfp⟩ : ∃ n, n = p.fields[q].2 := ⟨_, rfl⟩
          rw [← hnm] at z0 HFA HNT
          rw [← hfp] at z1 HFA
          clear hnm hfp hbB hxw
          go_upto_region 12 with (fail)
          obtain ⟨gf, hgf⟩ : ∃ n, n = wr.heap.size := ⟨_, rfl⟩
          rw [← hgf]
          generalize hW : World.alloc wr _ = w7
          have HX7 : Hid (Ext wr w7) := by rw [← hW]; exact new_ext _ _
          have hb7 : w7.heap[gf]? = some (.cells #[.string nm, .int .i64 fp] 81 (0, 0)) := by rw [← hW]; exact heap_new hgf
          have k0 : w7.cell? ⟨gf, 0, none⟩ = some (.string nm) := cell_of hb7 0
          have k1 : w7.cell? ⟨gf, 1, none⟩ = some (.int .i64 fp) := cell_of hb7 1
          have CH := Lib.hid (rhas_any nm (HSTR.out w7 HX7.out))
          clear hW hgf hb7 z0 z1
          cases hh : hasS (nmOf (p.fields.take q)) nm with
          | true =>
            have HS : Hid (partS n i 0 p = 5) := part_field (q := q + 1) (b := 5) H0.out (by rw [HFA.out, hh]; rfl) (by decide)
            rw [hh] at CH
            clear hh
            go_wp2_with fail
            refine Calls.mono CH.out ?_
            rintro e w' ⟨rfl, rfl⟩
            go_wp2_with fail
            go_ret
            exact ⟨by rw [HS.out]; rfl, HX5.out.trans (hR.out.1.trans HX7.out)⟩
          | false =>
            have HFB : Hid ((p.fields.take (q + 1)).foldl (fieldS n i) ([], 0) = (nmOf (p.fields.take q) ++ [nm], needS 0 (behindS n i fp) 7)) := by unfold Hid; rw [HFA.out, hh]; rfl
            rw [hh] at CH
            clear hh
            go_wp2_with fail
            refine Calls.mono CH.out ?_
            rintro e w' ⟨rfl, rfl⟩
            by_cases g1 : fp ≤ (i : Int)
            · have d1 : decide (fp ≤ (i : Int)) = true := decide_eq_true g1
              have HS : Hid (partS n i 0 p = 7) := part_field (q := q + 1) (b := 7) H0.out (by rw [HFB.out, show behindS n i fp = false by unfold behindS; rw [decide_eq_false (by omega)]; rfl]; rfl) (by decide)
              clear g1
              go_wp2_with fail
              go_ret
              exact ⟨by rw [HS.out]; rfl, HX5.out.trans (hR.out.1.trans HX7.out)⟩
            have d1 : decide (fp ≤ (i : Int)) = false := decide_eq_false g1
            by_cases g2 : fp ≥ (n : Int)
            · have d2 : decide (fp ≥ (n : Int)) = true := decide_eq_true g2
              have HS : Hid (partS n i 0 p = 7) := part_field (q := q + 1) (b := 7) H0.out (by rw [HFB.out, show behindS n i fp = false by unfold behindS; rw [decide_eq_false (show ¬ fp < (n : Int) by omega), Bool.and_false]]; rfl) (by decide)
              clear g1 g2
              go_wp2_with fail
              go_ret
              exact ⟨by rw [HS.out]; rfl, HX5.out.trans (hR.out.1.trans HX7.out)⟩
            have d2 : decide (fp ≥ (n : Int)) = false := decide_eq_false g2
            have HFC : Hid ((p.fields.take (q + 1)).foldl (fieldS n i) ([], 0) = (nmOf (p.fields.take (q + 1)), 0)) := by
              unfold Hid
              rw [HFB.out, HNT.out, show behindS n i fp = true by unfold behindS; rw [decide_eq_true (by omega), decide_eq_true (by omega)]; rfl]
              rfl
            clear g1 g2
            go_wp2_with (at_builtin; refine append_g ty_strs rfl _ _ (by rfl) gs q 1 _ (.slice As q cs) (.slice (some ⟨w7.heap.size, 0, none⟩) 1 1) (Jm.one (strVals (nmOf (p.fields.take q)))) [[.string nm]] (by rfl) (by rfl) ((hR.out.2.2.1.ext HX7.out).ext (new_ext _ _)) (GSrc.one rfl (by simp [Value.oneCell']) (heap_new rfl)) (by rw [one_len, strVals_len]; exact HNL.out) rfl (by omega) (Nat.le_of_lt (Nat.lt_of_lt_of_le hR.out.2.1 (HX7.out.trans (new_ext _ _)).size)) ?_; intro A9 c9 w9 h9 g9 o9; have H9 : Hid (Ext wd w9 ∧ gs < w9.heap.size ∧ GRow 9 1 gs w9 (.slice A9 (q + 1) c9) (Jm.one (strVals (nmOf (p.fields.take (q + 1)))))) := ⟨ext_row (hR.out.1.trans (HX7.out.trans (new_ext _ _))) g9 (fun b e => by have := (hR.out.2.2.1.block b e).1; have := HGS.out; omega), Nat.lt_of_lt_of_le hR.out.2.1 (Nat.le_trans (HX7.out.trans (new_ext _ _)).size g9.size), by rw [HNT.out]; have e : strVals (nmOf (p.fields.take q) ++ [nm]) = strVals (nmOf (p.fields.take q)) ++ [.string nm] := (by unfold strVals; rw [List.map_append]; rfl); rw [e, one_app]; exact h9⟩; clear h9 g9 o9)
            go_roundw
            case rel => exact ⟨q + 1, A9, c9, hlt, rfl, by go_num, H9.out.1, H9.out.2.1, H9.out.2.2, HFC.out⟩
            case measure => simp [intOf]; omega
        · have hqN : q = NF := by omega
          have bl : decide ((q : Int) < (NF : Int)) = false := decide_eq_false (by omega)
          have bl2 : decide (q < NF) = false := decide_eq_false hlt
          have H1 : Hid (fieldsS n i 0 p = 0) := by
            have h := hR.out.2.2.2
            rw [hqN, HN.out.1, List.take_length] at h
            unfold Hid fieldsS
            rw [h]
          have HXR := Lib.hid (HX5.out.trans hR.out.1)
          obtain ⟨wa, hwa⟩ : ∃ x, x = wr := ⟨_, rfl⟩
          have HBa : Hid (PBox wa g p (.slice A1 NF c1) (.slice A2 NN c2) (.slice A3 NE c3)) := by unfold Hid; rw [hwa]; exact HB5.out.ext hR.out.1
          rw [← hwa] at HXR ⊢
          clear hqN hlt hR hwa hq
          obtain ⟨-, -, -, -, x4, -, -, x7, x8⟩ := HBa.out.at
          have H2 : Hid (itemsS n i 0 p = needS 0 (!li || behindS n i p.items) 7) := by
            unfold Hid itemsS
            rw [← HLI.out]
            rfl
          go_upto_region 18 with (fail)
          clear bl bl2
          have HREST : Hid (itemsS n i 0 p = 0 ∨ itemsS n i 0 p = 7) := by
            unfold Hid
            rw [H2.out]
            cases (!li || behindS n i p.items)
            · exact .inr rfl
            · exact .inl rfl
          go_cut [142] (fun bv wx => ∃ b : Bool, bv = .bool b ∧ Hid (wx = wa ∧ itemsS n i 0 p = if b then 7 else 0))
          case first =>
            cases li with
            | false =>
              have HI : Hid (itemsS n i 0 p = 0) := by unfold Hid; rw [H2.out]; rfl
              go_wp2_with fail
              go_meet
              case rel => exact ⟨false, rfl, rfl, HI.out⟩
            | true =>
              by_cases g1 : p.items ≤ (i : Int)
              · have d1 : decide (p.items ≤ (i : Int)) = true := decide_eq_true g1
                have HI : Hid (itemsS n i 0 p = 7) := by unfold Hid; rw [H2.out, show behindS n i p.items = false by unfold behindS; rw [decide_eq_false (by omega)]; rfl]; rfl
                clear g1
                go_wp2_with fail
                go_meet
                case rel => exact ⟨true, rfl, rfl, HI.out⟩
              have d1 : decide (p.items ≤ (i : Int)) = false := decide_eq_false g1
              by_cases g2 : p.items ≥ (n : Int)
              · have d2 : decide (p.items ≥ (n : Int)) = true := decide_eq_true g2
                have HI : Hid (itemsS n i 0 p = 7) := by unfold Hid; rw [H2.out, show behindS n i p.items = false by unfold behindS; rw [decide_eq_false (show ¬ p.items < (n : Int) by omega), Bool.and_false]]; rfl
                clear g1 g2
                go_wp2_with fail
                go_meet
                case rel => exact ⟨true, rfl, rfl, HI.out⟩
              have d2 : decide (p.items ≥ (n : Int)) = false := decide_eq_false g2
              have HI : Hid (itemsS n i 0 p = 0) := by unfold Hid; rw [H2.out, show behindS n i p.items = true by unfold behindS; rw [decide_eq_true (by omega), decide_eq_true (by omega)]; rfl]; rfl
              clear g1 g2
              go_wp2_with fail
              go_meet
              case rel => exact ⟨false, rfl, rfl, HI.out⟩
          case rest =>
            obtain ⟨bb, rfl, hcu⟩ := hcut
            obtain ⟨hwc, hib⟩ := hcu.out
            obtain ⟨we, hwe⟩ : ∃ x, x = wc := ⟨_, rfl⟩
            rw [← hwe] at hwc ⊢
            subst hwc
            clear hwe hcu
            cases bb with
            | true =>
              have HS : Hid (partS n i 0 p = 7) := part_items H0.out H1.out hib (by decide)
              clear hib
              go_wp2_with fail
              go_ret
              exact ⟨by rw [HS.out]; rfl, HXR.out⟩
            | false =>
              have HPT : Hid (partS n i 0 p = tailS n i 0 p) := part_tail H0.out H1.out hib
              clear hib
              go_wp2_with fail
              clear x7
              go_loopw [146] (fun ix wr => ∃ q : Nat, q ≤ NE ∧ ix = .int .i64 (q : Int) ∧ Hid (Ext we wr ∧ (p.enum.take q).foldl docS 0 = 0)) (fun ix _ => NE - (intOf ix).toNat)
              case atStart => exact ⟨0, Nat.zero_le _, rfl, Below.refl _ _, rfl⟩
              case round =>
                obtain ⟨q, hq, rfl, hR⟩ := hrel
                by_cases hlt : q < NE
                · have hql : q < p.enum.length := by rw [← HN.out.2.2]; exact hlt
                  obtain ⟨be, oe, c', hv9, hbB, hcl⟩ := (HPE.out.below (HXR.out.trans hR.out.1) (Nat.le_refl _)).cells (by omega)
                  injection hv9 with e1 e2 e3
                  clear e2
                  subst e1 e3
                  have z0 := (hcl q hql).1
                  have hltI : (q : Int) < (NE : Int) := by omega
                  have HFA : Hid ((p.enum.take (q + 1)).foldl docS 0 = errOf p.enum[q]) := by
                    unfold Hid
                    rw [fold_at _ _ _ _ hql, hR.out.2, doc_zero]
                  obtain ⟨d, hd⟩ : ∃ n, n = p.enum[q] := ⟨_, rfl⟩
                  rw [← hd] at z0 HFA
                  have CR := Lib.hid (rread_any d wr)
                  clear hd hbB hcl
                  go_wp2_with fail
                  refine Calls.mono CR.out ?_
                  rintro e w2 ⟨x2, K, Bb, z, sx, Aa, na, ca, Ab, nb, cb, er, rfl, hh⟩
                  have X2 := Lib.hid x2
                  have HH := Lib.hid hh
                  unfold v6
                  clear x2 hh z0
                  by_cases he : er = 0
                  · have b1 : (er != 0) = false := by rw [he]; rfl
                    have HE0 : Hid (errOf d = 0) := by
                      rcases HH.out with ⟨_, j, hj, _⟩ | ⟨h, _⟩
                      · exact errOf_ok hj
                      · exact absurd he h
                    clear he
                    go_wp2_with fail
                    go_roundw
                    case rel => exact ⟨q + 1, hlt, by go_num, hR.out.1.trans (X2.out.trans (new_ext _ _)), by rw [HFA.out, HE0.out]⟩
                    case measure => simp [intOf]; omega
                  · have b1 : (er != 0) = true := by rw [bne_iff_ne]; exact he
                    have HE0 : Hid (errOf d = er) := by
                      rcases HH.out with ⟨h, _⟩ | ⟨h, hj, _⟩
                      · exact absurd h he
                      · exact errOf_err hj h
                    have HS : Hid (partS n i 0 p = er) := by
                      unfold Hid
                      rw [HPT.out]
                      exact tail_doc (q := q + 1) (by rw [HFA.out, HE0.out]) he
                    clear he
                    go_wp2_with fail
                    go_ret
                    exact ⟨by rw [HS.out]; rfl, HXR.out.trans (hR.out.1.trans (X2.out.trans (new_ext _ _)))⟩
                · have hqN : q = NE := by omega
                  have bl : decide ((q : Int) < (NE : Int)) = false := decide_eq_false (by omega)
                  have bl2 : decide (q < NE) = false := decide_eq_false hlt
                  have HT : Hid (tailS n i 0 p = if p.dflt.size = 0 then 0 else errOf p.dflt) := by
                    have h := hR.out.2
                    rw [hqN, HN.out.2.2, List.take_length] at h
                    unfold Hid tailS
                    rw [h, doc_zero]
                  have y8 : wr.cell? ⟨g, 8, none⟩ = some (.string p.dflt) := (HBa.out.ext hR.out.1).at.2.2.2.2.2.2.2.2
                  clear hqN hlt x8
                  by_cases hz : p.dflt.size = 0
                  · have b1 := isE_zero hz
                    have HS : Hid (partS n i 0 p = 0) := by unfold Hid; rw [HPT.out, HT.out, if_pos hz]
                    clear hz
                    go_wp2_with fail
                    go_ret
                    exact ⟨by rw [HS.out]; rfl, HXR.out.trans hR.out.1⟩
                  · have b1 := isE_pos hz
                    have HS : Hid (partS n i 0 p = errOf p.dflt) := by unfold Hid; rw [HPT.out, HT.out, if_neg hz]
                    have CR := Lib.hid (rread_any p.dflt wr)
                    clear hz
                    go_wp2_with fail
                    refine Calls.mono CR.out ?_
                    rintro e w2 ⟨x2, K, Bb, z, sx, Aa, na, ca, Ab, nb, cb, er, rfl, hh⟩
                    have X2 := Lib.hid x2
                    have HE0 : Hid (errOf p.dflt = er) := by
                      rcases hh with ⟨h, j, hj, _⟩ | ⟨h, hj, _⟩
                      · rw [h]; exact errOf_ok hj
                      · exact errOf_err hj h
                    unfold v6
                    clear x2 hh y8
                    go_wp2_with fail
                    go_ret
                    exact ⟨by rw [HS.out, HE0.out]; rfl, HXR.out.trans (hR.out.1.trans (X2.out.trans (new_ext _ _)))⟩
end Go.Proofs.YtnccefeehkcneaaGreatDoor.Sc
