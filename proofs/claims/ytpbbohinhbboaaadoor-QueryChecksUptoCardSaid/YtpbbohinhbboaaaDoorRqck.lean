/-
  The reference's QueryCheck and QueryLabels: they answer as the program's Check and CheckLabels.
-/
import Derived.Test.YtpbbohinhbboaaaDoorQck2
namespace Go.Proofs.YtpbbohinhbboaaaDoor.Sx
open Go Go.RowKit

theorem badKind_low {r : Req} (h : r.kind < 1) : badKind r := .inl h
theorem badKind_high {r : Req} (h : 4 < r.kind) : badKind r := .inr (.inl h)
theorem badKind_in {r : Req} (h1 : 1 ≤ r.kind) (h2 : r.kind ≤ 2) (h : r.vals.length = 0) : badKind r := .inr (.inr (.inl ⟨by omega, h⟩))
theorem badKind_out {r : Req} (h1 : 3 ≤ r.kind) (h : r.vals.length ≠ 0) : badKind r := .inr (.inr (.inr ⟨by omega, h⟩))
theorem goodKind_in {r : Req} (h1 : 1 ≤ r.kind) (h2 : r.kind ≤ 2) (h : r.vals.length ≠ 0) : ¬ badKind r := by unfold badKind; omega
theorem goodKind_out {r : Req} (h1 : 3 ≤ r.kind) (h2 : r.kind ≤ 4) (h : r.vals.length = 0) : ¬ badKind r := by unfold badKind; omega

set_option maxRecDepth 100000 in
set_option maxHeartbeats 4000000 in
theorem rqcheck_any (B : Nat) (v : Value) (l : List Req) (w : World) (hB : B ≤ w.heap.size) (hv : ReqsR B w v l) (hm : MaxC w) :
    Calls Tryd.prog 29 #[v] w (QPost w (checkQ l)) := by
  have HV := Lib.hid hv
  have HM := Lib.hid hm
  have hn := hv.1
  obtain ⟨_, A, c, rfl, _⟩ := hv
  clear hm
  by_cases h8 : 8 < l.length
  · have hf : Hid (checkQ l = 2) := if_pos h8
    go_enter Tryd.func29, Tryd.ntmps29
    go_wp2
    go_ret
    exact ⟨ret_int hf.out.symm, Below.refl _ _⟩
  · have hf : Hid (checkQ l = firstAt (reqsAt l) l.length) := if_neg h8
    go_enter Tryd.func29, Tryd.ntmps29
    go_wp2
    go_loopw [4, 5, 7, 8, 14] (fun _ _ _ _ k wr => ∃ j : Nat, j ≤ l.length ∧ k = .int .i64 (j : Int) ∧ Hid (zeroTil (reqsAt l) j) ∧ Hid (Ext w wr)) (fun _ _ _ _ k _ => l.length - (intOf k).toNat)
    case atStart => exact ⟨0, Nat.zero_le _, rfl, zeroTil.zero _, Below.refl _ _⟩
    case round =>
      obtain ⟨j, hj, rfl, hN, hX⟩ := hrel
      by_cases hlt : j < l.length
      · have hbl := hX.out.mono hB
        obtain ⟨b, off, A1, c1, rfl, _, x0, x1, x2, hk, t1⟩ := (HV.out.below hbl (Nat.le_refl _)).at_ hlt
        have HST : Hid (∀ e, reqI l[j] = e → e ≠ 0 → firstAt (reqsAt l) l.length = e) := fun e he h0 => firstAt_stop hN.out hlt (by rw [reqsAt_eq hlt, he]) h0
        have HSU : Hid (reqI l[j] = 0 → zeroTil (reqsAt l) (j + 1)) := fun h => hN.out.succ (by rw [reqsAt_eq hlt, h])
        obtain ⟨r, hr⟩ : ∃ r, r = l[j] := ⟨_, rfl⟩
        rw [← hr] at x0 x1 x2 hk t1 HST HSU
        have hal : ∀ o, Ext wr (wr.alloc o) := fun o => (Below.refl _ _).alloc (Nat.le_refl _) o
        have HAL := Lib.hid hal
        have HT := Lib.hid t1
        have HBR : Hid (B ≤ wr.heap.size) := Nat.le_trans hB hX.out.size
        have hvn := t1.1
        clear hr hbl t1 hal
        go_wp2_with fail
        obtain ⟨w1, hw1⟩ : ∃ w1, w1 = wr.alloc (.cells #[.string r.key, .int .i64 r.kind, .slice A1 r.vals.length c1] 38) := ⟨_, rfl⟩
        have hx1 : Ext wr w1 := by rw [hw1]; exact HAL.out _
        have hg1 : w1.heap[wr.heap.size]? = some (.cells #[.string r.key, .int .i64 r.kind, .slice A1 r.vals.length c1] 38 (0, 0)) := by rw [hw1]; exact heap_new rfl
        rw [← hw1]
        have HX1 : Hid (Ext w w1) := hX.out.trans hx1
        have HS1 : Hid (StrsR B w1 (.slice A1 r.vals.length c1) r.vals) := HT.out.below (hx1.mono HBR.out) (Nat.le_refl _)
        have HG1 := Lib.hid hg1
        have HB1 : Hid (B ≤ w1.heap.size) := Nat.le_trans HBR.out hx1.size
        clear hw1 hx1 hg1 x0 x1 x2
        refine Calls.mono (rkey_any r.key _ hk (HM.out.ext HX1.out)) ?_
        rintro e w2 ⟨rfl, hx2⟩
        have HX2 : Hid (Ext w w2) := HX1.out.trans hx2
        have HS2 : Hid (StrsR B w2 (.slice A1 r.vals.length c1) r.vals) := HS1.out.below (hx2.mono HB1.out) (Nat.le_refl _)
        obtain ⟨g0, g1, g2⟩ := cells3' ((hx2.block _ (heap_lt HG1.out)).trans HG1.out)
        clear hx2
        by_cases h0 : keyI r.key = 0
        · have hb : (keyI r.key != 0) = false := by simp [h0]
          have H0 := Lib.hid h0
          clear h0
          by_cases kl : r.kind < 1
          · have HS := Lib.hid (HST.out 1 (reqI_bad H0.out (badKind_low kl)) (by decide))
            go_wp2
            go_ret
            exact ⟨ret_int (by rw [hf.out, HS.out]), HX2.out⟩
          by_cases kh : 4 < r.kind
          · have HS := Lib.hid (HST.out 1 (reqI_bad H0.out (badKind_high kh)) (by decide))
            go_wp2
            go_ret
            exact ⟨ret_int (by rw [hf.out, HS.out]), HX2.out⟩
          have k1 : 1 ≤ r.kind := by omega
          have k4 : r.kind ≤ 4 := by omega
          have dl : decide (r.kind < 1) = false := decide_eq_false kl
          have dh : decide (4 < r.kind) = false := decide_eq_false kh
          clear kl kh
          by_cases k3 : r.kind < 3
          · have d3 : decide (r.kind < 3) = true := decide_eq_true k3
            by_cases hz : r.vals.length = 0
            · have HS := Lib.hid (HST.out 1 (reqI_bad H0.out (badKind_in k1 (by omega) hz)) (by decide))
              have hz2 : ((r.vals.length : Int) == 0) = true := beq_iff_eq.2 (by omega)
              clear hz
              go_wp2
              go_ret
              exact ⟨ret_int (by rw [hf.out, HS.out]), HX2.out⟩
            · have HNB := Lib.hid (goodKind_in k1 (by omega) hz)
              have hz2 : ((r.vals.length : Int) == 0) = false := beq_eq_false_iff_ne.2 (by omega)
              clear hz
              by_cases hv8 : 8 < r.vals.length
              · have HS := Lib.hid (HST.out 2 (reqI_many H0.out HNB.out hv8) (by decide))
                go_wp2
                go_ret
                exact ⟨ret_int (by rw [hf.out, HS.out]), HX2.out⟩
              · have HZ := Lib.hid (reqI_vals H0.out HNB.out hv8)
                go_wp2
                go_loopw [7, 8, 49] (fun _ _ k wq => ∃ i : Nat, i ≤ r.vals.length ∧ k = .int .i64 (i : Int) ∧ Hid (zeroTil (valsAt r.vals) i) ∧ wq = w2) (fun _ _ k _ => r.vals.length - (intOf k).toNat)
                case atStart => exact ⟨0, Nat.zero_le _, rfl, zeroTil.zero _, rfl⟩
                case round =>
                  obtain ⟨i, hi, rfl, hNi, rfl⟩ := hrel
                  by_cases hil : i < r.vals.length
                  · obtain ⟨bb, oo, c', hv, _, hc⟩ := StrsR.cells HS2.out (by omega)
                    injection hv with h1 h2 h3
                    subst h1 h3
                    obtain ⟨hcj, hsj⟩ := hc i hil
                    have HSTV : Hid (∀ e, valI r.vals[i] = e → e ≠ 0 → firstAt (valsAt r.vals) r.vals.length = e) := fun e he h0 => firstAt_stop hNi.out hil (by rw [valsAt_eq hil, he]) h0
                    have HSUV : Hid (valI r.vals[i] = 0 → zeroTil (valsAt r.vals) (i + 1)) := fun h => hNi.out.succ (by rw [valsAt_eq hil, h])
                    obtain ⟨x, hx⟩ : ∃ x, x = r.vals[i] := ⟨_, rfl⟩
                    rw [← hx] at hcj hsj HSTV HSUV
                    clear hx hc h2
                    by_cases hv0 : valI x = 0
                    · have hb2 : (valI x != 0) = false := by simp [hv0]
                      have HSU2 := Lib.hid (HSUV.out hv0)
                      clear hv0
                      go_wp2_with (go_at_call 14; refine (rval_any _ _ (by unfold maxLen; omega)).mono ?_; rintro e w' ⟨rfl, rfl⟩)
                      go_roundw
                      case rel => exact ⟨i + 1, hil, by go_num, HSU2, (by first | rfl | trivial)⟩
                      case measure => simp [intOf]; omega
                    · have hb2 : (valI x != 0) = true := by simp [hv0]
                      have HST2 := Lib.hid (HST.out _ (HZ.out.trans (HSTV.out _ rfl hv0)) hv0)
                      clear hv0
                      go_wp2_with (go_at_call 14; refine (rval_any _ _ (by unfold maxLen; omega)).mono ?_; rintro e w' ⟨rfl, rfl⟩)
                      go_ret
                      exact ⟨ret_int (by rw [hf.out, HST2.out]), HX2.out⟩
                  · have HSF := Lib.hid (HSU.out (HZ.out.trans (firstAt_zero (f := valsAt r.vals) (n := r.vals.length) (fun i2 hi2 => hNi.out i2 (by omega)))))
                    go_wp2
                    go_roundw
                    case rel => exact ⟨j + 1, hlt, by go_num, HSF, HX2⟩
                    case measure => simp [intOf]; omega
          · have k3' : 3 ≤ r.kind := by omega
            have d3 : decide (r.kind < 3) = false := decide_eq_false k3
            clear k3
            by_cases hz : r.vals.length = 0
            · have HNB := Lib.hid (goodKind_out k3' k4 hz)
              have hz2 : ((r.vals.length : Int) == 0) = true := beq_iff_eq.2 (by omega)
              clear hz
              by_cases hv8 : 8 < r.vals.length
              · have HS := Lib.hid (HST.out 2 (reqI_many H0.out HNB.out hv8) (by decide))
                go_wp2
                go_ret
                exact ⟨ret_int (by rw [hf.out, HS.out]), HX2.out⟩
              · have HZ := Lib.hid (reqI_vals H0.out HNB.out hv8)
                go_wp2
                go_loopw [7, 8, 49] (fun _ _ k wq => ∃ i : Nat, i ≤ r.vals.length ∧ k = .int .i64 (i : Int) ∧ Hid (zeroTil (valsAt r.vals) i) ∧ wq = w2) (fun _ _ k _ => r.vals.length - (intOf k).toNat)
                case atStart => exact ⟨0, Nat.zero_le _, rfl, zeroTil.zero _, rfl⟩
                case round =>
                  obtain ⟨i, hi, rfl, hNi, rfl⟩ := hrel
                  by_cases hil : i < r.vals.length
                  · obtain ⟨bb, oo, c', hv, _, hc⟩ := StrsR.cells HS2.out (by omega)
                    injection hv with h1 h2 h3
                    subst h1 h3
                    obtain ⟨hcj, hsj⟩ := hc i hil
                    have HSTV : Hid (∀ e, valI r.vals[i] = e → e ≠ 0 → firstAt (valsAt r.vals) r.vals.length = e) := fun e he h0 => firstAt_stop hNi.out hil (by rw [valsAt_eq hil, he]) h0
                    have HSUV : Hid (valI r.vals[i] = 0 → zeroTil (valsAt r.vals) (i + 1)) := fun h => hNi.out.succ (by rw [valsAt_eq hil, h])
                    obtain ⟨x, hx⟩ : ∃ x, x = r.vals[i] := ⟨_, rfl⟩
                    rw [← hx] at hcj hsj HSTV HSUV
                    clear hx hc h2
                    by_cases hv0 : valI x = 0
                    · have hb2 : (valI x != 0) = false := by simp [hv0]
                      have HSU2 := Lib.hid (HSUV.out hv0)
                      clear hv0
                      go_wp2_with (go_at_call 14; refine (rval_any _ _ (by unfold maxLen; omega)).mono ?_; rintro e w' ⟨rfl, rfl⟩)
                      go_roundw
                      case rel => exact ⟨i + 1, hil, by go_num, HSU2, (by first | rfl | trivial)⟩
                      case measure => simp [intOf]; omega
                    · have hb2 : (valI x != 0) = true := by simp [hv0]
                      have HST2 := Lib.hid (HST.out _ (HZ.out.trans (HSTV.out _ rfl hv0)) hv0)
                      clear hv0
                      go_wp2_with (go_at_call 14; refine (rval_any _ _ (by unfold maxLen; omega)).mono ?_; rintro e w' ⟨rfl, rfl⟩)
                      go_ret
                      exact ⟨ret_int (by rw [hf.out, HST2.out]), HX2.out⟩
                  · have HSF := Lib.hid (HSU.out (HZ.out.trans (firstAt_zero (f := valsAt r.vals) (n := r.vals.length) (fun i2 hi2 => hNi.out i2 (by omega)))))
                    go_wp2
                    go_roundw
                    case rel => exact ⟨j + 1, hlt, by go_num, HSF, HX2⟩
                    case measure => simp [intOf]; omega
            · have HS := Lib.hid (HST.out 1 (reqI_bad H0.out (badKind_out k3' hz)) (by decide))
              have hz2 : ((r.vals.length : Int) == 0) = false := beq_eq_false_iff_ne.2 (by omega)
              clear hz
              go_wp2
              go_ret
              exact ⟨ret_int (by rw [hf.out, HS.out]), HX2.out⟩
        · have hb : (keyI r.key != 0) = true := by simp [h0]
          have HS := Lib.hid (HST.out _ (reqI_key h0) h0)
          clear h0
          go_wp2
          go_ret
          exact ⟨ret_int (by rw [hf.out, HS.out]), HX2.out⟩
      · have HF := Lib.hid (firstAt_zero (f := reqsAt l) (n := l.length) (fun i hi => hN.out i (by omega)))
        go_wp2
        go_ret
        exact ⟨ret_int (by rw [hf.out, HF.out]), hX.out⟩

set_option maxRecDepth 100000 in
set_option maxHeartbeats 2000000 in
theorem rqlabs_any (B : Nat) (v : Value) (l : List Lab) (w : World) (hB : B ≤ w.heap.size) (hv : LabsR B w v l) (hm : MaxC w) :
    Calls Tryd.prog 31 #[v] w (QPost w (checkL l)) := by
  have HV := Lib.hid hv
  have HM := Lib.hid hm
  have hn := hv.1
  obtain ⟨_, A, c, rfl, _⟩ := hv
  clear hm
  by_cases h8 : 10 < l.length
  · have hf : Hid (checkL l = 2) := if_pos h8
    go_enter Tryd.func31, Tryd.ntmps31
    go_wp2
    go_ret
    exact ⟨ret_int hf.out.symm, Below.refl _ _⟩
  · have hf : Hid (checkL l = firstAt (labsAt l) l.length) := if_neg h8
    go_enter Tryd.func31, Tryd.ntmps31
    go_wp2
    go_loopw [3, 4, 5, 6, 7, 13] (fun last _ _ _ _ k wr => ∃ (j : Nat) (s : ByteArray), j ≤ l.length ∧ k = .int .i64 (j : Int) ∧ last = .string s ∧ Hid (∀ q, prevOf l j = some q → s = q.key) ∧ Hid (zeroTil (labsAt l) j) ∧ Hid (Ext w wr)) (fun _ _ _ _ _ k _ => l.length - (intOf k).toNat)
    case atStart => exact ⟨0, _, Nat.zero_le _, rfl, rfl, (fun q h => by cases h), zeroTil.zero _, Below.refl _ _⟩
    case round =>
      obtain ⟨j, s, hj, rfl, rfl, hP, hN, hX⟩ := hrel
      by_cases hlt : j < l.length
      · have hbl := hX.out.mono hB
        obtain ⟨b, off, rfl, _, x0, x1, hk, hval⟩ := (HV.out.below hbl (Nat.le_refl _)).at_ hlt
        have HST : Hid (∀ e, labI (prevOf l j) l[j] = e → e ≠ 0 → firstAt (labsAt l) l.length = e) := fun e he h0 => firstAt_stop hN.out hlt (by rw [labsAt_eq hlt, he]) h0
        have HSU : Hid (labI (prevOf l j) l[j] = 0 → zeroTil (labsAt l) (j + 1)) := fun h => hN.out.succ (by rw [labsAt_eq hlt, h])
        have HP2 : Hid (∀ q, prevOf l (j + 1) = some q → l[j].key = q.key) := fun q hq => by
          have : l[j]? = some q := hq
          rw [List.getElem?_eq_getElem hlt] at this
          injection this with e
          rw [e]
        obtain ⟨x, hx⟩ : ∃ x, x = l[j] := ⟨_, rfl⟩
        rw [← hx] at x0 x1 hk hval HST HSU HP2
        have hal : ∀ o, Ext wr (wr.alloc o) := fun o => (Below.refl _ _).alloc (Nat.le_refl _) o
        have HAL := Lib.hid hal
        clear hx hbl hal
        go_wp2_with fail
        obtain ⟨w1, hw1⟩ : ∃ w1, w1 = wr.alloc (.cells #[.string x.key, .string x.val] 73) := ⟨_, rfl⟩
        have hx1 : Ext wr w1 := by rw [hw1]; exact HAL.out _
        have hg1 : w1.heap[wr.heap.size]? = some (.cells #[.string x.key, .string x.val] 73 (0, 0)) := by rw [hw1]; exact heap_new rfl
        rw [← hw1]
        have HX1 : Hid (Ext w w1) := hX.out.trans hx1
        have HG1 := Lib.hid hg1
        clear hw1 hx1 hg1 x0 x1
        refine Calls.mono (rkey_any x.key _ hk (HM.out.ext HX1.out)) ?_
        rintro e w2 ⟨rfl, hx2⟩
        have HX2 : Hid (Ext w w2) := HX1.out.trans hx2
        obtain ⟨g0, g1⟩ := cells2' ((hx2.block _ (heap_lt HG1.out)).trans HG1.out)
        clear hx2
        by_cases h0 : keyI x.key = 0
        · have hb : (keyI x.key != 0) = false := by simp [h0]
          by_cases h1 : valI x.val = 0
          · have hb1 : (valI x.val != 0) = false := by simp [h1]
            cases j with
            | zero =>
              have HS := Lib.hid (HSU.out (labI_first h0 h1))
              clear h0 h1
              go_wp2_with (go_at_call 14; refine (rval_any _ _ (by unfold maxLen; omega)).mono ?_; rintro e w' ⟨rfl, rfl⟩)
              go_roundw
              case rel => exact ⟨1, x.key, hlt, rfl, rfl, HP2, HS, HX2⟩
              case measure => simp [intOf]; omega
            | succ i =>
              have hil : i < l.length := by omega
              have hp : prevOf l (i + 1) = some l[i] := List.getElem?_eq_getElem hil
              have hse := hP.out _ hp
              have HL := Lib.hid (labI_less (q := l[i]) h0 h1)
              rw [← hp, ← hse] at HL
              have hd0 : decide ((0 : Int) < (i : Int) + 1) = true := decide_eq_true (by omega)
              have HTOT : Hid ((Op.bytesLess x.key.toList s.toList || x.key.toList == s.toList) = !(lessS s x.key)) := less_total _ _
              clear h0 h1 hp hse
              cases hls : lessS s x.key with
              | true =>
                have HS := Lib.hid (HSU.out (by rw [HL.out, hls]; rfl))
                have hT : (Op.bytesLess x.key.toList s.toList || x.key.toList == s.toList) = false := by rw [HTOT.out, hls]; rfl
                have hT1 : Op.bytesLess x.key.toList s.toList = false := (Bool.or_eq_false_iff.1 hT).1
                have hT2 : (x.key.toList == s.toList) = false := (Bool.or_eq_false_iff.1 hT).2
                clear hls hT
                go_wp2_with (go_at_call 14; refine (rval_any _ _ (by unfold maxLen; omega)).mono ?_; rintro e w' ⟨rfl, rfl⟩)
                go_roundw
                case rel => exact ⟨i + 1 + 1, x.key, hlt, by go_num, rfl, HP2, HS, HX2⟩
                case measure => simp [intOf]; omega
              | false =>
                have HS := Lib.hid (HST.out 1 (by rw [HL.out, hls]; rfl) (by decide))
                have hT : (Op.bytesLess x.key.toList s.toList || x.key.toList == s.toList) = true := by rw [HTOT.out, hls]; rfl
                have hT' : Op.bytesLess x.key.toList s.toList = true ∨ (Op.bytesLess x.key.toList s.toList = false ∧ (x.key.toList == s.toList) = true) := by
                  cases hq : Op.bytesLess x.key.toList s.toList
                  · rw [hq] at hT; exact .inr ⟨rfl, by simpa using hT⟩
                  · exact .inl rfl
                clear hls hT
                rcases hT' with hT1 | ⟨hT1, hT2⟩
                all_goals
                  go_wp2_with (go_at_call 14; refine (rval_any _ _ (by unfold maxLen; omega)).mono ?_; rintro e w' ⟨rfl, rfl⟩)
                  go_ret
                  exact ⟨ret_int (by rw [hf.out, HS.out]), HX2.out⟩
          · have hb1 : (valI x.val != 0) = true := by simp [h1]
            have HS := Lib.hid (HST.out _ (labI_val h0 h1) h1)
            clear h0 h1
            go_wp2_with (go_at_call 14; refine (rval_any _ _ (by unfold maxLen; omega)).mono ?_; rintro e w' ⟨rfl, rfl⟩)
            go_ret
            exact ⟨ret_int (by rw [hf.out, HS.out]), HX2.out⟩
        · have hb : (keyI x.key != 0) = true := by simp [h0]
          have HS := Lib.hid (HST.out _ (labI_key h0) h0)
          clear h0
          go_wp2
          go_ret
          exact ⟨ret_int (by rw [hf.out, HS.out]), HX2.out⟩
      · have HF := Lib.hid (firstAt_zero (f := labsAt l) (n := l.length) (fun i hi => hN.out i (by omega)))
        go_wp2
        go_ret
        exact ⟨ret_int (by rw [hf.out, HF.out]), hX.out⟩
end Go.Proofs.YtpbbohinhbboaaaDoor.Sx
