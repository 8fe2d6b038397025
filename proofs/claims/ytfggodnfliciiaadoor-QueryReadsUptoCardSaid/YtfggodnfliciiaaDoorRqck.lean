/-
  The reference's QueryCheck and QueryLabels: they answer as the program's Check and CheckLabels.
-/
import Derived.Test.YtfggodnfliciiaaDoorQck2
namespace Go.Proofs.YtfggodnfliciiaaDoor.Sx
open Go Go.RowKit

theorem badKind_low {r : Req} (h : r.kind < 1) : badKind r := .inl h
theorem badKind_high {r : Req} (h : 4 < r.kind) : badKind r := .inr (.inl h)
theorem badKind_in {r : Req} (h1 : 1 ≤ r.kind) (h2 : r.kind ≤ 2) (h : r.vals.length = 0) : badKind r := .inr (.inr (.inl ⟨by omega, h⟩))
theorem badKind_out {r : Req} (h1 : 3 ≤ r.kind) (h : r.vals.length ≠ 0) : badKind r := .inr (.inr (.inr ⟨by omega, h⟩))
theorem goodKind_in {r : Req} (h1 : 1 ≤ r.kind) (h2 : r.kind ≤ 2) (h : r.vals.length ≠ 0) : ¬ badKind r := by unfold badKind; omega
theorem goodKind_out {r : Req} (h1 : 3 ≤ r.kind) (h2 : r.kind ≤ 4) (h : r.vals.length = 0) : ¬ badKind r := by unfold badKind; omega

set_option maxRecDepth 100000 in
set_option maxHeartbeats 4000000 in
theorem rqcheck_any (B : Nat) (v : Value) (l : List Req) (w : World) (hB : B ≤ w.heap.size) (hv : ReqsR B w v l) (hm : MaxC w) :
    Calls Tryd.prog 15 #[v] w (QPost w (checkQ l)) := by
  have HV := Lib.hid hv
  have HM := Lib.hid hm
  have hn := hv.1
  obtain ⟨_, A, c, rfl, _⟩ := hv
  clear hm
  by_cases h8 : 8 < l.length
  · have hf : Hid (checkQ l = 2) := if_pos h8
    go_enter Tryd.func15, Tryd.ntmps15
    go_wp2
    go_ret
    exact ⟨ret_int hf.out.symm, Below.refl _ _⟩
  · have hf : Hid (checkQ l = firstAt (reqsAt l) l.length) := if_neg h8
    go_enter Tryd.func15, Tryd.ntmps15
    go_wp2
    go_loopw [4, 5, 7, 8, 14] (fun _ _ _ _ k wr => ∃ j : Nat, j ≤ l.length ∧ k = .int .i64 (j : Int) ∧ Hid (zeroTil (reqsAt l) j) ∧ Hid (Ext w wr)) (fun _ _ _ _ k _ => l.length - (intOf k).toNat)
    case atStart => exact ⟨0, Nat.zero_le _, rfl, zeroTil.zero _, Below.refl _ _⟩
    case round =>
      obtain ⟨j, hj, rfl, hN, hX⟩ := hrel
      by_cases hlt : j < l.length
      · have hbl := hX.out.mono hB
        obtain ⟨b, off, A1, c1, rfl, _, x0, x1, x2, hk, t1⟩ := (HV.out.below hbl (Nat.le_refl _)).at_ hlt
        have HST : Hid (∀ e, reqI l[j] = e → e ≠ 0 → firstAt (reqsAt l) l.length = e) := fun e he h0 => firstAt_stop hN.out hlt (by rw [reqsAt_eq hlt, he]) h0
        have HSU : Hid (reqI l[j] = 0 → zeroTil (reqsAt l) (j + 1)) := fun h => hN.out.succ (by rw [reqsAt_eq hlt, h])
        obtain ⟨r, hr⟩ : ∃ r, r = l[j] := ⟨_, rfl⟩
        rw [← hr] at x0 x1 x2 hk t1 HST HSU
        have hal : ∀ o, Ext wr (wr.alloc o) := fun o => (Below.refl _ _).alloc (Nat.le_refl _) o
        have HAL := Lib.hid hal
        have HT := Lib.hid t1
        have HBR : Hid (B ≤ wr.heap.size) := Nat.le_trans hB hX.out.size
        have hvn := t1.1
        clear hr hbl t1 hal
        go_wp2_with fail
        obtain ⟨w1, hw1⟩ : ∃ w1, w1 = wr.alloc (.cells #[.string r.key, .int .i64 r.kind, .slice A1 r.vals.length c1] 29) := ⟨_, rfl⟩
        have hx1 : Ext wr w1 := by rw [hw1]; exact HAL.out _
        have hg1 : w1.heap[wr.heap.size]? = some (.cells #[.string r.key, .int .i64 r.kind, .slice A1 r.vals.length c1] 29 (0, 0)) := by rw [hw1]; exact heap_new rfl
        rw [← hw1]
        have HX1 : Hid (Ext w w1) := hX.out.trans hx1
        have HS1 : Hid (StrsR B w1 (.slice A1 r.vals.length c1) r.vals) := HT.out.below (hx1.mono HBR.out) (Nat.le_refl _)
        have HG1 := Lib.hid hg1
        have HB1 : Hid (B ≤ w1.heap.size) := Nat.le_trans HBR.out hx1.size
        clear hw1 hx1 hg1 x0 x1 x2
        refine Calls.mono (rkey_any r.key _ hk (HM.out.ext HX1.out)) ?_
        rintro e w2 ⟨rfl, hx2⟩
        have HX2 : Hid (Ext w w2) := HX1.out.trans hx2
        have HS2 : Hid (StrsR B w2 (.slice A1 r.vals.length c1) r.vals) := HS1.out.below (hx2.mono HB1.out) (Nat.le_refl _)
        obtain ⟨g0, g1, g2⟩ := cells3' ((hx2.block _ (heap_lt HG1.out)).trans HG1.out)
        clear hx2
        by_cases h0 : keyI r.key = 0
        · have hb : (keyI r.key != 0) = false := by simp [h0]
          have H0 := Lib.hid h0
          clear h0
          by_cases kl : r.kind < 1
          · have HS := Lib.hid (HST.out 1 (reqI_bad H0.out (badKind_low kl)) (by decide))
            go_wp2
            go_ret
            exact ⟨ret_int (by rw [hf.out, HS.out]), HX2.out⟩
          by_cases kh : 4 < r.kind
          · have HS := Lib.hid (HST.out 1 (reqI_bad H0.out (badKind_high kh)) (by decide))
            go_wp2
            go_ret
            exact ⟨ret_int (by rw [hf.out, HS.out]), HX2.out⟩
          have k1 : 1 ≤ r.kind := by omega
          have k4 : r.kind ≤ 4 := by omega
          have dl : decide (r.kind < 1) = false := decide_eq_false kl
          have dh : decide (4 < r.kind) = false := decide_eq_false kh
          clear kl kh
          by_cases k3 : r.kind < 3
          · have d3 : decide (r.kind < 3) = true := decide_eq_true k3
            by_cases hz : r.vals.length = 0
            · have HS := Lib.hid (HST.out 1 (reqI_bad H0.out (badKind_in k1 (by omega) hz)) (by decide))
              have hz2 : ((r.vals.length : Int) == 0) = true := beq_iff_eq.2 (by omega)
              clear hz
              go_wp2
              go_ret
              exact ⟨ret_int (by rw [hf.out, HS.out]), HX2.out⟩
            · have HNB := Lib.hid (goodKind_in k1 (by omega) hz)
              have hz2 : ((r.vals.length : Int) == 0) = false := beq_eq_false_iff_ne.2 (by omega)
              clear hz
              by_cases hv8 : 8 < r.vals.length
              · have HS := Lib.hid (HST.out 2 (reqI_many H0.out HNB.out hv8) (by decide))
                go_wp2
                go_ret
                exact ⟨ret_int (by rw [hf.out, HS.out]), HX2.out⟩
              · have HZ := Lib.hid (reqI_vals H0.out HNB.out hv8)
                go_wp2
                go_loopw [7, 8, 49] (fun _ _ k wq => ∃ i : Nat, i ≤ r.vals.length ∧ k = .int .i64 (i : Int) ∧ Hid (zeroTil (valsAt r.vals) i) ∧ wq = w2) (fun _ _ k _ => r.vals.length - (intOf k).toNat)
                case atStart => exact ⟨0, Nat.zero_le _, rfl, zeroTil.zero _, rfl⟩
                case round =>
                  obtain ⟨i, hi, rfl, hNi, rfl⟩ := hrel
                  by_cases hil : i < r.vals.length
                  · obtain ⟨bb, oo, c', hv, _, hc⟩ := StrsR.cells HS2.out (by omega)
                    injection hv with h1 h2 h3
                    subst h1 h3
                    obtain ⟨hcj, hsj⟩ := hc i hil
                    have HSTV : Hid (∀ e, valI r.vals[i] = e → e ≠ 0 → firstAt (valsAt r.vals) r.vals.length = e) := fun e he h0 => firstAt_stop hNi.out hil (by rw [valsAt_eq hil, he]) h0
                    have HSUV : Hid (valI r.vals[i] = 0 → zeroTil (valsAt r.vals) (i + 1)) := fun h => hNi.out.succ (by rw [valsAt_eq hil, h])
                    obtain ⟨x, hx⟩ : ∃ x, x = r.vals[i] := ⟨_, rfl⟩
                    rw [← hx] at hcj hsj HSTV HSUV
                    clear hx hc h2
                    by_cases hv0 : valI x = 0
                    · have hb2 : (valI x != 0) = false := by simp [hv0]
                      have HSU2 := Lib.hid (HSUV.out hv0)
                      clear hv0
                      go_wp2_with (go_at_call 26; refine (rval_any _ _ (by unfold maxLen; omega)).mono ?_; rintro e w' ⟨rfl, rfl⟩)
                      go_roundw
                      case rel => exact ⟨i + 1, hil, by go_num, HSU2, (by first | rfl | trivial)⟩
                      case measure => simp [intOf]; omega
                    · have hb2 : (valI x != 0) = true := by simp [hv0]
                      have HST2 := Lib.hid (HST.out _ (HZ.out.trans (HSTV.out _ rfl hv0)) hv0)
                      clear hv0
                      go_wp2_with (go_at_call 26; refine (rval_any _ _ (by unfold maxLen; omega)).mono ?_; rintro e w' ⟨rfl, rfl⟩)
                      go_ret
                      exact ⟨ret_int (by rw [hf.out, HST2.out]), HX2.out⟩
                  · have HSF := Lib.hid (HSU.out (HZ.out.trans (firstAt_zero (f := valsAt r.vals) (n := r.vals.length) (fun i2 hi2 => hNi.out i2 (by omega)))))
                    go_wp2
                    go_roundw
                    case rel => exact ⟨j + 1, hlt, by go_num, HSF, HX2⟩
                    case measure => simp [intOf]; omega
          · have k3' : 3 ≤ r.kind := by omega
            have d3 : decide (r.kind < 3) = false := decide_eq_false k3
            clear k3
            by_cases hz : r.vals.length = 0
            · have HNB := Lib.hid (goodKind_out k3' k4 hz)
              have hz2 : ((r.vals.length : Int) == 0) = true := beq_iff_eq.2 (by omega)
              clear hz
              by_cases hv8 : 8 < r.vals.length
              · have HS := Lib.hid (HST.out 2 (reqI_many H0.out HNB.out hv8) (by decide))
                go_wp2
                go_ret
                exact ⟨ret_int (by rw [hf.out, HS.out]), HX2.out⟩
              · have HZ := Lib.hid (reqI_vals H0.out HNB.out hv8)
                go_wp2
                go_loopw [7, 8, 49] (fun _ _ k wq => ∃ i : Nat, i ≤ r.vals.length ∧ k = .int .i64 (i : Int) ∧ Hid (zeroTil (valsAt r.vals) i) ∧ wq = w2) (fun _ _ k _ => r.vals.length - (intOf k).toNat)
                case atStart => exact ⟨0, Nat.zero_le _, rfl, zeroTil.zero _, rfl⟩
                case round =>
                  obtain ⟨i, hi, rfl, hNi, rfl⟩ := hrel
                  by_cases hil : i < r.vals.length
                  · obtain ⟨bb, oo, c', hv, _, hc⟩ := StrsR.cells HS2.out (by omega)
                    injection hv with h1 h2 h3
                    subst h1 h3
                    obtain ⟨hcj, hsj⟩ := hc i hil
                    have HSTV : Hid (∀ e, valI r.vals[i] = e → e ≠ 0 → firstAt (valsAt r.vals) r.vals.length = e) := fun e he h0 => firstAt_stop hNi.out hil (by rw [valsAt_eq hil, he]) h0
                    have HSUV : Hid (valI r.vals[i] = 0 → zeroTil (valsAt r.vals) (i + 1)) := fun h => hNi.out.succ (by rw [valsAt_eq hil, h])
                    obtain ⟨x, hx⟩ : ∃ x, x = r.vals[i] := ⟨_, rfl⟩
                    rw [← hx] at hcj hsj HSTV HSUV
                    clear hx hc h2
                    by_cases hv0 : valI x = 0
                    · have hb2 : (valI x != 0) = false := by simp [hv0]
                      have HSU2 := Lib.hid (HSUV.out hv0)
                      clear hv0
                      go_wp2_with (go_at_call 26; refine (rval_any _ _ (by unfold maxLen; omega)).mono ?_; rintro e w' ⟨rfl, rfl⟩)
                      go_roundw
                      case rel => exact ⟨i + 1, hil, by go_num, HSU2, (by first | rfl | trivial)⟩
                      case measure => simp [intOf]; omega
                    · have hb2 : (valI x != 0) = true := by simp [hv0]
                      have HST2 := Lib.hid (HST.out _ (HZ.out.trans (HSTV.out _ rfl hv0)) hv0)
                      clear hv0
                      go_wp2_with (go_at_call 26; refine (rval_any _ _ (by unfold maxLen; omega)).mono ?_; rintro e w' ⟨rfl, rfl⟩)
                      go_ret
                      exact ⟨ret_int (by rw [hf.out, HST2.out]), HX2.out⟩
                  · have HSF := Lib.hid (HSU.out (HZ.out.trans (firstAt_zero (f := valsAt r.vals) (n := r.vals.length) (fun i2 hi2 => hNi.out i2 (by omega)))))
                    go_wp2
                    go_roundw
                    case rel => exact ⟨j + 1, hlt, by go_num, HSF, HX2⟩
                    case measure => simp [intOf]; omega
            · have HS := Lib.hid (HST.out 1 (reqI_bad H0.out (badKind_out k3' hz)) (by decide))
              have hz2 : ((r.vals.length : Int) == 0) = false := beq_eq_false_iff_ne.2 (by omega)
              clear hz
              go_wp2
              go_ret
              exact ⟨ret_int (by rw [hf.out, HS.out]), HX2.out⟩
        · have hb : (keyI r.key != 0) = true := by simp [h0]
          have HS := Lib.hid (HST.out _ (reqI_key h0) h0)
          clear h0
          go_wp2
          go_ret
          exact ⟨ret_int (by rw [hf.out, HS.out]), HX2.out⟩
      · have HF := Lib.hid (firstAt_zero (f := reqsAt l) (n := l.length) (fun i hi => hN.out i (by omega)))
        go_wp2
        go_ret
        exact ⟨ret_int (by rw [hf.out, HF.out]), hX.out⟩

end Go.Proofs.YtfggodnfliciiaaDoor.Sx
