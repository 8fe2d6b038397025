/-
  The program's query.Check and query.CheckLabels.
-/
import Derived.Test.YtpbbohinhbboaaaDoorQck
import Derived.Deep.QuietTactic
import Derived.BigQuiet
import Derived.IntWalk
import Derived.WalkLawsBesides
namespace Go.Proofs.YtpbbohinhbboaaaDoor.Sx
open Go Go.RowKit

set_option maxRecDepth 100000 in
set_option maxHeartbeats 2000000 in
theorem qcheck_any (B : Nat) (v : Value) (l : List Req) (w : World) (hB : B ≤ w.heap.size) (hv : ReqsR B w v l) (hm : MaxC w) :
    Calls Tryd.prog 28 #[v] w (QPost w (checkQ l)) := by
  have HV := Lib.hid hv
  have HM := Lib.hid hm
  have hn := hv.1
  obtain ⟨_, A, c, rfl, _⟩ := hv
  clear hm
  by_cases h8 : 8 < l.length
  · have hf : Hid (checkQ l = 2) := if_pos h8
    go_enter Tryd.func28, Tryd.ntmps28
    go_wp2
    go_ret
    exact ⟨ret_int hf.out.symm, Below.refl _ _⟩
  · have hf : Hid (checkQ l = firstAt (reqsAt l) l.length) := if_neg h8
    go_enter Tryd.func28, Tryd.ntmps28
    go_wp2
    go_loopw [4, 5, 11] (fun _ _ k wr => ∃ j : Nat, j ≤ l.length ∧ k = .int .i64 (j : Int) ∧ Hid (zeroTil (reqsAt l) j) ∧ Hid (Ext w wr)) (fun _ _ k _ => l.length - (intOf k).toNat)
    case atStart => exact ⟨0, Nat.zero_le _, rfl, zeroTil.zero _, Below.refl _ _⟩
    case round =>
      obtain ⟨j, hj, rfl, hN, hX⟩ := hrel
      by_cases hlt : j < l.length
      · have hbl := hX.out.mono hB
        obtain ⟨b, off, A1, c1, rfl, _, x0, x1, x2, hk, t1⟩ := (HV.out.below hbl (Nat.le_refl _)).at_ hlt
        have HST : Hid (∀ e, reqI l[j] = e → e ≠ 0 → firstAt (reqsAt l) l.length = e) := fun e he h0 => firstAt_stop hN.out hlt (by rw [reqsAt_eq hlt, he]) h0
        have HSU : Hid (reqI l[j] = 0 → zeroTil (reqsAt l) (j + 1)) := fun h => hN.out.succ (by rw [reqsAt_eq hlt, h])
        obtain ⟨r, hr⟩ : ∃ r, r = l[j] := ⟨_, rfl⟩
        rw [← hr] at x0 x1 x2 hk t1 HST HSU
        have hal : ∀ o, Ext wr (wr.alloc o) := fun o => (Below.refl _ _).alloc (Nat.le_refl _) o
        have HAL := Lib.hid hal
        have HT := Lib.hid t1
        have HBR : Hid (B ≤ wr.heap.size) := Nat.le_trans hB hX.out.size
        clear hr hbl t1 hal
        go_wp2_with fail
        refine Calls.mono (qreq_any B _ r _ (Nat.le_trans HBR.out (HAL.out _).size) hk (HT.out.below ((HAL.out _).mono HBR.out) (Nat.le_refl _)) (HM.out.ext (hX.out.trans (HAL.out _)))) ?_
        rintro e w2 ⟨rfl, hx2⟩
        have HX2 : Hid (Ext w w2) := hX.out.trans ((HAL.out _).trans hx2)
        clear hx2
        by_cases h0 : reqI r = 0
        · have hb : (reqI r != 0) = false := by simp [h0]
          have HS := Lib.hid (HSU.out h0)
          clear h0
          go_wp2
          go_roundw
          case rel => exact ⟨j + 1, hlt, by go_num, HS, HX2⟩
          case measure => simp [intOf]; omega
        · have hb : (reqI r != 0) = true := by simp [h0]
          have HS := Lib.hid (HST.out _ rfl h0)
          clear h0
          go_wp2
          go_ret
          exact ⟨ret_int (by rw [hf.out, HS.out]), HX2.out⟩
      · have HF := Lib.hid (firstAt_zero (f := reqsAt l) (n := l.length) (fun i hi => hN.out i (by omega)))
        go_wp2
        go_ret
        exact ⟨ret_int (by rw [hf.out, HF.out]), hX.out⟩

set_option maxRecDepth 100000 in
set_option maxHeartbeats 2000000 in
theorem qlabs_any (B : Nat) (v : Value) (l : List Lab) (w : World) (hB : B ≤ w.heap.size) (hv : LabsR B w v l) (hm : MaxC w) :
    Calls Tryd.prog 30 #[v] w (QPost w (checkL l)) := by
  have HV := Lib.hid hv
  have HM := Lib.hid hm
  have hn := hv.1
  obtain ⟨_, A, c, rfl, _⟩ := hv
  clear hm
  by_cases h8 : 10 < l.length
  · have hf : Hid (checkL l = 2) := if_pos h8
    go_enter Tryd.func30, Tryd.ntmps30
    go_wp2
    go_ret
    exact ⟨ret_int hf.out.symm, Below.refl _ _⟩
  · have hf : Hid (checkL l = firstAt (labsAt l) l.length) := if_neg h8
    go_enter Tryd.func30, Tryd.ntmps30
    go_wp2
    go_loopw [3, 4, 5, 6, 12] (fun _ _ _ _ k wr => ∃ j : Nat, j ≤ l.length ∧ k = .int .i64 (j : Int) ∧ Hid (zeroTil (labsAt l) j) ∧ Hid (Ext w wr)) (fun _ _ _ _ k _ => l.length - (intOf k).toNat)
    case atStart => exact ⟨0, Nat.zero_le _, rfl, zeroTil.zero _, Below.refl _ _⟩
    case round =>
      obtain ⟨j, hj, rfl, hN, hX⟩ := hrel
      by_cases hlt : j < l.length
      · have hbl := hX.out.mono hB
        obtain ⟨b, off, rfl, _, x0, x1, hk, hval⟩ := (HV.out.below hbl (Nat.le_refl _)).at_ hlt
        have HST : Hid (∀ e, labI (prevOf l j) l[j] = e → e ≠ 0 → firstAt (labsAt l) l.length = e) := fun e he h0 => firstAt_stop hN.out hlt (by rw [labsAt_eq hlt, he]) h0
        have HSU : Hid (labI (prevOf l j) l[j] = 0 → zeroTil (labsAt l) (j + 1)) := fun h => hN.out.succ (by rw [labsAt_eq hlt, h])
        obtain ⟨x, hx⟩ : ∃ x, x = l[j] := ⟨_, rfl⟩
        rw [← hx] at x0 x1 hk hval HST HSU
        have hal : ∀ o, Ext wr (wr.alloc o) := fun o => (Below.refl _ _).alloc (Nat.le_refl _) o
        have HAL := Lib.hid hal
        have HBR : Hid (B ≤ wr.heap.size) := Nat.le_trans hB hX.out.size
        clear hx hbl hal
        go_wp2_with fail
        obtain ⟨w1, hw1⟩ : ∃ w1, w1 = wr.alloc (.cells #[.string x.key, .string x.val] 73) := ⟨_, rfl⟩
        have hx1 : Ext wr w1 := by rw [hw1]; exact HAL.out _
        have hg1 : w1.heap[wr.heap.size]? = some (.cells #[.string x.key, .string x.val] 73 (0, 0)) := by rw [hw1]; exact heap_new rfl
        rw [← hw1]
        have HX1 : Hid (Ext w w1) := hX.out.trans hx1
        have HG1 := Lib.hid hg1
        clear hw1 hx1 hg1 x0 x1
        refine Calls.mono (checkKey_any x.key _ hk (HM.out.ext HX1.out)) ?_
        rintro e w2 ⟨rfl, hx2⟩
        have HX2 : Hid (Ext w w2) := HX1.out.trans hx2
        obtain ⟨g0, g1⟩ := cells2' ((hx2.block _ (heap_lt HG1.out)).trans HG1.out)
        clear hx2
        by_cases h0 : keyI x.key = 0
        · have hb : (keyI x.key != 0) = false := by simp [h0]
          by_cases h1 : valI x.val = 0
          · have hb1 : (valI x.val != 0) = false := by simp [h1]
            cases j with
            | zero =>
              have HS := Lib.hid (HSU.out (labI_first h0 h1))
              clear h0 h1
              go_wp2_with (go_at_call 13; refine (checkVal_any _ _ (by unfold maxLen; omega)).mono ?_; rintro e w' ⟨rfl, rfl⟩)
              go_quiet (fail)
              have HX3 : Hid (∀ q, Ext w (w2.drewN q)) := fun q => HX2.out.trans (ext_drewN w2 q)
              go_wp2
              go_roundw
              case rel => exact ⟨1, hlt, rfl, HS, HX3.out _⟩
              case measure => simp [intOf]; omega
            | succ i =>
              have hil : i < l.length := by omega
              obtain ⟨b', off', hv', _, y0, _, _, _⟩ := (HV.out.below (HX2.out.mono hB) (Nat.le_refl _)).at_ hil
              injection hv' with hv'
              injection hv' with e1 e2
              subst e1 e2
              have hp : prevOf l (i + 1) = some l[i] := List.getElem?_eq_getElem hil
              have HL := Lib.hid (labI_less (q := l[i]) h0 h1)
              rw [← hp] at HL
              obtain ⟨k0, hk0⟩ : ∃ k0, k0 = l[i].key := ⟨_, rfl⟩
              rw [← hk0] at y0 HL
              have hi0 : (0 : Int) ≤ (i : Int) := by omega
              have hi1 : (i : Int) < (l.length : Int) := by omega
              have hd0 : decide ((0 : Int) < (i : Int) + 1) = true := decide_eq_true (by omega)
              have hw0 : IntKind.i64.wrap ((i : Int) + 1 - 1) = (i : Int) := by rw [IntWalk.i64_in _ (by omega)]; omega
              have hw1 : IntKind.i64.wrap (i : Int) = (i : Int) := IntWalk.i64_in _ (by omega)
              clear h0 h1 hp hk0
              cases hls : lessS k0 x.key with
              | true =>
                have HS := Lib.hid (HSU.out (by rw [HL.out, hls]; rfl))
                have hls' : Op.bytesLess k0.toList x.key.toList = true := hls
                clear hls
                go_wp2_with (go_at_call 13; refine (checkVal_any _ _ (by unfold maxLen; omega)).mono ?_; rintro e w' ⟨rfl, rfl⟩)
                go_quiet (fail)
                have HX3 : Hid (∀ q, Ext w (w2.drewN q)) := fun q => HX2.out.trans (ext_drewN w2 q)
                go_wp2
                go_roundw
                case rel => exact ⟨i + 1 + 1, hlt, by go_num, HS, HX3.out _⟩
                case measure => simp [intOf]; omega
              | false =>
                have HS := Lib.hid (HST.out 1 (by rw [HL.out, hls]; rfl) (by decide))
                have hls' : Op.bytesLess k0.toList x.key.toList = false := hls
                clear hls
                go_wp2_with (go_at_call 13; refine (checkVal_any _ _ (by unfold maxLen; omega)).mono ?_; rintro e w' ⟨rfl, rfl⟩)
                go_quiet (fail)
                have HX3 : Hid (∀ q, Ext w (w2.drewN q)) := fun q => HX2.out.trans (ext_drewN w2 q)
                go_wp2
                go_ret
                exact ⟨ret_int (by rw [hf.out, HS.out]), HX3.out _⟩
          · have hb1 : (valI x.val != 0) = true := by simp [h1]
            have HS := Lib.hid (HST.out _ (labI_val h0 h1) h1)
            clear h0 h1
            go_wp2_with (go_at_call 13; refine (checkVal_any _ _ (by unfold maxLen; omega)).mono ?_; rintro e w' ⟨rfl, rfl⟩)
            go_ret
            exact ⟨ret_int (by rw [hf.out, HS.out]), HX2.out⟩
        · have hb : (keyI x.key != 0) = true := by simp [h0]
          have HS := Lib.hid (HST.out _ (labI_key h0) h0)
          clear h0
          go_wp2
          go_ret
          exact ⟨ret_int (by rw [hf.out, HS.out]), HX2.out⟩
      · have HF := Lib.hid (firstAt_zero (f := labsAt l) (n := l.length) (fun i hi => hN.out i (by omega)))
        go_wp2
        go_ret
        exact ⟨ret_int (by rw [hf.out, HF.out]), hX.out⟩
end Go.Proofs.YtpbbohinhbboaaaDoor.Sx
