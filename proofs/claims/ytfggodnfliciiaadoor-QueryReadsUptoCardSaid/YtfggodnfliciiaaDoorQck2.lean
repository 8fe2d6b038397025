/-
  The program's query.Check and query.CheckLabels.
-/
import Derived.Test.YtfggodnfliciiaaDoorQck
import Derived.Deep.QuietTactic
import Derived.BigQuiet
import Derived.IntWalk
import Derived.WalkLawsBesides
namespace Go.Proofs.YtfggodnfliciiaaDoor.Sx
open Go Go.RowKit

set_option maxRecDepth 100000 in
set_option maxHeartbeats 2000000 in
theorem qcheck_any (B : Nat) (v : Value) (l : List Req) (w : World) (hB : B ≤ w.heap.size) (hv : ReqsR B w v l) (hm : MaxC w) :
    Calls Tryd.prog 12 #[v] w (QPost w (checkQ l)) := by
  have HV := Lib.hid hv
  have HM := Lib.hid hm
  have hn := hv.1
  obtain ⟨_, A, c, rfl, _⟩ := hv
  clear hm
  by_cases h8 : 8 < l.length
  · have hf : Hid (checkQ l = 2) := if_pos h8
    go_enter Tryd.func12, Tryd.ntmps12
    go_wp2
    go_ret
    exact ⟨ret_int hf.out.symm, Below.refl _ _⟩
  · have hf : Hid (checkQ l = firstAt (reqsAt l) l.length) := if_neg h8
    go_enter Tryd.func12, Tryd.ntmps12
    go_wp2
    go_loopw [4, 5, 11] (fun _ _ k wr => ∃ j : Nat, j ≤ l.length ∧ k = .int .i64 (j : Int) ∧ Hid (zeroTil (reqsAt l) j) ∧ Hid (Ext w wr)) (fun _ _ k _ => l.length - (intOf k).toNat)
    case atStart => exact ⟨0, Nat.zero_le _, rfl, zeroTil.zero _, Below.refl _ _⟩
    case round =>
      obtain ⟨j, hj, rfl, hN, hX⟩ := hrel
      by_cases hlt : j < l.length
      · have hbl := hX.out.mono hB
        obtain ⟨b, off, A1, c1, rfl, _, x0, x1, x2, hk, t1⟩ := (HV.out.below hbl (Nat.le_refl _)).at_ hlt
        have HST : Hid (∀ e, reqI l[j] = e → e ≠ 0 → firstAt (reqsAt l) l.length = e) := fun e he h0 => firstAt_stop hN.out hlt (by rw [reqsAt_eq hlt, he]) h0
        have HSU : Hid (reqI l[j] = 0 → zeroTil (reqsAt l) (j + 1)) := fun h => hN.out.succ (by rw [reqsAt_eq hlt, h])
        obtain ⟨r, hr⟩ : ∃ r, r = l[j] := ⟨_, rfl⟩
        rw [← hr] at x0 x1 x2 hk t1 HST HSU
        have hal : ∀ o, Ext wr (wr.alloc o) := fun o => (Below.refl _ _).alloc (Nat.le_refl _) o
        have HAL := Lib.hid hal
        have HT := Lib.hid t1
        have HBR : Hid (B ≤ wr.heap.size) := Nat.le_trans hB hX.out.size
        clear hr hbl t1 hal
        go_wp2_with fail
        refine Calls.mono (qreq_any B _ r _ (Nat.le_trans HBR.out (HAL.out _).size) hk (HT.out.below ((HAL.out _).mono HBR.out) (Nat.le_refl _)) (HM.out.ext (hX.out.trans (HAL.out _)))) ?_
        rintro e w2 ⟨rfl, hx2⟩
        have HX2 : Hid (Ext w w2) := hX.out.trans ((HAL.out _).trans hx2)
        clear hx2
        by_cases h0 : reqI r = 0
        · have hb : (reqI r != 0) = false := by simp [h0]
          have HS := Lib.hid (HSU.out h0)
          clear h0
          go_wp2
          go_roundw
          case rel => exact ⟨j + 1, hlt, by go_num, HS, HX2⟩
          case measure => simp [intOf]; omega
        · have hb : (reqI r != 0) = true := by simp [h0]
          have HS := Lib.hid (HST.out _ rfl h0)
          clear h0
          go_wp2
          go_ret
          exact ⟨ret_int (by rw [hf.out, HS.out]), HX2.out⟩
      · have HF := Lib.hid (firstAt_zero (f := reqsAt l) (n := l.length) (fun i hi => hN.out i (by omega)))
        go_wp2
        go_ret
        exact ⟨ret_int (by rw [hf.out, HF.out]), hX.out⟩

end Go.Proofs.YtfggodnfliciiaaDoor.Sx
