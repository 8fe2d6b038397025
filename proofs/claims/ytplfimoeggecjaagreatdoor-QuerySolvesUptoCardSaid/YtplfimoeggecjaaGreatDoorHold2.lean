/-
  The program's query.holds, all and Match: the walks.
-/
import Derived.Test.YtplfimoeggecjaaGreatDoorHold
namespace Go.Proofs.YtplfimoeggecjaaGreatDoor.Sx
open Go Go.RowKit

theorem holds_some {r : Req} {l : List Lab} {x : Lab} (h : l.find? (keyed r.key) = some x) : holdsB r l = if r.kind = 1 then hasS r.vals x.val else if r.kind = 2 then !(hasS r.vals x.val) else decide (r.kind = 3) := by unfold holdsB; rw [h]
theorem holds_none {r : Req} {l : List Lab} (h : l.find? (keyed r.key) = none) : holdsB r l = if r.kind = 1 then false else if r.kind = 2 then true else decide (r.kind ≠ 3) := by unfold holdsB; rw [h]

set_option maxRecDepth 100000 in
set_option maxHeartbeats 4000000 in
theorem holds_any (B : Nat) (v u : Value) (r : Req) (l : List Lab) (w : World) (hB : B ≤ w.heap.size) (_hk : r.key.size ≤ 1048576) (hu : StrsR B w u r.vals) (hv : LabsR B w v l) :
    Calls Tryz.prog 103 #[.agg #[.string r.key, .int .i64 r.kind, u], v] w fun e w' => e = .returned (.bool (holdsB r l)) ∧ Ext w w' := by
  have HV := Lib.hid (And.intro hu hv)
  have hn := hv.1
  have hn2 := hu.1
  obtain ⟨_, A, c, rfl, _⟩ := hu
  obtain ⟨_, A1, c1, rfl, _⟩ := hv
  go_enter Tryz.func103, Tryz.ntmps103
  go_wp2_with fail
  obtain ⟨w0, hw0⟩ : ∃ w0, w0 = w.alloc (.cells #[.string r.key, .int .i64 r.kind, .slice A r.vals.length c] 56) := ⟨_, rfl⟩
  have hx0 : Ext w w0 := by rw [hw0]; exact (Below.refl _ _).alloc (Nat.le_refl _) _
  have hg0 : ReqIn w0 w.heap.size r A c := by rw [hw0]; exact heap_new rfl
  rw [← hw0]
  have HX0 := Lib.hid hx0
  have HG0 := Lib.hid hg0
  clear hw0 hx0 hg0
  refine Calls.mono (findLab_any B w.heap.size _ r A c l w0 (Nat.le_trans hB HX0.out.size) (HV.out.2.below (HX0.out.mono hB) (Nat.le_refl _)) HG0.out) ?_
  rintro e w1 ⟨hfd, hx1⟩
  have HX1 := Lib.hid (HX0.out.trans hx1)
  obtain ⟨g0, g1, g2⟩ := cells3' (HG0.out.ext hx1)
  have HS1 : Hid (StrsR B w1 (.slice A r.vals.length c) r.vals) := HV.out.1.below (HX1.out.mono hB) (Nat.le_refl _)
  have HE9 : Hid (∀ q, Ext w (w1.drewN q)) := fun q => HX1.out.trans (ext_drewN w1 q)
  clear hx1
  rcases hfd with ⟨i, hil, rfl, hf⟩ | ⟨rfl, hf⟩
  · have HH := Lib.hid (holds_some hf)
    obtain ⟨b, off, rfl, _, x0, x1, _, hxs⟩ := (HV.out.2.below (HX1.out.mono hB) (Nat.le_refl _)).at_ hil
    obtain ⟨x, hx⟩ : ∃ x, x = l[i] := ⟨_, rfl⟩
    rw [← hx] at x0 x1 HH hxs
    have CS : Hid (∀ bb, hasS r.vals x.val = bb → ∀ n, Calls Tryz.prog 58 #[.slice A r.vals.length c, .string x.val] (w1.drewN n) fun e w' => e = .returned (.bool bb) ∧ w' = w1.drewN n) := fun bb hb n =>
      (contains_strs x.val (HS1.out.below ((ext_drewN w1 n).mono (Nat.le_trans hB HX1.out.size)) (Nat.le_refl _))).mono fun e w' ⟨he, hw⟩ => ⟨by rw [he, hb], hw.symm⟩
    have hi0 : (0 : Int) ≤ (i : Int) := by omega
    have hi1 : (i : Int) < (l.length : Int) := by omega
    have hd : decide ((0 : Int) ≤ (i : Int)) = true := decide_eq_true (by omega)
    have hd2 : decide ((i : Int) < 0) = false := decide_eq_false (by omega)
    clear hf hx
    by_cases k1 : r.kind = 1
    · have e1 : (r.kind == 1) = true := by simp [k1]
      cases hh : hasS r.vals x.val
      all_goals
        have HR : Hid (holdsB r l = hasS r.vals x.val) := by unfold Hid; rw [HH.out, if_pos k1]
        have HB := Lib.hid (HR.out.trans hh)
        have CB := Lib.hid (CS.out _ hh)
        clear hh
      · clear k1
        go_wp2
        go_quiet ((go_at_call 58; exact Calls.quiet_of_same (CB.out _)))
        go_wp2
        go_ret
        exact ⟨ret_bool HB.out.symm, HE9.out _⟩
      · clear k1
        go_wp2
        go_quiet ((go_at_call 58; exact Calls.quiet_of_same (CB.out _)))
        go_wp2
        go_ret
        exact ⟨ret_bool HB.out.symm, HE9.out _⟩
    have e1 : (r.kind == 1) = false := by simp [k1]
    by_cases k2 : r.kind = 2
    · have e2 : (r.kind == 2) = true := by simp [k2]
      cases hh : hasS r.vals x.val
      all_goals
        have HR : Hid (holdsB r l = !(hasS r.vals x.val)) := by unfold Hid; rw [HH.out, if_neg k1, if_pos k2]
        have HB := Lib.hid (HR.out.trans (by rw [hh]))
        have CB := Lib.hid (CS.out _ hh)
        clear hh
      · clear k1 k2
        go_wp2
        go_quiet ((go_at_call 58; exact Calls.quiet_of_same (CB.out _)))
        go_wp2
        go_ret
        exact ⟨ret_bool HB.out.symm, HE9.out _⟩
      · clear k1 k2
        go_wp2
        go_quiet ((go_at_call 58; exact Calls.quiet_of_same (CB.out _)))
        go_wp2
        go_ret
        exact ⟨ret_bool HB.out.symm, HE9.out _⟩
    have e2 : (r.kind == 2) = false := by simp [k2]
    by_cases k3 : r.kind = 3
    · have e3 : (r.kind == 3) = true := by simp [k3]
      have HB : Hid (holdsB r l = true) := by unfold Hid; rw [HH.out, if_neg k1, if_neg k2]; simp [k3]
      clear k1 k2 k3
      go_wp2
      go_ret
      exact ⟨ret_bool HB.out.symm, HX1.out⟩
    · have e3 : (r.kind == 3) = false := by simp [k3]
      have HB : Hid (holdsB r l = false) := by unfold Hid; rw [HH.out, if_neg k1, if_neg k2]; simp [k3]
      clear k1 k2 k3
      go_wp2
      go_ret
      exact ⟨ret_bool HB.out.symm, HX1.out⟩
  · have HH := Lib.hid (holds_none hf)
    clear hf
    by_cases k1 : r.kind = 1
    · have e1 : (r.kind == 1) = true := by simp [k1]
      have HB : Hid (holdsB r l = false) := by unfold Hid; rw [HH.out, if_pos k1]
      clear k1
      go_wp2
      go_quiet (fail)
      go_wp2
      go_ret
      exact ⟨ret_bool HB.out.symm, HE9.out _⟩
    have e1 : (r.kind == 1) = false := by simp [k1]
    by_cases k2 : r.kind = 2
    · have e2 : (r.kind == 2) = true := by simp [k2]
      have HB : Hid (holdsB r l = true) := by unfold Hid; rw [HH.out, if_neg k1, if_pos k2]
      clear k1 k2
      go_wp2
      go_quiet (fail)
      go_wp2
      go_ret
      exact ⟨ret_bool HB.out.symm, HE9.out _⟩
    have e2 : (r.kind == 2) = false := by simp [k2]
    by_cases k3 : r.kind = 3
    · have e3 : (r.kind == 3) = true := by simp [k3]
      have HB : Hid (holdsB r l = false) := by unfold Hid; rw [HH.out, if_neg k1, if_neg k2]; simp [k3]
      clear k1 k2 k3
      go_wp2
      go_ret
      exact ⟨ret_bool HB.out.symm, HX1.out⟩
    · have e3 : (r.kind == 3) = false := by simp [k3]
      have HB : Hid (holdsB r l = true) := by unfold Hid; rw [HH.out, if_neg k1, if_neg k2]; simp [k3]
      clear k1 k2 k3
      go_wp2
      go_ret
      exact ⟨ret_bool HB.out.symm, HX1.out⟩

set_option maxRecDepth 100000 in
set_option maxHeartbeats 2000000 in
theorem all_any' (B : Nat) (v u : Value) (l : List Req) (ls : List Lab) (w : World) (hB : B ≤ w.heap.size) (hv : ReqsR B w v l) (hu : LabsR B w u ls) :
    Calls Tryz.prog 64 #[v, u] w fun e w' => e = .returned (.bool (allB l ls)) ∧ Ext w w' := by
  have HV := Lib.hid (And.intro hv hu)
  have hn := hv.1
  obtain ⟨_, A, c, rfl, _⟩ := hv
  obtain ⟨_, A2, c2, rfl, _⟩ := hu
  go_enter Tryz.func64, Tryz.ntmps64
  go_wp2
  go_loopw [6, 9] (fun _ k wr => ∃ j : Nat, j ≤ l.length ∧ k = .int .i64 (j : Int) ∧ Hid (noneTo (fun r => !(holdsB r ls)) l j) ∧ Hid (Ext w wr)) (fun _ k _ => l.length - (intOf k).toNat)
  case atStart => exact ⟨0, Nat.zero_le _, rfl, fun i hi h => by omega, Below.refl _ _⟩
  case round =>
    obtain ⟨j, hj, rfl, hN, hX⟩ := hrel
    by_cases hlt : j < l.length
    · have hbl := hX.out.mono hB
      obtain ⟨b, off, A1, c1, rfl, _, x0, x1, x2, hk, t1⟩ := (HV.out.1.below hbl (Nat.le_refl _)).at_ hlt
      have HF : Hid (holdsB l[j] ls = false → allB l ls = false) := fun h => by unfold allB; rw [List.all_eq_false]; exact ⟨l[j], List.getElem_mem hlt, by rw [h]; simp⟩
      have HU : Hid (holdsB l[j] ls = true → noneTo (fun r => !(holdsB r ls)) l (j + 1)) := fun h => noneTo_succ hN.out hlt (by rw [h]; rfl)
      obtain ⟨r, hr⟩ : ∃ r, r = l[j] := ⟨_, rfl⟩
      rw [← hr] at x0 x1 x2 hk t1 HF HU
      have HAL : Hid (∀ o, Ext wr (wr.alloc o)) := fun o => (Below.refl _ _).alloc (Nat.le_refl _) o
      have HT := Lib.hid t1
      have HBR : Hid (B ≤ wr.heap.size) := Nat.le_trans hB hX.out.size
      have HLB := Lib.hid (HV.out.2.below hbl (Nat.le_refl _))
      clear hr hbl t1
      go_wp2_with fail
      refine Calls.mono (holds_any B _ _ r ls _ (Nat.le_trans HBR.out (HAL.out _).size) hk (HT.out.below ((HAL.out _).mono HBR.out) (Nat.le_refl _)) (HLB.out.below ((HAL.out _).mono HBR.out) (Nat.le_refl _))) ?_
      rintro e w2 ⟨rfl, hx2⟩
      have HX2 : Hid (Ext w w2) := hX.out.trans ((HAL.out _).trans hx2)
      clear hx2
      cases hh : holdsB r ls with
      | true =>
        have HS := Lib.hid (HU.out hh)
        clear hh
        go_wp2
        go_roundw
        case rel => exact ⟨j + 1, hlt, by go_num, HS, HX2⟩
        case measure => simp [intOf]; omega
      | false =>
        have HS := Lib.hid (HF.out hh)
        clear hh
        go_wp2
        go_ret
        exact ⟨ret_bool HS.out.symm, HX2.out⟩
    · have HA : Hid (allB l ls = true) := by
        unfold Hid allB
        rw [List.all_eq_true]
        intro x hx
        obtain ⟨i, hi, rfl⟩ := List.mem_iff_getElem.1 hx
        have := hN.out i hi (by omega)
        simpa using this
      go_wp2
      go_ret
      exact ⟨ret_bool HA.out.symm, hX.out⟩

end Go.Proofs.YtplfimoeggecjaaGreatDoor.Sx
