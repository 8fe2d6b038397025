/-
  The program's query.check: a part of a selector.
-/
import Derived.Test.YtfggodnfliciiaaDoorQry
namespace Go.Proofs.YtfggodnfliciiaaDoor.Sx
open Go Go.RowKit

set_option maxRecDepth 100000 in
set_option maxHeartbeats 2000000 in
theorem qreq_low (B : Nat) (v : Value) (key : ByteArray) (kind : Int) (vals : List ByteArray) (w : World) (hB : B ≤ w.heap.size) (hk : key.size ≤ 1048576) (hv : StrsR B w v vals) (hm : MaxC w) (hkd : kind < 1) :
    Calls Tryd.prog 20 #[.agg #[.string key, .int .i64 kind, v]] w (QPost w (reqI ⟨key, kind, vals⟩)) := by
  have HV := Lib.hid hv
  have HM := Lib.hid hm
  have hn := hv.1
  obtain ⟨_, A, c, rfl, _⟩ := hv
  clear hm
  obtain ⟨R, hR⟩ : ∃ R, R = Req.mk key kind vals := ⟨_, rfl⟩
  rw [← hR]
  have EK : Hid (keyI key ≠ 0 → reqI R = keyI key) := fun h => by rw [hR]; exact reqI_key h
  have hk1 : (kind == 1) = false := beq_eq_false_iff_ne.2 (by omega)
  have hk2 : (kind == 2) = false := beq_eq_false_iff_ne.2 (by omega)
  have EB : Hid (keyI key = 0 → reqI R = 1) := fun h => by rw [hR]; exact reqI_bad h (.inl hkd)
  clear hR
  go_enter Tryd.func20, Tryd.ntmps20
  go_wp2_with fail
  obtain ⟨w0, hw0⟩ : ∃ w0, w0 = w.alloc (.cells #[.string key, .int .i64 kind, .slice A vals.length c] 29) := ⟨_, rfl⟩
  have hx0 : Ext w w0 := by rw [hw0]; exact (Below.refl _ _).alloc (Nat.le_refl _) _
  have hg0 : w0.heap[w.heap.size]? = some (.cells #[.string key, .int .i64 kind, .slice A vals.length c] 29 (0, 0)) := by rw [hw0]; exact heap_new rfl
  rw [← hw0]
  have HX0 := Lib.hid hx0
  have HG0 := Lib.hid hg0
  clear hw0 hx0 hg0
  refine Calls.mono (checkKey_any key _ hk (HM.out.ext HX0.out)) ?_
  rintro e w1 ⟨rfl, hx1⟩
  have HX1 := Lib.hid (HX0.out.trans hx1)
  obtain ⟨g0, g1, g2⟩ := cells3' ((hx1.block _ (heap_lt HG0.out)).trans HG0.out)
  have HS1 : Hid (StrsR B w1 (.slice A vals.length c) vals) := HV.out.below (HX1.out.mono hB) (Nat.le_refl _)
  clear hx1
  by_cases h0 : keyI key = 0
  · have hb : (keyI key != 0) = false := by simp [h0]
    have H0 := Lib.hid h0
    clear h0
    go_wp2
    go_ret
    exact ⟨ret_int (EB.out H0.out).symm, HX1.out⟩
  · have hb : (keyI key != 0) = true := by simp [h0]
    have HK := Lib.hid (EK.out h0)
    clear h0
    go_wp2
    go_ret
    exact ⟨ret_int HK.out.symm, HX1.out⟩

set_option maxRecDepth 100000 in
set_option maxHeartbeats 2000000 in
theorem qreq_high (B : Nat) (v : Value) (key : ByteArray) (kind : Int) (vals : List ByteArray) (w : World) (hB : B ≤ w.heap.size) (hk : key.size ≤ 1048576) (hv : StrsR B w v vals) (hm : MaxC w) (hkd : 4 < kind) :
    Calls Tryd.prog 20 #[.agg #[.string key, .int .i64 kind, v]] w (QPost w (reqI ⟨key, kind, vals⟩)) := by
  have HV := Lib.hid hv
  have HM := Lib.hid hm
  have hn := hv.1
  obtain ⟨_, A, c, rfl, _⟩ := hv
  clear hm
  obtain ⟨R, hR⟩ : ∃ R, R = Req.mk key kind vals := ⟨_, rfl⟩
  rw [← hR]
  have EK : Hid (keyI key ≠ 0 → reqI R = keyI key) := fun h => by rw [hR]; exact reqI_key h
  have hk1 : (kind == 1) = false := beq_eq_false_iff_ne.2 (by omega)
  have hk2 : (kind == 2) = false := beq_eq_false_iff_ne.2 (by omega)
  have EB : Hid (keyI key = 0 → reqI R = 1) := fun h => by rw [hR]; exact reqI_bad h (.inr (.inl hkd))
  clear hR
  go_enter Tryd.func20, Tryd.ntmps20
  go_wp2_with fail
  obtain ⟨w0, hw0⟩ : ∃ w0, w0 = w.alloc (.cells #[.string key, .int .i64 kind, .slice A vals.length c] 29) := ⟨_, rfl⟩
  have hx0 : Ext w w0 := by rw [hw0]; exact (Below.refl _ _).alloc (Nat.le_refl _) _
  have hg0 : w0.heap[w.heap.size]? = some (.cells #[.string key, .int .i64 kind, .slice A vals.length c] 29 (0, 0)) := by rw [hw0]; exact heap_new rfl
  rw [← hw0]
  have HX0 := Lib.hid hx0
  have HG0 := Lib.hid hg0
  clear hw0 hx0 hg0
  refine Calls.mono (checkKey_any key _ hk (HM.out.ext HX0.out)) ?_
  rintro e w1 ⟨rfl, hx1⟩
  have HX1 := Lib.hid (HX0.out.trans hx1)
  obtain ⟨g0, g1, g2⟩ := cells3' ((hx1.block _ (heap_lt HG0.out)).trans HG0.out)
  have HS1 : Hid (StrsR B w1 (.slice A vals.length c) vals) := HV.out.below (HX1.out.mono hB) (Nat.le_refl _)
  clear hx1
  by_cases h0 : keyI key = 0
  · have hb : (keyI key != 0) = false := by simp [h0]
    have H0 := Lib.hid h0
    clear h0
    go_wp2
    go_ret
    exact ⟨ret_int (EB.out H0.out).symm, HX1.out⟩
  · have hb : (keyI key != 0) = true := by simp [h0]
    have HK := Lib.hid (EK.out h0)
    clear h0
    go_wp2
    go_ret
    exact ⟨ret_int HK.out.symm, HX1.out⟩

set_option maxRecDepth 100000 in
set_option maxHeartbeats 2000000 in
theorem qreq_k1 (B : Nat) (v : Value) (key : ByteArray) (vals : List ByteArray) (w : World) (hB : B ≤ w.heap.size) (hk : key.size ≤ 1048576) (hv : StrsR B w v vals) (hm : MaxC w) :
    Calls Tryd.prog 20 #[.agg #[.string key, .int .i64 1, v]] w (QPost w (reqI ⟨key, 1, vals⟩)) := by
  have HV := Lib.hid hv
  have HM := Lib.hid hm
  have hn := hv.1
  obtain ⟨_, A, c, rfl, _⟩ := hv
  clear hm
  obtain ⟨R, hR⟩ : ∃ R, R = Req.mk key 1 vals := ⟨_, rfl⟩
  rw [← hR]
  have EK : Hid (keyI key ≠ 0 → reqI R = keyI key) := fun h => by rw [hR]; exact reqI_key h
  have EB : Hid (keyI key = 0 → vals.length = 0 → reqI R = 1) := fun h h2 => by rw [hR]; exact reqI_bad h (.inr (.inr (.inl ⟨by simp, h2⟩)))
  have EN : Hid (¬ (vals.length = 0) → ¬ badKind R) := fun h hb => by
    rw [hR] at hb
    rcases hb with h1 | h1 | h1 | h1
    · exact absurd h1 (by simp)
    · exact absurd h1 (by simp)
    · exact h h1.2
    · exact h1.1 (by simp)
  have EM : Hid (keyI key = 0 → ¬ badKind R → 8 < vals.length → reqI R = 2) := fun h h2 h3 => by rw [hR] at h2 ⊢; exact reqI_many h h2 h3
  have EV : Hid (keyI key = 0 → ¬ badKind R → ¬ 8 < vals.length → reqI R = firstAt (valsAt vals) vals.length) := fun h h2 h3 => by rw [hR] at h2 ⊢; exact reqI_vals h h2 h3
  clear hR
  go_enter Tryd.func20, Tryd.ntmps20
  go_wp2_with fail
  obtain ⟨w0, hw0⟩ : ∃ w0, w0 = w.alloc (.cells #[.string key, .int .i64 1, .slice A vals.length c] 29) := ⟨_, rfl⟩
  have hx0 : Ext w w0 := by rw [hw0]; exact (Below.refl _ _).alloc (Nat.le_refl _) _
  have hg0 : w0.heap[w.heap.size]? = some (.cells #[.string key, .int .i64 1, .slice A vals.length c] 29 (0, 0)) := by rw [hw0]; exact heap_new rfl
  rw [← hw0]
  have HX0 := Lib.hid hx0
  have HG0 := Lib.hid hg0
  clear hw0 hx0 hg0
  refine Calls.mono (checkKey_any key _ hk (HM.out.ext HX0.out)) ?_
  rintro e w1 ⟨rfl, hx1⟩
  have HX1 := Lib.hid (HX0.out.trans hx1)
  obtain ⟨g0, g1, g2⟩ := cells3' ((hx1.block _ (heap_lt HG0.out)).trans HG0.out)
  have HS1 : Hid (StrsR B w1 (.slice A vals.length c) vals) := HV.out.below (HX1.out.mono hB) (Nat.le_refl _)
  clear hx1
  by_cases h0 : keyI key = 0
  · have hb : (keyI key != 0) = false := by simp [h0]
    have H0 := Lib.hid h0
    clear h0
    by_cases hz : vals.length = 0
    · have HZ := Lib.hid (EB.out H0.out hz)
      have hz2 : decide (0 < (vals.length : Int)) = false := decide_eq_false (by omega)
      have hz3 : decide (0 < vals.length) = false := decide_eq_false (by omega)
      clear hz
      go_wp2
      go_ret
      exact ⟨ret_int HZ.out.symm, HX1.out⟩
    · have HN := Lib.hid (EN.out hz)
      have hz2 : decide (0 < (vals.length : Int)) = true := decide_eq_true (by omega)
      have hz3 : decide (0 < vals.length) = true := decide_eq_true (by omega)
      clear hz
      by_cases h8 : 8 < vals.length
      · have HZ := Lib.hid (EM.out H0.out HN.out h8)
        go_wp2
        go_ret
        exact ⟨ret_int HZ.out.symm, HX1.out⟩
      · have HZ := Lib.hid (EV.out H0.out HN.out h8)
        go_wp2
        go_loopw [6, 7, 47] (fun _ _ k wr => ∃ j : Nat, j ≤ vals.length ∧ k = .int .i64 (j : Int) ∧ Hid (zeroTil (valsAt vals) j) ∧ wr = w1) (fun _ _ k _ => vals.length - (intOf k).toNat)
        case atStart => exact ⟨0, Nat.zero_le _, rfl, zeroTil.zero _, rfl⟩
        case round =>
          obtain ⟨j, hj, rfl, hN, rfl⟩ := hrel
          by_cases hlt : j < vals.length
          · obtain ⟨b, off, c', hv, _, hc⟩ := StrsR.cells HS1.out (by omega)
            injection hv with h1 h2 h3
            subst h1 h3
            obtain ⟨hcj, hsj⟩ := hc j hlt
            have HST : Hid (∀ e, valI vals[j] = e → e ≠ 0 → firstAt (valsAt vals) vals.length = e) := fun e he h0 => firstAt_stop hN.out hlt (by rw [valsAt_eq hlt, he]) h0
            have HSU : Hid (valI vals[j] = 0 → zeroTil (valsAt vals) (j + 1)) := fun h => hN.out.succ (by rw [valsAt_eq hlt, h])
            obtain ⟨x, hx⟩ : ∃ x, x = vals[j] := ⟨_, rfl⟩
            rw [← hx] at hcj hsj HST HSU
            clear hx hc h2
            by_cases hv0 : valI x = 0
            · have hb2 : (valI x != 0) = false := by simp [hv0]
              have HSU2 := Lib.hid (HSU.out hv0)
              clear hv0
              go_wp2_with (go_at_call 31; refine (checkVal_any _ _ (by unfold maxLen; omega)).mono ?_; rintro e w' ⟨rfl, rfl⟩)
              go_roundw
              case rel => exact ⟨j + 1, hlt, by go_num, HSU2, (by first | rfl | trivial)⟩
              case measure => simp [intOf]; omega
            · have hb2 : (valI x != 0) = true := by simp [hv0]
              have HST2 := Lib.hid (HST.out _ rfl hv0)
              clear hv0
              go_wp2_with (go_at_call 31; refine (checkVal_any _ _ (by unfold maxLen; omega)).mono ?_; rintro e w' ⟨rfl, rfl⟩)
              go_ret
              exact ⟨ret_int (by rw [HZ.out, HST2.out]), HX1.out⟩
          · have HF := Lib.hid (firstAt_zero (f := valsAt vals) (n := vals.length) (fun i hi => hN.out i (by omega)))
            go_wp2
            go_ret
            exact ⟨ret_int (by rw [HZ.out, HF.out]), HX1.out⟩
  · have hb : (keyI key != 0) = true := by simp [h0]
    have HK := Lib.hid (EK.out h0)
    clear h0
    go_wp2
    go_ret
    exact ⟨ret_int HK.out.symm, HX1.out⟩

set_option maxRecDepth 100000 in
set_option maxHeartbeats 2000000 in
theorem qreq_k2 (B : Nat) (v : Value) (key : ByteArray) (vals : List ByteArray) (w : World) (hB : B ≤ w.heap.size) (hk : key.size ≤ 1048576) (hv : StrsR B w v vals) (hm : MaxC w) :
    Calls Tryd.prog 20 #[.agg #[.string key, .int .i64 2, v]] w (QPost w (reqI ⟨key, 2, vals⟩)) := by
  have HV := Lib.hid hv
  have HM := Lib.hid hm
  have hn := hv.1
  obtain ⟨_, A, c, rfl, _⟩ := hv
  clear hm
  obtain ⟨R, hR⟩ : ∃ R, R = Req.mk key 2 vals := ⟨_, rfl⟩
  rw [← hR]
  have EK : Hid (keyI key ≠ 0 → reqI R = keyI key) := fun h => by rw [hR]; exact reqI_key h
  have EB : Hid (keyI key = 0 → vals.length = 0 → reqI R = 1) := fun h h2 => by rw [hR]; exact reqI_bad h (.inr (.inr (.inl ⟨by simp, h2⟩)))
  have EN : Hid (¬ (vals.length = 0) → ¬ badKind R) := fun h hb => by
    rw [hR] at hb
    rcases hb with h1 | h1 | h1 | h1
    · exact absurd h1 (by simp)
    · exact absurd h1 (by simp)
    · exact h h1.2
    · exact h1.1 (by simp)
  have EM : Hid (keyI key = 0 → ¬ badKind R → 8 < vals.length → reqI R = 2) := fun h h2 h3 => by rw [hR] at h2 ⊢; exact reqI_many h h2 h3
  have EV : Hid (keyI key = 0 → ¬ badKind R → ¬ 8 < vals.length → reqI R = firstAt (valsAt vals) vals.length) := fun h h2 h3 => by rw [hR] at h2 ⊢; exact reqI_vals h h2 h3
  clear hR
  go_enter Tryd.func20, Tryd.ntmps20
  go_wp2_with fail
  obtain ⟨w0, hw0⟩ : ∃ w0, w0 = w.alloc (.cells #[.string key, .int .i64 2, .slice A vals.length c] 29) := ⟨_, rfl⟩
  have hx0 : Ext w w0 := by rw [hw0]; exact (Below.refl _ _).alloc (Nat.le_refl _) _
  have hg0 : w0.heap[w.heap.size]? = some (.cells #[.string key, .int .i64 2, .slice A vals.length c] 29 (0, 0)) := by rw [hw0]; exact heap_new rfl
  rw [← hw0]
  have HX0 := Lib.hid hx0
  have HG0 := Lib.hid hg0
  clear hw0 hx0 hg0
  refine Calls.mono (checkKey_any key _ hk (HM.out.ext HX0.out)) ?_
  rintro e w1 ⟨rfl, hx1⟩
  have HX1 := Lib.hid (HX0.out.trans hx1)
  obtain ⟨g0, g1, g2⟩ := cells3' ((hx1.block _ (heap_lt HG0.out)).trans HG0.out)
  have HS1 : Hid (StrsR B w1 (.slice A vals.length c) vals) := HV.out.below (HX1.out.mono hB) (Nat.le_refl _)
  clear hx1
  by_cases h0 : keyI key = 0
  · have hb : (keyI key != 0) = false := by simp [h0]
    have H0 := Lib.hid h0
    clear h0
    by_cases hz : vals.length = 0
    · have HZ := Lib.hid (EB.out H0.out hz)
      have hz2 : decide (0 < (vals.length : Int)) = false := decide_eq_false (by omega)
      have hz3 : decide (0 < vals.length) = false := decide_eq_false (by omega)
      clear hz
      go_wp2
      go_ret
      exact ⟨ret_int HZ.out.symm, HX1.out⟩
    · have HN := Lib.hid (EN.out hz)
      have hz2 : decide (0 < (vals.length : Int)) = true := decide_eq_true (by omega)
      have hz3 : decide (0 < vals.length) = true := decide_eq_true (by omega)
      clear hz
      by_cases h8 : 8 < vals.length
      · have HZ := Lib.hid (EM.out H0.out HN.out h8)
        go_wp2
        go_ret
        exact ⟨ret_int HZ.out.symm, HX1.out⟩
      · have HZ := Lib.hid (EV.out H0.out HN.out h8)
        go_wp2
        go_loopw [6, 7, 47] (fun _ _ k wr => ∃ j : Nat, j ≤ vals.length ∧ k = .int .i64 (j : Int) ∧ Hid (zeroTil (valsAt vals) j) ∧ wr = w1) (fun _ _ k _ => vals.length - (intOf k).toNat)
        case atStart => exact ⟨0, Nat.zero_le _, rfl, zeroTil.zero _, rfl⟩
        case round =>
          obtain ⟨j, hj, rfl, hN, rfl⟩ := hrel
          by_cases hlt : j < vals.length
          · obtain ⟨b, off, c', hv, _, hc⟩ := StrsR.cells HS1.out (by omega)
            injection hv with h1 h2 h3
            subst h1 h3
            obtain ⟨hcj, hsj⟩ := hc j hlt
            have HST : Hid (∀ e, valI vals[j] = e → e ≠ 0 → firstAt (valsAt vals) vals.length = e) := fun e he h0 => firstAt_stop hN.out hlt (by rw [valsAt_eq hlt, he]) h0
            have HSU : Hid (valI vals[j] = 0 → zeroTil (valsAt vals) (j + 1)) := fun h => hN.out.succ (by rw [valsAt_eq hlt, h])
            obtain ⟨x, hx⟩ : ∃ x, x = vals[j] := ⟨_, rfl⟩
            rw [← hx] at hcj hsj HST HSU
            clear hx hc h2
            by_cases hv0 : valI x = 0
            · have hb2 : (valI x != 0) = false := by simp [hv0]
              have HSU2 := Lib.hid (HSU.out hv0)
              clear hv0
              go_wp2_with (go_at_call 31; refine (checkVal_any _ _ (by unfold maxLen; omega)).mono ?_; rintro e w' ⟨rfl, rfl⟩)
              go_roundw
              case rel => exact ⟨j + 1, hlt, by go_num, HSU2, (by first | rfl | trivial)⟩
              case measure => simp [intOf]; omega
            · have hb2 : (valI x != 0) = true := by simp [hv0]
              have HST2 := Lib.hid (HST.out _ rfl hv0)
              clear hv0
              go_wp2_with (go_at_call 31; refine (checkVal_any _ _ (by unfold maxLen; omega)).mono ?_; rintro e w' ⟨rfl, rfl⟩)
              go_ret
              exact ⟨ret_int (by rw [HZ.out, HST2.out]), HX1.out⟩
          · have HF := Lib.hid (firstAt_zero (f := valsAt vals) (n := vals.length) (fun i hi => hN.out i (by omega)))
            go_wp2
            go_ret
            exact ⟨ret_int (by rw [HZ.out, HF.out]), HX1.out⟩
  · have hb : (keyI key != 0) = true := by simp [h0]
    have HK := Lib.hid (EK.out h0)
    clear h0
    go_wp2
    go_ret
    exact ⟨ret_int HK.out.symm, HX1.out⟩

set_option maxRecDepth 100000 in
set_option maxHeartbeats 2000000 in
theorem qreq_k3 (B : Nat) (v : Value) (key : ByteArray) (vals : List ByteArray) (w : World) (hB : B ≤ w.heap.size) (hk : key.size ≤ 1048576) (hv : StrsR B w v vals) (hm : MaxC w) :
    Calls Tryd.prog 20 #[.agg #[.string key, .int .i64 3, v]] w (QPost w (reqI ⟨key, 3, vals⟩)) := by
  have HV := Lib.hid hv
  have HM := Lib.hid hm
  have hn := hv.1
  obtain ⟨_, A, c, rfl, _⟩ := hv
  clear hm
  obtain ⟨R, hR⟩ : ∃ R, R = Req.mk key 3 vals := ⟨_, rfl⟩
  rw [← hR]
  have EK : Hid (keyI key ≠ 0 → reqI R = keyI key) := fun h => by rw [hR]; exact reqI_key h
  have EB : Hid (keyI key = 0 → vals.length ≠ 0 → reqI R = 1) := fun h h2 => by rw [hR]; exact reqI_bad h (.inr (.inr (.inr ⟨by simp, h2⟩)))
  have EN : Hid (¬ (vals.length ≠ 0) → ¬ badKind R) := fun h hb => by
    rw [hR] at hb
    rcases hb with h1 | h1 | h1 | h1
    · exact absurd h1 (by simp)
    · exact absurd h1 (by simp)
    · exact absurd h1.1 (by simp)
    · exact h h1.2
  have EM : Hid (keyI key = 0 → ¬ badKind R → 8 < vals.length → reqI R = 2) := fun h h2 h3 => by rw [hR] at h2 ⊢; exact reqI_many h h2 h3
  have EV : Hid (keyI key = 0 → ¬ badKind R → ¬ 8 < vals.length → reqI R = firstAt (valsAt vals) vals.length) := fun h h2 h3 => by rw [hR] at h2 ⊢; exact reqI_vals h h2 h3
  clear hR
  go_enter Tryd.func20, Tryd.ntmps20
  go_wp2_with fail
  obtain ⟨w0, hw0⟩ : ∃ w0, w0 = w.alloc (.cells #[.string key, .int .i64 3, .slice A vals.length c] 29) := ⟨_, rfl⟩
  have hx0 : Ext w w0 := by rw [hw0]; exact (Below.refl _ _).alloc (Nat.le_refl _) _
  have hg0 : w0.heap[w.heap.size]? = some (.cells #[.string key, .int .i64 3, .slice A vals.length c] 29 (0, 0)) := by rw [hw0]; exact heap_new rfl
  rw [← hw0]
  have HX0 := Lib.hid hx0
  have HG0 := Lib.hid hg0
  clear hw0 hx0 hg0
  refine Calls.mono (checkKey_any key _ hk (HM.out.ext HX0.out)) ?_
  rintro e w1 ⟨rfl, hx1⟩
  have HX1 := Lib.hid (HX0.out.trans hx1)
  obtain ⟨g0, g1, g2⟩ := cells3' ((hx1.block _ (heap_lt HG0.out)).trans HG0.out)
  have HS1 : Hid (StrsR B w1 (.slice A vals.length c) vals) := HV.out.below (HX1.out.mono hB) (Nat.le_refl _)
  clear hx1
  by_cases h0 : keyI key = 0
  · have hb : (keyI key != 0) = false := by simp [h0]
    have H0 := Lib.hid h0
    clear h0
    by_cases hz : vals.length ≠ 0
    · have HZ := Lib.hid (EB.out H0.out hz)
      have hz2 : decide (0 < (vals.length : Int)) = true := decide_eq_true (by omega)
      have hz3 : decide (0 < vals.length) = true := decide_eq_true (by omega)
      clear hz
      go_wp2
      go_ret
      exact ⟨ret_int HZ.out.symm, HX1.out⟩
    · have HN := Lib.hid (EN.out hz)
      have hz2 : decide (0 < (vals.length : Int)) = false := decide_eq_false (by omega)
      have hz3 : decide (0 < vals.length) = false := decide_eq_false (by omega)
      clear hz
      by_cases h8 : 8 < vals.length
      · have HZ := Lib.hid (EM.out H0.out HN.out h8)
        go_wp2
        go_ret
        exact ⟨ret_int HZ.out.symm, HX1.out⟩
      · have HZ := Lib.hid (EV.out H0.out HN.out h8)
        go_wp2
        go_loopw [6, 7, 47] (fun _ _ k wr => ∃ j : Nat, j ≤ vals.length ∧ k = .int .i64 (j : Int) ∧ Hid (zeroTil (valsAt vals) j) ∧ wr = w1) (fun _ _ k _ => vals.length - (intOf k).toNat)
        case atStart => exact ⟨0, Nat.zero_le _, rfl, zeroTil.zero _, rfl⟩
        case round =>
          obtain ⟨j, hj, rfl, hN, rfl⟩ := hrel
          by_cases hlt : j < vals.length
          · obtain ⟨b, off, c', hv, _, hc⟩ := StrsR.cells HS1.out (by omega)
            injection hv with h1 h2 h3
            subst h1 h3
            obtain ⟨hcj, hsj⟩ := hc j hlt
            have HST : Hid (∀ e, valI vals[j] = e → e ≠ 0 → firstAt (valsAt vals) vals.length = e) := fun e he h0 => firstAt_stop hN.out hlt (by rw [valsAt_eq hlt, he]) h0
            have HSU : Hid (valI vals[j] = 0 → zeroTil (valsAt vals) (j + 1)) := fun h => hN.out.succ (by rw [valsAt_eq hlt, h])
            obtain ⟨x, hx⟩ : ∃ x, x = vals[j] := ⟨_, rfl⟩
            rw [← hx] at hcj hsj HST HSU
            clear hx hc h2
            by_cases hv0 : valI x = 0
            · have hb2 : (valI x != 0) = false := by simp [hv0]
              have HSU2 := Lib.hid (HSU.out hv0)
              clear hv0
              go_wp2_with (go_at_call 31; refine (checkVal_any _ _ (by unfold maxLen; omega)).mono ?_; rintro e w' ⟨rfl, rfl⟩)
              go_roundw
              case rel => exact ⟨j + 1, hlt, by go_num, HSU2, (by first | rfl | trivial)⟩
              case measure => simp [intOf]; omega
            · have hb2 : (valI x != 0) = true := by simp [hv0]
              have HST2 := Lib.hid (HST.out _ rfl hv0)
              clear hv0
              go_wp2_with (go_at_call 31; refine (checkVal_any _ _ (by unfold maxLen; omega)).mono ?_; rintro e w' ⟨rfl, rfl⟩)
              go_ret
              exact ⟨ret_int (by rw [HZ.out, HST2.out]), HX1.out⟩
          · have HF := Lib.hid (firstAt_zero (f := valsAt vals) (n := vals.length) (fun i hi => hN.out i (by omega)))
            go_wp2
            go_ret
            exact ⟨ret_int (by rw [HZ.out, HF.out]), HX1.out⟩
  · have hb : (keyI key != 0) = true := by simp [h0]
    have HK := Lib.hid (EK.out h0)
    clear h0
    go_wp2
    go_ret
    exact ⟨ret_int HK.out.symm, HX1.out⟩

set_option maxRecDepth 100000 in
set_option maxHeartbeats 2000000 in
theorem qreq_k4 (B : Nat) (v : Value) (key : ByteArray) (vals : List ByteArray) (w : World) (hB : B ≤ w.heap.size) (hk : key.size ≤ 1048576) (hv : StrsR B w v vals) (hm : MaxC w) :
    Calls Tryd.prog 20 #[.agg #[.string key, .int .i64 4, v]] w (QPost w (reqI ⟨key, 4, vals⟩)) := by
  have HV := Lib.hid hv
  have HM := Lib.hid hm
  have hn := hv.1
  obtain ⟨_, A, c, rfl, _⟩ := hv
  clear hm
  obtain ⟨R, hR⟩ : ∃ R, R = Req.mk key 4 vals := ⟨_, rfl⟩
  rw [← hR]
  have EK : Hid (keyI key ≠ 0 → reqI R = keyI key) := fun h => by rw [hR]; exact reqI_key h
  have EB : Hid (keyI key = 0 → vals.length ≠ 0 → reqI R = 1) := fun h h2 => by rw [hR]; exact reqI_bad h (.inr (.inr (.inr ⟨by simp, h2⟩)))
  have EN : Hid (¬ (vals.length ≠ 0) → ¬ badKind R) := fun h hb => by
    rw [hR] at hb
    rcases hb with h1 | h1 | h1 | h1
    · exact absurd h1 (by simp)
    · exact absurd h1 (by simp)
    · exact absurd h1.1 (by simp)
    · exact h h1.2
  have EM : Hid (keyI key = 0 → ¬ badKind R → 8 < vals.length → reqI R = 2) := fun h h2 h3 => by rw [hR] at h2 ⊢; exact reqI_many h h2 h3
  have EV : Hid (keyI key = 0 → ¬ badKind R → ¬ 8 < vals.length → reqI R = firstAt (valsAt vals) vals.length) := fun h h2 h3 => by rw [hR] at h2 ⊢; exact reqI_vals h h2 h3
  clear hR
  go_enter Tryd.func20, Tryd.ntmps20
  go_wp2_with fail
  obtain ⟨w0, hw0⟩ : ∃ w0, w0 = w.alloc (.cells #[.string key, .int .i64 4, .slice A vals.length c] 29) := ⟨_, rfl⟩
  have hx0 : Ext w w0 := by rw [hw0]; exact (Below.refl _ _).alloc (Nat.le_refl _) _
  have hg0 : w0.heap[w.heap.size]? = some (.cells #[.string key, .int .i64 4, .slice A vals.length c] 29 (0, 0)) := by rw [hw0]; exact heap_new rfl
  rw [← hw0]
  have HX0 := Lib.hid hx0
  have HG0 := Lib.hid hg0
  clear hw0 hx0 hg0
  refine Calls.mono (checkKey_any key _ hk (HM.out.ext HX0.out)) ?_
  rintro e w1 ⟨rfl, hx1⟩
  have HX1 := Lib.hid (HX0.out.trans hx1)
  obtain ⟨g0, g1, g2⟩ := cells3' ((hx1.block _ (heap_lt HG0.out)).trans HG0.out)
  have HS1 : Hid (StrsR B w1 (.slice A vals.length c) vals) := HV.out.below (HX1.out.mono hB) (Nat.le_refl _)
  clear hx1
  by_cases h0 : keyI key = 0
  · have hb : (keyI key != 0) = false := by simp [h0]
    have H0 := Lib.hid h0
    clear h0
    by_cases hz : vals.length ≠ 0
    · have HZ := Lib.hid (EB.out H0.out hz)
      have hz2 : decide (0 < (vals.length : Int)) = true := decide_eq_true (by omega)
      have hz3 : decide (0 < vals.length) = true := decide_eq_true (by omega)
      clear hz
      go_wp2
      go_ret
      exact ⟨ret_int HZ.out.symm, HX1.out⟩
    · have HN := Lib.hid (EN.out hz)
      have hz2 : decide (0 < (vals.length : Int)) = false := decide_eq_false (by omega)
      have hz3 : decide (0 < vals.length) = false := decide_eq_false (by omega)
      clear hz
      by_cases h8 : 8 < vals.length
      · have HZ := Lib.hid (EM.out H0.out HN.out h8)
        go_wp2
        go_ret
        exact ⟨ret_int HZ.out.symm, HX1.out⟩
      · have HZ := Lib.hid (EV.out H0.out HN.out h8)
        go_wp2
        go_loopw [6, 7, 47] (fun _ _ k wr => ∃ j : Nat, j ≤ vals.length ∧ k = .int .i64 (j : Int) ∧ Hid (zeroTil (valsAt vals) j) ∧ wr = w1) (fun _ _ k _ => vals.length - (intOf k).toNat)
        case atStart => exact ⟨0, Nat.zero_le _, rfl, zeroTil.zero _, rfl⟩
        case round =>
          obtain ⟨j, hj, rfl, hN, rfl⟩ := hrel
          by_cases hlt : j < vals.length
          · obtain ⟨b, off, c', hv, _, hc⟩ := StrsR.cells HS1.out (by omega)
            injection hv with h1 h2 h3
            subst h1 h3
            obtain ⟨hcj, hsj⟩ := hc j hlt
            have HST : Hid (∀ e, valI vals[j] = e → e ≠ 0 → firstAt (valsAt vals) vals.length = e) := fun e he h0 => firstAt_stop hN.out hlt (by rw [valsAt_eq hlt, he]) h0
            have HSU : Hid (valI vals[j] = 0 → zeroTil (valsAt vals) (j + 1)) := fun h => hN.out.succ (by rw [valsAt_eq hlt, h])
            obtain ⟨x, hx⟩ : ∃ x, x = vals[j] := ⟨_, rfl⟩
            rw [← hx] at hcj hsj HST HSU
            clear hx hc h2
            by_cases hv0 : valI x = 0
            · have hb2 : (valI x != 0) = false := by simp [hv0]
              have HSU2 := Lib.hid (HSU.out hv0)
              clear hv0
              go_wp2_with (go_at_call 31; refine (checkVal_any _ _ (by unfold maxLen; omega)).mono ?_; rintro e w' ⟨rfl, rfl⟩)
              go_roundw
              case rel => exact ⟨j + 1, hlt, by go_num, HSU2, (by first | rfl | trivial)⟩
              case measure => simp [intOf]; omega
            · have hb2 : (valI x != 0) = true := by simp [hv0]
              have HST2 := Lib.hid (HST.out _ rfl hv0)
              clear hv0
              go_wp2_with (go_at_call 31; refine (checkVal_any _ _ (by unfold maxLen; omega)).mono ?_; rintro e w' ⟨rfl, rfl⟩)
              go_ret
              exact ⟨ret_int (by rw [HZ.out, HST2.out]), HX1.out⟩
          · have HF := Lib.hid (firstAt_zero (f := valsAt vals) (n := vals.length) (fun i hi => hN.out i (by omega)))
            go_wp2
            go_ret
            exact ⟨ret_int (by rw [HZ.out, HF.out]), HX1.out⟩
  · have hb : (keyI key != 0) = true := by simp [h0]
    have HK := Lib.hid (EK.out h0)
    clear h0
    go_wp2
    go_ret
    exact ⟨ret_int HK.out.symm, HX1.out⟩

theorem qreq_any (B : Nat) (v : Value) (r : Req) (w : World) (hB : B ≤ w.heap.size) (hk : r.key.size ≤ 1048576) (hv : StrsR B w v r.vals) (hm : MaxC w) :
    Calls Tryd.prog 20 #[.agg #[.string r.key, .int .i64 r.kind, v]] w (QPost w (reqI r)) := by
  obtain ⟨key, kind, vals⟩ := r
  have ways : kind < 1 ∨ 4 < kind ∨ kind = 1 ∨ kind = 2 ∨ kind = 3 ∨ kind = 4 := by omega
  rcases ways with h | h | rfl | rfl | rfl | rfl
  · exact qreq_low B v key kind vals w hB hk hv hm h
  · exact qreq_high B v key kind vals w hB hk hv hm h
  · exact qreq_k1 B v key vals w hB hk hv hm
  · exact qreq_k2 B v key vals w hB hk hv hm
  · exact qreq_k3 B v key vals w hB hk hv hm
  · exact qreq_k4 B v key vals w hB hk hv hm
end Go.Proofs.YtfggodnfliciiaaDoor.Sx
