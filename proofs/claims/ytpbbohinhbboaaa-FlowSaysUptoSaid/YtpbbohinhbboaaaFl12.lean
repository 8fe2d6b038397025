/-
  Flow: the reference's FlowNew.
-/
import Derived.Test.YtpbbohinhbboaaaFl11
namespace Go.Proofs.Ytpbbohinhbboaaa.Fw
open Go Go.RowKit Go.Proofs.Ytpbbohinhbboaaa.Sx

theorem badW_out (x : Int) : outB x 1 10 = badW x := rfl
/-- What Copy of numbers leaves. -/
theorem icopy_any (b off c : Nat) (zs : List Int) (w : World) (h0 : 0 < zs.length) (h8 : zs.length ≤ 8) (hc : ∀ j, j < zs.length → w.cell? ⟨b, off + j, none⟩ = some (.int .i64 (zs.getD j 0))) :
    Calls Try.prog 60 #[.slice (some ⟨b, off, none⟩) zs.length c] w fun e w' => ∃ g c', e = .returned (.slice (some ⟨g, 0, none⟩) zs.length c') ∧ w.heap.size ≤ g ∧ (∃ rest, w'.heap[g]? = some (.cells (ints zs ++ rest).toArray iT (0, 0))) ∧ Ext w w' := by
  obtain ⟨i0, hi, hz0, hz1, hz2⟩ := info_parts int_infoF
  have HC := Lib.hid hc
  have H0 := Lib.hid h0
  clear hc h0
  go_enter Try.func60, Try.ntmps60
  go_wp2_with (at_builtin; refine wpList_append_own w rfl _ _ 24 (by rfl) w.heap.size iT i0 _ 1 8 Try.underlying24 hi hz0 hz1 hz2 rfl (by omega) (.slice none 0 0) 0 [] (by rfl) (World.ownsRow_nil _ _ _ _) ⟨b, off, none⟩ zs.length c (ints zs) (by rfl) (by rw [ints_len]; omega) ?_ ?_ ?_ ?_ (Nat.le_refl _) ?_)
  · intro j u hj
    have hjl : j < zs.length := by have := (List.getElem?_eq_some_iff.1 hj).1; rw [ints_len] at this; exact this
    have := HC.out j hjl
    have e : (⟨b, off, none⟩ : Addr).add j = ⟨b, off + j, none⟩ := by
      unfold Addr.add
      split
      · rename_i h0; rw [show off + j = off by omega]
      · rfl
    rw [e, this]
    simp only [ints, List.getElem?_map] at hj
    rw [List.getElem?_eq_getElem hjl] at hj
    rw [List.getD_eq_getElem?_getD, List.getElem?_eq_getElem hjl]
    simpa using hj
  · intro u hu
    obtain ⟨z, _, rfl⟩ := List.mem_map.1 hu
    rfl
  · unfold maxLen; omega
  · omega
  · intro v' w1 hown hgrow _
    go_wp2
    go_ret
    have hr : IRow w.heap.size w1 v' zs := IRow.of_owns (n := zs.length) rfl (by simpa using hown)
    rcases hr with ⟨_, e0⟩ | ⟨g, rest, e1, e2, e3, e4⟩
    · have := H0.out; rw [e0] at this; simp at this
    · subst e1
      exact ⟨g, _, rfl, e2, ⟨rest, e3⟩, ⟨hgrow.os, hgrow.tape, hgrow.output, hgrow.size, fun k hk => hgrow.block k hk (by simp [Value.ownBlock])⟩⟩
set_option maxRecDepth 100000 in
set_option maxHeartbeats 2000000 in
theorem rnew_big (v : Value) (zs : List Int) (w : World) (h : IntsAt w v zs) (h8 : 8 < zs.length) (hn : zs.length ≤ 1048576) :
    Calls Try.prog 13 #[v] w fun e w' => e = .returned (.tuple #[.pointer none, .int .i64 (newErr zs)]) ∧ w = w' := by
  obtain ⟨A, c, rfl, _⟩ := h
  have HE : Hid (newErr zs = 2) := if_pos h8
  obtain ⟨n, hn'⟩ : ∃ n, n = zs.length := ⟨_, rfl⟩
  rw [← hn'] at hn h8 ⊢
  have t1 : decide (8 < (n : Int)) = true := by simp; omega
  clear hn' h8
  go_enter Try.func13, Try.ntmps13
  go_wp2
  go_ret2
  exact ⟨by rw [HE.out]; rfl, rfl⟩
/-- Is there a bad one among the first ones? -/
def badTo (zs : List Int) (j : Nat) : Bool := decide (zs.length = 0) || (zs.take j).any badW
theorem badTo_succ {zs : List Int} {j : Nat} (h : j < zs.length) : badTo zs (j + 1) = (badTo zs j || badW (zs.getD j 0)) := by
  unfold badTo
  rw [List.take_succ_eq_append_getElem h, List.any_append, List.getD_eq_getElem?_getD, List.getElem?_eq_getElem h]
  simp [Bool.or_assoc]
set_option maxRecDepth 100000 in
set_option maxHeartbeats 4000000 in
theorem rnew_small (v : Value) (zs : List Int) (w : World) (h : IntsAt w v zs) (h8 : zs.length ≤ 8) :
    Calls Try.prog 13 #[v] w fun e w' => (newErr zs ≠ 0 → e = .returned (.tuple #[.pointer none, .int .i64 (newErr zs)]) ∧ w = w') ∧
      (newErr zs = 0 → ∃ g S, e = .returned (.tuple #[.pointer (some ⟨g, 0, none⟩), .int .i64 0]) ∧ FairAt rT qT w' g zs (List.replicate zs.length 0) 0 [] S ∧ (∀ k, S k → w.heap.size ≤ k) ∧ Ext w w') := by
  have HI := Lib.hid h
  obtain ⟨A, c, rfl, _⟩ := h
  obtain ⟨n, hn⟩ : ∃ n, n = zs.length := ⟨_, rfl⟩
  rw [← hn]
  have HN := Lib.hid hn
  have hn8 : (n : Int) ≤ 8 := by omega
  have t1 : decide (8 < (n : Int)) = false := by simp; omega
  obtain ⟨b0, hb0⟩ : ∃ b, b = ((n : Int) == 0) := ⟨_, rfl⟩
  have HB0 : Hid (b0 = badTo zs 0) := by
    unfold Hid badTo
    rw [hb0, ← hn]
    by_cases h0 : n = 0
    · simp [h0]
    · simp [h0]
  have hb0' := hb0.symm
  clear hn hb0
  go_enter Try.func13, Try.ntmps13
  go_wp2_with fail
  go_loopw [4, 15] (fun x y wr => ∃ (b : Bool) (k : Nat), x = .bool b ∧ y = .int .i64 (k : Int) ∧ k ≤ n ∧ Hid (b = badTo zs k) ∧ w = wr) (fun _ y _ => n - (intOf y).toNat)
  case atStart => exact ⟨b0, 0, rfl, rfl, Nat.zero_le _, HB0, rfl⟩
  case round =>
    obtain ⟨b, k, rfl, rfl, hk, hB, rfl⟩ := hrel
    by_cases hlt : k < n
    · have hkz : k < zs.length := by rw [← HN.out]; exact hlt
      obtain ⟨A', c', e, h2⟩ := HI.out
      injection e with e1 e2 e3
      subst e1
      obtain ⟨bb, off, rfl, hbb, hc⟩ := h2 (by omega)
      have hcell := hc k hkz
      obtain ⟨x, hx⟩ : ∃ x, x = zs.getD k 0 := ⟨_, rfl⟩
      rw [← hx] at hcell
      have HS : Hid (badTo zs (k + 1) = (b || badW x)) := by unfold Hid; rw [badTo_succ hkz, hB.out, hx]
      clear hx h2 hc e2 e3
      cases b with
      | true =>
        go_wp2_with fail
        go_roundw
        case rel => exact ⟨true, k + 1, rfl, by go_num, by omega, by show true = _; rw [HS.out]; rfl, (by first | rfl | trivial)⟩
        case measure => simp [intOf]; omega
      | false =>
        go_wp2_with (go_at_call 59; (with_reducible refine (outside_any x 1 10 _).mono ?_); rintro e w' ⟨rfl, rfl⟩)
        go_roundw
        case rel => exact ⟨outB x 1 10, k + 1, rfl, by go_num, by omega, by show outB x 1 10 = _; rw [HS.out]; rfl, (by first | rfl | trivial)⟩
        case measure => simp [intOf]; omega
    · have hkn : k = n := by omega
      cases b with
      | true =>
        have HE : Hid (newErr zs = 1) := by
          refine (if_neg (by have := HN.out; omega)).trans (if_pos ?_)
          have h1 := hB.out
          unfold badTo at h1
          rw [List.take_of_length_le (by have := HN.out; omega)] at h1
          rcases Nat.eq_zero_or_pos zs.length with h2 | h2
          · exact .inl h2
          · refine .inr ?_
            have h3 : decide (zs.length = 0) = false := by simp; exact List.ne_nil_of_length_pos h2
            rw [h3] at h1
            simpa using h1.symm
        clear hkn
        go_wp2_with fail
        go_ret2
        refine ⟨fun _ => ⟨by rw [HE.out]; rfl, rfl⟩, fun h => ?_⟩
        rw [HE.out] at h
        cases h
      | false =>
        have HB1 : Hid (0 < zs.length ∧ zs.any badW = false) := by
          have h1 := hB.out
          unfold badTo at h1
          rw [List.take_of_length_le (by have := HN.out; omega)] at h1
          have h2 := Bool.or_eq_false_iff.1 h1.symm
          refine ⟨?_, h2.2⟩
          have h3 := of_decide_eq_false h2.1
          omega
        have HE : Hid (newErr zs = 0) := (if_neg (by have := HN.out; omega)).trans (if_neg (fun h => by
          rcases h with h | h
          · have := HB1.out.1; omega
          · rw [HB1.out.2] at h; cases h))
        obtain ⟨A', c', e, h2⟩ := HI.out
        injection e with e1 e2 e3
        subst e1 e3
        obtain ⟨bb, off, rfl, hbb, hc⟩ := h2 HB1.out.1
        have HCL : Hid (∀ wk, Ext w wk → Calls Try.prog 60 #[.slice (some ⟨bb, off, none⟩) n c] wk fun e w' => ∃ g c', e = .returned (.slice (some ⟨g, 0, none⟩) n c') ∧ wk.heap.size ≤ g ∧ (∃ rest, w'.heap[g]? = some (.cells (ints zs ++ rest).toArray iT (0, 0))) ∧ Ext wk w') := fun wk hw => by
          rw [HN.out]
          exact icopy_any bb off c zs wk HB1.out.1 (by have := HN.out; omega) (fun j hj => (hw.cell (p := ⟨bb, off + j, none⟩) hbb).trans (hc j hj))
        have hmk := run_mk n (by omega)
        have tkn : decide (k < n) = false := by simp; omega
        clear h2 hc e2 hkn hlt
        go_wp2_with fail
        have hx0 : Ext w w := Below.refl _ _
        have hx1 : ∀ o, Ext w (w.alloc o) := fun o => new_ext w o
        go_region_law (go_simp; go_at_call 60; with_reducible refine (HCL.out _ (by first | assumption | exact hx1 _ | (apply Below.drew; first | assumption | exact hx1 _))).mono ?_; rintro e w2 ⟨gw, cw, rfl, k1, k2, k3⟩; have H2 := Lib.hid (And.intro k1 (And.intro k2 k3)); clear k1 k2 k3)
        · go_wp2_with fail
          go_ret2
          obtain ⟨k1, ⟨rest, k2⟩, k3⟩ := H2.out
          have hl := heap_lt k2
          have hs := k3.size
          refine ⟨fun hne => absurd HE.out hne, fun _ => ?_⟩
          refine ⟨w2.heap.size + 1, _, rfl, fair_made (g := w2.heap.size + 1) (gw := gw) (ge := w2.heap.size) HN.out (heap_new ?_) (rest := rest) ?_ ?_ (by omega) (by omega) (by omega), ?_, ?_⟩
          · simp
          · rw [Below.heap_alloc _ _ _ (by simp; omega), Below.heap_alloc _ _ _ hl]; exact k2
          · rw [Below.heap_alloc _ _ _ (by simp)]; exact heap_new rfl
          · intro k hk
            have hs2 : w.heap.size ≤ w2.heap.size := hs
            have k1' : w.heap.size ≤ gw := k1
            rcases hk with rfl | rfl | rfl | hk
            · omega
            · omega
            · omega
            · simp [Value.ownBlock] at hk
          · have hx2 : Ext w w2 := ⟨k3.os, k3.tape, k3.output, k3.size, k3.block⟩
            exact (hx2.trans (new_ext _ _)).trans (new_ext _ _)
        · go_wp2_with fail
          go_ret2
          obtain ⟨k1, ⟨rest, k2⟩, k3⟩ := H2.out
          have hl := heap_lt k2
          have hs := k3.size
          have k1' : w.heap.size + 1 ≤ gw := by simpa using k1
          have hs2 : w.heap.size + 1 ≤ w2.heap.size := by simpa using hs
          refine ⟨fun hne => absurd HE.out hne, fun _ => ?_⟩
          refine ⟨w2.heap.size, _, rfl, fair_made (g := w2.heap.size) (gw := gw) (ge := w.heap.size) HN.out (heap_new rfl) (rest := rest) ?_ ?_ (by omega) (by omega) (by omega), ?_, ?_⟩
          · rw [Below.heap_alloc _ _ _ hl]; exact k2
          · rw [Below.heap_alloc _ _ _ (by omega), k3.block w.heap.size (by simp)]; exact heap_new rfl
          · intro k hk
            rcases hk with rfl | rfl | rfl | hk
            · omega
            · omega
            · omega
            · simp [Value.ownBlock] at hk
          · have hx2 : Ext (w.alloc (.cells (ints (List.replicate n 0)).toArray iT (0, 0))) w2 := ⟨k3.os, k3.tape, k3.output, k3.size, k3.block⟩
            exact ((new_ext w _).trans hx2).trans (new_ext _ _)
end Go.Proofs.Ytpbbohinhbboaaa.Fw
