/-
  Flow: New of both.
-/
import Derived.Test.YtpbbohinhbboaaaFl10
import Derived.Test.YtpbbohinhbboaaaShelf
import Derived.Laws.MakeOwn
import Derived.Laws.OwnMore
namespace Go.Proofs.Ytpbbohinhbboaaa.Fw
open Go Go.RowKit Go.Proofs.Ytpbbohinhbboaaa.Sx

/-- The slice value v reads as these numbers. -/
def IntsAt (w : World) (v : Value) (zs : List Int) : Prop := ∃ A c, v = .slice A zs.length c ∧ (0 < zs.length → ∃ b off, A = some ⟨b, off, none⟩ ∧ b < w.heap.size ∧ ∀ j, j < zs.length → w.cell? ⟨b, off + j, none⟩ = some (.int .i64 (zs.getD j 0)))
theorem IntsAt.ext {w w' : World} {v : Value} {zs : List Int} (h : IntsAt w v zs) (he : Ext w w') : IntsAt w' v zs := by
  obtain ⟨A, c, rfl, h⟩ := h
  exact ⟨A, c, rfl, fun h0 => by
    obtain ⟨b, off, e, hb, hc⟩ := h h0
    exact ⟨b, off, e, Nat.lt_of_lt_of_le hb he.size, fun j hj => (he.cell (p := ⟨b, off + j, none⟩) hb).trans (hc j hj)⟩⟩
def badW (w : Int) : Bool := decide (w < 1) || decide (10 < w)
theorem badW_any (x : Int) (w : World) : Calls Try.prog 57 #[.int .i64 x] w fun e w' => e = .returned (.bool (badW x)) ∧ w = w' := by
  by_cases h1 : x < 1
  · have HE : Hid (badW x = true) := by unfold Hid badW; simp [h1]
    have t1 : decide (x < 1) = true := by simp [h1]
    clear h1
    go_enter Try.func57, Try.ntmps57
    go_wp2
    go_ret
    exact ⟨by rw [HE.out]; rfl, rfl⟩
  · have HE : Hid (badW x = decide (10 < x)) := by unfold Hid badW; simp [h1]
    have t1 : decide (x < 1) = false := by simp; omega
    clear h1
    go_enter Try.func57, Try.ntmps57
    go_wp2
    go_ret
    exact ⟨by rw [HE.out]; rfl, rfl⟩
set_option maxRecDepth 100000 in
set_option maxHeartbeats 1000000 in
theorem badIdx (v : Value) (zs : List Int) (w : World) (h : IntsAt w v zs) (hn : zs.length ≤ 1048576) :
    Calls Try.prog 115 #[v, .func (.func 57) #[] #[]] w fun e w' => ∃ n : Int, e = .returned (.int .i64 n) ∧ decide (0 ≤ n) = zs.any badW ∧ n < 1048577 ∧ -1 ≤ n ∧ w = w' := by
  have H := Lib.hid h
  obtain ⟨A, c, rfl, _⟩ := h
  obtain ⟨n, hn'⟩ : ∃ n, n = zs.length := ⟨_, rfl⟩
  rw [← hn'] at hn ⊢
  have HN := Lib.hid hn'
  clear hn'
  go_enter Try.func115, Try.ntmps115
  go_wp2
  go_loopw [5, 8] (fun i k wr => ∃ j : Nat, j ≤ n ∧ k = .int .i64 j ∧ Hid ((zs.take j).any badW = false) ∧ w = wr) (fun _ k _ => n - (intOf k).toNat)
  case atStart => exact ⟨0, Nat.zero_le _, rfl, rfl, rfl⟩
  case round =>
    obtain ⟨j, hj, rfl, hN, rfl⟩ := hrel
    by_cases hlt : j < n
    · have hjz : j < zs.length := by rw [← HN.out]; exact hlt
      obtain ⟨A', c', e, h2⟩ := H.out
      injection e with e1 e2 e3
      subst e1
      obtain ⟨b, off, rfl, hb, hc⟩ := h2 (by omega)
      have hcell := hc j hjz
      obtain ⟨x, hx⟩ : ∃ x, x = zs.getD j 0 := ⟨_, rfl⟩
      rw [← hx] at hcell
      have htk : zs.take (j + 1) = zs.take j ++ [x] := by
        rw [List.take_succ_eq_append_getElem hjz, hx, List.getD_eq_getElem?_getD, List.getElem?_eq_getElem hjz]
        rfl
      obtain ⟨t, ht⟩ : ∃ t, t = badW x := ⟨_, rfl⟩
      have HT := Lib.hid ht
      have HTK := Lib.hid htk
      have CB : Hid (Calls Try.prog 57 #[.int .i64 x] w fun e w' => e = .returned (.bool t) ∧ w = w') := by rw [ht]; exact badW_any x w
      clear hx htk ht h2 hc e2 e3
      cases t with
      | true =>
        go_wp2_with (go_at_call 57; (with_reducible refine CB.out.mono ?_); rintro e w' ⟨rfl, rfl⟩)
        go_ret
        refine ⟨j, rfl, ?_, by omega, by omega, rfl⟩
        have : zs.any badW = true := by
          rw [List.any_eq_true]
          refine ⟨x, List.mem_of_mem_take (i := j + 1) (by rw [HTK.out]; simp), HT.out.symm⟩
        rw [this]
        simp
      | false =>
        go_wp2_with (go_at_call 57; (with_reducible refine CB.out.mono ?_); rintro e w' ⟨rfl, rfl⟩)
        go_roundw
        case rel => exact ⟨j + 1, hlt, by go_num, by show (zs.take (j + 1)).any badW = false; rw [HTK.out, List.any_append, hN.out]; simp [← HT.out], (by first | rfl | trivial)⟩
        case measure => simp [intOf]; omega
    · have HA : Hid (zs.any badW = false) := by have := hN.out; rw [List.take_of_length_le (by have := HN.out; omega)] at this; exact this
      go_wp2
      go_ret
      exact ⟨-1, rfl, by rw [HA.out]; rfl, by omega, by omega, rfl⟩
set_option maxRecDepth 100000 in
theorem badHas (v : Value) (zs : List Int) (w : World) (h : IntsAt w v zs) (hn : zs.length ≤ 1048576) :
    Calls Try.prog 56 #[v, .func (.func 57) #[] #[]] w fun e w' => e = .returned (.bool (zs.any badW)) ∧ w = w' := by
  have C := Lib.hid (badIdx v zs w h hn)
  obtain ⟨A, c, rfl, _⟩ := h
  go_enter Try.func56, Try.ntmps56
  go_wp2_with (go_at_call 115; (with_reducible refine C.out.mono ?_); rintro e w' ⟨m, rfl, hm, hm1, hm2, rfl⟩; have HM := Lib.hid hm; clear hm)
  go_ret
  exact ⟨ret_bool HM.out, rfl⟩
/-- What New answers where it refuses. -/
def newErr (zs : List Int) : Int := if 8 < zs.length then 2 else if zs.length = 0 ∨ zs.any badW = true then 1 else 0
set_option maxRecDepth 100000 in
set_option maxHeartbeats 2000000 in
theorem new_err (v : Value) (zs : List Int) (w : World) (h : IntsAt w v zs) (hn : zs.length ≤ 1048576) (he : newErr zs ≠ 0) :
    Calls Try.prog 12 #[v] w fun e w' => e = .returned (.tuple #[.pointer none, .int .i64 (newErr zs)]) ∧ w = w' := by
  have C := Lib.hid (badHas v zs w h hn)
  obtain ⟨A, c, rfl, _⟩ := h
  obtain ⟨n, hn'⟩ : ∃ n, n = zs.length := ⟨_, rfl⟩
  rw [← hn'] at C hn ⊢
  by_cases h8 : 8 < n
  · have HE : Hid (newErr zs = 2) := if_pos (by omega)
    have t1 : decide (8 < (n : Int)) = true := by simp; omega
    clear he h8 hn'
    go_enter Try.func12, Try.ntmps12
    go_wp2
    go_ret2
    exact ⟨by rw [HE.out]; rfl, rfl⟩
  · have t1 : decide (8 < (n : Int)) = false := by simp; omega
    by_cases h0 : n = 0
    · have HE : Hid (newErr zs = 1) := (if_neg (by omega)).trans (if_pos (.inl (by omega)))
      subst h0
      clear he h8 hn'
      go_enter Try.func12, Try.ntmps12
      go_wp2
      go_ret2
      exact ⟨by rw [HE.out]; rfl, rfl⟩
    · have t2 : ((n : Int) == 0) = false := by rw [beq_eq_false_iff_ne]; omega
      cases hb : zs.any badW with
      | true =>
        rw [hb] at C
        have HE : Hid (newErr zs = 1) := (if_neg (by omega)).trans (if_pos (.inr hb))
        clear he h8 hn' h0 hb
        go_enter Try.func12, Try.ntmps12
        go_wp2_with (go_at_call 56; (with_reducible refine C.out.mono ?_); rintro e w' ⟨rfl, rfl⟩)
        go_ret2
        exact ⟨by rw [HE.out]; rfl, rfl⟩
      | false =>
        exact absurd ((if_neg (by omega)).trans (if_neg (fun h => by rcases h with h | h; omega; rw [hb] at h; cases h))) he
theorem made_ints (n : Nat) : madeCells (Value.int .i64 0).cells (n * 1) = (ints (List.replicate n 0)).toArray := by
  apply Array.ext'
  rw [Nat.mul_one]
  show (madeCells #[.int .i64 0] n).toList = _
  rw [toList_madeCells_one]
  simp [ints]
theorem fair_made {T et g gw cw ge ce n : Nat} {zs : List Int} {rest : List Value} {W : World} (hn : n = zs.length) (hg : W.heap[g]? = some (.cells #[.slice (some ⟨gw, 0, none⟩) n cw, .slice (some ⟨ge, 0, none⟩) n ce, .int .i64 0, .slice none 0 0] T (0, 0)))
    (hgw : W.heap[gw]? = some (.cells (ints zs ++ rest).toArray iT (0, 0))) (hge : W.heap[ge]? = some (.cells (ints (List.replicate n 0)).toArray iT (0, 0))) (d1 : g ≠ gw) (d2 : g ≠ ge) (d3 : gw ≠ ge) :
    FairAt T et W g zs (List.replicate n 0) 0 [] (fun k => k = g ∨ k = gw ∨ k = ge ∨ (Value.slice none 0 0).ownBlock = some k) := by
  subst hn
  exact ⟨gw, cw, rest, ge, ce, [], .slice none 0 0, hg, hgw, by rw [List.append_nil]; exact hge, TRow.nil, ⟨d1, d2, d3, by simp [Value.ownBlock], by simp [Value.ownBlock], by simp [Value.ownBlock]⟩, fun k => Iff.rfl⟩
theorem int_infoF : (Try.prog.info? 3).map (fun i => (i.zero, i.size, i.bytes)) = some (some (.int .i64 0), 1, 8) := by kernel_rfl
theorem run_mk (n : Nat) (h : n ≤ 1048576) (W : World) : (Instr.makeSlice 24 (.int .i64 (n : Int)) (.int .i64 (n : Int))).run Try.prog W = .ok (.slice (some ⟨W.heap.size, 0, none⟩) n n) (W.alloc (.cells (ints (List.replicate n 0)).toArray iT (0, 0))) := by
  obtain ⟨i0, hi, hz0, hz1, hz2⟩ := info_parts int_infoF
  have hr := run_makeSlice (P := Try.prog) (w := W) 24 3 i0 (.int .i64 0) Try.underlying24 hi hz0 .i64 .i64 (n : Int) (n : Int) (by omega) (by omega) (by rw [hz1]; omega) (by rw [hz2]; omega) (by omega)
  rw [hr, hz1]
  have e : (n : Int).toNat = n := by omega
  rw [e, made_ints]
set_option maxRecDepth 100000 in
set_option maxHeartbeats 2000000 in
theorem new_ok (v : Value) (zs : List Int) (w : World) (h : IntsAt w v zs) (he : newErr zs = 0) :
    Calls Try.prog 12 #[v] w fun e w' => ∃ g S, e = .returned (.tuple #[.pointer (some ⟨g, 0, none⟩), .int .i64 0]) ∧ FairAt fT pT w' g zs (List.replicate zs.length 0) 0 [] S ∧ (∀ k, S k → w.heap.size ≤ k) ∧ Ext w w' := by
  have h8 : zs.length ≤ 8 := by
    rcases Nat.lt_or_ge 8 zs.length with h | h
    · rw [newErr, if_pos h] at he; omega
    · exact h
  have h0 : 0 < zs.length ∧ zs.any badW = false := by
    rw [newErr, if_neg (by omega)] at he
    by_cases hc : zs.length = 0 ∨ zs.any badW = true
    · rw [if_pos hc] at he; omega
    · refine ⟨by omega, ?_⟩
      cases hb : zs.any badW
      · rfl
      · exact absurd (.inr hb) hc
  have C := Lib.hid (badHas v zs w h (by omega))
  rw [h0.2] at C
  have HI := Lib.hid h
  obtain ⟨A, c, rfl, hh⟩ := h
  obtain ⟨b, off, rfl, hb, hc⟩ := hh h0.1
  have HCL : Hid (∀ wk, Ext w wk → Calls Try.prog 58 #[.slice (some ⟨b, off, none⟩) zs.length c] wk fun e w' => ∃ g c', e = .returned (.slice (some ⟨g, 0, none⟩) zs.length c') ∧ wk.heap.size ≤ g ∧ (∃ rest, w'.heap[g]? = some (.cells (ints zs ++ rest).toArray iT (0, 0))) ∧ Ext wk w') := fun wk hw => by
    refine (Try.slices_Clone_int b off zs.length c zs wk (Nat.le_refl _) (by omega) (fun j hj => (hw.cell (p := ⟨b, off + j, none⟩) hb).trans (hc j hj))).mono fun e w' ⟨v', he, ho, _, hx⟩ => ?_
    have hr : IRow wk.heap.size w' v' zs := IRow.of_owns rfl (by rw [List.take_length] at ho; exact ho)
    rcases hr with ⟨_, e0⟩ | ⟨g, rest, e1, e2, e3, e4⟩
    · rw [e0] at h0; simp at h0
    · subst e1
      exact ⟨g, _, he, e2, ⟨rest, e3⟩, hx⟩
  obtain ⟨n, hn⟩ : ∃ n, n = zs.length := ⟨_, rfl⟩
  rw [← hn] at C HCL ⊢
  have hn1 : 1 ≤ n := by omega
  have hn8 : (n : Int) ≤ 8 := by omega
  have t1 : decide (8 < (n : Int)) = false := by simp; omega
  have t2 : ((n : Int) == 0) = false := by rw [beq_eq_false_iff_ne]; omega
  have hmk := run_mk n (by omega)
  have HN := Lib.hid hn
  clear hn he h8 h0 hh hb hc
  go_enter Try.func12, Try.ntmps12
  go_wp2_with (go_at_call 56; (with_reducible refine C.out.mono ?_); rintro e w' ⟨rfl, rfl⟩)
  have hx0 : Ext w w := Below.refl _ _
  have hx1 : ∀ o, Ext w (w.alloc o) := fun o => new_ext w o
  go_region_law (go_simp; go_at_call 58; with_reducible refine (HCL.out _ (by first | assumption | exact hx1 _ | (apply Below.drew; first | assumption | exact hx1 _))).mono ?_; rintro e w2 ⟨gw, cw, rfl, k1, k2, k3⟩; have H2 := Lib.hid (And.intro k1 (And.intro k2 k3)); clear k1 k2 k3)
  · go_wp2_with fail
    go_ret2
    obtain ⟨k1, ⟨rest, k2⟩, k3⟩ := H2.out
    have hl := heap_lt k2
    have hs := k3.size
    refine ⟨w2.heap.size + 1, _, rfl, fair_made (g := w2.heap.size + 1) (gw := gw) (ge := w2.heap.size) HN.out (heap_new ?_) (rest := rest) ?_ ?_ (by omega) (by omega) (by omega), ?_, ?_⟩
    · simp
    · rw [Below.heap_alloc _ _ _ (by simp; omega), Below.heap_alloc _ _ _ hl]; exact k2
    · rw [Below.heap_alloc _ _ _ (by simp)]; exact heap_new rfl
    · intro k hk
      have hs2 : w.heap.size ≤ w2.heap.size := hs
      have k1' : w.heap.size ≤ gw := k1
      rcases hk with rfl | rfl | rfl | hk
      · omega
      · omega
      · omega
      · simp [Value.ownBlock] at hk
    · have hx2 : Ext w w2 := ⟨k3.os, k3.tape, k3.output, k3.size, k3.block⟩
      exact (hx2.trans (new_ext _ _)).trans (new_ext _ _)
  · go_wp2_with fail
    go_ret2
    obtain ⟨k1, ⟨rest, k2⟩, k3⟩ := H2.out
    have hl := heap_lt k2
    have hs := k3.size
    have k1' : w.heap.size + 1 ≤ gw := by simpa using k1
    have hs2 : w.heap.size + 1 ≤ w2.heap.size := by simpa using hs
    refine ⟨w2.heap.size, _, rfl, fair_made (g := w2.heap.size) (gw := gw) (ge := w.heap.size) HN.out (heap_new rfl) (rest := rest) ?_ ?_ (by omega) (by omega) (by omega), ?_, ?_⟩
    · rw [Below.heap_alloc _ _ _ hl]; exact k2
    · rw [Below.heap_alloc _ _ _ (by omega), k3.block w.heap.size (by simp)]; exact heap_new rfl
    · intro k hk
      rcases hk with rfl | rfl | rfl | hk
      · omega
      · omega
      · omega
      · simp [Value.ownBlock] at hk
    · have hx2 : Ext (w.alloc (.cells (ints (List.replicate n 0)).toArray iT (0, 0))) w2 := ⟨k3.os, k3.tape, k3.output, k3.size, k3.block⟩
      exact ((new_ext w _).trans hx2).trans (new_ext _ _)
end Go.Proofs.Ytpbbohinhbboaaa.Fw
