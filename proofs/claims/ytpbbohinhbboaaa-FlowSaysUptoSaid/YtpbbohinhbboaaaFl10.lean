/-
  Flow: the reference's Next.
-/
import Derived.Test.YtpbbohinhbboaaaFl9
namespace Go.Proofs.Ytpbbohinhbboaaa.Fw
open Go Go.RowKit Go.Proofs.Ytpbbohinhbboaaa.Sx

set_option maxRecDepth 100000 in
set_option maxHeartbeats 8000000 in
theorem rnext_none (g : Nat) (ws es : List Int) (now : Int) (S : Nat → Prop) (w : World) (h : FairAt rT qT w g ws es now [] S) :
    Calls Try.prog 18 #[.pointer (some ⟨g, 0, none⟩)] w fun e w' => e = .returned (.tuple #[.int .i64 0, .int .i64 0, .bool false]) ∧ Ext w w' := by
  obtain ⟨gw, cw, rw_, ge, ce, re, v, hF, hgw, hge, hv, hd, hS⟩ := h
  have b3 := hF.cell
  obtain ⟨A, c, rfl⟩ := hv.slice
  clear hF hgw hge hv hd hS
  go_enter Try.func18, Try.ntmps18
  go_wp2_with fail
  go_loopw [5, 14] (fun b i wr => b = .int .i64 (-1) ∧ i = .int .i64 0 ∧ w = wr) (fun _ _ _ => 0)
  case atStart => exact ⟨rfl, rfl, rfl⟩
  case round =>
    obtain ⟨rfl, rfl, rfl⟩ := hrel
    go_wp2_with fail
    go_ret3
    exact ⟨rfl, Below.refl _ _⟩
set_option maxRecDepth 100000 in
set_option maxHeartbeats 16000000 in
theorem rnext_some (g n : Nat) (ws es : List Int) (now : Int) (L : List Th) (S : Nat → Prop) (w : World) (h : FairAt rT qT w g ws es now L S) (hL : L.length = n) (h0 : 0 < n) (h64 : n ≤ 64) :
    Calls Try.prog 18 #[.pointer (some ⟨g, 0, none⟩)] w fun e w' => ∃ b, b < n ∧ (∀ m, m < n → ¬ lt (nth L m) (nth L b)) ∧ e = .returned (nextV (nth L b)) ∧
      ∃ M S', FairAt rT qT w' g ws es (nth L b).start M S' ∧ M = L.eraseIdx b ∧ Trn S w w' ∧ (∀ k, S' k → S k ∨ w.heap.size ≤ k) := by
  obtain ⟨gw, cw, rw_, ge, ce, re, v, hF, hgw, hge, hv, hd, hS⟩ := h
  have hv0 := hv
  obtain ⟨kk, c, rest, rfl, _, hk, hkc, hkm⟩ := hv.some_ (by omega)
  have hkl0 : kk < w.heap.size := heap_lt hk
  have hgl0 : g < w.heap.size := heap_lt hF
  have HALL := Lib.hid (And.intro hF (And.intro hgw (And.intro hge (And.intro hd (And.intro hS (And.intro hv hL))))))
  have HK := Lib.hid hk
  have HNC : Hid (n ≤ c) := by unfold Hid; omega
  have b3 : w.cell? ⟨g, 3, none⟩ = some (.slice (some ⟨kk, 0, none⟩) n c) := by rw [← hL]; exact hF.cell
  have B3 := Lib.hid b3
  clear hF hgw hge hd hS hv hk hv0 hkc hkm
  go_enter Try.func18, Try.ntmps18
  go_wp2_with fail
  go_loopw [5, 14] (fun b i wr => ∃ k : Nat, i = .int .i64 (k : Int) ∧ k ≤ n ∧ ∃ z : Int, b = .int .i64 z ∧ Hid (bestAt L k z) ∧ Ext w wr) (fun _ i _ => n - (intOf i).toNat)
  case atStart => exact ⟨0, rfl, Nat.zero_le _, -1, rfl, .inl ⟨rfl, rfl⟩, Below.refl _ _⟩
  case round =>
    obtain ⟨i, rfl, hin, z, rfl, hB, hE⟩ := hrel
    have HE := Lib.hid hE
    have hkl : kk < wr.heap.size := Nat.lt_of_lt_of_le hkl0 hE.size
    have hgl : g < wr.heap.size := Nat.lt_of_lt_of_le hgl0 hE.size
    have b3' : wr.cell? ⟨g, 3, none⟩ = some (.slice (some ⟨kk, 0, none⟩) n c) := (hE.cell (p := ⟨g, 3, none⟩) hgl0).trans B3.out
    have hkr : wr.heap[kk]? = some (.cells (tcells L ++ rest).toArray qT (0, 0)) := (hE.block kk hkl0).trans HK.out
    have HKR := Lib.hid hkr
    clear b3 hE hkl0 hgl0
    by_cases hlt : i < n
    · obtain ⟨a1, a2, a3⟩ := row_three hkr (k := i) (by omega)
      obtain ⟨x, hx⟩ : ∃ x, x = nth L i := ⟨_, rfl⟩
      rw [← hx] at a1 a2 a3
      have HX := Lib.hid hx
      clear hkr hx hL
      rcases hB.out with ⟨hi0, rfl⟩ | ⟨m, hmi, rfl, hmin⟩
      · have HI0 := Lib.hid hi0
        clear hi0
        go_wp2_with fail
        go_quiet (fail)
        go_wp2_with fail
        go_roundw
        case rel => exact ⟨i + 1, by go_num, by omega, (i : Int), rfl, by rw [HI0.out]; exact bestAt.first, HE.out.trans ((new_ext _ _).trans (ext_drewN' _ _))⟩
        case measure => simp [intOf]; omega
      · obtain ⟨c1, c2, c3⟩ := row_three HKR.out (k := m) (by rw [HALL.out.2.2.2.2.2.2]; omega)
        obtain ⟨y, hy⟩ : ∃ y, y = nth L m := ⟨_, rfl⟩
        rw [← hy] at c1 c2 c3
        have HY := Lib.hid hy
        have HM := Lib.hid hmin
        have HMI := Lib.hid hmi
        have hmn : m < n := by omega
        have tm : decide ((m : Int) < 0) = false := by simp
        clear hy hmin hmi
        by_cases q1 : x.start < y.start
        · have u1 : decide (x.start < y.start) = true := by simp [q1]
          have HLT : Hid (lt x y) := .inl q1
          clear q1
          go_wp2_with fail
          go_quiet (fail)
          go_wp2_with fail
          go_roundw
          case rel => exact ⟨i + 1, by go_num, by omega, (i : Int), rfl, bestAt.new HM.out (by rw [← HX.out, ← HY.out]; exact HLT.out), HE.out.trans ((new_ext _ _).trans (ext_drewN' _ _))⟩
          case measure => simp [intOf]; omega
        · have u1 : decide (x.start < y.start) = false := by simp; omega
          by_cases q2 : x.start = y.start
          · have u2 : (x.start == y.start) = true := by simp [q2]
            by_cases q3 : x.flow < y.flow
            · have u3 : decide (x.flow < y.flow) = true := by simp [q3]
              have HLT : Hid (lt x y) := .inr ⟨q2, q3⟩
              clear q1 q2 q3
              go_wp2_with fail
              go_quiet (fail)
              go_wp2_with fail
              go_roundw
              case rel => exact ⟨i + 1, by go_num, by omega, (i : Int), rfl, bestAt.new HM.out (by rw [← HX.out, ← HY.out]; exact HLT.out), HE.out.trans ((new_ext _ _).trans (ext_drewN' _ _))⟩
              case measure => simp [intOf]; omega
            · have u3 : decide (x.flow < y.flow) = false := by simp; omega
              have HLT : Hid (¬ lt x y) := by show ¬ lt x y; unfold lt; omega
              clear q1 q2 q3
              go_wp2_with fail
              go_quiet (fail)
              go_wp2_with fail
              go_roundw
              case rel => exact ⟨i + 1, by go_num, by omega, (m : Int), rfl, bestAt.old HMI.out HM.out (by rw [← HX.out, ← HY.out]; exact HLT.out), HE.out.trans ((new_ext _ _).trans (ext_drewN' _ _))⟩
              case measure => simp [intOf]; omega
          · have u2 : (x.start == y.start) = false := by simp [q2]
            have HLT : Hid (¬ lt x y) := by show ¬ lt x y; unfold lt; omega
            clear q1 q2
            go_wp2_with fail
            go_quiet (fail)
            go_wp2_with fail
            go_roundw
            case rel => exact ⟨i + 1, by go_num, by omega, (m : Int), rfl, bestAt.old HMI.out HM.out (by rw [← HX.out, ← HY.out]; exact HLT.out), HE.out.trans ((new_ext _ _).trans (ext_drewN' _ _))⟩
            case measure => simp [intOf]; omega
    · obtain ⟨m, hmn, rfl, hmin⟩ : ∃ m : Nat, m < n ∧ z = (m : Int) ∧ ∀ j, j < n → ¬ lt (nth L j) (nth L m) := by
        have e : i = n := by omega
        subst e
        rcases hB.out with ⟨e, _⟩ | ⟨m, h1, h2, h3⟩
        · omega
        · exact ⟨m, h1, h2, h3⟩
      have ti : decide (i < n) = false := by simp; omega
      have tm : decide ((m : Int) < 0) = false := by simp
      obtain ⟨a1, a2, a3⟩ := row_three hkr (k := m) (by omega)
      obtain ⟨x, hx⟩ : ∃ x, x = nth L m := ⟨_, rfl⟩
      rw [← hx] at a1 a2 a3
      obtain ⟨w1, hw1⟩ : ∃ w1, w1 = wr.alloc (.cells #[.int .i64 x.id, .int .i64 x.flow, .int .i64 x.start] qT (0, 0)) := ⟨_, rfl⟩
      have hx0 : Ext w w1 := by rw [hw1]; exact HE.out.trans (new_ext _ _)
      have HW1 := Lib.hid hw1
      have hs1 : w1.heap.size = wr.heap.size + 1 := by rw [hw1]; simp
      obtain ⟨p1, p2, p3, p4, p5, p6, p7⟩ := HALL.out
      have hcut := run_cut_w kk n c m (by have := HNC.out; omega)
      obtain ⟨ad', htail, had⟩ := run_tail_w kk n c (m + 1) (by omega)
      have htail' : ∀ W : World, (Instr.slice 41 (.slice (some ⟨kk, 0, none⟩) n c) (some (.int .i64 ((m : Int) + 1))) none none).run Try.prog W = .ok (.slice (some ad') (n - (m + 1)) (c - (m + 1))) W := fun W => by
        have e : ((m + 1 : Nat) : Int) = (m : Int) + 1 := by omega
        rw [← e]
        exact htail W
      have HCP : Hid (∀ wk, Ext w1 wk → Calls Try.prog 64 #[.slice (some ⟨kk, 0, none⟩) m c] wk fun e w' => ∃ A2 c2, e = .returned (.slice A2 m c2) ∧ TRow qT w1.heap.size w' (.slice A2 m c2) (L.take m) ∧ Ext w1 w') := fun wk hw => by
        have hr : TRow qT 0 wk (.slice (some ⟨kk, 0, none⟩) m c) (L.take m) := (p6.ext (hx0.trans hw)).take (by omega)
        have hl : (L.take m).length = m := by rw [List.length_take]; omega
        refine (rcopy_any _ _ wk hr.src (by omega)).mono fun e w' ⟨A2, c2, e1, e2, e3⟩ => ?_
        rw [hl] at e1 e2
        exact ⟨A2, c2, e1, e2.low hw.size, hw.trans e3⟩
      have HSRC : Hid (∀ wk, Ext w1 wk → TSrc wk (.slice (some ad') (n - (m + 1)) (c - (m + 1))) (L.drop (m + 1))) := fun wk hw => by
        have := (p6.ext (hx0.trans hw)).suffix (l := m + 1) rfl (by rw [p7]; exact HNC.out) had
        rw [p7] at this
        exact this
      have HLEN : Hid ((L.take m).length = m ∧ (L.drop (m + 1)).length = n - (m + 1)) := ⟨by rw [List.length_take]; omega, by rw [List.length_drop, p7]⟩
      have HFACT : Hid (∀ w3, Ext w1 w3 → w3.cell? ⟨g, 3, none⟩ = some (.slice (some ⟨kk, 0, none⟩) n c) ∧ w3.frozen? ⟨g, 3, none⟩ = false ∧ w3.cell? ⟨g, 2, none⟩ = some (.int .i64 now) ∧ w3.frozen? ⟨g, 2, none⟩ = false ∧
          w3.cell? ⟨wr.heap.size, 0, none⟩ = some (.int .i64 x.id) ∧ w3.cell? ⟨wr.heap.size, 1, none⟩ = some (.int .i64 x.flow) ∧ w3.cell? ⟨wr.heap.size, 2, none⟩ = some (.int .i64 x.start)) := fun w3 hw => by
        have hF3 := p1.kept (row := none) (grown_of_extB' (hx0.trans hw)) (by simp)
        have hbx : w3.heap[wr.heap.size]? = some (.cells #[.int .i64 x.id, .int .i64 x.flow, .int .i64 x.start] qT (0, 0)) := by
          rw [hw.block wr.heap.size (by omega), hw1]
          exact heap_new rfl
        refine ⟨by rw [← p7]; exact hF3.cell, row_free hF3, by rw [cell_of hF3]; rfl, row_free hF3, by rw [cell_of hbx]; rfl, by rw [cell_of hbx]; rfl, by rw [cell_of hbx]; rfl⟩
      have HEND : Hid (∀ (w3 : World) (v3 : Value), Ext w1 w3 → TRow qT 0 w3 v3 (L.take m ++ L.drop (m + 1)) → (∀ k, v3.ownBlock = some k → w1.heap.size ≤ k) → ∃ M S', FairAt rT qT ((w3.setCell ⟨g, 3, none⟩ v3).setCell ⟨g, 2, none⟩ (.int .i64 x.start)) g ws es x.start M S' ∧ M = L.eraseIdx m ∧ Trn S w ((w3.setCell ⟨g, 3, none⟩ v3).setCell ⟨g, 2, none⟩ (.int .i64 x.start)) ∧ (∀ k, S' k → S k ∨ w.heap.size ≤ k)) := fun w3 v3 hw hr ho => by
        have hF1 := p1.kept (row := none) (grown_of_extB' hx0) (by simp)
        obtain ⟨M, S', f1, f2, f3, f4⟩ := fair_next (z := x.start) p1 p2 p3 p4 p5 hx0 (line_set (P := fun M => M = L.eraseIdx m) hF1 p4.2.2.2.1 hr (grown_of_extB' hw) (.inr ho) (by rw [List.eraseIdx_eq_take_drop_succ]))
        exact ⟨M, S', f1, f2, f3, f4⟩
      have hwrap : IntKind.i64.wrap ((m : Int) + 1) = (m : Int) + 1 := IntWalk.i64_in _ (by omega)
      have HX := Lib.hid hx
      have HMIN := Lib.hid hmin
      clear hx hw1 p1 p2 p3 p4 p5 p6 p7 hkr hL htail had hmin hx0
      have hx1 : Ext w1 w1 := Below.refl _ _
      have hs2 : wr.heap.size < w1.heap.size := by omega
      have hg1 : g < w1.heap.size := by omega
      obtain ⟨y1, y2, y3, y4, y5, y6, y7⟩ := HFACT.out w1 hx1
      go_wp2_with fail
      rw [← HW1.out]
      go_region_law (first
        | (go_simp; go_at_call 64; with_reducible refine (HCP.out _ (by first | assumption | (apply Below.drew; assumption))).mono ?_; rintro e w2 ⟨A2, c2, rfl, h2, hx2⟩; obtain ⟨r1, r2, r3, r4, r5, r6, r7⟩ := HFACT.out w2 hx2; have H2 := Lib.hid h2; clear h2)
        | (refine step_append_things qTy rfl _ _ (by rfl) w1.heap.size m (n - (m + 1)) _ _ _ (L.take m) (L.drop (m + 1)) (by rfl) (by rfl) (H2.out.ext (by first | exact Below.refl _ _ | exact (Below.refl _ _).drew)) (HSRC.out _ (by first | assumption | (apply Below.drew; assumption))) HLEN.out.1 HLEN.out.2 (by omega) (by have := hx2.size; exact this) ?_; intro A3 c3 w3 h3 hg3 ho3; have hx3 := ext_app hg3 (by first | exact hx2 | exact hx2.drew) (H2.out.ext (by first | exact Below.refl _ _ | exact (Below.refl _ _).drew)); obtain ⟨s1, s2, s3, s4, s5, s6, s7⟩ := HFACT.out w3 hx3; have H3 := Lib.hid (And.intro h3 hx3); clear h3 hg3 ho3 hx3))
      all_goals
        go_wp2_with fail
        go_quiet (fail)
        go_wp2_with fail
        go_ret3
        obtain ⟨h3, hx3⟩ := H3.out
        obtain ⟨M, S', f1, f2, f3, f4⟩ := HEND.out _ _ hx3 (h3.low (Nat.zero_le _)) (fun k hk => (h3.block k hk).1)
        refine ⟨m, hmn, HMIN.out, ?_, M, S', ?_, f2, ?_, f4⟩
        · rw [← HX.out]; rfl
        · rw [← HX.out]; first | exact f1 | exact f1.ext (ext_drewN' _ _) | exact (f1.ext (Below.refl _ _).drew).ext (ext_drewN' _ _)
        · first | exact f3 | exact f3.drewN _ | exact f3.drew.drewN _
end Go.Proofs.Ytpbbohinhbboaaa.Fw
