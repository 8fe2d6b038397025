/-
  The reference's QueryImplies (printed by gen/qs22.py).
-/
import Derived.Test.YtplfimoeggecjaaGreatDoorQs21
namespace Go.Proofs.YtplfimoeggecjaaGreatDoor.Qs
open Go Go.RowKit Go.Lib Go.Proofs.YtplfimoeggecjaaGreatDoor.Sx Go.Proofs.YtplfimoeggecjaaGreatDoor.Dc

set_option maxRecDepth 100000 in
set_option maxHeartbeats 2000000 in
theorem copyQ_src (base : Nat) (x : Value) (L : List Rw) (w : World) (hx : RSrc w x L) (hs : L.length ≤ 1048576) (hbase : base ≤ w.heap.size) :
    Calls Tryz.prog 30 #[x] w fun e w' => ∃ A c, e = .returned (.slice A L.length c) ∧ RRow reqT base w' (.slice A L.length c) L ∧ Ext w w' := by
  have HX := Lib.hid hx
  obtain ⟨A0, c0, rfl⟩ : ∃ A c, x = .slice A L.length c := by
    rcases hx with ⟨c, rfl, rfl⟩ | ⟨ad, c, rfl, _⟩
    · exact ⟨_, _, rfl⟩
    · exact ⟨_, _, rfl⟩
  clear hx
  go_enter Tryz.func30, Tryz.ntmps30
  go_wp2_with (at_builtin; refine append_parts qTyOk rfl _ _ (by rfl) base 0 L.length _ _ _ [] L (by rfl) (by rfl) RRow.nil HX.out rfl rfl (by omega) hbase ?_)
  intro A c w' h1 h2 h3
  have H := Lib.hid (And.intro h1 (And.intro h2 h3))
  clear h1 h2 h3
  go_wp2
  go_ret
  refine ⟨A, c, by simp, by simpa using H.out.1, ?_⟩
  exact ⟨H.out.2.1.os, H.out.2.1.tape, H.out.2.1.output, H.out.2.1.size, fun k hk => H.out.2.1.block k hk (by simp [Value.ownBlock])⟩
theorem copyQ_any {B : Nat} {w : World} {v : Value} {l : List Req} (h : ReqsR B w v l) (hl : l.length ≤ 1048576) :
    Calls Tryz.prog 30 #[v] w fun e w' => ∃ A c L, e = .returned (.slice A l.length c) ∧ RRow reqT w.heap.size w' (.slice A l.length c) L ∧ RepL B w L l ∧ Ext w w' := by
  have h0 := h
  obtain ⟨hn, A, c, rfl, hi⟩ := h
  cases A with
  | none =>
    have hl : l = [] := by
      cases l with
      | nil => rfl
      | cons x r =>
        obtain ⟨_, _, _, hA, _⟩ := hi 0 (by simp)
        cases hA
    subst hl
    exact (copyQ_src w.heap.size (.slice none 0 c) [] w (.inl ⟨c, rfl, rfl⟩) (by simp) (Nat.le_refl _)).mono fun e w' ⟨A, c, he, hr, hx⟩ => ⟨A, c, [], he, hr, ⟨rfl, fun i hi => by simp at hi⟩, hx⟩
  | some a =>
    obtain ⟨L, hL, hc⟩ := rep_of h0
    have e : (Value.slice (some a) l.length c) = .slice (some a) L.length c := by rw [hL.1]
    rw [e]
    refine (copyQ_src w.heap.size (.slice (some a) L.length c) L w (.inr ⟨a, c, rfl, hc⟩) (by rw [hL.1]; exact hl) (Nat.le_refl _)).mono fun e w' ⟨A, c, he, hr, hx⟩ => ?_
    rw [hL.1] at he hr
    exact ⟨A, c, L, he, hr, hL, hx⟩

set_option maxRecDepth 100000 in
set_option maxHeartbeats 8000000 in
theorem rImplies_any (B : Nat) (v u : Value) (a b : List Req) (w : World) (hB : B ≤ w.heap.size) (hv : ReqsR B w v a) (hu : ReqsR B w u b) (hm : MaxC w) :
    Calls Tryz.prog 9 #[v, u] w (ImpP w a b) := by
  have HV := Lib.hid (And.intro hv (And.intro hu hm))
  have HB := Lib.hid hB
  have CQ := Lib.hid (rqcheck_any B v a w hB hv hm)
  obtain ⟨_, A, c, rfl, _⟩ := hv
  obtain ⟨_, A', c', rfl, _⟩ := hu
  clear hm
  go_enter Tryz.func9, Tryz.ntmps9
  go_wp2_with fail
  refine Calls.mono CQ.out ?_
  rintro e w1 ⟨rfl, hx1⟩
  have HX1 := Lib.hid hx1
  clear hx1 CQ
  have CQ := Lib.hid (rqcheck_any B (.slice A' b.length c') b w1 (Nat.le_trans HB.out HX1.out.size) (HV.out.2.1.below (HX1.out.mono HB.out) (Nat.le_refl _)) (HV.out.2.2.ext HX1.out))
  by_cases h0 : checkQ a = 0
  · have H0 := Lib.hid h0
    have HE : Hid (impE a b = checkQ b) := if_pos h0
    rw [h0]
    clear h0
    go_wp2_with fail
    refine Calls.mono CQ.out ?_
    rintro e w2 ⟨rfl, hx2⟩
    have HX2 : Hid (Ext w w2) := HX1.out.trans hx2
    clear hx2 CQ
    by_cases h1 : checkQ b = 0
    · have H1 := Lib.hid h1
      have HE0 : Hid (impE a b = 0) := HE.out.trans h1
      rw [h1]
      have hnb8 : b.length ≤ 8 := (good_of_check h1).1
      have hna8 : a.length ≤ 8 := (good_of_check H0.out).1
      clear h1
      go_wp2_with fail
      go_loopw [25] (fun k wr => ∃ j : Nat, j ≤ b.length ∧ k = .int .i64 (j : Int) ∧ Hid (noneTo (oppS a) b j ∧ Ext w wr)) (fun k _ => b.length - (intOf k).toNat)
      case atStart => exact ⟨0, Nat.zero_le _, rfl, fun i hi h => by omega, HX2.out⟩
      case round =>
        obtain ⟨j, hj, rfl, hR⟩ := hrel
        by_cases hlt : j < b.length
        · obtain ⟨bb, off, A2, c2, rfl, hbB, x0, x1, x2, hkz, hst⟩ := (HV.out.2.1.below (hR.out.2.mono HB.out) (Nat.le_refl _)).at_ hlt
          have hcap := (HV.out.2.1.below (hR.out.2.mono HB.out) (Nat.le_refl _)).cap hlt x2
          have HG : Hid (Good (a ++ [oppR b[j]])) := good_opp H0.out H1.out (List.getElem_mem hlt)
          have HKD : Hid (1 ≤ b[j].kind ∧ b[j].kind ≤ 4) := (good_of_check H1.out).2.kinds _ (List.getElem_mem hlt)
          have HSOME : Hid (∀ o, solveL (a ++ [oppR b[j]]) = some o → impliesL a b = some o) := fun o h => implies_some hlt h hR.out.1
          have HNONE : Hid (solveL (a ++ [oppR b[j]]) = none → noneTo (oppS a) b (j + 1)) := fun h => noneTo_succ hR.out.1 hlt (by unfold oppS; rw [h]; rfl)
          obtain ⟨r, hr⟩ : ∃ r, r = b[j] := ⟨_, rfl⟩
          rw [← hr] at x0 x1 x2 HG HKD HSOME HNONE hkz hst hcap
          have HT : Hid (repR B wr ⟨r.key, oppK r.kind, A2, r.vals.length, c2⟩ (oppR r)) := ⟨rfl, rfl, rfl, A2, c2, rfl, hkz, hst, hcap⟩
          obtain ⟨t, ht⟩ : ∃ t : Rw, t = ⟨r.key, oppK r.kind, A2, r.vals.length, c2⟩ := ⟨_, rfl⟩
          rw [← ht] at HT
          obtain ⟨r2, hr2⟩ : ∃ r2, r2 = oppR r := ⟨_, rfl⟩
          rw [← hr2] at HG HSOME HNONE HT
          obtain ⟨rk, rn, hrk⟩ : ∃ rk rn, rk = r.key ∧ rn = r.vals.length := ⟨_, _, rfl, rfl⟩
          have hKD := HKD.out
          obtain ⟨kd, hkd⟩ : ∃ kd, kd = r.kind := ⟨_, rfl⟩
          rw [← hkd] at hKD x1 ht
          rw [← hrk.1] at x0 ht
          rw [← hrk.2] at x2 ht
          have HTT := Lib.hid ht
          clear hr hr2 hrk hkz hst hcap hbB hkd HKD ht
          have h4 : kd = 1 ∨ kd = 2 ∨ kd = 3 ∨ kd = 4 := by have := hKD.1; have := hKD.2; omega
          clear hKD
          rcases h4 with rfl | rfl | rfl | rfl
          · obtain ⟨W1, hW⟩ : ∃ W, W = wr.alloc (.cells #[.string rk, .int .i64 1, .slice A2 rn c2] reqT) := ⟨_, rfl⟩
            obtain ⟨kb, hkb⟩ : ∃ kb, kb = wr.heap.size := ⟨_, rfl⟩
            have HW := Lib.hid (And.intro hW hkb)
            have hh : W1.heap[kb]? = some (.cells #[.string rk, .int .i64 1, .slice A2 rn c2] reqT (0, 0)) := by rw [hW]; exact heap_new hkb
            have HX3 : Hid (Ext wr W1 ∧ wr.heap.size ≤ kb) := ⟨by rw [hW]; exact new_ext _ _, by omega⟩
            clear hW hkb
            go_upto_region 10 with fail
            rw [← HW.out.1, ← HW.out.2]
            clear x0 x1 x2
            obtain ⟨y0, y1, y2⟩ := cells3' hh
            have f1 := row_free (k := 1) hh
            obtain ⟨W2, hW2⟩ : ∃ W2, W2 = W1.setCell ⟨kb, 1, none⟩ (.int .i64 2) := ⟨_, rfl⟩
            have hh2 : W2.heap[kb]? = some (.cells #[.string rk, .int .i64 2, .slice A2 rn c2] reqT (0, 0)) := by rw [hW2]; exact heap_setCell_same _ _ _ _ _ _ hh
            have HX4 : Hid (Ext wr W2 ∧ Ext w W2) := by
              have h : Ext wr W2 := by rw [hW2]; exact HX3.out.1.setCell (p := ⟨kb, 1, none⟩) HX3.out.2 _
              exact ⟨h, hR.out.2.trans h⟩
            have HH2 := Lib.hid hh2
            have e2 := hW2.symm
            clear hW2 hh hh2
            go_upto_region 15 with fail
            clear e2 y0 y1 y2 f1
            have HH : Hid (∀ wk, Ext W2 wk → wk.cell? ⟨kb, 0, none⟩ = some (.string rk) ∧ wk.cell? ⟨kb, 1, none⟩ = some (.int .i64 2) ∧ wk.cell? ⟨kb, 2, none⟩ = some (.slice A2 rn c2)) := fun wk hk => cells3' ((hk.block _ (heap_lt HH2.out)).trans HH2.out)
            obtain ⟨z0, z1, z2⟩ := HH.out W2 (Below.refl _ _)
            obtain ⟨s0, s1, s2⟩ := HH.out W2.drew ((Below.refl _ _).drew)
            have CC : Hid (∀ wk, Ext W2 wk → Calls Tryz.prog 30 #[.slice A a.length c] wk fun e w' => ∃ A5 c5 L5, e = .returned (.slice A5 a.length c5) ∧ Hid (L5.length = a.length ∧ RRow reqT W2.heap.size w' (.slice A5 a.length c5) L5 ∧ RepL B w' L5 a ∧ (∀ z, (Value.slice A5 a.length c5).ownBlock = some z → wk.heap.size ≤ z)) ∧ Ext W2 w' ∧ Ext wk w') := fun wk hk => by
              have hwk : Ext w wk := HX4.out.2.trans hk
              refine (copyQ_any (HV.out.1.below (hwk.mono HB.out) (Nat.le_refl _)) (by omega)).mono fun e w' ⟨A5, c5, L5, he, hrow, hrep, hx⟩ => ?_
              exact ⟨A5, c5, L5, he, ⟨hrep.1, hrow.low hk.size, hrep.below (hx.mono (Nat.le_trans HB.out hwk.size)) (Nat.le_refl _), fun z hz => (hrow.block z hz).1⟩, hk.trans hx, hx⟩
            have HROW : Hid (∀ (w5 : World) (A5 : Option Addr) (c5 : Nat) (L5 : List Rw), Ext W2 w5 → RRow reqT W2.heap.size w5 (.slice A5 a.length c5) L5 → RRow reqT W2.heap.size (w5.alloc (.cells #[.string rk, .int .i64 2, .slice A2 rn c2] reqT)) (.slice A5 a.length c5) L5 ∧ RSrc (w5.alloc (.cells #[.string rk, .int .i64 2, .slice A2 rn c2] reqT)) (.slice (some ⟨w5.heap.size, 0, none⟩) 1 1) [t] ∧ Ext W2 (w5.alloc (.cells #[.string rk, .int .i64 2, .slice A2 rn c2] reqT))) := fun w5 A5 c5 L5 hx5 h5 => by
              refine ⟨h5.ext (new_ext _ _), ?_, hx5.trans (new_ext _ _)⟩
              rw [HTT.out]
              exact RSrc.of_block (L := [⟨rk, 2, A2, rn, c2⟩]) (et := reqT) (c := 1) (heap_new rfl)
            have HAPP : Hid (∀ (w5 w6 w9 : World) (A5 : Option Addr) (c5 : Nat) (L5 : List Rw), Ext W2 w5 → Ext w5 w6 → RRow reqT W2.heap.size w6 (.slice A5 a.length c5) L5 → RepL B w5 L5 a → w6.grownBy w9 (Value.slice A5 a.length c5).ownBlock → Ext W2 w9 ∧ RepL B w9 (L5 ++ [t]) (a ++ [r2])) := fun w5 w6 w9 A5 c5 L5 hx5 hx6 h1 hp hg9 => by
              have h3 : Ext W2 w6 := hx5.trans hx6
              have hb := rrow_below h1 hg9 h3.size
              have hX : Ext W2 w9 := Below.trans h3 hb
              have hBW : B ≤ W2.heap.size := Nat.le_trans HB.out HX4.out.2.size
              refine ⟨hX, ?_⟩
              have hq := hp.below (Below.trans (hx6.mono (Nat.le_trans hBW hx5.size)) (hb.mono hBW)) (Nat.le_refl _)
              exact hq.more (HT.out.below ((HX4.out.1.trans hX).mono (Nat.le_trans HB.out hR.out.2.size)) (Nat.le_refl _))
            have CS : Hid (∀ (w9 : World) (A9 : Option Addr) (c9 : Nat) (L9 : List Rw), Ext W2 w9 → RRow reqT W2.heap.size w9 (.slice A9 (a.length + 1) c9) L9 → RepL B w9 L9 (a ++ [r2]) → Calls Tryz.prog 27 #[.slice A9 (a.length + 1) c9] w9 fun e w' => ∃ out, e = .returned (.tuple #[out, .bool (solveL (a ++ [r2])).isSome]) ∧ Hid (LabsR w'.heap.size w' out ((solveL (a ++ [r2])).getD []) ∧ Ext w w')) := fun w9 A9 c9 L9 hx9 hr9 hp9 => by
              have hw9 : Ext w w9 := HX4.out.2.trans hx9
              refine (rsolve_any w9.heap.size _ (a ++ [r2]) w9 (Nat.le_refl _) (reqs_of_row hr9 hp9 (Nat.le_trans HB.out hw9.size) (by rw [List.length_append]; simp; omega)) HG.out).mono fun e w' hp => ?_
              obtain ⟨out, he, hl, hx⟩ := sol_labs hp
              exact ⟨out, he, hl, hw9.trans hx⟩
            have hxx : Ext W2 W2 := Below.refl _ _
            have HSRC2 : Hid (∀ (wk w5 : World), wk.heap = (W2.alloc (.cells #[.string rk, .int .i64 2, .slice A2 rn c2] reqT)).heap → Ext wk w5 → RSrc w5 (.slice (some ⟨W2.heap.size, 0, none⟩) 1 1) [t]) := fun wk w5 hk hx => by
              have hb : wk.heap[W2.heap.size]? = some (.cells #[.string rk, .int .i64 2, .slice A2 rn c2] reqT (0, 0)) := by rw [hk]; exact heap_new rfl
              rw [HTT.out]
              exact RSrc.of_block (L := [⟨rk, 2, A2, rn, c2⟩]) (et := reqT) (c := 1) ((hx.block _ (heap_lt hb)).trans hb)
            go_region_law (first
              | (go_simp; go_at_call 30; with_reducible refine (CC.out _ (by first | assumption | exact hxx.drew | exact (new_ext _ _).drew | exact new_ext _ _ | exact hxx.drew.trans (new_ext _ _))).mono ?_; rintro e w5 ⟨A5, c5, L5, rfl, r5, x5, y5⟩; obtain ⟨z0, z1, z2⟩ := HH.out w5 x5)
              | (refine step_append_parts qTyOk rfl _ _ (by rfl) W2.heap.size a.length 1 _ (.slice A5 a.length c5) (.slice (some ⟨w5.heap.size, 0, none⟩) 1 1) L5 [t] (by rfl) (by rfl) (HROW.out w5 A5 c5 L5 x5 r5.out.2.1).1 (HROW.out w5 A5 c5 L5 x5 r5.out.2.1).2.1 r5.out.1 rfl (by omega) (HROW.out w5 A5 c5 L5 x5 r5.out.2.1).2.2.size ?_; intro A9 c9 w9 r9 g9 o9; have X9 := Lib.hid (And.intro (HAPP.out w5 _ w9 A5 c5 L5 x5 (new_ext _ _) (HROW.out w5 A5 c5 L5 x5 r5.out.2.1).1 r5.out.2.2.1 g9) r9); clear r9 g9 o9)
              | (refine step_append_parts qTyOk rfl _ _ (by rfl) W2.heap.size a.length 1 _ (.slice A5 a.length c5) (.slice (some ⟨W2.heap.size, 0, none⟩) 1 1) L5 [t] (by rfl) (by rfl) r5.out.2.1 (HSRC2.out _ w5 (by rfl) y5) r5.out.1 rfl (by omega) x5.size ?_; intro A9 c9 w9 r9 g9 o9; have X9 := Lib.hid (And.intro (HAPP.out w5 _ w9 A5 c5 L5 x5 (Below.refl _ _) r5.out.2.1 r5.out.2.2.1 g9) r9); clear r9 g9 o9)
              | (go_simp; go_at_call 27; with_reducible refine (CS.out _ A9 c9 (L5 ++ [t]) (by first | exact X9.out.1.1 | exact X9.out.1.1.drew) (by exact X9.out.2) (by exact X9.out.1.2)).mono ?_; rintro e w7 ⟨out, rfl, h7⟩))
            all_goals
              cases hs : solveL (a ++ [r2]) with
              | none =>
                have HN := Lib.hid (HNONE.out hs)
                have H7 := Lib.hid h7.out.2
                clear hs h7
                simp only [Option.isSome_none]
                go_wp2
                go_roundw
                case rel => exact ⟨j + 1, hlt, by go_num, HN.out, H7.out⟩
                case measure => simp [intOf]; omega
              | some o =>
                have HN := Lib.hid (HSOME.out o hs)
                rw [hs] at h7
                have H7 := Lib.hid h7.out
                clear hs h7
                simp only [Option.isSome_some]
                go_wp2
                go_ret3
                exact imp_no HE0.out HN.out H7.out.1 H7.out.2
          · obtain ⟨W1, hW⟩ : ∃ W, W = wr.alloc (.cells #[.string rk, .int .i64 2, .slice A2 rn c2] reqT) := ⟨_, rfl⟩
            obtain ⟨kb, hkb⟩ : ∃ kb, kb = wr.heap.size := ⟨_, rfl⟩
            have HW := Lib.hid (And.intro hW hkb)
            have hh : W1.heap[kb]? = some (.cells #[.string rk, .int .i64 2, .slice A2 rn c2] reqT (0, 0)) := by rw [hW]; exact heap_new hkb
            have HX3 : Hid (Ext wr W1 ∧ wr.heap.size ≤ kb) := ⟨by rw [hW]; exact new_ext _ _, by omega⟩
            clear hW hkb
            go_upto_region 10 with fail
            rw [← HW.out.1, ← HW.out.2]
            clear x0 x1 x2
            obtain ⟨y0, y1, y2⟩ := cells3' hh
            have f1 := row_free (k := 1) hh
            obtain ⟨W2, hW2⟩ : ∃ W2, W2 = W1.setCell ⟨kb, 1, none⟩ (.int .i64 1) := ⟨_, rfl⟩
            have hh2 : W2.heap[kb]? = some (.cells #[.string rk, .int .i64 1, .slice A2 rn c2] reqT (0, 0)) := by rw [hW2]; exact heap_setCell_same _ _ _ _ _ _ hh
            have HX4 : Hid (Ext wr W2 ∧ Ext w W2) := by
              have h : Ext wr W2 := by rw [hW2]; exact HX3.out.1.setCell (p := ⟨kb, 1, none⟩) HX3.out.2 _
              exact ⟨h, hR.out.2.trans h⟩
            have HH2 := Lib.hid hh2
            have e2 := hW2.symm
            clear hW2 hh hh2
            go_upto_region 15 with fail
            clear e2 y0 y1 y2 f1
            have HH : Hid (∀ wk, Ext W2 wk → wk.cell? ⟨kb, 0, none⟩ = some (.string rk) ∧ wk.cell? ⟨kb, 1, none⟩ = some (.int .i64 1) ∧ wk.cell? ⟨kb, 2, none⟩ = some (.slice A2 rn c2)) := fun wk hk => cells3' ((hk.block _ (heap_lt HH2.out)).trans HH2.out)
            obtain ⟨z0, z1, z2⟩ := HH.out W2 (Below.refl _ _)
            obtain ⟨s0, s1, s2⟩ := HH.out W2.drew ((Below.refl _ _).drew)
            have CC : Hid (∀ wk, Ext W2 wk → Calls Tryz.prog 30 #[.slice A a.length c] wk fun e w' => ∃ A5 c5 L5, e = .returned (.slice A5 a.length c5) ∧ Hid (L5.length = a.length ∧ RRow reqT W2.heap.size w' (.slice A5 a.length c5) L5 ∧ RepL B w' L5 a ∧ (∀ z, (Value.slice A5 a.length c5).ownBlock = some z → wk.heap.size ≤ z)) ∧ Ext W2 w' ∧ Ext wk w') := fun wk hk => by
              have hwk : Ext w wk := HX4.out.2.trans hk
              refine (copyQ_any (HV.out.1.below (hwk.mono HB.out) (Nat.le_refl _)) (by omega)).mono fun e w' ⟨A5, c5, L5, he, hrow, hrep, hx⟩ => ?_
              exact ⟨A5, c5, L5, he, ⟨hrep.1, hrow.low hk.size, hrep.below (hx.mono (Nat.le_trans HB.out hwk.size)) (Nat.le_refl _), fun z hz => (hrow.block z hz).1⟩, hk.trans hx, hx⟩
            have HROW : Hid (∀ (w5 : World) (A5 : Option Addr) (c5 : Nat) (L5 : List Rw), Ext W2 w5 → RRow reqT W2.heap.size w5 (.slice A5 a.length c5) L5 → RRow reqT W2.heap.size (w5.alloc (.cells #[.string rk, .int .i64 1, .slice A2 rn c2] reqT)) (.slice A5 a.length c5) L5 ∧ RSrc (w5.alloc (.cells #[.string rk, .int .i64 1, .slice A2 rn c2] reqT)) (.slice (some ⟨w5.heap.size, 0, none⟩) 1 1) [t] ∧ Ext W2 (w5.alloc (.cells #[.string rk, .int .i64 1, .slice A2 rn c2] reqT))) := fun w5 A5 c5 L5 hx5 h5 => by
              refine ⟨h5.ext (new_ext _ _), ?_, hx5.trans (new_ext _ _)⟩
              rw [HTT.out]
              exact RSrc.of_block (L := [⟨rk, 1, A2, rn, c2⟩]) (et := reqT) (c := 1) (heap_new rfl)
            have HAPP : Hid (∀ (w5 w6 w9 : World) (A5 : Option Addr) (c5 : Nat) (L5 : List Rw), Ext W2 w5 → Ext w5 w6 → RRow reqT W2.heap.size w6 (.slice A5 a.length c5) L5 → RepL B w5 L5 a → w6.grownBy w9 (Value.slice A5 a.length c5).ownBlock → Ext W2 w9 ∧ RepL B w9 (L5 ++ [t]) (a ++ [r2])) := fun w5 w6 w9 A5 c5 L5 hx5 hx6 h1 hp hg9 => by
              have h3 : Ext W2 w6 := hx5.trans hx6
              have hb := rrow_below h1 hg9 h3.size
              have hX : Ext W2 w9 := Below.trans h3 hb
              have hBW : B ≤ W2.heap.size := Nat.le_trans HB.out HX4.out.2.size
              refine ⟨hX, ?_⟩
              have hq := hp.below (Below.trans (hx6.mono (Nat.le_trans hBW hx5.size)) (hb.mono hBW)) (Nat.le_refl _)
              exact hq.more (HT.out.below ((HX4.out.1.trans hX).mono (Nat.le_trans HB.out hR.out.2.size)) (Nat.le_refl _))
            have CS : Hid (∀ (w9 : World) (A9 : Option Addr) (c9 : Nat) (L9 : List Rw), Ext W2 w9 → RRow reqT W2.heap.size w9 (.slice A9 (a.length + 1) c9) L9 → RepL B w9 L9 (a ++ [r2]) → Calls Tryz.prog 27 #[.slice A9 (a.length + 1) c9] w9 fun e w' => ∃ out, e = .returned (.tuple #[out, .bool (solveL (a ++ [r2])).isSome]) ∧ Hid (LabsR w'.heap.size w' out ((solveL (a ++ [r2])).getD []) ∧ Ext w w')) := fun w9 A9 c9 L9 hx9 hr9 hp9 => by
              have hw9 : Ext w w9 := HX4.out.2.trans hx9
              refine (rsolve_any w9.heap.size _ (a ++ [r2]) w9 (Nat.le_refl _) (reqs_of_row hr9 hp9 (Nat.le_trans HB.out hw9.size) (by rw [List.length_append]; simp; omega)) HG.out).mono fun e w' hp => ?_
              obtain ⟨out, he, hl, hx⟩ := sol_labs hp
              exact ⟨out, he, hl, hw9.trans hx⟩
            have hxx : Ext W2 W2 := Below.refl _ _
            have HSRC2 : Hid (∀ (wk w5 : World), wk.heap = (W2.alloc (.cells #[.string rk, .int .i64 1, .slice A2 rn c2] reqT)).heap → Ext wk w5 → RSrc w5 (.slice (some ⟨W2.heap.size, 0, none⟩) 1 1) [t]) := fun wk w5 hk hx => by
              have hb : wk.heap[W2.heap.size]? = some (.cells #[.string rk, .int .i64 1, .slice A2 rn c2] reqT (0, 0)) := by rw [hk]; exact heap_new rfl
              rw [HTT.out]
              exact RSrc.of_block (L := [⟨rk, 1, A2, rn, c2⟩]) (et := reqT) (c := 1) ((hx.block _ (heap_lt hb)).trans hb)
            go_region_law (first
              | (go_simp; go_at_call 30; with_reducible refine (CC.out _ (by first | assumption | exact hxx.drew | exact (new_ext _ _).drew | exact new_ext _ _ | exact hxx.drew.trans (new_ext _ _))).mono ?_; rintro e w5 ⟨A5, c5, L5, rfl, r5, x5, y5⟩; obtain ⟨z0, z1, z2⟩ := HH.out w5 x5)
              | (refine step_append_parts qTyOk rfl _ _ (by rfl) W2.heap.size a.length 1 _ (.slice A5 a.length c5) (.slice (some ⟨w5.heap.size, 0, none⟩) 1 1) L5 [t] (by rfl) (by rfl) (HROW.out w5 A5 c5 L5 x5 r5.out.2.1).1 (HROW.out w5 A5 c5 L5 x5 r5.out.2.1).2.1 r5.out.1 rfl (by omega) (HROW.out w5 A5 c5 L5 x5 r5.out.2.1).2.2.size ?_; intro A9 c9 w9 r9 g9 o9; have X9 := Lib.hid (And.intro (HAPP.out w5 _ w9 A5 c5 L5 x5 (new_ext _ _) (HROW.out w5 A5 c5 L5 x5 r5.out.2.1).1 r5.out.2.2.1 g9) r9); clear r9 g9 o9)
              | (refine step_append_parts qTyOk rfl _ _ (by rfl) W2.heap.size a.length 1 _ (.slice A5 a.length c5) (.slice (some ⟨W2.heap.size, 0, none⟩) 1 1) L5 [t] (by rfl) (by rfl) r5.out.2.1 (HSRC2.out _ w5 (by rfl) y5) r5.out.1 rfl (by omega) x5.size ?_; intro A9 c9 w9 r9 g9 o9; have X9 := Lib.hid (And.intro (HAPP.out w5 _ w9 A5 c5 L5 x5 (Below.refl _ _) r5.out.2.1 r5.out.2.2.1 g9) r9); clear r9 g9 o9)
              | (go_simp; go_at_call 27; with_reducible refine (CS.out _ A9 c9 (L5 ++ [t]) (by first | exact X9.out.1.1 | exact X9.out.1.1.drew) (by exact X9.out.2) (by exact X9.out.1.2)).mono ?_; rintro e w7 ⟨out, rfl, h7⟩))
            all_goals
              cases hs : solveL (a ++ [r2]) with
              | none =>
                have HN := Lib.hid (HNONE.out hs)
                have H7 := Lib.hid h7.out.2
                clear hs h7
                simp only [Option.isSome_none]
                go_wp2
                go_roundw
                case rel => exact ⟨j + 1, hlt, by go_num, HN.out, H7.out⟩
                case measure => simp [intOf]; omega
              | some o =>
                have HN := Lib.hid (HSOME.out o hs)
                rw [hs] at h7
                have H7 := Lib.hid h7.out
                clear hs h7
                simp only [Option.isSome_some]
                go_wp2
                go_ret3
                exact imp_no HE0.out HN.out H7.out.1 H7.out.2
          · obtain ⟨W1, hW⟩ : ∃ W, W = wr.alloc (.cells #[.string rk, .int .i64 3, .slice A2 rn c2] reqT) := ⟨_, rfl⟩
            obtain ⟨kb, hkb⟩ : ∃ kb, kb = wr.heap.size := ⟨_, rfl⟩
            have HW := Lib.hid (And.intro hW hkb)
            have hh : W1.heap[kb]? = some (.cells #[.string rk, .int .i64 3, .slice A2 rn c2] reqT (0, 0)) := by rw [hW]; exact heap_new hkb
            have HX3 : Hid (Ext wr W1 ∧ wr.heap.size ≤ kb) := ⟨by rw [hW]; exact new_ext _ _, by omega⟩
            clear hW hkb
            go_upto_region 10 with fail
            rw [← HW.out.1, ← HW.out.2]
            clear x0 x1 x2
            obtain ⟨y0, y1, y2⟩ := cells3' hh
            have f1 := row_free (k := 1) hh
            obtain ⟨W2, hW2⟩ : ∃ W2, W2 = W1.setCell ⟨kb, 1, none⟩ (.int .i64 4) := ⟨_, rfl⟩
            have hh2 : W2.heap[kb]? = some (.cells #[.string rk, .int .i64 4, .slice A2 rn c2] reqT (0, 0)) := by rw [hW2]; exact heap_setCell_same _ _ _ _ _ _ hh
            have HX4 : Hid (Ext wr W2 ∧ Ext w W2) := by
              have h : Ext wr W2 := by rw [hW2]; exact HX3.out.1.setCell (p := ⟨kb, 1, none⟩) HX3.out.2 _
              exact ⟨h, hR.out.2.trans h⟩
            have HH2 := Lib.hid hh2
            have e2 := hW2.symm
            clear hW2 hh hh2
            go_upto_region 15 with fail
            clear e2 y0 y1 y2 f1
            have HH : Hid (∀ wk, Ext W2 wk → wk.cell? ⟨kb, 0, none⟩ = some (.string rk) ∧ wk.cell? ⟨kb, 1, none⟩ = some (.int .i64 4) ∧ wk.cell? ⟨kb, 2, none⟩ = some (.slice A2 rn c2)) := fun wk hk => cells3' ((hk.block _ (heap_lt HH2.out)).trans HH2.out)
            obtain ⟨z0, z1, z2⟩ := HH.out W2 (Below.refl _ _)
            obtain ⟨s0, s1, s2⟩ := HH.out W2.drew ((Below.refl _ _).drew)
            have CC : Hid (∀ wk, Ext W2 wk → Calls Tryz.prog 30 #[.slice A a.length c] wk fun e w' => ∃ A5 c5 L5, e = .returned (.slice A5 a.length c5) ∧ Hid (L5.length = a.length ∧ RRow reqT W2.heap.size w' (.slice A5 a.length c5) L5 ∧ RepL B w' L5 a ∧ (∀ z, (Value.slice A5 a.length c5).ownBlock = some z → wk.heap.size ≤ z)) ∧ Ext W2 w' ∧ Ext wk w') := fun wk hk => by
              have hwk : Ext w wk := HX4.out.2.trans hk
              refine (copyQ_any (HV.out.1.below (hwk.mono HB.out) (Nat.le_refl _)) (by omega)).mono fun e w' ⟨A5, c5, L5, he, hrow, hrep, hx⟩ => ?_
              exact ⟨A5, c5, L5, he, ⟨hrep.1, hrow.low hk.size, hrep.below (hx.mono (Nat.le_trans HB.out hwk.size)) (Nat.le_refl _), fun z hz => (hrow.block z hz).1⟩, hk.trans hx, hx⟩
            have HROW : Hid (∀ (w5 : World) (A5 : Option Addr) (c5 : Nat) (L5 : List Rw), Ext W2 w5 → RRow reqT W2.heap.size w5 (.slice A5 a.length c5) L5 → RRow reqT W2.heap.size (w5.alloc (.cells #[.string rk, .int .i64 4, .slice A2 rn c2] reqT)) (.slice A5 a.length c5) L5 ∧ RSrc (w5.alloc (.cells #[.string rk, .int .i64 4, .slice A2 rn c2] reqT)) (.slice (some ⟨w5.heap.size, 0, none⟩) 1 1) [t] ∧ Ext W2 (w5.alloc (.cells #[.string rk, .int .i64 4, .slice A2 rn c2] reqT))) := fun w5 A5 c5 L5 hx5 h5 => by
              refine ⟨h5.ext (new_ext _ _), ?_, hx5.trans (new_ext _ _)⟩
              rw [HTT.out]
              exact RSrc.of_block (L := [⟨rk, 4, A2, rn, c2⟩]) (et := reqT) (c := 1) (heap_new rfl)
            have HAPP : Hid (∀ (w5 w6 w9 : World) (A5 : Option Addr) (c5 : Nat) (L5 : List Rw), Ext W2 w5 → Ext w5 w6 → RRow reqT W2.heap.size w6 (.slice A5 a.length c5) L5 → RepL B w5 L5 a → w6.grownBy w9 (Value.slice A5 a.length c5).ownBlock → Ext W2 w9 ∧ RepL B w9 (L5 ++ [t]) (a ++ [r2])) := fun w5 w6 w9 A5 c5 L5 hx5 hx6 h1 hp hg9 => by
              have h3 : Ext W2 w6 := hx5.trans hx6
              have hb := rrow_below h1 hg9 h3.size
              have hX : Ext W2 w9 := Below.trans h3 hb
              have hBW : B ≤ W2.heap.size := Nat.le_trans HB.out HX4.out.2.size
              refine ⟨hX, ?_⟩
              have hq := hp.below (Below.trans (hx6.mono (Nat.le_trans hBW hx5.size)) (hb.mono hBW)) (Nat.le_refl _)
              exact hq.more (HT.out.below ((HX4.out.1.trans hX).mono (Nat.le_trans HB.out hR.out.2.size)) (Nat.le_refl _))
            have CS : Hid (∀ (w9 : World) (A9 : Option Addr) (c9 : Nat) (L9 : List Rw), Ext W2 w9 → RRow reqT W2.heap.size w9 (.slice A9 (a.length + 1) c9) L9 → RepL B w9 L9 (a ++ [r2]) → Calls Tryz.prog 27 #[.slice A9 (a.length + 1) c9] w9 fun e w' => ∃ out, e = .returned (.tuple #[out, .bool (solveL (a ++ [r2])).isSome]) ∧ Hid (LabsR w'.heap.size w' out ((solveL (a ++ [r2])).getD []) ∧ Ext w w')) := fun w9 A9 c9 L9 hx9 hr9 hp9 => by
              have hw9 : Ext w w9 := HX4.out.2.trans hx9
              refine (rsolve_any w9.heap.size _ (a ++ [r2]) w9 (Nat.le_refl _) (reqs_of_row hr9 hp9 (Nat.le_trans HB.out hw9.size) (by rw [List.length_append]; simp; omega)) HG.out).mono fun e w' hp => ?_
              obtain ⟨out, he, hl, hx⟩ := sol_labs hp
              exact ⟨out, he, hl, hw9.trans hx⟩
            have hxx : Ext W2 W2 := Below.refl _ _
            have HSRC2 : Hid (∀ (wk w5 : World), wk.heap = (W2.alloc (.cells #[.string rk, .int .i64 4, .slice A2 rn c2] reqT)).heap → Ext wk w5 → RSrc w5 (.slice (some ⟨W2.heap.size, 0, none⟩) 1 1) [t]) := fun wk w5 hk hx => by
              have hb : wk.heap[W2.heap.size]? = some (.cells #[.string rk, .int .i64 4, .slice A2 rn c2] reqT (0, 0)) := by rw [hk]; exact heap_new rfl
              rw [HTT.out]
              exact RSrc.of_block (L := [⟨rk, 4, A2, rn, c2⟩]) (et := reqT) (c := 1) ((hx.block _ (heap_lt hb)).trans hb)
            go_region_law (first
              | (go_simp; go_at_call 30; with_reducible refine (CC.out _ (by first | assumption | exact hxx.drew | exact (new_ext _ _).drew | exact new_ext _ _ | exact hxx.drew.trans (new_ext _ _))).mono ?_; rintro e w5 ⟨A5, c5, L5, rfl, r5, x5, y5⟩; obtain ⟨z0, z1, z2⟩ := HH.out w5 x5)
              | (refine step_append_parts qTyOk rfl _ _ (by rfl) W2.heap.size a.length 1 _ (.slice A5 a.length c5) (.slice (some ⟨w5.heap.size, 0, none⟩) 1 1) L5 [t] (by rfl) (by rfl) (HROW.out w5 A5 c5 L5 x5 r5.out.2.1).1 (HROW.out w5 A5 c5 L5 x5 r5.out.2.1).2.1 r5.out.1 rfl (by omega) (HROW.out w5 A5 c5 L5 x5 r5.out.2.1).2.2.size ?_; intro A9 c9 w9 r9 g9 o9; have X9 := Lib.hid (And.intro (HAPP.out w5 _ w9 A5 c5 L5 x5 (new_ext _ _) (HROW.out w5 A5 c5 L5 x5 r5.out.2.1).1 r5.out.2.2.1 g9) r9); clear r9 g9 o9)
              | (refine step_append_parts qTyOk rfl _ _ (by rfl) W2.heap.size a.length 1 _ (.slice A5 a.length c5) (.slice (some ⟨W2.heap.size, 0, none⟩) 1 1) L5 [t] (by rfl) (by rfl) r5.out.2.1 (HSRC2.out _ w5 (by rfl) y5) r5.out.1 rfl (by omega) x5.size ?_; intro A9 c9 w9 r9 g9 o9; have X9 := Lib.hid (And.intro (HAPP.out w5 _ w9 A5 c5 L5 x5 (Below.refl _ _) r5.out.2.1 r5.out.2.2.1 g9) r9); clear r9 g9 o9)
              | (go_simp; go_at_call 27; with_reducible refine (CS.out _ A9 c9 (L5 ++ [t]) (by first | exact X9.out.1.1 | exact X9.out.1.1.drew) (by exact X9.out.2) (by exact X9.out.1.2)).mono ?_; rintro e w7 ⟨out, rfl, h7⟩))
            all_goals
              cases hs : solveL (a ++ [r2]) with
              | none =>
                have HN := Lib.hid (HNONE.out hs)
                have H7 := Lib.hid h7.out.2
                clear hs h7
                simp only [Option.isSome_none]
                go_wp2
                go_roundw
                case rel => exact ⟨j + 1, hlt, by go_num, HN.out, H7.out⟩
                case measure => simp [intOf]; omega
              | some o =>
                have HN := Lib.hid (HSOME.out o hs)
                rw [hs] at h7
                have H7 := Lib.hid h7.out
                clear hs h7
                simp only [Option.isSome_some]
                go_wp2
                go_ret3
                exact imp_no HE0.out HN.out H7.out.1 H7.out.2
          · obtain ⟨W1, hW⟩ : ∃ W, W = wr.alloc (.cells #[.string rk, .int .i64 4, .slice A2 rn c2] reqT) := ⟨_, rfl⟩
            obtain ⟨kb, hkb⟩ : ∃ kb, kb = wr.heap.size := ⟨_, rfl⟩
            have HW := Lib.hid (And.intro hW hkb)
            have hh : W1.heap[kb]? = some (.cells #[.string rk, .int .i64 4, .slice A2 rn c2] reqT (0, 0)) := by rw [hW]; exact heap_new hkb
            have HX3 : Hid (Ext wr W1 ∧ wr.heap.size ≤ kb) := ⟨by rw [hW]; exact new_ext _ _, by omega⟩
            clear hW hkb
            go_upto_region 10 with fail
            rw [← HW.out.1, ← HW.out.2]
            clear x0 x1 x2
            obtain ⟨y0, y1, y2⟩ := cells3' hh
            have f1 := row_free (k := 1) hh
            obtain ⟨W2, hW2⟩ : ∃ W2, W2 = W1.setCell ⟨kb, 1, none⟩ (.int .i64 3) := ⟨_, rfl⟩
            have hh2 : W2.heap[kb]? = some (.cells #[.string rk, .int .i64 3, .slice A2 rn c2] reqT (0, 0)) := by rw [hW2]; exact heap_setCell_same _ _ _ _ _ _ hh
            have HX4 : Hid (Ext wr W2 ∧ Ext w W2) := by
              have h : Ext wr W2 := by rw [hW2]; exact HX3.out.1.setCell (p := ⟨kb, 1, none⟩) HX3.out.2 _
              exact ⟨h, hR.out.2.trans h⟩
            have HH2 := Lib.hid hh2
            have e2 := hW2.symm
            clear hW2 hh hh2
            go_upto_region 15 with fail
            clear e2 y0 y1 y2 f1
            have HH : Hid (∀ wk, Ext W2 wk → wk.cell? ⟨kb, 0, none⟩ = some (.string rk) ∧ wk.cell? ⟨kb, 1, none⟩ = some (.int .i64 3) ∧ wk.cell? ⟨kb, 2, none⟩ = some (.slice A2 rn c2)) := fun wk hk => cells3' ((hk.block _ (heap_lt HH2.out)).trans HH2.out)
            obtain ⟨z0, z1, z2⟩ := HH.out W2 (Below.refl _ _)
            obtain ⟨s0, s1, s2⟩ := HH.out W2.drew ((Below.refl _ _).drew)
            have CC : Hid (∀ wk, Ext W2 wk → Calls Tryz.prog 30 #[.slice A a.length c] wk fun e w' => ∃ A5 c5 L5, e = .returned (.slice A5 a.length c5) ∧ Hid (L5.length = a.length ∧ RRow reqT W2.heap.size w' (.slice A5 a.length c5) L5 ∧ RepL B w' L5 a ∧ (∀ z, (Value.slice A5 a.length c5).ownBlock = some z → wk.heap.size ≤ z)) ∧ Ext W2 w' ∧ Ext wk w') := fun wk hk => by
              have hwk : Ext w wk := HX4.out.2.trans hk
              refine (copyQ_any (HV.out.1.below (hwk.mono HB.out) (Nat.le_refl _)) (by omega)).mono fun e w' ⟨A5, c5, L5, he, hrow, hrep, hx⟩ => ?_
              exact ⟨A5, c5, L5, he, ⟨hrep.1, hrow.low hk.size, hrep.below (hx.mono (Nat.le_trans HB.out hwk.size)) (Nat.le_refl _), fun z hz => (hrow.block z hz).1⟩, hk.trans hx, hx⟩
            have HROW : Hid (∀ (w5 : World) (A5 : Option Addr) (c5 : Nat) (L5 : List Rw), Ext W2 w5 → RRow reqT W2.heap.size w5 (.slice A5 a.length c5) L5 → RRow reqT W2.heap.size (w5.alloc (.cells #[.string rk, .int .i64 3, .slice A2 rn c2] reqT)) (.slice A5 a.length c5) L5 ∧ RSrc (w5.alloc (.cells #[.string rk, .int .i64 3, .slice A2 rn c2] reqT)) (.slice (some ⟨w5.heap.size, 0, none⟩) 1 1) [t] ∧ Ext W2 (w5.alloc (.cells #[.string rk, .int .i64 3, .slice A2 rn c2] reqT))) := fun w5 A5 c5 L5 hx5 h5 => by
              refine ⟨h5.ext (new_ext _ _), ?_, hx5.trans (new_ext _ _)⟩
              rw [HTT.out]
              exact RSrc.of_block (L := [⟨rk, 3, A2, rn, c2⟩]) (et := reqT) (c := 1) (heap_new rfl)
            have HAPP : Hid (∀ (w5 w6 w9 : World) (A5 : Option Addr) (c5 : Nat) (L5 : List Rw), Ext W2 w5 → Ext w5 w6 → RRow reqT W2.heap.size w6 (.slice A5 a.length c5) L5 → RepL B w5 L5 a → w6.grownBy w9 (Value.slice A5 a.length c5).ownBlock → Ext W2 w9 ∧ RepL B w9 (L5 ++ [t]) (a ++ [r2])) := fun w5 w6 w9 A5 c5 L5 hx5 hx6 h1 hp hg9 => by
              have h3 : Ext W2 w6 := hx5.trans hx6
              have hb := rrow_below h1 hg9 h3.size
              have hX : Ext W2 w9 := Below.trans h3 hb
              have hBW : B ≤ W2.heap.size := Nat.le_trans HB.out HX4.out.2.size
              refine ⟨hX, ?_⟩
              have hq := hp.below (Below.trans (hx6.mono (Nat.le_trans hBW hx5.size)) (hb.mono hBW)) (Nat.le_refl _)
              exact hq.more (HT.out.below ((HX4.out.1.trans hX).mono (Nat.le_trans HB.out hR.out.2.size)) (Nat.le_refl _))
            have CS : Hid (∀ (w9 : World) (A9 : Option Addr) (c9 : Nat) (L9 : List Rw), Ext W2 w9 → RRow reqT W2.heap.size w9 (.slice A9 (a.length + 1) c9) L9 → RepL B w9 L9 (a ++ [r2]) → Calls Tryz.prog 27 #[.slice A9 (a.length + 1) c9] w9 fun e w' => ∃ out, e = .returned (.tuple #[out, .bool (solveL (a ++ [r2])).isSome]) ∧ Hid (LabsR w'.heap.size w' out ((solveL (a ++ [r2])).getD []) ∧ Ext w w')) := fun w9 A9 c9 L9 hx9 hr9 hp9 => by
              have hw9 : Ext w w9 := HX4.out.2.trans hx9
              refine (rsolve_any w9.heap.size _ (a ++ [r2]) w9 (Nat.le_refl _) (reqs_of_row hr9 hp9 (Nat.le_trans HB.out hw9.size) (by rw [List.length_append]; simp; omega)) HG.out).mono fun e w' hp => ?_
              obtain ⟨out, he, hl, hx⟩ := sol_labs hp
              exact ⟨out, he, hl, hw9.trans hx⟩
            have hxx : Ext W2 W2 := Below.refl _ _
            have HSRC2 : Hid (∀ (wk w5 : World), wk.heap = (W2.alloc (.cells #[.string rk, .int .i64 3, .slice A2 rn c2] reqT)).heap → Ext wk w5 → RSrc w5 (.slice (some ⟨W2.heap.size, 0, none⟩) 1 1) [t]) := fun wk w5 hk hx => by
              have hb : wk.heap[W2.heap.size]? = some (.cells #[.string rk, .int .i64 3, .slice A2 rn c2] reqT (0, 0)) := by rw [hk]; exact heap_new rfl
              rw [HTT.out]
              exact RSrc.of_block (L := [⟨rk, 3, A2, rn, c2⟩]) (et := reqT) (c := 1) ((hx.block _ (heap_lt hb)).trans hb)
            go_region_law (first
              | (go_simp; go_at_call 30; with_reducible refine (CC.out _ (by first | assumption | exact hxx.drew | exact (new_ext _ _).drew | exact new_ext _ _ | exact hxx.drew.trans (new_ext _ _))).mono ?_; rintro e w5 ⟨A5, c5, L5, rfl, r5, x5, y5⟩; obtain ⟨z0, z1, z2⟩ := HH.out w5 x5)
              | (refine step_append_parts qTyOk rfl _ _ (by rfl) W2.heap.size a.length 1 _ (.slice A5 a.length c5) (.slice (some ⟨w5.heap.size, 0, none⟩) 1 1) L5 [t] (by rfl) (by rfl) (HROW.out w5 A5 c5 L5 x5 r5.out.2.1).1 (HROW.out w5 A5 c5 L5 x5 r5.out.2.1).2.1 r5.out.1 rfl (by omega) (HROW.out w5 A5 c5 L5 x5 r5.out.2.1).2.2.size ?_; intro A9 c9 w9 r9 g9 o9; have X9 := Lib.hid (And.intro (HAPP.out w5 _ w9 A5 c5 L5 x5 (new_ext _ _) (HROW.out w5 A5 c5 L5 x5 r5.out.2.1).1 r5.out.2.2.1 g9) r9); clear r9 g9 o9)
              | (refine step_append_parts qTyOk rfl _ _ (by rfl) W2.heap.size a.length 1 _ (.slice A5 a.length c5) (.slice (some ⟨W2.heap.size, 0, none⟩) 1 1) L5 [t] (by rfl) (by rfl) r5.out.2.1 (HSRC2.out _ w5 (by rfl) y5) r5.out.1 rfl (by omega) x5.size ?_; intro A9 c9 w9 r9 g9 o9; have X9 := Lib.hid (And.intro (HAPP.out w5 _ w9 A5 c5 L5 x5 (Below.refl _ _) r5.out.2.1 r5.out.2.2.1 g9) r9); clear r9 g9 o9)
              | (go_simp; go_at_call 27; with_reducible refine (CS.out _ A9 c9 (L5 ++ [t]) (by first | exact X9.out.1.1 | exact X9.out.1.1.drew) (by exact X9.out.2) (by exact X9.out.1.2)).mono ?_; rintro e w7 ⟨out, rfl, h7⟩))
            all_goals
              cases hs : solveL (a ++ [r2]) with
              | none =>
                have HN := Lib.hid (HNONE.out hs)
                have H7 := Lib.hid h7.out.2
                clear hs h7
                simp only [Option.isSome_none]
                go_wp2
                go_roundw
                case rel => exact ⟨j + 1, hlt, by go_num, HN.out, H7.out⟩
                case measure => simp [intOf]; omega
              | some o =>
                have HN := Lib.hid (HSOME.out o hs)
                rw [hs] at h7
                have H7 := Lib.hid h7.out
                clear hs h7
                simp only [Option.isSome_some]
                go_wp2
                go_ret3
                exact imp_no HE0.out HN.out H7.out.1 H7.out.2
        · have HN : Hid (impliesL a b = none) := implies_none (by have e : j = b.length := by omega
                                                                  rw [← e]; exact hR.out.1)
          go_wp2
          go_ret3
          exact imp_yes HE0.out HN.out hR.out.2
    · obtain ⟨n, hn⟩ : ∃ n, n = checkQ b := ⟨_, rfl⟩
      rw [← hn] at h1 HE
      have H1 := Lib.hid h1
      have b0 : (n != 0) = true := by simp [h1]
      have b1 : (n == 0) = false := by simp [h1]
      rw [← hn]
      clear h1 hn
      go_wp2
      go_ret3
      exact imp_bad HE.out H1.out HX2.out
  · have HE : Hid (impE a b = checkQ a) := if_neg h0
    obtain ⟨n, hn⟩ : ∃ n, n = checkQ a := ⟨_, rfl⟩
    rw [← hn] at h0 HE
    have H0 := Lib.hid h0
    have b0 : (n != 0) = true := by simp [h0]
    have b1 : (n == 0) = false := by simp [h0]
    rw [← hn]
    clear h0 hn CQ
    go_wp2
    go_ret3
    exact imp_bad HE.out H0.out HX1.out
end Go.Proofs.YtplfimoeggecjaaGreatDoor.Qs
