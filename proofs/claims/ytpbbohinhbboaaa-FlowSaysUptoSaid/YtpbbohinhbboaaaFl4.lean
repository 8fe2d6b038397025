/-
  Flow: the heap's down.
-/
import Derived.Test.YtpbbohinhbboaaaFl3
namespace Go.Proofs.Ytpbbohinhbboaaa.Fw
open Go Go.RowKit Go.Proofs.Ytpbbohinhbboaaa.Sx

set_option maxRecDepth 100000 in
set_option maxHeartbeats 8000000 in
theorem down_any (base gF n : Nat) (v : Value) (L : List Th) (w : World) (hF : w.cell? ⟨gF, 3, none⟩ = some v) (h : TRow pT base w v L) (hu : DownI L n 0) (hn : n < L.length) (hL : L.length ≤ 64) (hne : v.ownBlock ≠ some gF) :
    Calls Try.prog 117 #[.iface ptrT (.pointer (some ⟨gF, 3, none⟩)), .int .i64 0, .int .i64 (n : Int)] w fun e w' => ∃ b, e = .returned (.bool b) ∧ ∃ M, HeapN M n ∧ M.Perm L ∧ (∀ k, n ≤ k → nth M k = nth L k) ∧ TRow pT base w' v M ∧ w.grownBy w' v.ownBlock := by
  have hn64 : (n : Int) ≤ 64 := by omega
  go_enter Try.func117, Try.ntmps117
  go_wp2
  go_loopw [7] (fun x wr => ∃ (k : Nat) (M : List Th), x = .int .i64 (k : Int) ∧ k < M.length ∧ Hid (DownI M n k ∧ M.length = L.length ∧ M.Perm L ∧ (∀ c, n ≤ c → nth M c = nth L c) ∧ TRow pT base wr v M ∧ w.grownBy wr v.ownBlock)) (fun x _ => 64 - (intOf x).toNat)
  case atStart => exact ⟨0, L, rfl, by omega, hu, rfl, .refl _, fun _ _ => rfl, h, grown_refl _ _⟩
  case round =>
    obtain ⟨k, M, rfl, hk, hI⟩ := hrel
    have hk64 : (k : Int) ≤ 64 := by have := hI.out.2.1; omega
    have hML : M.length ≤ 64 := by have := hI.out.2.1; omega
    have hnM : n < M.length := by have := hI.out.2.1; omega
    have hF1 : wr.cell? ⟨gF, 3, none⟩ = some v := grown_cell hI.out.2.2.2.2.2 hF hne
    have hm1 := m_less ⟨gF, 3, none⟩ v wr hF1
    have HF1 := Lib.hid hF1
    clear hF1 hF
    by_cases h1 : 2 * k + 1 < n
    · obtain ⟨q, hq⟩ : ∃ q, q = 2 * k + 1 := ⟨_, rfl⟩
      obtain ⟨r, hr⟩ : ∃ r, r = q + 1 := ⟨_, rfl⟩
      have e1 : 2 * (k : Int) + 1 = (q : Int) := by omega
      have e2 : (q : Int) + 1 = (r : Int) := by omega
      have hq64 : (q : Int) ≤ 64 := by omega
      have tq : decide (n ≤ q) = false := by simp; omega
      have tq0 : decide ((q : Int) < 0) = false := by simp
      have hqn : q < n := by omega
      have hdef := And.intro hq hr
      clear h1
      by_cases h2 : r < n
      · have tr : decide (r < n) = true := by simp; omega
        obtain ⟨b, hb⟩ : ∃ b, b = decide (lt (nth M r) (nth M q)) := ⟨_, rfl⟩
        have HB := Lib.hid hb
        have CL : Hid (Calls Try.prog 191 #[v, .int .i64 (r : Int), .int .i64 (q : Int)] wr fun e w' => e = .returned (.bool b) ∧ Ext wr w') := by
          have := less_any base v M r q wr hI.out.2.2.2.2.1 (by omega) (by omega)
          rw [hb]
          exact this
        clear hb hq hr
        cases b with
        | true =>
          obtain ⟨b2, hb2⟩ : ∃ b, b = decide (lt (nth M r) (nth M k)) := ⟨_, rfl⟩
          have HB2 := Lib.hid hb2
          have CL2 : Hid (∀ wk, Ext wr wk → Calls Try.prog 191 #[v, .int .i64 (r : Int), .int .i64 (k : Int)] wk fun e w' => e = .returned (.bool b2) ∧ Ext wk w') := fun wk hw => by
            have := less_any base v M r k wk (hI.out.2.2.2.2.1.ext hw) (by omega) hk
            rw [hb2]
            exact this
          have HMIN : Hid (∀ c, 0 < c → c < n → par c = k → ¬ lt (nth M c) (nth M r)) := fun c c0 hc hpc => by
            have hc2 : c = q ∨ c = r := by unfold par at hpc; omega
            have hl : lt (nth M r) (nth M q) := of_decide_eq_true HB.out.symm
            rcases hc2 with rfl | rfl
            · exact lt_asymm hl
            · exact fun h => lt_asymm h h
          have HPJ : Hid (par r = k ∧ 0 < r ∧ r < n) := ⟨by unfold par; omega, by omega, by omega⟩
          clear hb2 hdef
          cases b2 with
          | false =>
            go_wp2_with (first
              | (go_at_call 191; (with_reducible refine (CL.out.mono ?_)); rintro e w2 ⟨rfl, hx2⟩; have hm2 := m_less ⟨gF, 3, none⟩ v w2 (grown_cell (grown_of_extB' (row := none) hx2) HF1.out (by simp)); have HX2 := Lib.hid hx2; clear hx2)
              | (go_at_call 191; (with_reducible refine (CL2.out _ (HX2.out)).mono ?_); rintro e w3 ⟨rfl, hx3⟩; have HX3 := Lib.hid hx3; clear hx3))
            go_ret
            obtain ⟨i1, i2, i3, i4, i5, i6⟩ := hI.out
            exact ⟨_, rfl, M, down_end i1 (fun c c0 hc hpc => nlt_trans (HMIN.out c c0 hc hpc) (of_decide_eq_false HB2.out.symm)), i3, i4, i5.ext (HX2.out.trans HX3.out), grown_trans i6 (grown_of_extB' (HX2.out.trans HX3.out))⟩
          | true =>
            go_wp2_with (first
              | (go_at_call 191; (with_reducible refine (CL.out.mono ?_)); rintro e w2 ⟨rfl, hx2⟩; have hm2 := m_less ⟨gF, 3, none⟩ v w2 (grown_cell (grown_of_extB' (row := none) hx2) HF1.out (by simp)); have HX2 := Lib.hid hx2; clear hx2)
              | (go_at_call 191; (with_reducible refine (CL2.out _ (HX2.out)).mono ?_); rintro e w3 ⟨rfl, hx3⟩; have hm3 := m_swap ⟨gF, 3, none⟩ v w3 (grown_cell (grown_of_extB' (row := none) (HX2.out.trans hx3)) HF1.out (by simp)); have HX3 := Lib.hid hx3; clear hx3)
              | (go_at_call 192; (with_reducible refine (swap_any base v M k r w3 (hI.out.2.2.2.2.1.ext (HX2.out.trans HX3.out)) hk (by omega)).mono ?_); rintro e w4 ⟨rfl, h3, h4⟩; have H4 := Lib.hid (And.intro h3 h4); clear h3 h4))
            go_roundw
            case rel =>
              obtain ⟨i1, i2, i3, i4, i5, i6⟩ := hI.out
              obtain ⟨p1, p2, p3⟩ := HPJ.out
              have hd := down_step i1 (by omega) p2 p3 p1 (of_decide_eq_true HB2.out.symm) HMIN.out
              exact ⟨r, swapL M k r, rfl, by rw [swap_len]; omega, hd, (swap_len _ _ _).trans i2, (swap_perm hk (by omega)).trans i3, fun c hc => by rw [nth_swap hk (by omega), if_neg (by omega), if_neg (by have := par_lt p2; omega)]; exact i4 c hc, H4.out.1, grown_trans (grown_trans i6 (grown_of_extB' (HX2.out.trans HX3.out))) H4.out.2⟩
            case measure => have := HPJ.out; have := par_lt HPJ.out.2.1; simp [intOf]; omega

        | false =>
          obtain ⟨b2, hb2⟩ : ∃ b, b = decide (lt (nth M q) (nth M k)) := ⟨_, rfl⟩
          have HB2 := Lib.hid hb2
          have CL2 : Hid (∀ wk, Ext wr wk → Calls Try.prog 191 #[v, .int .i64 (q : Int), .int .i64 (k : Int)] wk fun e w' => e = .returned (.bool b2) ∧ Ext wk w') := fun wk hw => by
            have := less_any base v M q k wk (hI.out.2.2.2.2.1.ext hw) (by omega) hk
            rw [hb2]
            exact this
          have HMIN : Hid (∀ c, 0 < c → c < n → par c = k → ¬ lt (nth M c) (nth M q)) := fun c c0 hc hpc => by
            have hc2 : c = q ∨ c = r := by unfold par at hpc; omega
            have hl : ¬ lt (nth M r) (nth M q) := of_decide_eq_false HB.out.symm
            rcases hc2 with rfl | rfl
            · exact fun h => lt_asymm h h
            · exact hl
          have HPJ : Hid (par q = k ∧ 0 < q ∧ q < n) := ⟨by unfold par; omega, by omega, by omega⟩
          clear hb2 hdef
          cases b2 with
          | false =>
            go_wp2_with (first
              | (go_at_call 191; (with_reducible refine (CL.out.mono ?_)); rintro e w2 ⟨rfl, hx2⟩; have hm2 := m_less ⟨gF, 3, none⟩ v w2 (grown_cell (grown_of_extB' (row := none) hx2) HF1.out (by simp)); have HX2 := Lib.hid hx2; clear hx2)
              | (go_at_call 191; (with_reducible refine (CL2.out _ (HX2.out)).mono ?_); rintro e w3 ⟨rfl, hx3⟩; have HX3 := Lib.hid hx3; clear hx3))
            go_ret
            obtain ⟨i1, i2, i3, i4, i5, i6⟩ := hI.out
            exact ⟨_, rfl, M, down_end i1 (fun c c0 hc hpc => nlt_trans (HMIN.out c c0 hc hpc) (of_decide_eq_false HB2.out.symm)), i3, i4, i5.ext (HX2.out.trans HX3.out), grown_trans i6 (grown_of_extB' (HX2.out.trans HX3.out))⟩
          | true =>
            go_wp2_with (first
              | (go_at_call 191; (with_reducible refine (CL.out.mono ?_)); rintro e w2 ⟨rfl, hx2⟩; have hm2 := m_less ⟨gF, 3, none⟩ v w2 (grown_cell (grown_of_extB' (row := none) hx2) HF1.out (by simp)); have HX2 := Lib.hid hx2; clear hx2)
              | (go_at_call 191; (with_reducible refine (CL2.out _ (HX2.out)).mono ?_); rintro e w3 ⟨rfl, hx3⟩; have hm3 := m_swap ⟨gF, 3, none⟩ v w3 (grown_cell (grown_of_extB' (row := none) (HX2.out.trans hx3)) HF1.out (by simp)); have HX3 := Lib.hid hx3; clear hx3)
              | (go_at_call 192; (with_reducible refine (swap_any base v M k q w3 (hI.out.2.2.2.2.1.ext (HX2.out.trans HX3.out)) hk (by omega)).mono ?_); rintro e w4 ⟨rfl, h3, h4⟩; have H4 := Lib.hid (And.intro h3 h4); clear h3 h4))
            go_roundw
            case rel =>
              obtain ⟨i1, i2, i3, i4, i5, i6⟩ := hI.out
              obtain ⟨p1, p2, p3⟩ := HPJ.out
              have hd := down_step i1 (by omega) p2 p3 p1 (of_decide_eq_true HB2.out.symm) HMIN.out
              exact ⟨q, swapL M k q, rfl, by rw [swap_len]; omega, hd, (swap_len _ _ _).trans i2, (swap_perm hk (by omega)).trans i3, fun c hc => by rw [nth_swap hk (by omega), if_neg (by omega), if_neg (by have := par_lt p2; omega)]; exact i4 c hc, H4.out.1, grown_trans (grown_trans i6 (grown_of_extB' (HX2.out.trans HX3.out))) H4.out.2⟩
            case measure => have := HPJ.out; have := par_lt HPJ.out.2.1; simp [intOf]; omega

      · have tr : decide (r < n) = false := by simp; omega
        clear hq hr
        obtain ⟨b2, hb2⟩ : ∃ b, b = decide (lt (nth M q) (nth M k)) := ⟨_, rfl⟩
        have HB2 := Lib.hid hb2
        have CL2 : Hid (∀ wk, Ext wr wk → Calls Try.prog 191 #[v, .int .i64 (q : Int), .int .i64 (k : Int)] wk fun e w' => e = .returned (.bool b2) ∧ Ext wk w') := fun wk hw => by
          have := less_any base v M q k wk (hI.out.2.2.2.2.1.ext hw) (by omega) hk
          rw [hb2]
          exact this
        have HMIN : Hid (∀ c, 0 < c → c < n → par c = k → ¬ lt (nth M c) (nth M q)) := fun c c0 hc hpc => by
          have hc2 : c = q := by unfold par at hpc; omega
          rw [hc2]
          exact fun h => lt_asymm h h
        have HPJ : Hid (par q = k ∧ 0 < q ∧ q < n) := ⟨by unfold par; omega, by omega, by omega⟩
        clear hb2 hdef
        cases b2 with
        | false =>
          go_wp2_with (first
            | (go_at_call 191; (with_reducible refine (CL2.out _ (Below.refl _ _)).mono ?_); rintro e w3 ⟨rfl, hx3⟩; have HX3 := Lib.hid hx3; clear hx3))
          go_ret
          obtain ⟨i1, i2, i3, i4, i5, i6⟩ := hI.out
          exact ⟨_, rfl, M, down_end i1 (fun c c0 hc hpc => nlt_trans (HMIN.out c c0 hc hpc) (of_decide_eq_false HB2.out.symm)), i3, i4, i5.ext HX3.out, grown_trans i6 (grown_of_extB' HX3.out)⟩
        | true =>
          go_wp2_with (first
            | (go_at_call 191; (with_reducible refine (CL2.out _ (Below.refl _ _)).mono ?_); rintro e w3 ⟨rfl, hx3⟩; have hm3 := m_swap ⟨gF, 3, none⟩ v w3 (grown_cell (grown_of_extB' (row := none) hx3) HF1.out (by simp)); have HX3 := Lib.hid hx3; clear hx3)
            | (go_at_call 192; (with_reducible refine (swap_any base v M k q w3 (hI.out.2.2.2.2.1.ext HX3.out) hk (by omega)).mono ?_); rintro e w4 ⟨rfl, h3, h4⟩; have H4 := Lib.hid (And.intro h3 h4); clear h3 h4))
          go_roundw
          case rel =>
            obtain ⟨i1, i2, i3, i4, i5, i6⟩ := hI.out
            obtain ⟨p1, p2, p3⟩ := HPJ.out
            have hd := down_step i1 (by omega) p2 p3 p1 (of_decide_eq_true HB2.out.symm) HMIN.out
            exact ⟨q, swapL M k q, rfl, by rw [swap_len]; omega, hd, (swap_len _ _ _).trans i2, (swap_perm hk (by omega)).trans i3, fun c hc => by rw [nth_swap hk (by omega), if_neg (by omega), if_neg (by have := par_lt p2; omega)]; exact i4 c hc, H4.out.1, grown_trans (grown_trans i6 (grown_of_extB' HX3.out)) H4.out.2⟩
          case measure => have := HPJ.out; have := par_lt HPJ.out.2.1; simp [intOf]; omega
    · have tq : decide ((n : Int) ≤ 2 * (k : Int) + 1) = true := by simp; omega
      have HND : Hid (¬ 2 * k + 1 < n) := h1
      clear h1
      go_wp2_with fail
      go_ret
      obtain ⟨i1, i2, i3, i4, i5, i6⟩ := hI.out
      exact ⟨_, rfl, M, down_end i1 (fun c c0 hc hpc => by have := HND.out; unfold par at hpc; omega), i3, i4, i5, i6⟩
end Go.Proofs.Ytpbbohinhbboaaa.Fw
