/-
  Flow: the heap's up.
-/
import Derived.Test.YtpbbohinhbboaaaFl2
namespace Go.Proofs.Ytpbbohinhbboaaa.Fw
open Go Go.RowKit Go.Proofs.Ytpbbohinhbboaaa.Sx

set_option maxRecDepth 100000 in
set_option maxHeartbeats 4000000 in
theorem up_any (base gF : Nat) (v : Value) (L : List Th) (j : Nat) (w : World) (hF : w.cell? ⟨gF, 3, none⟩ = some v) (h : TRow pT base w v L) (hu : UpI L L.length j) (hj : j < L.length) (hL : L.length ≤ 64) (hne : v.ownBlock ≠ some gF) :
    Calls Try.prog 116 #[.iface ptrT (.pointer (some ⟨gF, 3, none⟩)), .int .i64 (j : Int)] w fun e w' => e = .returned (.tuple #[]) ∧ ∃ M, HeapN M L.length ∧ M.Perm L ∧ TRow pT base w' v M ∧ w.grownBy w' v.ownBlock := by
  go_enter Try.func116, Try.ntmps116
  go_wp2
  go_loopw [1] (fun x wr => ∃ (k : Nat) (M : List Th), x = .int .i64 (k : Int) ∧ k < M.length ∧ Hid (UpI M L.length k ∧ M.length = L.length ∧ M.Perm L ∧ TRow pT base wr v M ∧ w.grownBy wr v.ownBlock)) (fun x _ => (intOf x).toNat)
  case atStart => exact ⟨j, L, rfl, hj, hu, rfl, .refl _, h, grown_refl _ _⟩
  case round =>
    obtain ⟨k, M, rfl, hk, hI⟩ := hrel
    by_cases h0 : k = 0
    · subst h0
      go_wp2_with fail
      go_end0
      exact ⟨rfl, M, up_end hI.out.1 (.inl rfl), hI.out.2.2⟩
    · obtain ⟨p, hp⟩ : ∃ p, p = par k := ⟨_, rfl⟩
      have hpk : p < k := by rw [hp]; exact par_lt (by omega)
      have hk1 : (1 : Int) ≤ (k : Int) := by omega
      have hk64 : (k : Int) ≤ 64 := by have := hI.out.2.1; omega
      have hdiv : ((k : Int) - 1) / 2 = (p : Int) := by rw [hp]; unfold par; omega
      have hpk1 : ((p : Int) == (k : Int)) = false := by simp; omega
      have HP := Lib.hid hp
      have HD := Lib.hid hdiv
      have HKP := Lib.hid hpk
      have hpM : p < M.length := by omega
      have hF1 : wr.cell? ⟨gF, 3, none⟩ = some v := grown_cell hI.out.2.2.2.2 hF hne
      have hm1 := m_less ⟨gF, 3, none⟩ v wr hF1
      have HF1 := Lib.hid hF1
      obtain ⟨b, hb⟩ : ∃ b, b = decide (lt (nth M k) (nth M p)) := ⟨_, rfl⟩
      have HB := Lib.hid hb
      have CL : Hid (Calls Try.prog 191 #[v, .int .i64 (k : Int), .int .i64 (p : Int)] wr fun e w' => e = .returned (.bool b) ∧ Ext wr w') := by
        have := less_any base v M k p wr hI.out.2.2.2.1 hk hpM
        rw [hb]
        exact this
      clear hp h0 hpk hF1 hb hF
      cases b with
      | false =>
        go_wp2_with (go_at_call 191; (with_reducible refine CL.out.mono ?_); rintro e w2 ⟨rfl, hx2⟩; have HX2 := Lib.hid hx2; clear hx2)
        go_end0
        obtain ⟨i1, i2, i3, i4, i5⟩ := hI.out
        exact ⟨rfl, M, up_end i1 (.inr (by rw [← HP.out]; exact of_decide_eq_false HB.out.symm)), i3, i4.ext HX2.out, grown_trans i5 (grown_of_extB' HX2.out)⟩
      | true =>
        go_wp2_with (first
          | (go_at_call 191; (with_reducible refine CL.out.mono ?_); rintro e w2 ⟨rfl, hx2⟩; have hm2 := m_swap ⟨gF, 3, none⟩ v w2 (grown_cell (grown_of_extB' (row := none) hx2) HF1.out (by simp)); have HX2 := Lib.hid hx2; clear hx2)
          | (go_at_call 192; (with_reducible refine (swap_any base v M p k w2 (hI.out.2.2.2.1.ext HX2.out) hpM hk).mono ?_); rintro e w3 ⟨rfl, h3, h4⟩; have H3 := Lib.hid (And.intro h3 h4); clear h3 h4))
        go_roundw
        case rel =>
          obtain ⟨i1, i2, i3, i4, i5⟩ := hI.out
          have hup := up_step i1 (by omega) (by omega) (by omega) (by rw [← HP.out]; exact of_decide_eq_true HB.out.symm)
          rw [← HP.out] at hup
          exact ⟨p, swapL M p k, rfl, by rw [swap_len]; exact hpM, hup, (swap_len _ _ _).trans i2, (swap_perm hpM hk).trans i3, H3.out.1, grown_trans (grown_trans i5 (grown_of_extB' HX2.out)) H3.out.2⟩
        case measure => have := HKP.out; have := HD.out; simp [intOf]; omega
end Go.Proofs.Ytpbbohinhbboaaa.Fw
