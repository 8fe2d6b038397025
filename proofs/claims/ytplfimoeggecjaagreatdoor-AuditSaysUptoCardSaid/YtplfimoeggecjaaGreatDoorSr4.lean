/-
  The reference's primes.
-/
import Derived.Test.YtplfimoeggecjaaGreatDoorSr3
import Derived.Test.YtplfimoeggecjaaGreatDoorUrow
namespace Go.Proofs.YtplfimoeggecjaaGreatDoor.Sx
open Go Go.RowKit

theorem prs_mem : ∀ p, ∀ q ∈ prs p, 2 ≤ q ∧ q < p
  | 0, q, h => by simp [prs] at h
  | p + 1, q, h => by
    have e : prs (p + 1) = if p < 2 then [] else if (prs p).all (fun q => decide (0 < p % q)) then prs p ++ [p] else prs p := rfl
    rw [e] at h
    split at h
    · simp at h
    · split at h
      · rcases List.mem_append.1 h with h1 | h1
        · have := prs_mem p q h1; omega
        · have : q = p := by simpa using h1
          omega
      · have := prs_mem p q h; omega
/-- Is P prime to the first i? -/
def isP (P i : Nat) : Bool := ((prs P).take i).all (fun q => decide (0 < P % q))
theorem isP_succ {P i : Nat} (h : i < (prs P).length) : isP P (i + 1) = (isP P i && decide (0 < P % (prs P)[i])) := by
  unfold isP
  rw [List.take_succ_eq_append_getElem h, List.all_append]
  simp
theorem prs_step {P : Nat} (h : 2 ≤ P) : prs (P + 1) = if isP P (prs P).length = true then prs P ++ [P] else prs P := by
  have e : prs (P + 1) = if P < 2 then [] else if (prs P).all (fun q => decide (0 < P % q)) then prs P ++ [P] else prs P := rfl
  rw [e, if_neg (by omega)]
  unfold isP
  rw [List.take_length]
set_option maxRecDepth 100000 in
set_option maxHeartbeats 4000000 in
theorem primes_any (w : World) :
    Calls Tryz.prog 83 #[.int .i64 64] w fun e w' => ∃ A c, e = .returned (.slice A 64 c) ∧ qAcc w w' (.slice A 64 c) (prs 312) := by
  go_enter Tryz.func83, Tryz.ntmps83
  go_wp2_with fail
  go_loopw [3, 4] (fun x y wr => ∃ (P n : Nat) (A : Option Addr) (c : Nat), 2 ≤ P ∧ P ≤ 312 ∧ x = .slice A n c ∧ y = .int .u64 (P : Int) ∧ Hid (n = (prs P).length) ∧ Hid (qAcc w wr (.slice A n c) (prs P))) (fun _ y _ => 312 - (intOf y).toNat)
  case atStart => exact ⟨2, 0, none, 0, by omega, by omega, rfl, rfl, rfl, qAcc.nil (Below.refl _ _)⟩
  case round =>
    obtain ⟨P, n, A, c, hP2, hP, rfl, rfl, hn, hacc⟩ := hrel
    by_cases h312 : P = 312
    · subst h312
      have h64 : n = 64 := by rw [hn.out]; exact prs_all
      subst h64
      go_wp2_with fail
      go_ret
      exact ⟨A, c, rfl, hacc.out⟩
    · have hn63 : n ≤ 63 := by rw [hn.out]; exact prs_lt (by omega)
      have hn0 : (0 : Int) ≤ (n : Int) := by omega
      have hPi : (P : Int) ≤ 311 := by omega
      have HP2 := Lib.hid hP2
      have ht : decide ((n : Int) < 64) = true := by simp; omega
      go_wp2_with fail
      go_loopw [5, 16] (fun x y wx => ∃ i : Nat, i ≤ n ∧ x = .bool (isP P i) ∧ y = .int .i64 (i : Int) ∧ wx = wr) (fun _ y _ => n - (intOf y).toNat)
      case atStart => exact ⟨0, by omega, rfl, rfl, rfl⟩
      case round =>
        obtain ⟨i, hi, rfl, rfl, rfl⟩ := hrel
        by_cases hlt : i < n
        · have hil : i < (prs P).length := by rw [← hn.out]; exact hlt
          obtain ⟨hq2, hqP⟩ := prs_mem P _ (List.getElem_mem hil)
          obtain ⟨ad, had, hat⟩ : ∃ ad, A = some ad ∧ ∀ j u, (qbvals (prs P))[j]? = some u → wr.cell? (ad.add j) = some u := by
            rcases hacc.out.src with ⟨c', hv, h0⟩ | ⟨ad, c', hv, hc⟩
            · rw [h0] at hil; simp at hil
            · injection hv with e1 _ _
              exact ⟨ad, e1, hc⟩
          subst had
          obtain ⟨q, hq⟩ : ∃ q, q = (prs P)[i] := ⟨_, rfl⟩
          have hcell : wr.cell? (ad.add i) = some (.int .u64 (q : Int)) := hat i _ (by simp [qbvals, qbval, hil, hq])
          have HSUC := Lib.hid (isP_succ hil)
          rw [← hq] at HSUC hq2 hqP
          have HQ := Lib.hid hq
          have HAT := Lib.hid hat
          clear hq hat
          obtain ⟨v, hv⟩ : ∃ v, v = isP P i := ⟨_, rfl⟩
          rw [← hv]
          have HV := Lib.hid hv
          rw [← hv] at HSUC
          clear hv
          have qz : ((q : Int) == 0) = false := by simp; omega
          have q0 : (0 : Int) < (q : Int) := by omega
          cases v with
          | false =>
            have HN : Hid (isP P (i + 1) = false) := by unfold Hid; rw [HSUC.out, Bool.false_and]
            go_wp2_with fail
            go_roundw
            case rel => exact ⟨i + 1, by omega, by rw [HN.out], by go_num, trivial⟩
            case measure => simp [intOf]; omega
          | true =>
            have HN : Hid (isP P (i + 1) = decide ((0 : Int) < (P : Int) % (q : Int))) := by
              unfold Hid
              rw [HSUC.out, Bool.true_and, ← Int.natCast_emod]
              exact decide_eq_decide.2 Int.natCast_pos.symm
            go_wp2_with fail
            go_roundw
            case rel => exact ⟨i + 1, by omega, by rw [HN.out], by go_num, trivial⟩
            case measure => simp [intOf]; omega
        · obtain rfl : i = n := by omega
          have HSTEP := Lib.hid (prs_step HP2.out)
          rw [← hn.out] at HSTEP
          obtain ⟨v, hv⟩ : ∃ v, v = isP P i := ⟨_, rfl⟩
          rw [← hv]
          rw [← hv] at HSTEP
          clear hv
          cases v with
          | false =>
            have HN : Hid (prs (P + 1) = prs P) := by unfold Hid; rw [HSTEP.out]; rfl
            go_wp2_with fail
            go_roundw
            case rel => exact ⟨P + 1, i, A, c, by omega, by omega, rfl, by go_num, by unfold Hid; rw [HN.out]; exact hn.out, by rw [HN.out]; exact hacc⟩
            case measure => simp [intOf]; omega
          | true =>
            have HN : Hid (prs (P + 1) = prs P ++ [P]) := by unfold Hid; rw [HSTEP.out]; rfl
            go_wp2_with (at_builtin; refine qappend_acc rfl _ _ (by rfl) i 1 w _ _ _ (prs P) [P] (by rfl) (by rfl) (hacc.out.alloc _) (qSrcB.of_block (ys := [P]) (heap_new rfl)) hn.out.symm rfl (by omega) ?_; intro A5 c5 w5 h5; have H5 := Lib.hid h5; clear h5)
            go_roundw
            case rel => exact ⟨P + 1, i + 1, A5, c5, by omega, by omega, rfl, by go_num, by unfold Hid; rw [HN.out, List.length_append, ← hn.out]; rfl, by rw [HN.out]; exact H5⟩
            case measure => simp [intOf]; omega
end Go.Proofs.YtplfimoeggecjaaGreatDoor.Sx
