/-
  The reference's root, primes.
-/
import Derived.Test.YtplfimoeggecjaaGreatDoorSr2
namespace Go.Proofs.YtplfimoeggecjaaGreatDoor.Sx
open Go Go.RowKit

theorem rt_div (p n : Nat) : ∀ j, j ≤ 37 → rt p n j % 2 ^ (37 - j) = 0 ∧ rt p n j < 2 ^ 37
  | 0, _ => by simp [rt]
  | j + 1, h => by
    obtain ⟨h1, h2⟩ := rt_div p n j (by omega)
    have e : 2 ^ (37 - j) = 2 * 2 ^ (36 - j) := by rw [show 37 - j = (36 - j) + 1 from by omega, Nat.pow_succ]; omega
    have e2 : 37 - (j + 1) = 36 - j := by omega
    have e3 : 2 ^ 37 = 2 ^ (36 - j) * 2 ^ (j + 1) := by rw [← Nat.pow_add]; congr 1; omega
    rw [e] at h1
    rw [e2]
    obtain ⟨q, hq⟩ : ∃ q, rt p n j = 2 * 2 ^ (36 - j) * q := ⟨rt p n j / (2 * 2 ^ (36 - j)), by have := Nat.div_add_mod (rt p n j) (2 * 2 ^ (36 - j)); omega⟩
    have hlt : 2 * q < 2 ^ (j + 1) := by
      have h3 : 2 ^ (36 - j) * (2 * q) < 2 ^ (36 - j) * 2 ^ (j + 1) := by rw [← e3, ← Nat.mul_assoc, Nat.mul_comm (2 ^ (36 - j)) 2, ← hq]; exact h2
      exact Nat.lt_of_mul_lt_mul_left h3
    have hle : 2 * q + 1 < 2 ^ (j + 1) := by
      have : 2 ^ (j + 1) % 2 = 0 := by rw [Nat.pow_succ]; omega
      omega
    show (if p * 4294967296 ^ n < (rt p n j + 2 ^ (36 - j)) ^ n then rt p n j else rt p n j + 2 ^ (36 - j)) % 2 ^ (36 - j) = 0 ∧ (if p * 4294967296 ^ n < (rt p n j + 2 ^ (36 - j)) ^ n then rt p n j else rt p n j + 2 ^ (36 - j)) < 2 ^ 37
    split
    · exact ⟨by rw [hq, Nat.mul_comm 2, Nat.mul_assoc]; exact Nat.mul_mod_right _ _, h2⟩
    · constructor
      · rw [hq, Nat.mul_comm 2, Nat.mul_assoc]
        rw [Nat.add_mod_right]
        exact Nat.mul_mod_right _ _
      · rw [e3, hq, Nat.mul_comm 2, Nat.mul_assoc]
        have := Nat.mul_lt_mul_of_pos_left hle (show 0 < 2 ^ (36 - j) from Nat.two_pow_pos _)
        rw [Nat.mul_add, Nat.mul_one] at this
        exact this
theorem or_bit {x k : Nat} (h : x % 2 ^ (k + 1) = 0) : x ||| 2 ^ k = x + 2 ^ k := by
  obtain ⟨q, hq⟩ : ∃ q, x = 2 ^ (k + 1) * q := ⟨x / 2 ^ (k + 1), by have := Nat.div_add_mod x (2 ^ (k + 1)); omega⟩
  have h1 : 2 ^ k < 2 ^ (k + 1) := by rw [Nat.pow_succ]; have := Nat.two_pow_pos k; omega
  have := Nat.two_pow_add_eq_or_of_lt h1 q
  rw [hq, ← this]
theorem u64_or (x y : Nat) (hx : x < 18446744073709551616) (hy : y < 18446744073709551616) : bits BinOp.or IntKind.u64 (x : Int) (y : Int) = ((x ||| y : Nat) : Int) := by
  show IntKind.u64.wrap ((BitVec.ofInt 64 (x : Int) ||| BitVec.ofInt 64 (y : Int)).toNat : Int) = _
  have e1 : (BitVec.ofInt 64 (x : Int)).toNat = x := by simp; omega
  have e2 : (BitVec.ofInt 64 (y : Int)).toNat = y := by simp; omega
  have hlt : x ||| y < 2 ^ 64 := Nat.or_lt_two_pow (by omega) (by omega)
  rw [BitVec.toNat_or, e1, e2, IntKind.wrap_u64]
  omega
theorem bit_lt {r k : Nat} (h1 : r % 2 ^ (k + 1) = 0) (h2 : r < 2 ^ 37) (hk : k ≤ 36) : r + 2 ^ k < 137438953472 := by
  obtain ⟨q, hq⟩ : ∃ q, r = 2 ^ (k + 1) * q := ⟨r / 2 ^ (k + 1), by have := Nat.div_add_mod r (2 ^ (k + 1)); omega⟩
  have e3 : 2 ^ 37 = 2 ^ (k + 1) * 2 ^ (36 - k) := by rw [← Nat.pow_add]; congr 1; omega
  have hlt : q < 2 ^ (36 - k) := by
    rw [hq, e3] at h2
    exact Nat.lt_of_mul_lt_mul_left h2
  have h4 : 2 ^ (k + 1) * (q + 1) ≤ 2 ^ (k + 1) * 2 ^ (36 - k) := Nat.mul_le_mul_left _ hlt
  rw [← e3, Nat.mul_add, Nat.mul_one, ← hq] at h4
  have h5 : 2 ^ (k + 1) = 2 ^ k * 2 := Nat.pow_succ ..
  have h6 := Nat.two_pow_pos k
  have h7 : (2 : Nat) ^ 37 = 137438953472 := by decide
  omega
theorem bit_or {r k : Nat} (h1 : r % 2 ^ (k + 1) = 0) (h2 : r < 2 ^ 37) (hk : k ≤ 36) : bits BinOp.or IntKind.u64 (r : Int) (IntKind.u64.wrap (2 ^ k)) = ((r + 2 ^ k : Nat) : Int) := by
  have h3 := bit_lt h1 h2 hk
  have e : IntKind.u64.wrap ((2 : Int) ^ k) = ((2 ^ k : Nat) : Int) := by
    have : ((2 ^ k : Nat) : Int) = (2 : Int) ^ k := by rw [Int.natCast_pow]; rfl
    rw [← this, IntKind.wrap_u64]
    omega
  rw [e, u64_or r (2 ^ k) (by omega) (by omega), or_bit h1]
set_option maxRecDepth 100000 in
set_option maxHeartbeats 4000000 in
theorem root_any (p n : Nat) (w : World) (hn : n = 2 ∨ n = 3) (hp : p ≤ 311) :
    Calls Tryz.prog 84 #[.int .u64 (p : Int), .int .i64 (n : Int)] w fun e w' => e = .returned (.int .u32 ((rt p n 37 % 4294967296 : Nat) : Int)) ∧ Ext w w' := by
  have HN := Lib.hid hn
  have HP := Lib.hid hp
  clear hn hp
  go_enter Tryz.func84, Tryz.ntmps84
  go_wp2_with fail
  go_loopw [5, 6] (fun x y wr => ∃ t : Nat, t ≤ 37 ∧ x = .int .u64 ((rt p n (37 - t) : Nat) : Int) ∧ y = .int .i64 ((t : Int) - 1) ∧ Hid (Ext w wr)) (fun _ y _ => (intOf y + 1).toNat)
  case atStart => exact ⟨37, by omega, rfl, rfl, lib_hid' (Below.refl _ _)⟩
  case round =>
    obtain ⟨t, ht, rfl, rfl, hx⟩ := hrel
    cases t with
    | zero =>
      have e : ((0 : Nat) : Int) - 1 = -1 := rfl
      rw [e]
      obtain ⟨r, hr⟩ : ∃ r, r = rt p n (37 - 0) := ⟨_, rfl⟩
      rw [← hr]
      have HR := Lib.hid hr
      clear hr
      go_wp2_with fail
      go_ret
      refine ⟨ret_int ?_, hx.out⟩
      rw [HR.out, Nat.sub_zero]
      omega
    | succ k =>
      have e : ((k + 1 : Nat) : Int) - 1 = (k : Int) := by omega
      rw [e]
      obtain ⟨h1, h2⟩ := rt_div p n (37 - (k + 1)) (by omega)
      obtain ⟨r, hr⟩ : ∃ r, r = rt p n (37 - (k + 1)) := ⟨_, rfl⟩
      rw [← hr] at h1 h2
      rw [← hr]
      have HR := Lib.hid hr
      have p0 : (0 : Int) ≤ (k : Int) := by omega
      have p1 : (k : Int) ≤ 36 := by omega
      clear hr
      have hk : 37 - (37 - (k + 1)) = k + 1 := by omega
      rw [hk] at h1
      obtain ⟨y, hy⟩ : ∃ y, y = r + 2 ^ k := ⟨_, rfl⟩
      have hv : bits BinOp.or IntKind.u64 (r : Int) (IntKind.u64.wrap (2 ^ k)) = (y : Int) := by rw [hy]; exact bit_or h1 h2 (by omega)
      have hylt : y < 137438953472 := by rw [hy]; exact bit_lt h1 h2 (by omega)
      have HNXT : Hid (rt p n (37 - k) = if p * 4294967296 ^ n < y ^ n then r else y) := by
        have e1 : 37 - k = (37 - (k + 1)) + 1 := by omega
        have e2 : 36 - (37 - (k + 1)) = k := by omega
        unfold Hid
        rw [e1, hy, HR.out]
        show (if p * 4294967296 ^ n < (rt p n (37 - (k + 1)) + 2 ^ (36 - (37 - (k + 1)))) ^ n then rt p n (37 - (k + 1)) else rt p n (37 - (k + 1)) + 2 ^ (36 - (37 - (k + 1)))) = _
        rw [e2]
      have HYL := Lib.hid hylt
      clear hk h1 h2 hy hylt e
      by_cases hab : p * 4294967296 ^ n < y ^ n
      · have HD : Hid (decide (p * 4294967296 ^ n < y ^ n) = true) := decide_eq_true hab
        have HT : Hid (rt p n (37 - k) = r) := by unfold Hid; rw [HNXT.out, if_pos hab]
        clear hab HNXT
        go_wp2_with (go_at_call 123; (with_reducible refine (above_any y p n _ HN.out HYL.out HP.out).mono ?_); rintro e w4 ⟨he, hx4⟩; rw [HD.out] at he; subst he; have HX4 := Lib.hid hx4; clear hx4)
        go_roundw
        case rel => exact ⟨k, by omega, by rw [HT.out], by go_num, lib_hid' (Ext.trans hx.out HX4.out)⟩
        case measure => simp [intOf]
      · have HD : Hid (decide (p * 4294967296 ^ n < y ^ n) = false) := decide_eq_false hab
        have HT : Hid (rt p n (37 - k) = y) := by unfold Hid; rw [HNXT.out, if_neg hab]
        clear hab HNXT
        go_wp2_with (go_at_call 123; (with_reducible refine (above_any y p n _ HN.out HYL.out HP.out).mono ?_); rintro e w4 ⟨he, hx4⟩; rw [HD.out] at he; subst he; have HX4 := Lib.hid hx4; clear hx4)
        go_roundw
        case rel => exact ⟨k, by omega, by rw [HT.out], by go_num, lib_hid' (Ext.trans hx.out HX4.out)⟩
        case measure => simp [intOf]
end Go.Proofs.YtplfimoeggecjaaGreatDoor.Sx
