/-
  The reference's chr and Rest (plain seat).
-/
import Derived.Test.YtpbbohinhbboaaaBrow
import Derived.Lib.Hide
namespace Go.Proofs.Ytpbbohinhbboaaa.Sx
open Go Go.RowKit

def sgn (c : UInt8) : ByteArray := ⟨#[c]⟩
set_option maxRecDepth 100000 in
theorem chr_one (c : UInt8) (w : World) : Calls Try.prog 93 #[.int .i64 (c.toNat : Int)] w fun e w' => e = .returned (.string (sgn c)) ∧ Ext w w' := by
  have hc : (c.toNat : Int) < 256 := by have := c.toNat_lt; omega
  have hcv : (convert 143 9 (.slice (some ⟨w.heap.size, 0, none⟩) 1 1)).run Try.prog (w.alloc (.cells #[.int .u8 (c.toNat : Int)] 5)) = .ok (.string (sgn c)) (w.alloc (.cells #[.int .u8 (c.toNat : Int)] 5)) :=
    run_string (SrcB.of_block (ys := [c]) (heap_new rfl))
  have HX : Hid (Ext w (w.alloc (.cells #[.int .u8 (c.toNat : Int)] 5))) := (Below.refl _ _).alloc (Nat.le_refl _) _
  go_enter Try.func93, Try.ntmps93
  go_wp2
  go_ret
  exact ⟨rfl, HX.out⟩
theorem chr_at (x : Int) (c : UInt8) (h : x = (c.toNat : Int)) (w : World) : Calls Try.prog 93 #[.int .i64 x] w fun e w' => e = .returned (.string (sgn c)) ∧ Ext w w' := by
  rw [h]
  exact chr_one c w
set_option maxHeartbeats 1000000 in
theorem rest_any (n : Nat) (w : World) (h : n ≤ 1099511627776) : Calls Try.prog 61 #[.int .i64 (-(n : Int) - 9), .int .i64 64] w fun e w' => e = .returned (.int .i64 (((119 - n % 64) % 64 : Nat) : Int)) ∧ w = w' := by
  have hn : (n : Int) ≤ 1099511627776 := by omega
  have ht : (-(n : Int) - 9).tmod 64 = -(((n : Int) + 9) % 64) := by
    have e : -(n : Int) - 9 = -((n : Int) + 9) := by omega
    rw [e, Int.neg_tmod, Int.tmod_eq_emod_of_nonneg (by omega)]
  clear h
  by_cases h0 : ((n : Int) + 9) % 64 = 0
  · rw [h0] at ht
    have e : ((119 - n % 64) % 64 : Nat) = 0 := by omega
    rw [e]
    clear h0 e
    go_enter Try.func61, Try.ntmps61
    go_wp2
    go_ret
    exact ⟨rfl, rfl⟩
  · obtain ⟨m, hm⟩ : ∃ m : Int, m = -(((n : Int) + 9) % 64) := ⟨_, rfl⟩
    have m0 : m < 0 := by omega
    have m1 : -64 < m := by omega
    have e : (((119 - n % 64) % 64 : Nat) : Int) = m + 64 := by omega
    rw [← hm] at ht
    rw [e]
    clear h0 e hm
    go_enter Try.func61, Try.ntmps61
    go_wp2
    go_ret
    exact ⟨rfl, rfl⟩
end Go.Proofs.Ytpbbohinhbboaaa.Sx
