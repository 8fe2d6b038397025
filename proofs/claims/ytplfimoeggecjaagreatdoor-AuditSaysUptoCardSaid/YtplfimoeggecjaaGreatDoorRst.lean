/-
  The reference's Rest.
-/
import Derived.Test.YtplfimoeggecjaaGreatDoorChr
namespace Go.Proofs.YtplfimoeggecjaaGreatDoor.Sx
open Go Go.RowKit

set_option maxHeartbeats 1000000 in
theorem rest_any (n : Nat) (w : World) (h : n ≤ 1099511627776) : Calls Tryz.prog 86 #[.int .i64 (-(n : Int) - 9), .int .i64 64] w fun e w' => e = .returned (.int .i64 (((119 - n % 64) % 64 : Nat) : Int)) ∧ w = w' := by
  have hn : (n : Int) ≤ 1099511627776 := by omega
  have ht : (-(n : Int) - 9).tmod 64 = -(((n : Int) + 9) % 64) := by
    have e : -(n : Int) - 9 = -((n : Int) + 9) := by omega
    rw [e, Int.neg_tmod, Int.tmod_eq_emod_of_nonneg (by omega)]
  clear h
  by_cases h0 : ((n : Int) + 9) % 64 = 0
  · rw [h0] at ht
    have e : ((119 - n % 64) % 64 : Nat) = 0 := by omega
    rw [e]
    clear h0 e
    go_enter Tryz.func86, Tryz.ntmps86
    go_wp2
    go_ret
    exact ⟨rfl, rfl⟩
  · obtain ⟨m, hm⟩ : ∃ m : Int, m = -(((n : Int) + 9) % 64) := ⟨_, rfl⟩
    have m0 : m < 0 := by omega
    have m1 : -64 < m := by omega
    have e : (((119 - n % 64) % 64 : Nat) : Int) = m + 64 := by omega
    rw [← hm] at ht
    rw [e]
    clear h0 e hm
    go_enter Tryz.func86, Tryz.ntmps86
    go_wp2
    go_ret
    exact ⟨rfl, rfl⟩
end Go.Proofs.YtplfimoeggecjaaGreatDoor.Sx
