/-
  The reference's outside.
-/
import Derived.Test.YtplfimoeggecjaaGreatDoorBase
import Derived.Test.YtplfimoeggecjaaGreatDoorChecked
import Derived.Lib.Hide
namespace Go.Proofs.YtplfimoeggecjaaGreatDoor.Sx
open Go Go.RowKit

theorem outside_in (n low high : Int) (w : World) (h1 : low ≤ n) (h2 : n ≤ high) : Calls Tryz.prog 38 #[.int .i64 n, .int .i64 low, .int .i64 high] w fun e w' => e = .returned (.bool false) ∧ w = w' := by
  have t1 : decide (n < low) = false := by simp; omega
  have t2 : decide (high < n) = false := by simp; omega
  clear h1 h2
  go_enter Tryz.func38, Tryz.ntmps38
  go_wp2
  go_ret
  exact ⟨rfl, rfl⟩
theorem outside_low (n low high : Int) (w : World) (h1 : n < low) : Calls Tryz.prog 38 #[.int .i64 n, .int .i64 low, .int .i64 high] w fun e w' => e = .returned (.bool true) ∧ w = w' := by
  have t1 : decide (n < low) = true := by simp; omega
  clear h1
  go_enter Tryz.func38, Tryz.ntmps38
  go_wp2
  go_ret
  exact ⟨rfl, rfl⟩
theorem outside_high (n low high : Int) (w : World) (h1 : low ≤ n) (h2 : high < n) : Calls Tryz.prog 38 #[.int .i64 n, .int .i64 low, .int .i64 high] w fun e w' => e = .returned (.bool true) ∧ w = w' := by
  have t1 : decide (n < low) = false := by simp; omega
  have t2 : decide (high < n) = true := by simp; omega
  clear h1 h2
  go_enter Tryz.func38, Tryz.ntmps38
  go_wp2
  go_ret
  exact ⟨rfl, rfl⟩
/-- Is it outside? -/
def outB (n low high : Int) : Bool := decide (n < low) || decide (high < n)
theorem outside_any (n low high : Int) (w : World) : Calls Tryz.prog 38 #[.int .i64 n, .int .i64 low, .int .i64 high] w fun e w' => e = .returned (.bool (outB n low high)) ∧ w = w' := by
  unfold outB
  by_cases h1 : n < low
  · exact (outside_low n low high w h1).mono fun _ _ ⟨a, b⟩ => ⟨by rw [a]; simp [h1], b⟩
  · by_cases h2 : high < n
    · exact (outside_high n low high w (by omega) h2).mono fun _ _ ⟨a, b⟩ => ⟨by rw [a]; simp [h2], b⟩
    · exact (outside_in n low high w (by omega) (by omega)).mono fun _ _ ⟨a, b⟩ => ⟨by rw [a]; simp [h1, h2], b⟩
end Go.Proofs.YtplfimoeggecjaaGreatDoor.Sx
