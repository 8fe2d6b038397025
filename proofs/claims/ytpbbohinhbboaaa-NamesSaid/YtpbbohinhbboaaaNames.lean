/-
  The law Names: the walk.
-/
import Derived.Test.YtpbbohinhbboaaaEqInt
import Derived.Handy
namespace Go.Proofs.Ytpbbohinhbboaaa.Sx
open Go Go.RowKit

def lims : List Int := [2000, 200, 10, 10, 40, 63, 30, 8, 10, 8, 8, 300, 6, 64, 20, 6, 1099511627776, 8, 6, 12, 12, 60, 1099511627776, 50, 8, 6, 1099511627776, 8, 4, 4]
def more : List Int := [8, 6, 10, 1000, 64, 2520, 4, 64, 200, 40, 200, 60, 300]

set_option maxRecDepth 100000 in
set_option maxHeartbeats 1000000 in
theorem names_walk (w : World) :
    Calls Try.prog 3 #[] w fun e w' => e = .returned (.bool true) ∧ Ext w w' := by
  go_enter Try.func3, Try.ntmps3
  go_wp2
  refine wp_loop_rounds 24 ?_
  repeat any_goals (rw [rounds_succ]; go_wp2_with fail)
  refine (eq_int _ _ _ _ _ _ lims lims _ ?r1 ?r2 ?b1).mono ?_
  case r1 => exact reads_lit (heap_old (heap_new (by simp))) rfl
  case r2 => exact reads_lit (heap_new (by simp)) rfl
  case b1 => omega
  rintro e w1 ⟨rfl, rfl⟩
  go_wp2_with fail
  refine (eq_int _ _ _ _ _ _ more more _ ?r3 ?r4 ?b2).mono ?_
  case r3 => exact reads_lit (heap_old (heap_new (by simp))) rfl
  case r4 => exact reads_lit (heap_new (by simp)) rfl
  case b2 => omega
  rintro e w1 ⟨rfl, rfl⟩
  go_wp2
  go_ret
  refine ⟨ret_bool (by decide), ?_⟩
  repeat (refine Below.alloc ?_ (by simp <;> omega) _)
  exact Below.refl _ _
end Go.Proofs.Ytpbbohinhbboaaa.Sx
