/-
  The reference's QuerySolve.
-/
import Derived.Test.YtplfimoeggecjaaGreatDoorQs20
import Derived.Test.YtplfimoeggecjaaGreatDoorRqck
namespace Go.Proofs.YtplfimoeggecjaaGreatDoor.Qs
open Go Go.RowKit Go.Lib Go.Proofs.YtplfimoeggecjaaGreatDoor.Sx Go.Proofs.YtplfimoeggecjaaGreatDoor.Dc

theorem rsolve_out {w w0 w' : World} {l : List Req} {out : Value} (h : checkQ l = 0) (hl : LabsR w'.heap.size w' out ((solveL l).getD [])) (hx : Ext w w') : SolveP w l (.returned (.tuple #[out, .bool (solveL l).isSome, .int .i64 0])) w' := by
  have e : solR l = solveL l := if_pos h
  exact ⟨out, by rw [e, h], by rw [e]; exact hl, hx⟩

set_option maxRecDepth 100000 in
set_option maxHeartbeats 4000000 in
theorem rSolve_any (B : Nat) (v : Value) (l : List Req) (w : World) (hB : B ≤ w.heap.size) (hv : ReqsR B w v l) (hm : MaxC w) :
    Calls Tryz.prog 7 #[v] w (SolveP w l) := by
  have HV := Lib.hid hv
  have HB := Lib.hid hB
  have CQ := Lib.hid (rqcheck_any B v l w hB hv hm)
  clear hv hm
  go_enter Tryz.func7, Tryz.ntmps7
  go_wp2_with fail
  refine Calls.mono CQ.out ?_
  rintro e w1 ⟨rfl, hx1⟩
  have HX1 := Lib.hid hx1
  clear hx1 CQ
  by_cases h0 : checkQ l = 0
  · have H0 := Lib.hid h0
    rw [h0]
    have CS := Lib.hid (rsolve_any B v l w1 (Nat.le_trans HB.out HX1.out.size) (HV.out.below (HX1.out.mono HB.out) (Nat.le_refl _)) (good_of_check h0).2)
    clear h0
    go_wp2_with fail
    refine Calls.mono CS.out ?_
    intro e w2 hp
    obtain ⟨out, rfl, hl, hx2⟩ := sol_labs hp
    have HX2 : Hid (Ext w w2) := HX1.out.trans hx2
    have HL := Lib.hid hl
    clear hp hx2 hl
    go_wp2
    go_ret3
    exact rsolve_out (w0 := w) H0.out HL.out HX2.out
  · obtain ⟨n, hn⟩ : ∃ n, n = checkQ l := ⟨_, rfl⟩
    rw [← hn] at h0
    have HN := Lib.hid hn
    have H0 := Lib.hid h0
    have b0 : (n != 0) = true := by simp [h0]
    have b1 : (n == 0) = false := by simp [h0]
    rw [← hn]
    clear h0 hn
    go_wp2
    go_ret3
    exact solve_bad HN.out.symm H0.out HX1.out
end Go.Proofs.YtplfimoeggecjaaGreatDoor.Qs
