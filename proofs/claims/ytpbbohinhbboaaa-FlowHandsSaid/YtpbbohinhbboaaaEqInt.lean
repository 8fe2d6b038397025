/-
  The reference's Eq at []int: two slices that read as lists are compared.
-/
import Derived.Test.YtpbbohinhbboaaaBase
import Derived.Test.YtpbbohinhbboaaaChecked
namespace Go.Proofs.Ytpbbohinhbboaaa.Sx
open Go Go.RowKit

def eqTo (xs ys : List Int) (k : Nat) : Prop := xs.take k = ys.take k

theorem eqTo_succ {xs ys : List Int} {k : Nat} (h : eqTo xs ys k) (hx : k < xs.length) (hy : k < ys.length) (he : xs[k] = ys[k]) : eqTo xs ys (k + 1) := by
  unfold eqTo at *
  rw [List.take_succ_eq_append_getElem hx, List.take_succ_eq_append_getElem hy, h, he]

set_option maxRecDepth 100000 in
set_option maxHeartbeats 400000 in
theorem eq_int (A B : Option Addr) (n m c d : Nat) (xs ys : List Int) (w : World) (ha : Reads w 1 A n (xs.map (Value.int .i64))) (hb : Reads w 1 B m (ys.map (Value.int .i64))) (hn : n ≤ 1048576) :
    Calls Try.prog 11 #[.slice A n c, .slice B m d] w fun e w' => e = .returned (.bool (decide (xs = ys))) ∧ w = w' := by
  have hxl : xs.length = n := by simpa using ha.1
  have hyl : ys.length = m := by simpa using hb.1
  by_cases hnm : n = m
  · subst hnm
    have H1 : Hid (xs.length = n ∧ ys.length = n) := ⟨hxl, hyl⟩
    clear hxl hyl
    go_enter Try.func11, Try.ntmps11
    go_wp2
    go_loop [5, 6, 14] (fun i x k => ∃ j : Nat, j ≤ n ∧ k = .int .i64 j ∧ Hid (eqTo xs ys j)) (fun _ _ k => n - (intOf k).toNat)
    case atStart => exact ⟨0, Nat.zero_le _, rfl, rfl⟩
    case round =>
      obtain ⟨j, hj, rfl, hE⟩ := hrel
      by_cases hlt : j < n
      · obtain ⟨b, off, rfl, _, u, hu, hcu⟩ := ha.at_ hlt
        obtain ⟨b', off', rfl, _, v, hv, hcv⟩ := hb.at_ hlt
        have hx : j < xs.length := by rw [H1.out.1]; exact hlt
        have hy : j < ys.length := by rw [H1.out.2]; exact hlt
        rw [List.getElem?_map, List.getElem?_eq_getElem hx] at hu
        rw [List.getElem?_map, List.getElem?_eq_getElem hy] at hv
        simp at hu hv
        subst hu hv
        by_cases he : xs[j] = ys[j]
        · have hE' : Hid (eqTo xs ys (j + 1)) := eqTo_succ hE.out hx hy he
          have he' : (xs[j] != ys[j]) = false := by simp [he]
          clear he
          go_wp2
          go_round
          case rel => exact ⟨j + 1, hlt, by go_num, hE'⟩
          case measure => simp [intOf]; omega
        · have he' : (xs[j] != ys[j]) = true := by simp [he]
          go_wp2
          go_ret
          exact ⟨ret_bool (decide_eq_false (fun e => he (by subst e; rfl))).symm, rfl⟩
      · go_wp2
        go_ret
        obtain rfl : j = n := by omega
        have h1 := hE.out
        unfold eqTo at h1
        rw [List.take_of_length_le (by rw [H1.out.1]; exact Nat.le_refl _), List.take_of_length_le (by rw [H1.out.2]; exact Nat.le_refl _)] at h1
        exact ⟨ret_bool (decide_eq_true h1).symm, rfl⟩
  · go_enter Try.func11, Try.ntmps11
    go_wp2
    go_ret
    exact ⟨ret_bool (decide_eq_false (fun e => hnm (by rw [← hxl, ← hyl, e]))).symm, rfl⟩
end Go.Proofs.Ytpbbohinhbboaaa.Sx
