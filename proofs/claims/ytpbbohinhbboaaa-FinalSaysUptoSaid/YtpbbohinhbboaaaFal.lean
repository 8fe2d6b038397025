/-
  final.Hold, FinalHold, final.Free: all ways joined.
-/
import Derived.Test.YtpbbohinhbboaaaFfp
namespace Go.Proofs.Ytpbbohinhbboaaa.Sx
open Go Go.RowKit

theorem hold_ok {o : Thing} {hd : ByteArray} (he : holdE o hd = 0) : nameI hd = 0 ∧ o.ending = false ∧ hasS o.holds hd = false ∧ ¬ 3 < o.holds.length := by
  unfold holdE at he
  by_cases h0 : nameI hd = 0
  · rw [if_pos h0] at he
    by_cases h1 : o.ending = true
    · rw [if_pos h1] at he; cases he
    · rw [if_neg h1] at he
      by_cases h2 : hasS o.holds hd = true
      · rw [if_pos h2] at he; cases he
      · rw [if_neg h2] at he
        by_cases h3 : 3 < o.holds.length
        · rw [if_pos h3] at he; cases he
        · exact ⟨h0, by simpa using h1, by simpa using h2, h3⟩
  · rw [if_neg h0] at he
    exact absurd he h0
theorem hold_all (B : Nat) (o : Thing) (vl vo vh : Value) (hd : ByteArray) (w : World) (hB : B ≤ w.heap.size) (h : o.fits B w vl vo vh) (hz : hd.size ≤ 1048576) :
    Calls Try.prog 24 #[o.val vl vo vh, .string hd] w (HoldPost w o hd) := by
  by_cases he : holdE o hd = 0
  · obtain ⟨h0, h1, h2, h3⟩ := hold_ok he
    exact hold_good' B o vl vo vh hd w hB h hz h0 h1 h2 h3
  · exact hold_any' B o vl vo vh hd w hB h hz he
theorem rhold_all (B : Nat) (o : Thing) (vl vo vh : Value) (hd : ByteArray) (w : World) (hB : B ≤ w.heap.size) (h : o.fits B w vl vo vh) (hz : hd.size ≤ 1048576) :
    Calls Try.prog 25 #[o.val vl vo vh, .string hd] w (HoldPost w o hd) := by
  by_cases he : holdE o hd = 0
  · obtain ⟨h0, h1, h2, h3⟩ := hold_ok he
    exact rhold_good' B o vl vo vh hd w hB h hz h0 h1 h2 h3
  · exact rhold_bad' B o vl vo vh hd w hB h hz he
theorem free_all (B : Nat) (o : Thing) (vl vo vh : Value) (hd : ByteArray) (w : World) (hB : B ≤ w.heap.size) (h : o.fits B w vl vo vh) :
    Calls Try.prog 26 #[o.val vl vo vh, .string hd] w (FreePost w o hd) := by
  cases hk : heldAt o hd with
  | none => exact free_none' B o vl vo vh hd w hB h hk
  | some k => exact free_some' B o vl vo vh hd w k hB h hk

/-! ### Slices of a list of strings as sources -/
theorem strs_prefix {B : Nat} {w : World} {ad : Addr} {c k : Nat} {xs : List ByteArray} (h : StrsR B w (.slice (some ad) xs.length c) xs) (hk : k ≤ xs.length) : SrcS w (.slice (some ad) k c) (xs.take k) := by
  have hl : (xs.take k).length = k := by rw [List.length_take]; omega
  rcases strs_src h with ⟨c', hv, _⟩ | ⟨ad', c', hv, hc⟩
  · cases hv
  · injection hv with h1 _ _
    injection h1 with h1
    subst h1
    refine .inr ⟨ad, c, by rw [hl], fun j u hj => hc j u ?_⟩
    rw [strVals, List.map_take] at hj
    have hjk : j < k := by have := (List.getElem?_eq_some_iff.1 hj).1; simp at this; omega
    rw [List.getElem?_take_of_lt hjk] at hj
    exact hj
theorem strs_suffix {B : Nat} {w : World} {ad : Addr} {c l : Nat} {xs : List ByteArray} (h : StrsR B w (.slice (some ad) xs.length c) xs) (_hl : l ≤ xs.length) (hcap : xs.length ≤ c) :
    ∃ ad', sliced (some ad) l xs.length c 1 = .slice (some ad') (xs.length - l) (c - l) ∧ SrcS w (.slice (some ad') (xs.length - l) (c - l)) (xs.drop l) := by
  obtain ⟨ad', h1, h2, h3⟩ := sliced_some' ad l xs.length c
  refine ⟨ad', h1, .inr ⟨ad', c - l, by rw [List.length_drop], fun j u hj => ?_⟩⟩
  rcases strs_src h with ⟨c', hv, _⟩ | ⟨ad2, c', hv, hc⟩
  · cases hv
  · injection hv with e1 _ _
    injection e1 with e1
    subst e1
    rw [strVals, List.map_drop, List.getElem?_drop] at hj
    have hjl := (List.getElem?_eq_some_iff.1 hj).1
    simp at hjl
    rw [h2 (by omega), add_of_add]
    exact hc (l + j) u hj
end Go.Proofs.Ytpbbohinhbboaaa.Sx
