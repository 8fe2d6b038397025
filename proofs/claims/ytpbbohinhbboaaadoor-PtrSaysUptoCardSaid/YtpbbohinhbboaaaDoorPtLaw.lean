/-
  The law PtrSays: it returns true.
-/
import Derived.Test.YtpbbohinhbboaaaDoorPt6
import Derived.Test.YtpbbohinhbboaaaDoorSamd
namespace Go.Proofs.YtpbbohinhbboaaaDoor.Sx
open Go Go.RowKit Go.Proofs.YtpbbohinhbboaaaDoor.Pt

theorem segs_le (c : UInt8) : ∀ (l : List UInt8), ∀ x ∈ segs c l, x.length ≤ l.length
  | [], x, hx => by simp [segs] at hx; subst hx; simp
  | d :: r, x, hx => by
    have ih := segs_le c r
    unfold segs at hx
    split at hx
    · cases List.mem_cons.1 hx with
      | inl e => subst e; simp
      | inr e => have := ih x e; simp only [List.length_cons]; omega
    · cases List.mem_cons.1 hx with
      | inl e =>
        subst e
        have h1 := ih ((segs c r).headD []) (by
          have h2 := segs_cons c r
          rw [h2]
          exact List.mem_cons_self)
        simp only [List.length_cons]
        omega
      | inr e => have := ih x (List.mem_of_mem_tail e); simp only [List.length_cons]; omega
theorem stepsR_small {p : ByteArray} (hs : p.size ≤ 1048576) : (stepsR p).1.length ≤ 10 ∧ ∀ x ∈ (stepsR p).1, x.size ≤ 1048576 := by
  unfold stepsR
  cases h : p.data.toList with
  | nil => simp
  | cons c r =>
    have hl : r.length ≤ 1048576 := by
      have : p.data.toList.length = p.size := by simp
      rw [h] at this
      simp at this
      omega
    by_cases hc : c = 47
    · simp only [if_pos hc]
      cases e : unescAll (segs 47 r) with
      | none => simp
      | some o =>
        simp only
        by_cases h10 : 10 < o.length
        · rw [if_pos h10]; simp
        · rw [if_neg h10]
          refine ⟨by simp; omega, fun x hx => ?_⟩
          obtain ⟨t, ht, rfl⟩ := List.mem_map.1 hx
          obtain ⟨i, hi, rfl⟩ := List.mem_iff_getElem.1 ht
          have hlen := unescAll_length e
          have hu := unescAll_at e i (by omega) hi
          have h1 := unesc_le _ _ _ (Nat.le_refl _) hu
          have h2 := segs_le 47 r _ (List.getElem_mem (by omega : i < (segs 47 r).length))
          rw [mkB_size]
          omega
    · simp [hc]

set_option maxRecDepth 100000 in
set_option maxHeartbeats 2000000 in
theorem ptrSays_walk (B : Nat) (p : ByteArray) (v : Value) (l : List ByteArray) (w : World) (hB : B ≤ w.heap.size) (hp : p.size ≤ 1048576) (h : StrsR B w v l) (hm : MaxC w) :
    Calls Tryd.prog 4 #[.string p, v] w fun e w' => e = .returned (.bool true) ∧ Ext w w' := by
  have HV := Lib.hid h
  obtain ⟨hn, A, c, rfl, _⟩ := h
  have HM := Lib.hid hm
  have HP := Lib.hid (stepsR_small hp)
  have hE : Hid (∀ a : ByteArray, (a.toList == a.toList) = true) := fun a => by simp
  obtain ⟨j, hj⟩ : ∃ j, j = joinV l := ⟨_, rfl⟩
  have hjj := hE.out j
  have HJ := Lib.hid hj
  clear hj hm
  go_enter Tryd.func4, Tryd.ntmps4
  go_wp2_with fail
  refine Calls.mono (steps_any p w hp HM.out) ?_
  rintro e w1 ⟨A1, c1, rfl, hr1, hx1⟩
  have H1 := Lib.hid (And.intro hr1 hx1)
  clear hr1 hx1
  go_wp2_with fail
  refine Calls.mono (rsteps_any p w1 hp) ?_
  rintro e w2 ⟨A2, c2, rfl, hr2, hx2⟩
  have H2 := Lib.hid (And.intro hr2 (And.intro (H1.out.1.ext hx2) (H1.out.2.trans hx2)))
  clear hr2 hx2
  go_wp2_with fail
  refine Calls.mono (joins_any w2.heap.size _ l w2 (Nat.le_refl _) (HV.out.below (H2.out.2.2.mono hB) (Nat.le_trans hB H2.out.2.2.size)) (HM.out.ext H2.out.2.2)) ?_
  rintro e w3 ⟨rfl, hx3⟩
  have H3 := Lib.hid (And.intro (H2.out.1.ext hx3) (And.intro (H2.out.2.1.ext hx3) (H2.out.2.2.trans hx3)))
  rw [← HJ.out]
  clear hx3
  go_wp2_with fail
  refine Calls.mono (rjoins_any w3.heap.size _ l w3 (HV.out.below (H3.out.2.2.mono hB) (Nat.le_trans hB H3.out.2.2.size))) ?_
  rintro e w4 ⟨rfl, hx4⟩
  have H4 := Lib.hid (And.intro (H3.out.1.ext hx4) (And.intro (H3.out.2.1.ext hx4) (H3.out.2.2.trans hx4)))
  rw [← HJ.out]
  clear hx4
  go_wp2_with fail
  refine Calls.mono (eq_strs (H4.out.2.1.strs (by have := HP.out.1; omega) HP.out.2) (H4.out.1.strs (by have := HP.out.1; omega) HP.out.2)) ?_
  rintro e w5 ⟨rfl, rfl⟩
  go_wp2
  go_ret
  exact ⟨rfl, H4.out.2.2⟩
end Go.Proofs.YtpbbohinhbboaaaDoor.Sx
