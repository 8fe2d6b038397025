/-
  The reference's objects: Find (printed by gen/jq5.py).
-/
import Derived.Test.YtahinicpceokcaaGreatDoorJqa
namespace Go.Proofs.YtahinicpceokcaaGreatDoor.Jm
open Go Go.RowKit Go.Proofs.YtahinicpceokcaaGreatDoor.Sx Go.Proofs.YtahinicpceokcaaGreatDoor.Js Go.Proofs.YtahinicpceokcaaGreatDoor.Gr
theorem RV.shape {F : Nat → Prop} {w : World} {j : J} {cs : List Value} (h : RV F w j cs) : ∃ K B n s A1 n1 c1 A2 n2 c2, cs = v6 K B n s (.slice A1 n1 c1) (.slice A2 n2 c2) := by
  cases j with
  | null => exact ⟨_, _, _, _, _, _, _, _, _, _, RV_null.1 h⟩
  | bool b => exact ⟨_, _, _, _, _, _, _, _, _, _, RV_bool.1 h⟩
  | num n => exact ⟨_, _, _, _, _, _, _, _, _, _, (RV_num.1 h).1⟩
  | text s => exact ⟨_, _, _, _, _, _, _, _, _, _, RV_text.1 h⟩
  | list l => obtain ⟨A, c, e, _⟩ := RV_list.1 h; exact ⟨_, _, _, _, _, _, _, _, _, _, e⟩
  | obj ns l => obtain ⟨A, c, B, d, e, _⟩ := RV_obj.1 h; exact ⟨_, _, _, _, _, _, _, _, _, _, e⟩
def RFindPost (w : World) (F : Nat → Prop) (ns : List Tx) (l : List J) (t : ByteArray) (e : Ending) (w' : World) : Prop :=
  Ext w w' ∧ ((∃ (i : Nat) (hn : i < ns.length) (hl : i < l.length) (u : List Value), ns[i] = t.data.toList ∧ RV F w l[i] u ∧ e = .returned (.tuple #[.agg u.toArray, .bool true])) ∨ (t.data.toList ∉ ns ∧ e = .returned (.tuple #[.agg noV.toArray, .bool false])))
set_option maxRecDepth 100000 in
set_option maxHeartbeats 4000000 in
theorem rfind_any (F : Nat → Prop) (A B : Option Addr) (c d : Nat) (ns : List Tx) (l : List J) (t : ByteArray) (w : World) (hn : NamesAt F w A ns) (hl : RValsAt F w B l) (hlen : ns.length = l.length) (_hd : l.length ≤ d) (hsm : ns.length ≤ 500000) :
    Calls Tryz.prog 82 #[.agg (v6 6 false 0 ⟨#[]⟩ (.slice A ns.length c) (.slice B l.length d)).toArray, .string t] w (RFindPost w F ns l t) := by
  obtain ⟨g, hg⟩ : ∃ g, g = w.heap.size := ⟨_, rfl⟩
  obtain ⟨w1, hw1⟩ : ∃ w1, w1 = (w.alloc (.cells #[.int .i64 6, .bool false, .int .i64 0, .string ⟨#[]⟩, .slice A ns.length c, .slice B l.length d] vT (0, 0))).alloc (.cells #[.int .i64 0, .bool false, .int .i64 0, .string ⟨#[]⟩, nilS, nilS] vT (0, 0)) := ⟨_, rfl⟩
  have HX1 : Hid (Ext w w1) := by rw [hw1]; exact (new_ext _ _).trans (new_ext _ _)
  have HV1 : Hid (VIn w1 g 6 false 0 ⟨#[]⟩ (.slice A ns.length c) (.slice B l.length d)) := by rw [hw1]; exact heap_old (heap_new hg)
  have HR1 : Hid (VIn w1 (g + 1) 0 false 0 ⟨#[]⟩ nilS nilS) := by rw [hw1]; exact heap_new (by rw [hg]; simp)
  have HGW : Hid (w.heap.size ≤ g) := by rw [hg]; exact Nat.le_refl _
  have HC : Hid (∀ W, Ext w1 W → VIn W g 6 false 0 ⟨#[]⟩ (.slice A ns.length c) (.slice B l.length d) ∧ VIn W (g + 1) 0 false 0 ⟨#[]⟩ nilS nilS ∧ Ext w W ∧ ∀ K B n t a l, VIn (putV W (g + 1) K B n t a l) (g + 1) K B n t a l ∧ Ext w (putV W (g + 1) K B n t a l)) := fun W hW => by
    have hv := HR1.out.ext hW
    exact ⟨HV1.out.ext hW, hv, HX1.out.trans hW, fun K B n t a l => ⟨put_in K B n t a l hv, put_ext K B n t a l (HX1.out.trans hW) (by have := HGW.out; omega)⟩⟩
  have HN := Lib.hid hn
  have HL := Lib.hid hl
  have HLE := Lib.hid hlen
  obtain ⟨N, hN⟩ : ∃ N, N = ns.length := ⟨_, rfl⟩
  have HNN : Hid (N = ns.length) := hN
  unfold v6
  rw [← hN] at hsm HV1 HC hw1 ⊢
  rw [← hlen, ← hN] at HV1 HC hw1 ⊢
  clear hn hl hlen hN
  have hx1 : Ext w1 w1 := Below.refl _ _
  go_enter Tryz.func82, Tryz.ntmps82
  go_wp2_with fail
  rw [← hw1, ← hg]
  clear hw1 hg
  obtain ⟨c0, c1, c2, c3, c4, c5⟩ := HV1.out.cells
  go_wp2_with fail
  clear c0 c1 c2 c3 c4 c5 hx1
  go_loopw [11] (fun ix wr => ∃ q : Nat, q ≤ N ∧ ix = .int .i64 (q : Int) ∧ Hid (Ext w1 wr ∧ ∀ p (hp : p < ns.length), p < q → ns[p] ≠ t.data.toList)) (fun ix _ => N - (intOf ix).toNat)
  case atStart => exact ⟨0, Nat.zero_le _, rfl, Below.refl _ _, fun p _ hp => absurd hp (Nat.not_lt_zero _)⟩
  case round =>
    obtain ⟨q, hq, rfl, hQ⟩ := hrel
    obtain ⟨c0, -, -, -, c4, c5⟩ := (HC.out wr hQ.out.1).1.cells
    have hq0 : (0 : Int) ≤ (q : Int) := by omega
    have hqI : (q : Int) ≤ 500000 := by omega
    by_cases hlt : q < N
    · obtain ⟨ga, oa, rfl, -, hca⟩ := HN.out q (by rw [← HNN.out]; exact hlt)
      have hcell := (cell_keep ((HX1.out.trans hQ.out.1).block ga (cell_lt hca))).trans hca
      obtain ⟨x, hx⟩ : ∃ x, x = bx ns[q] := ⟨_, rfl⟩
      rw [← hx] at hcell
      have hltI : (q : Int) < (N : Int) := by omega
      have HX : Hid (x.data.toList = ns[q]'(by rw [← HNN.out]; exact hlt)) := by rw [hx]; exact (ByteArray.toList_eq _).symm.trans (bx_list _)
      clear hca hx
      by_cases heq : x.toList = t.toList
      · have b1 : (x.toList == t.toList) = true := by rw [heq]; exact beq_self_eq_true _
        have HEQ : Hid (ns[q]'(by rw [← HNN.out]; exact hlt) = t.data.toList) := by unfold Hid; rw [← HX.out, ← ByteArray.toList_eq, heq, ByteArray.toList_eq]
        obtain ⟨gb, ob, u, rfl, -, -, hu, hrv⟩ := HL.out q (by rw [← HLE.out, ← HNN.out]; exact hlt)
        obtain ⟨K, Bb, n, sv, A1, n1, k1, A2, n2, k2, rfl⟩ := RV.shape hrv
        have HRV := Lib.hid hrv
        have hk : ∀ k x, (v6 K Bb n sv (.slice A1 n1 k1) (.slice A2 n2 k2))[k]? = some x → wr.cell? ⟨gb, ob + q * 6 + k, none⟩ = some x := fun k x h => (cell_keep ((HX1.out.trans hQ.out.1).block gb (cell_lt (hu k x h)))).trans (hu k x h)
        have k0 := hk 0 _ rfl
        have k1' := hk 1 _ rfl
        have k2' := hk 2 _ rfl
        have k3 := hk 3 _ rfl
        have k4 := hk 4 _ rfl
        have k5 := hk 5 _ rfl
        rw [Nat.add_zero] at k0
        have HD := Lib.hid (HC.out wr hQ.out.1).2
        obtain ⟨d0, d1, d2, d3, d4, d5⟩ := HD.out.1.cells
        have e0 := HD.out.1.free 0
        have e1 := HD.out.1.free 1
        have e2 := HD.out.1.free 2
        have e3 := HD.out.1.free 3
        have e4 := HD.out.1.free 4
        have e5 := HD.out.1.free 5
        have HLT : Hid (q < N) := hlt
        clear hrv hu hk heq
        go_wp2_with fail
        refine bodyPost_ret (results_v rfl _ _ (g + 1) rfl (HD.out.2.2 K Bb n sv (.slice A1 n1 k1) (.slice A2 n2 k2)).1) rfl ?_
        have h1 : q < ns.length := by rw [← HNN.out]; exact HLT.out
        exact ⟨(HD.out.2.2 K Bb n sv (.slice A1 n1 k1) (.slice A2 n2 k2)).2, .inl ⟨q, h1, by rw [← HLE.out]; exact h1, _, HEQ.out, HRV.out, rfl⟩⟩
      · have b1 : (x.toList == t.toList) = false := by rw [beq_eq_false_iff_ne]; exact heq
        have HNE : Hid (∀ p (hp : p < ns.length), p < q + 1 → ns[p] ≠ t.data.toList) := fun p hp hpq => by
          by_cases e : p = q
          · subst e
            rw [← HX.out, ← ByteArray.toList_eq, ← ByteArray.toList_eq]
            exact heq
          · exact hQ.out.2 p hp (by omega)
        clear heq
        go_wp2_with fail
        go_roundw
        case rel => exact ⟨q + 1, hlt, by rw [show ((q + 1 : Nat) : Int) = (q : Int) + 1 by omega], hQ.out.1, HNE.out⟩
        case measure => simp [intOf]; omega
    · have bl : decide ((q : Int) < (N : Int)) = false := decide_eq_false (by omega)
      have bl2 : decide (q < N) = false := decide_eq_false hlt
      have HNO : Hid (t.data.toList ∉ ns) := fun hm => by
        obtain ⟨p, hp, e⟩ := List.mem_iff_getElem.1 hm
        exact hQ.out.2 p hp (by have := HNN.out; omega) e
      have HD := Lib.hid (HC.out wr hQ.out.1).2
      obtain ⟨d0, d1, d2, d3, d4, d5⟩ := HD.out.1.cells
      have e0 := HD.out.1.free 0
      have e1 := HD.out.1.free 1
      have e2 := HD.out.1.free 2
      have e3 := HD.out.1.free 3
      have e4 := HD.out.1.free 4
      have e5 := HD.out.1.free 5
      clear hlt
      go_wp2_with fail
      refine bodyPost_ret (results_v rfl _ _ (g + 1) rfl (HD.out.2.2 0 false 0 ⟨#[]⟩ nilS nilS).1) rfl ?_
      exact ⟨(HD.out.2.2 0 false 0 ⟨#[]⟩ nilS nilS).2, .inr ⟨HNO.out, rfl⟩⟩
end Go.Proofs.YtahinicpceokcaaGreatDoor.Jm
