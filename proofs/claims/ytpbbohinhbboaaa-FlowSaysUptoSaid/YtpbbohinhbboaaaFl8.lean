/-
  Flow: the reference's Offer.
-/
import Derived.Test.YtpbbohinhbboaaaFl7
import Derived.Test.YtpbbohinhbboaaaOut
namespace Go.Proofs.Ytpbbohinhbboaaa.Fw
open Go Go.RowKit Go.Proofs.Ytpbbohinhbboaaa.Sx

abbrev qT : Nat := 110
abbrev rT : Nat := 43
theorem qTy : TyOk 41 110 := ⟨Try.underlying41, by kernel_rfl⟩
set_option maxRecDepth 100000 in
set_option maxHeartbeats 8000000 in
theorem roffer_ok (g : Nat) (ws es : List Int) (now : Int) (L : List Th) (S : Nat → Prop) (f : Nat) (id cost : Int) (w : World) (h : FairAt rT qT w g ws es now L S) (hf : f < ws.length) (hw8 : ws.length ≤ 8) (he : es.length = ws.length) (h1 : 1 ≤ cost) (h2 : cost ≤ 1000) (hL : L.length ≤ 63)
    (hw : 1 ≤ ws.getD f 0 ∧ ws.getD f 0 ≤ 10) (hes : 0 ≤ es.getD f 0 ∧ es.getD f 0 ≤ 10000000000000) (hnow : 0 ≤ now ∧ now ≤ 10000000000000) :
    Calls Try.prog 16 #[.pointer (some ⟨g, 0, none⟩), .int .i64 (f : Int), .int .i64 id, .int .i64 cost] w fun e w' => e = .returned (.int .i64 0) ∧
      ∃ M S', FairAt rT qT w' g ws (es.set f (max (es.getD f 0) now + 2520 * cost / ws.getD f 0)) now M S' ∧ M = L ++ [⟨id, f, max (es.getD f 0) now⟩] ∧ Trn S w w' ∧ (∀ k, S' k → S k ∨ w.heap.size ≤ k) := by
  obtain ⟨gw, cw, rw_, ge, ce, re, v, hF, hgw, hge, hv, hd, hS⟩ := h
  have b0 : w.cell? ⟨g, 0, none⟩ = some (.slice (some ⟨gw, 0, none⟩) ws.length cw) := by rw [cell_of hF]; rfl
  have b1 : w.cell? ⟨g, 1, none⟩ = some (.slice (some ⟨ge, 0, none⟩) ws.length ce) := by rw [cell_of hF]; rfl
  have b2 : w.cell? ⟨g, 2, none⟩ = some (.int .i64 now) := by rw [cell_of hF]; rfl
  have b3 := hF.cell
  have c1 := int_cell hgw hf
  have c2 := int_cell hge (by omega : f < es.length)
  obtain ⟨x, hx⟩ : ∃ x, x = ws.getD f 0 := ⟨_, rfl⟩
  obtain ⟨y, hy⟩ : ∃ x, x = es.getD f 0 := ⟨_, rfl⟩
  rw [← hx] at c1 hw ⊢
  rw [← hy] at c2 hes ⊢
  obtain ⟨hw1, hw2⟩ := hw
  obtain ⟨hy1, hy2⟩ := hes
  obtain ⟨hn1, hn2⟩ := hnow
  have hfz : w.frozen? ⟨ge, f, none⟩ = false := row_free hge
  obtain ⟨A, c, rfl⟩ := hv.slice
  have hq63 : (L.length : Int) ≤ 63 := by omega
  have t64 : decide (63 < (L.length : Int)) = false := by simp; omega
  have hfi : (f : Int) < (ws.length : Int) := by omega
  have hw8i : (ws.length : Int) ≤ 8 := by omega
  have ho1 : outB (f : Int) 0 ((ws.length : Int) - 1) = false := by unfold outB; simp; omega
  have ho2 : outB cost 1 1000 = false := by unfold outB; simp; omega
  have m1 : 2520 ≤ 2520 * cost := by omega
  have m2 : 2520 * cost ≤ 2520000 := by omega
  have d1 : 0 ≤ 2520 * cost / x := Int.ediv_nonneg (by omega) (by omega)
  have d2 : 2520 * cost / x ≤ 2520000 := Int.le_trans (Int.ediv_le_self _ (by omega)) (by omega)
  have x0 : (x == 0) = false := by rw [beq_eq_false_iff_ne]; omega
  clear hx hy
  by_cases hlt : now < y
  · have hst : max y now = y := by omega
    rw [hst]
    have t5 : decide (now < y) = true := by simp; omega
    have z1 : 0 ≤ y := by omega
    have z2 : y ≤ 10000000000000 := by omega
    have HROW : Hid (TRow qT 0 (((w.setCell ⟨ge, f, none⟩ (.int .i64 (y + 2520 * cost / x))).alloc (.cells #[.int .i64 id, .int .i64 (f : Int), .int .i64 y] qT (0, 0))).drew) (.slice A L.length c) L) := (hv.kept (grown_setCell (grown_refl w (some ge))) (fun k hk e => by injection e with e; subst e; exact hd.2.2.2.2.2 hk)).ext ((new_ext _ _).trans (Below.refl _ _).drew)
    have HSRC : Hid (TSrc (((w.setCell ⟨ge, f, none⟩ (.int .i64 (y + 2520 * cost / x))).alloc (.cells #[.int .i64 id, .int .i64 (f : Int), .int .i64 y] qT (0, 0))).drew) (.slice (some ⟨w.heap.size, 0, none⟩) 1 1) [⟨id, f, y⟩]) := TSrc.of_block (L := [⟨id, f, y⟩]) (et := qT) (heap_new (by simp [World.setCell]))
    have HFB : Hid (Fbox rT g (.slice (some ⟨gw, 0, none⟩) ws.length cw) (.slice (some ⟨ge, 0, none⟩) ws.length ce) (.int .i64 now) (.slice A L.length c) (w.setCell ⟨ge, f, none⟩ (.int .i64 (y + 2520 * cost / x)))) := by
      show Fbox _ _ _ _ _ _ _
      unfold Fbox
      rw [Below.heap_setCell _ _ _ _ (by exact hd.2.1)]
      exact hF
    have HEND : Hid (∀ (w3 : World) (v' : Value), LinePost qT rT g (.slice (some ⟨gw, 0, none⟩) ws.length cw) (.slice (some ⟨ge, 0, none⟩) ws.length ce) (.int .i64 now) (fun M => M = L ++ [⟨id, f, y⟩]) (w.setCell ⟨ge, f, none⟩ (.int .i64 (y + 2520 * cost / x))) (.slice A L.length c) (w3.setCell ⟨g, 3, none⟩ v') →
      ∃ M S', FairAt rT qT (w3.setCell ⟨g, 3, none⟩ v') g ws (es.set f (y + 2520 * cost / x)) now M S' ∧ M = L ++ [⟨id, f, y⟩] ∧ Trn S w (w3.setCell ⟨g, 3, none⟩ v') ∧ (∀ k, S' k → S k ∨ w.heap.size ≤ k)) := fun w3 v' hp => fair_offer (n := 0) hF hgw hge hv hd hS (by omega) hp
    have HNE := Lib.hid hd.2.2.2.1
    have hgl : g < w.heap.size := heap_lt hF
    have hgg : g ≠ ge := hd.2.1
    clear hF hgw hge hv hd hS hst
    go_enter Try.func16, Try.ntmps16
    go_wp2_with (first
      | (go_at_call 59; (with_reducible refine (outside_any (f : Int) 0 ((ws.length : Int) - 1) _).mono ?_); rintro e w' ⟨he, rfl⟩; rw [ho1] at he; subst he)
      | (go_at_call 59; (with_reducible refine (outside_any cost 1 1000 _).mono ?_); rintro e w' ⟨he, rfl⟩; rw [ho2] at he; subst he))
    go_region
    go_wp2_with (at_builtin; refine append_things qTy rfl _ _ (by rfl) 0 L.length 1 _ _ _ L [⟨id, f, y⟩] (by rfl) (by rfl) HROW.out HSRC.out rfl rfl (by omega) (Nat.zero_le _) ?_; intro A3 c3 w3 h3 hg3 ho3; have g3 := (grown_of_extB' (row := (Value.slice A L.length c).ownBlock) ((new_ext _ _).trans (Below.refl _ _).drew)).trans hg3; have q1 := grown_cell g3 HFB.out.cell HNE.out; have q2 := grown_free g3 HFB.out HNE.out (o := 3); have H3 := Lib.hid (And.intro h3 (And.intro g3 ho3)); clear h3 g3 hg3 ho3)
    go_ret
    obtain ⟨h3, g3, o3⟩ := H3.out
    obtain ⟨M, S', f1, f2, f3, f4⟩ := HEND.out _ _ (line_set HFB.out HNE.out h3 g3 (by
      rcases o3 with o3 | o3
      · exact .inl o3
      · exact .inr fun k e => by rw [o3] at e; injection e with e; simp [World.setCell] at e ⊢; omega) rfl)
    exact ⟨rfl, M, S', f1, f2, f3, f4⟩
  · have hst : max y now = now := by omega
    rw [hst]
    have t5 : decide (now < y) = false := by simp; omega
    have z1 : 0 ≤ now := by omega
    have z2 : now ≤ 10000000000000 := by omega
    have HROW : Hid (TRow qT 0 (((w.setCell ⟨ge, f, none⟩ (.int .i64 (now + 2520 * cost / x))).alloc (.cells #[.int .i64 id, .int .i64 (f : Int), .int .i64 now] qT (0, 0))).drew) (.slice A L.length c) L) := (hv.kept (grown_setCell (grown_refl w (some ge))) (fun k hk e => by injection e with e; subst e; exact hd.2.2.2.2.2 hk)).ext ((new_ext _ _).trans (Below.refl _ _).drew)
    have HSRC : Hid (TSrc (((w.setCell ⟨ge, f, none⟩ (.int .i64 (now + 2520 * cost / x))).alloc (.cells #[.int .i64 id, .int .i64 (f : Int), .int .i64 now] qT (0, 0))).drew) (.slice (some ⟨w.heap.size, 0, none⟩) 1 1) [⟨id, f, now⟩]) := TSrc.of_block (L := [⟨id, f, now⟩]) (et := qT) (heap_new (by simp [World.setCell]))
    have HFB : Hid (Fbox rT g (.slice (some ⟨gw, 0, none⟩) ws.length cw) (.slice (some ⟨ge, 0, none⟩) ws.length ce) (.int .i64 now) (.slice A L.length c) (w.setCell ⟨ge, f, none⟩ (.int .i64 (now + 2520 * cost / x)))) := by
      show Fbox _ _ _ _ _ _ _
      unfold Fbox
      rw [Below.heap_setCell _ _ _ _ (by exact hd.2.1)]
      exact hF
    have HEND : Hid (∀ (w3 : World) (v' : Value), LinePost qT rT g (.slice (some ⟨gw, 0, none⟩) ws.length cw) (.slice (some ⟨ge, 0, none⟩) ws.length ce) (.int .i64 now) (fun M => M = L ++ [⟨id, f, now⟩]) (w.setCell ⟨ge, f, none⟩ (.int .i64 (now + 2520 * cost / x))) (.slice A L.length c) (w3.setCell ⟨g, 3, none⟩ v') →
      ∃ M S', FairAt rT qT (w3.setCell ⟨g, 3, none⟩ v') g ws (es.set f (now + 2520 * cost / x)) now M S' ∧ M = L ++ [⟨id, f, now⟩] ∧ Trn S w (w3.setCell ⟨g, 3, none⟩ v') ∧ (∀ k, S' k → S k ∨ w.heap.size ≤ k)) := fun w3 v' hp => fair_offer (n := 0) hF hgw hge hv hd hS (by omega) hp
    have HNE := Lib.hid hd.2.2.2.1
    have hgl : g < w.heap.size := heap_lt hF
    have hgg : g ≠ ge := hd.2.1
    clear hF hgw hge hv hd hS hst
    go_enter Try.func16, Try.ntmps16
    go_wp2_with (first
      | (go_at_call 59; (with_reducible refine (outside_any (f : Int) 0 ((ws.length : Int) - 1) _).mono ?_); rintro e w' ⟨he, rfl⟩; rw [ho1] at he; subst he)
      | (go_at_call 59; (with_reducible refine (outside_any cost 1 1000 _).mono ?_); rintro e w' ⟨he, rfl⟩; rw [ho2] at he; subst he))
    go_region
    go_wp2_with (at_builtin; refine append_things qTy rfl _ _ (by rfl) 0 L.length 1 _ _ _ L [⟨id, f, now⟩] (by rfl) (by rfl) HROW.out HSRC.out rfl rfl (by omega) (Nat.zero_le _) ?_; intro A3 c3 w3 h3 hg3 ho3; have g3 := (grown_of_extB' (row := (Value.slice A L.length c).ownBlock) ((new_ext _ _).trans (Below.refl _ _).drew)).trans hg3; have q1 := grown_cell g3 HFB.out.cell HNE.out; have q2 := grown_free g3 HFB.out HNE.out (o := 3); have H3 := Lib.hid (And.intro h3 (And.intro g3 ho3)); clear h3 g3 hg3 ho3)
    go_ret
    obtain ⟨h3, g3, o3⟩ := H3.out
    obtain ⟨M, S', f1, f2, f3, f4⟩ := HEND.out _ _ (line_set HFB.out HNE.out h3 g3 (by
      rcases o3 with o3 | o3
      · exact .inl o3
      · exact .inr fun k e => by rw [o3] at e; injection e with e; simp [World.setCell] at e ⊢; omega) rfl)
    exact ⟨rfl, M, S', f1, f2, f3, f4⟩
end Go.Proofs.Ytpbbohinhbboaaa.Fw
