/-
  Flow: a Fair in memory; Offer of both.
-/
import Derived.Test.YtpbbohinhbboaaaFl5
import Derived.Test.YtpbbohinhbboaaaIns
namespace Go.Proofs.Ytpbbohinhbboaaa.Fw
open Go Go.RowKit Go.Proofs.Ytpbbohinhbboaaa.Sx

/-- A Fair: the struct in block g, its weights, its ends, what waits; S: its blocks. -/
def FairAt (T et : Nat) (w : World) (g : Nat) (ws es : List Int) (now : Int) (L : List Th) (S : Nat → Prop) : Prop :=
  ∃ gw cw rw ge ce re v, Fbox T g (.slice (some ⟨gw, 0, none⟩) ws.length cw) (.slice (some ⟨ge, 0, none⟩) ws.length ce) (.int .i64 now) v w ∧
    w.heap[gw]? = some (.cells (ints ws ++ rw).toArray iT (0, 0)) ∧ w.heap[ge]? = some (.cells (ints es ++ re).toArray iT (0, 0)) ∧ TRow et 0 w v L ∧
    (g ≠ gw ∧ g ≠ ge ∧ gw ≠ ge ∧ v.ownBlock ≠ some g ∧ v.ownBlock ≠ some gw ∧ v.ownBlock ≠ some ge) ∧ (∀ k, S k ↔ k = g ∨ k = gw ∨ k = ge ∨ v.ownBlock = some k)
theorem FairAt.ext {T et : Nat} {w w' : World} {g : Nat} {ws es : List Int} {now : Int} {L : List Th} {S : Nat → Prop} (h : FairAt T et w g ws es now L S) (he : Ext w w') : FairAt T et w' g ws es now L S := by
  obtain ⟨gw, cw, rw_, ge, ce, re, v, hF, hgw, hge, hv, hd, hS⟩ := h
  exact ⟨gw, cw, rw_, ge, ce, re, v, hF.kept (row := none) (grown_of_extB' he) (by simp), (he.block gw (heap_lt hgw)).trans hgw, (he.block ge (heap_lt hge)).trans hge, hv.ext he, hd, hS⟩
/-- It stands where only other blocks have turned. -/
theorem FairAt.kept {T et : Nat} {w w' : World} {g : Nat} {ws es : List Int} {now : Int} {L : List Th} {S U : Nat → Prop} (h : FairAt T et w g ws es now L S) (ht : Trn U w w') (hd : ∀ k, S k → ¬ U k) : FairAt T et w' g ws es now L S := by
  obtain ⟨gw, cw, rw_, ge, ce, re, v, hF, hgw, hge, hv, hq, hS⟩ := h
  refine ⟨gw, cw, rw_, ge, ce, re, v, (ht.block g (heap_lt hF) (hd g ((hS g).2 (.inl rfl)))).trans hF, (ht.block gw (heap_lt hgw) (hd gw ((hS gw).2 (.inr (.inl rfl))))).trans hgw, (ht.block ge (heap_lt hge) (hd ge ((hS ge).2 (.inr (.inr (.inl rfl)))))).trans hge, ?_, hq, hS⟩
  rcases hv with hv | ⟨gv, c, rest, rfl, hb, hh, hc⟩
  · exact .inl hv
  · exact .inr ⟨gv, c, rest, rfl, hb, (ht.block gv (heap_lt hh) (hd gv ((hS gv).2 (.inr (.inr (.inr rfl)))))).trans hh, hc⟩
/-- All its blocks are there. -/
theorem FairAt.lt {T et : Nat} {w : World} {g : Nat} {ws es : List Int} {now : Int} {L : List Th} {S : Nat → Prop} (h : FairAt T et w g ws es now L S) {k : Nat} (hk : S k) : k < w.heap.size := by
  obtain ⟨gw, cw, rw_, ge, ce, re, v, hF, hgw, hge, hv, hq, hS⟩ := h
  rcases (hS k).1 hk with e | e | e | e
  · rw [e]; exact heap_lt hF
  · rw [e]; exact heap_lt hgw
  · rw [e]; exact heap_lt hge
  · exact (hv.block k e).2
theorem int_cell {w : World} {g k : Nat} {zs : List Int} {rest : List Value} (hg : w.heap[g]? = some (.cells (ints zs ++ rest).toArray iT (0, 0))) (hk : k < zs.length) : w.cell? ⟨g, k, none⟩ = some (.int .i64 (zs.getD k 0)) := by
  rw [cell_of hg, List.getElem?_toArray, List.getElem?_append_left (by rw [ints_len]; exact hk)]
  simp [ints, List.getD, hk]
theorem int_put {w : World} {g k : Nat} {zs : List Int} {rest : List Value} (hg : w.heap[g]? = some (.cells (ints zs ++ rest).toArray iT (0, 0))) (hk : k < zs.length) (x : Int) : (w.setCell ⟨g, k, none⟩ (.int .i64 x)).heap[g]? = some (.cells (ints (zs.set k x) ++ rest).toArray iT (0, 0)) := by
  rw [heap_setCell_same w g k _ iT _ hg]
  congr 2
  simp only [List.setIfInBounds_toArray]
  rw [List.set_append_left _ _ (by rw [ints_len]; exact hk)]
  simp [ints, List.map_set]
theorem heap_drewN (w : World) (n : Nat) : (w.drewN n).heap = w.heap := by
  induction n with
  | zero => rfl
  | succ n ih => exact ih
theorem Trn.drewN {S : Nat → Prop} {w w' : World} (h : Trn S w w') (n : Nat) : Trn S w (w'.drewN n) := h.trans (Trn.of_ext (S := fun _ => False) (ext_drewN' w' n)) (fun _ _ f => f.elim)
/-- An Offer's store, then its line turned. -/
theorem fair_offer {T et g gw cw ge ce f n : Nat} {rw_ re : List Value} {v : Value} {ws es : List Int} {now z : Int} {L : List Th} {S : Nat → Prop} {P : List Th → Prop} {w w' : World}
    (hF : Fbox T g (.slice (some ⟨gw, 0, none⟩) ws.length cw) (.slice (some ⟨ge, 0, none⟩) ws.length ce) (.int .i64 now) v w)
    (hgw : w.heap[gw]? = some (.cells (ints ws ++ rw_).toArray iT (0, 0))) (hge : w.heap[ge]? = some (.cells (ints es ++ re).toArray iT (0, 0))) (_hv : TRow et 0 w v L)
    (hd : g ≠ gw ∧ g ≠ ge ∧ gw ≠ ge ∧ v.ownBlock ≠ some g ∧ v.ownBlock ≠ some gw ∧ v.ownBlock ≠ some ge) (hS : ∀ k, S k ↔ k = g ∨ k = gw ∨ k = ge ∨ v.ownBlock = some k) (hf : f < es.length)
    (hp : LinePost et T g (.slice (some ⟨gw, 0, none⟩) ws.length cw) (.slice (some ⟨ge, 0, none⟩) ws.length ce) (.int .i64 now) P ((w.drewN n).setCell ⟨ge, f, none⟩ (.int .i64 z)) v w') :
    ∃ M S', FairAt T et w' g ws (es.set f z) now M S' ∧ P M ∧ Trn S w w' ∧ (∀ k, S' k → S k ∨ w.heap.size ≤ k) := by
  obtain ⟨v', M, a1, a2, a3, a4, a5⟩ := hp
  obtain ⟨d1, d2, d3, d4, d5, d6⟩ := hd
  have hz : ((w.drewN n).setCell ⟨ge, f, none⟩ (.int .i64 z)).heap.size = w.heap.size := by simp [World.setCell]
  have hW : Trn S w ((w.drewN n).setCell ⟨ge, f, none⟩ (.int .i64 z)) := ((Trn.refl S w).drewN n).setCell ((hS ge).2 (by simp))
  have e1 : ((w.drewN n).setCell ⟨ge, f, none⟩ (.int .i64 z)).heap[gw]? = some (.cells (ints ws ++ rw_).toArray iT (0, 0)) := by
    rw [Below.heap_setCell _ _ _ _ (by exact d3), heap_drewN]
    exact hgw
  have e2 : ((w.drewN n).setCell ⟨ge, f, none⟩ (.int .i64 z)).heap[ge]? = some (.cells (ints (es.set f z) ++ re).toArray iT (0, 0)) := int_put (by rw [heap_drewN]; exact hge) hf z
  have l0 := heap_lt hF
  have l1 := heap_lt hgw
  have l2 := heap_lt hge
  refine ⟨M, fun k => k = g ∨ k = gw ∨ k = ge ∨ v'.ownBlock = some k, ⟨gw, cw, rw_, ge, ce, re, v', a1, ?_, ?_, a3, ⟨d1, d2, d3, own_ne (by rw [hz]; exact l0) d4 a5, own_ne (by rw [hz]; exact l1) d5 a5, own_ne (by rw [hz]; exact l2) d6 a5⟩, fun k => Iff.rfl⟩, a2, ?_, ?_⟩
  · exact (a4.block gw (by rw [hz]; exact l1) (fun h => by rcases h with h | h; exact d1 h.symm; exact d5 h)).trans e1
  · exact (a4.block ge (by rw [hz]; exact l2) (fun h => by rcases h with h | h; exact d2 h.symm; exact d6 h)).trans e2
  · exact hW.trans a4 (fun k _ h => (hS k).2 (by rcases h with h | h; exact .inl h; exact .inr (.inr (.inr h))))
  · intro k h
    rcases h with h | h | h | h
    · exact .inl ((hS k).2 (.inl h))
    · exact .inl ((hS k).2 (.inr (.inl h)))
    · exact .inl ((hS k).2 (.inr (.inr (.inl h))))
    · rcases a5 with a5 | hk
      · rw [a5] at h; exact .inl ((hS k).2 (.inr (.inr (.inr h))))
      · have := hk k h; rw [hz] at this; exact .inr this
abbrev fT : Nat := 102
set_option maxRecDepth 100000 in
set_option maxHeartbeats 8000000 in
theorem offer_ok (g : Nat) (ws es : List Int) (now : Int) (L : List Th) (S : Nat → Prop) (f : Nat) (id cost : Int) (w : World) (h : FairAt fT pT w g ws es now L S) (hf : f < ws.length) (he : es.length = ws.length) (h1 : 1 ≤ cost) (h2 : cost ≤ 1000) (hL : L.length ≤ 63)
    (hh : HeapN L L.length) (hw : 1 ≤ ws.getD f 0 ∧ ws.getD f 0 ≤ 10) (hes : 0 ≤ es.getD f 0 ∧ es.getD f 0 ≤ 10000000000000) (hnow : 0 ≤ now ∧ now ≤ 10000000000000) :
    Calls Try.prog 15 #[.pointer (some ⟨g, 0, none⟩), .int .i64 (f : Int), .int .i64 id, .int .i64 cost] w fun e w' => e = .returned (.int .i64 0) ∧
      ∃ M S', FairAt fT pT w' g ws (es.set f (max (es.getD f 0) now + 2520 * cost / ws.getD f 0)) now M S' ∧ HeapN M M.length ∧ M.Perm (L ++ [⟨id, f, max (es.getD f 0) now⟩]) ∧ Trn S w w' ∧ (∀ k, S' k → S k ∨ w.heap.size ≤ k) := by
  obtain ⟨gw, cw, rw_, ge, ce, re, v, hF, hgw, hge, hv, hd, hS⟩ := h
  have b0 : w.cell? ⟨g, 0, none⟩ = some (.slice (some ⟨gw, 0, none⟩) ws.length cw) := by rw [cell_of hF]; rfl
  have b1 : w.cell? ⟨g, 1, none⟩ = some (.slice (some ⟨ge, 0, none⟩) ws.length ce) := by rw [cell_of hF]; rfl
  have b2 : w.cell? ⟨g, 2, none⟩ = some (.int .i64 now) := by rw [cell_of hF]; rfl
  have b3 := hF.cell
  have c1 := int_cell hgw hf
  have c2 := int_cell hge (by omega : f < es.length)
  obtain ⟨x, hx⟩ : ∃ x, x = ws.getD f 0 := ⟨_, rfl⟩
  obtain ⟨y, hy⟩ : ∃ x, x = es.getD f 0 := ⟨_, rfl⟩
  rw [← hx] at c1 hw ⊢
  rw [← hy] at c2 hes ⊢
  obtain ⟨hw1, hw2⟩ := hw
  obtain ⟨hy1, hy2⟩ := hes
  obtain ⟨hn1, hn2⟩ := hnow
  have hfz : w.frozen? ⟨ge, f, none⟩ = false := row_free hge
  obtain ⟨A, c, rfl⟩ := hv.slice
  have hq63 : (L.length : Int) ≤ 63 := by omega
  have t64 : ((L.length : Int) == 64) = false := by simp; omega
  have tf : decide (ws.length ≤ f) = false := by simp; omega
  have tc1 : decide (cost < 1) = false := by simp; omega
  have tc2 : decide (1000 < cost) = false := by simp; omega
  have hfi : (f : Int) < (ws.length : Int) := by omega
  clear hx hy
  go_enter Try.func15, Try.ntmps15
  go_wp2_with fail
  go_quiet (fail)
  go_wp2_with fail
  have z1 : 0 ≤ max y now := by omega
  have z2 : max y now ≤ 10000000000000 := by omega
  have m1 : 2520 ≤ 2520 * cost := by omega
  have m2 : 2520 * cost ≤ 2520000 := by omega
  have d1 : 0 ≤ 2520 * cost / x := Int.ediv_nonneg (by omega) (by omega)
  have d2 : 2520 * cost / x ≤ 2520000 := Int.le_trans (Int.ediv_le_self _ (by omega)) (by omega)
  have x0 : (x == 0) = false := by simp; omega
  have HP : Hid (∀ n, Calls Try.prog 62 #[.iface ptrT (.pointer (some ⟨g, 3, none⟩)), .iface pT (.agg #[.int .i64 id, .int .i64 (f : Int), .int .i64 (max y now)])] ((w.drewN n).setCell ⟨ge, f, none⟩ (.int .i64 (max y now + 2520 * cost / x))) fun e w' => e = .returned (.tuple #[]) ∧
      ∃ M S', FairAt fT pT w' g ws (es.set f (max y now + 2520 * cost / x)) now M S' ∧ (HeapN M M.length ∧ M.Perm (L ++ [⟨id, f, max y now⟩])) ∧ Trn S w w' ∧ (∀ k, S' k → S k ∨ w.heap.size ≤ k)) := fun n => by
    have hFW : Fbox fT g (.slice (some ⟨gw, 0, none⟩) ws.length cw) (.slice (some ⟨ge, 0, none⟩) ws.length ce) (.int .i64 now) (.slice A L.length c) ((w.drewN n).setCell ⟨ge, f, none⟩ (.int .i64 (max y now + 2520 * cost / x))) := by
      unfold Fbox
      rw [Below.heap_setCell _ _ _ _ (by exact hd.2.1), heap_drewN]
      exact hF
    have hvW : TRow pT 0 ((w.drewN n).setCell ⟨ge, f, none⟩ (.int .i64 (max y now + 2520 * cost / x))) (.slice A L.length c) L := (hv.ext (ext_drewN' w n)).kept (grown_setCell (grown_refl _ (some ge))) (fun k hk e => by injection e with e; subst e; exact hd.2.2.2.2.2 hk)
    refine (hpush_any fT g _ _ _ _ L ⟨id, f, max y now⟩ _ hFW hvW hL hd.2.2.2.1 hh).mono fun e w' ⟨e1, e2⟩ => ⟨e1, ?_⟩
    obtain ⟨M, S', f1, f2, f3, f4⟩ := fair_offer hF hgw hge hv hd hS (by omega) e2
    exact ⟨M, S', f1, f2, f3, f4⟩
  clear hF hgw hge hv hd hS hh
  go_region
  go_wp2_with (go_at_call 62; (with_reducible refine (HP.out _).mono ?_); rintro e w3 ⟨rfl, h3⟩; have H3 := Lib.hid h3; clear h3)
  go_ret
  obtain ⟨M, S', f1, ⟨f2, f3⟩, f4, f5⟩ := H3.out
  exact ⟨rfl, M, S', f1, f2, f3, f4, f5⟩
end Go.Proofs.Ytpbbohinhbboaaa.Fw
