/-
  Flow: the program's Offer where it refuses; its Next and Waits.
-/
import Derived.Test.YtpbbohinhbboaaaFl6
namespace Go.Proofs.Ytpbbohinhbboaaa.Fw
open Go Go.RowKit Go.Proofs.Ytpbbohinhbboaaa.Sx

/-- What an Offer answers. -/
def offErr (n len : Nat) (flow cost : Int) : Int := if flow < 0 ∨ (n : Int) ≤ flow then 7 else if cost < 1 ∨ 1000 < cost then 1 else if 64 ≤ len then 22 else 0
set_option maxRecDepth 100000 in
set_option maxHeartbeats 8000000 in
theorem offer_err (g : Nat) (ws es : List Int) (now : Int) (L : List Th) (S : Nat → Prop) (flow id cost : Int) (w : World) (h : FairAt fT pT w g ws es now L S) (hL : L.length ≤ 64) (he : offErr ws.length L.length flow cost ≠ 0) :
    Calls Try.prog 15 #[.pointer (some ⟨g, 0, none⟩), .int .i64 flow, .int .i64 id, .int .i64 cost] w fun e w' => e = .returned (.int .i64 (offErr ws.length L.length flow cost)) ∧ Ext w w' := by
  obtain ⟨gw, cw, rw_, ge, ce, re, v, hF, hgw, hge, hv, hd, hS⟩ := h
  have b0 : w.cell? ⟨g, 0, none⟩ = some (.slice (some ⟨gw, 0, none⟩) ws.length cw) := by rw [cell_of hF]; rfl
  have b3 := hF.cell
  obtain ⟨A, c, rfl⟩ := hv.slice
  obtain ⟨n, hn⟩ : ∃ n, n = ws.length := ⟨_, rfl⟩
  obtain ⟨m, hm⟩ : ∃ n, n = L.length := ⟨_, rfl⟩
  rw [← hn] at b0 he ⊢
  rw [← hm] at b3 he ⊢
  rw [← hm] at hL
  clear hF hgw hge hv hd hS hn hm
  by_cases h1 : flow < 0 ∨ (n : Int) ≤ flow
  · have HE : Hid (offErr n m flow cost = 7) := if_pos h1
    by_cases h2 : flow < 0
    · have t1 : decide (flow < 0) = true := by simp; omega
      clear he h1 h2 hL
      go_enter Try.func15, Try.ntmps15
      go_wp2
      go_ret
      exact ⟨by rw [HE.out]; rfl, Below.refl _ _⟩
    · have t1 : decide (flow < 0) = false := by simp; omega
      have t2 : decide ((n : Int) ≤ flow) = true := by simp; omega
      clear he h1 h2 hL
      go_enter Try.func15, Try.ntmps15
      go_wp2
      go_ret
      exact ⟨by rw [HE.out]; rfl, Below.refl _ _⟩
  · have t1 : decide (flow < 0) = false := by simp; omega
    have t2 : decide ((n : Int) ≤ flow) = false := by simp; omega
    by_cases h3 : cost < 1 ∨ 1000 < cost
    · have HE : Hid (offErr n m flow cost = 1) := (if_neg h1).trans (if_pos h3)
      by_cases h4 : cost < 1
      · have t3 : decide (cost < 1) = true := by simp; omega
        clear he h1 h3 h4 hL
        go_enter Try.func15, Try.ntmps15
        go_wp2
        go_ret
        exact ⟨by rw [HE.out]; rfl, Below.refl _ _⟩
      · have t3 : decide (cost < 1) = false := by simp; omega
        have t4 : decide (1000 < cost) = true := by simp; omega
        clear he h1 h3 h4 hL
        go_enter Try.func15, Try.ntmps15
        go_wp2
        go_ret
        exact ⟨by rw [HE.out]; rfl, Below.refl _ _⟩
    · have t3 : decide (cost < 1) = false := by simp; omega
      have t4 : decide (1000 < cost) = false := by simp; omega
      by_cases h5 : 64 ≤ m
      · have HE : Hid (offErr n m flow cost = 22) := (if_neg h1).trans ((if_neg h3).trans (if_pos h5))
        obtain rfl : m = 64 := by omega
        clear he h1 h3 h5 hL
        go_enter Try.func15, Try.ntmps15
        go_wp2
        go_ret
        exact ⟨by rw [HE.out]; rfl, Below.refl _ _⟩
      · exact absurd ((if_neg h1).trans ((if_neg h3).trans (if_neg h5))) he
theorem waits_any (g : Nat) (ws es : List Int) (now : Int) (L : List Th) (S : Nat → Prop) (w : World) (h : FairAt fT pT w g ws es now L S) :
    Calls Try.prog 19 #[.pointer (some ⟨g, 0, none⟩)] w fun e w' => e = .returned (.int .i64 (L.length : Int)) ∧ w = w' := by
  obtain ⟨gw, cw, rw_, ge, ce, re, v, hF, hgw, hge, hv, hd, hS⟩ := h
  have b3 := hF.cell
  obtain ⟨A, c, rfl⟩ := hv.slice
  clear hF hgw hge hv hd hS
  go_enter Try.func19, Try.ntmps19
  go_wp2
  go_ret
  exact ⟨rfl, rfl⟩
/-- A line turned, then a new now. -/
theorem fair_next {T et g gw cw ge ce : Nat} {rw_ re : List Value} {v : Value} {ws es : List Int} {now z : Int} {S : Nat → Prop} {P : List Th → Prop} {w w1 w2 : World}
    (hF : Fbox T g (.slice (some ⟨gw, 0, none⟩) ws.length cw) (.slice (some ⟨ge, 0, none⟩) ws.length ce) (.int .i64 now) v w)
    (hgw : w.heap[gw]? = some (.cells (ints ws ++ rw_).toArray iT (0, 0))) (hge : w.heap[ge]? = some (.cells (ints es ++ re).toArray iT (0, 0)))
    (hd : g ≠ gw ∧ g ≠ ge ∧ gw ≠ ge ∧ v.ownBlock ≠ some g ∧ v.ownBlock ≠ some gw ∧ v.ownBlock ≠ some ge) (hS : ∀ k, S k ↔ k = g ∨ k = gw ∨ k = ge ∨ v.ownBlock = some k) (hx : Ext w w1)
    (hp : LinePost et T g (.slice (some ⟨gw, 0, none⟩) ws.length cw) (.slice (some ⟨ge, 0, none⟩) ws.length ce) (.int .i64 now) P w1 v w2) :
    ∃ M S', FairAt T et (w2.setCell ⟨g, 2, none⟩ (.int .i64 z)) g ws es z M S' ∧ P M ∧ Trn S w (w2.setCell ⟨g, 2, none⟩ (.int .i64 z)) ∧ (∀ k, S' k → S k ∨ w.heap.size ≤ k) := by
  obtain ⟨v', M, a1, a2, a3, a4, a5⟩ := hp
  obtain ⟨d1, d2, d3, d4, d5, d6⟩ := hd
  have l0 := heap_lt hF
  have l1 := heap_lt hgw
  have l2 := heap_lt hge
  have hs := hx.size
  have n1 := own_ne (w := w1) (by omega) d4 a5
  have n2 := own_ne (w := w1) (by omega) d5 a5
  have n3 := own_ne (w := w1) (by omega) d6 a5
  refine ⟨M, fun k => k = g ∨ k = gw ∨ k = ge ∨ v'.ownBlock = some k, ⟨gw, cw, rw_, ge, ce, re, v', ?_, ?_, ?_, a3.kept (grown_setCell (grown_refl w2 (some g))) (fun k hk e => by injection e with e; subst e; exact n1 hk), ⟨d1, d2, d3, n1, n2, n3⟩, fun k => Iff.rfl⟩, a2, ?_, ?_⟩
  · have := heap_setCell_same w2 g 2 _ T (.int .i64 z) a1
    simpa [Fbox] using this
  · rw [Below.heap_setCell _ _ _ _ (by exact fun e => d1 e.symm)]
    exact ((a4.block gw (by omega) (fun h => by rcases h with h | h; exact d1 h.symm; exact d5 h)).trans (hx.block gw l1)).trans hgw
  · rw [Below.heap_setCell _ _ _ _ (by exact fun e => d2 e.symm)]
    exact ((a4.block ge (by omega) (fun h => by rcases h with h | h; exact d2 h.symm; exact d6 h)).trans (hx.block ge l2)).trans hge
  · exact ((Trn.of_ext (S := S) hx).trans a4 (fun k _ h => (hS k).2 (by rcases h with h | h; exact .inl h; exact .inr (.inr (.inr h))))).setCell ((hS g).2 (.inl rfl))
  · intro k h
    rcases h with h | h | h | h
    · exact .inl ((hS k).2 (.inl h))
    · exact .inl ((hS k).2 (.inr (.inl h)))
    · exact .inl ((hS k).2 (.inr (.inr (.inl h))))
    · rcases a5 with a5 | hk
      · rw [a5] at h; exact .inl ((hS k).2 (.inr (.inr (.inr h))))
      · have := hk k h; exact .inr (by omega)
/-- What Next answers of what waits. -/
def nextV (x : Th) : Value := .tuple #[.int .i64 x.id, .int .i64 x.flow, .bool true]
set_option maxRecDepth 100000 in
set_option maxHeartbeats 8000000 in
theorem next_none (g : Nat) (ws es : List Int) (now : Int) (S : Nat → Prop) (w : World) (h : FairAt fT pT w g ws es now [] S) :
    Calls Try.prog 17 #[.pointer (some ⟨g, 0, none⟩)] w fun e w' => e = .returned (.tuple #[.int .i64 0, .int .i64 0, .bool false]) ∧ Ext w w' := by
  obtain ⟨gw, cw, rw_, ge, ce, re, v, hF, hgw, hge, hv, hd, hS⟩ := h
  have b3 := hF.cell
  obtain ⟨A, c, rfl⟩ := hv.slice
  clear hF hgw hge hv hd hS
  go_enter Try.func17, Try.ntmps17
  go_wp2
  go_ret3
  exact ⟨rfl, Below.refl _ _⟩
set_option maxRecDepth 100000 in
set_option maxHeartbeats 8000000 in
theorem next_some (g n : Nat) (ws es : List Int) (now : Int) (L : List Th) (S : Nat → Prop) (w : World) (h : FairAt fT pT w g ws es now L S) (hL : L.length = n + 1) (h64 : n ≤ 63) (hh : HeapN L L.length) :
    Calls Try.prog 17 #[.pointer (some ⟨g, 0, none⟩)] w fun e w' => e = .returned (nextV (nth L 0)) ∧
      ∃ M S', FairAt fT pT w' g ws es (nth L 0).start M S' ∧ HeapN M M.length ∧ (M ++ [nth L 0]).Perm L ∧ Trn S w w' ∧ (∀ k, S' k → S k ∨ w.heap.size ≤ k) := by
  obtain ⟨gw, cw, rw_, ge, ce, re, v, hF, hgw, hge, hv, hd, hS⟩ := h
  have b3 := hF.cell
  have hF0 := hF
  have hv0 := hv
  obtain ⟨k, c, rest, rfl, _, hk, _, _⟩ := hv.some_ (by omega)
  obtain ⟨a1, a2, a3⟩ := row_three hk (k := 0) (by omega)
  obtain ⟨x, hx⟩ : ∃ x, x = nth L 0 := ⟨_, rfl⟩
  rw [← hx] at a1 a2 a3
  have hkl : k < w.heap.size := heap_lt hk
  have hgl : g < w.heap.size := heap_lt hF
  have hpos : 0 < L.length := by omega
  have t0 : ((L.length : Int) == 0) = false := by rw [beq_eq_false_iff_ne]; omega
  have CP : Hid (Calls Try.prog 63 #[.iface ptrT (.pointer (some ⟨g, 3, none⟩))] (w.alloc (.cells #[.int .i64 x.id, .int .i64 x.flow, .int .i64 x.start] pT (0, 0))) fun e w' => (∃ a b c, e = .returned (.iface pT (.agg #[.int .i64 a, .int .i64 b, .int .i64 c]))) ∧
      LinePost pT fT g (.slice (some ⟨gw, 0, none⟩) ws.length cw) (.slice (some ⟨ge, 0, none⟩) ws.length ce) (.int .i64 now) (fun M => HeapN M M.length ∧ (M ++ [nth L 0]).Perm L) (w.alloc (.cells #[.int .i64 x.id, .int .i64 x.flow, .int .i64 x.start] pT (0, 0))) (.slice (some ⟨k, 0, none⟩) L.length c) w') :=
    (hpop_any fT g _ _ _ _ L n _ (hF.kept (row := none) (grown_of_extB' (new_ext _ _)) (by simp)) (hv.ext (new_ext _ _)) hL h64 hd.2.2.2.1 hh).mono fun e w' ⟨e1, e2⟩ => ⟨⟨_, _, _, e1⟩, e2⟩
  have HB : Hid (∀ w2, LinePost pT fT g (.slice (some ⟨gw, 0, none⟩) ws.length cw) (.slice (some ⟨ge, 0, none⟩) ws.length ce) (.int .i64 now) (fun M => HeapN M M.length ∧ (M ++ [nth L 0]).Perm L) (w.alloc (.cells #[.int .i64 x.id, .int .i64 x.flow, .int .i64 x.start] pT (0, 0))) (.slice (some ⟨k, 0, none⟩) L.length c) w2 →
      w2.cell? ⟨w.heap.size, 0, none⟩ = some (.int .i64 x.id) ∧ w2.cell? ⟨w.heap.size, 1, none⟩ = some (.int .i64 x.flow) ∧ w2.cell? ⟨w.heap.size, 2, none⟩ = some (.int .i64 x.start) ∧ w2.cell? ⟨g, 2, none⟩ = some (.int .i64 now) ∧ w2.frozen? ⟨g, 2, none⟩ = false) := fun w2 ⟨v', M, b1, _, _, b4, _⟩ => by
    have hbx : w2.heap[w.heap.size]? = some (.cells #[.int .i64 x.id, .int .i64 x.flow, .int .i64 x.start] pT (0, 0)) := by
      rw [b4.block w.heap.size (by simp) (fun h => by
        rcases h with h | h
        · omega
        · have e : k = w.heap.size := by simpa [Value.ownBlock] using h
          omega)]
      exact heap_new rfl
    refine ⟨by rw [cell_of hbx]; rfl, by rw [cell_of hbx]; rfl, by rw [cell_of hbx]; rfl, by rw [cell_of b1]; rfl, row_free b1⟩
  have HALL := Lib.hid (And.intro hF (And.intro hgw (And.intro hge (And.intro hd hS))))
  have HX := Lib.hid hx
  clear hF hgw hge hd hS hh hv hx hL h64 hF0 hv0 hk
  go_enter Try.func17, Try.ntmps17
  go_wp2_with (go_at_call 63; (with_reducible refine CP.out.mono ?_); rintro e w2 ⟨⟨p1, p2, p3, rfl⟩, h2⟩; obtain ⟨y0, y1, y2, y3, y4⟩ := HB.out w2 h2; have H2 := Lib.hid h2; clear h2)
  go_quiet (fail)
  go_wp2_with fail
  go_ret3
  obtain ⟨q1, q2, q3, q4, q5⟩ := HALL.out
  obtain ⟨M, S', f1, ⟨f2, f3⟩, f4, f5⟩ := fair_next (z := x.start) q1 q2 q3 q4 q5 (new_ext _ _) H2.out
  rw [← HX.out]
  exact ⟨rfl, M, S', f1.ext (ext_drewN' _ _), f2, by rw [HX.out]; exact f3, f4.drewN _, f5⟩
end Go.Proofs.Ytpbbohinhbboaaa.Fw
