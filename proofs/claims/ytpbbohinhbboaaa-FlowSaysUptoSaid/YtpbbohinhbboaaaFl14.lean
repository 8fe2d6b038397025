/-
  The law FlowSays: it returns true.
-/
import Derived.Test.YtpbbohinhbboaaaFl13
import Derived.Deep.RegionHeld3
namespace Go.Proofs.Ytpbbohinhbboaaa.Fw
open Go Go.RowKit Go.Proofs.Ytpbbohinhbboaaa.Sx

def SomeI (w : World) (e : Ending) (w' : World) : Prop := ∃ s : Int, e = .returned (.int .i64 s) ∧ w = w'
theorem rest_some (k : Int) (w : World) : Calls Try.prog 61 #[.int .i64 k, .int .i64 2] w (SomeI w) := by
  go_enter Try.func61, Try.ntmps61
  go_wp2
  all_goals (go_ret; exact ⟨_, rfl, rfl⟩)
theorem step_any (k : Int) (w : World) : Calls Try.prog 14 #[.int .i64 k, .int .i64 2] w (SomeI w) := by
  go_enter Try.func14, Try.ntmps14
  go_wp2_with (go_at_call 61; (with_reducible refine (rest_some k w).mono ?_); rintro e w2 ⟨s, rfl, rfl⟩)
  go_ret
  exact ⟨s, rfl, rfl⟩
structure St where
  kind : Int
  flow : Int
  id : Int
  cost : Int
/-- The slice value v reads as these steps. -/
def StepsAt (w : World) (v : Value) (l : List St) : Prop := ∃ A c, v = .slice A l.length c ∧ ∀ j (h : j < l.length), ∃ b off, A = some ⟨b, off, none⟩ ∧ b < w.heap.size ∧
  w.cell? ⟨b, off + j * 4, none⟩ = some (.int .i64 l[j].kind) ∧ w.cell? ⟨b, off + j * 4 + 1, none⟩ = some (.int .i64 l[j].flow) ∧ w.cell? ⟨b, off + j * 4 + 2, none⟩ = some (.int .i64 l[j].id) ∧ w.cell? ⟨b, off + j * 4 + 3, none⟩ = some (.int .i64 l[j].cost)
set_option maxRecDepth 100000 in
set_option maxHeartbeats 4000000 in
theorem flowSays_bad (v1 v2 : Value) (zs : List Int) (l : List St) (w : World) (h1 : IntsAt w v1 zs) (h2 : StepsAt w v2 l) (hz : zs.length ≤ 1048576) (he : newErr zs ≠ 0) :
    Calls Try.prog 4 #[v1, v2] w fun e w' => e = .returned (.bool true) ∧ Ext w w' := by
  obtain ⟨er, hr⟩ : ∃ e, e = newErr zs := ⟨_, rfl⟩
  have C1 : Hid (Calls Try.prog 12 #[v1] w fun e w' => e = .returned (.tuple #[.pointer none, .int .i64 er]) ∧ w = w') := by rw [hr]; exact new_err v1 zs w h1 hz he
  have C2 : Hid (Calls Try.prog 13 #[v1] w fun e w' => e = .returned (.tuple #[.pointer none, .int .i64 er]) ∧ w = w') := by
    rw [hr]
    rcases Nat.lt_or_ge 8 zs.length with h | h
    · exact rnew_big v1 zs w h1 h hz
    · exact (rnew_small v1 zs w h1 h).mono fun e w' ⟨a, _⟩ => a he
  have t1 : (er == 0) = false := by rw [beq_eq_false_iff_ne, hr]; exact he
  have t2 : (er != 0) = true := by simp [hr, he]
  obtain ⟨A, c, rfl, _⟩ := h1
  obtain ⟨A', c', rfl, _⟩ := h2
  clear he hr
  go_enter Try.func4, Try.ntmps4
  go_wp2_with (first
    | (go_at_call 12; (with_reducible refine C1.out.mono ?_); rintro e w' ⟨rfl, rfl⟩)
    | (go_at_call 13; (with_reducible refine C2.out.mono ?_); rintro e w' ⟨rfl, rfl⟩))
  go_ret
  exact ⟨rfl, Below.refl _ _⟩
theorem FairAt.cell {T et : Nat} {w : World} {g : Nat} {ws es : List Int} {now : Int} {L : List Th} {S : Nat → Prop} (h : FairAt T et w g ws es now L S) : ∃ A c, w.cell? ⟨g, 3, none⟩ = some (.slice A L.length c) := by
  obtain ⟨gw, cw, rw_, ge, ce, re, v, hF, hgw, hge, hv, hd, hS⟩ := h
  obtain ⟨A, c, rfl⟩ := hv.slice
  exact ⟨A, c, hF.cell⟩
/-- What is left of both is looked at: they have as many. -/
theorem J.looks {w : World} {zs : List Int} {g1 g2 k : Nat} {W : World} (h : J w zs g1 g2 k W) : ∃ (n : Nat) (A : Option Addr) (c : Nat), n ≤ 64 ∧ W.cell? ⟨g2, 3, none⟩ = some (.slice A n c) ∧ g2 < W.heap.size ∧
    ∀ q, Calls Try.prog 19 #[.pointer (some ⟨g1, 0, none⟩)] (W.drewN q) fun e w' => e = .returned (.int .i64 (n : Int)) ∧ w' = W.drewN q := by
  obtain ⟨es, now, L1, L2, S1, S2, a1, a2, a3, _⟩ := h
  obtain ⟨A, c, hc⟩ := a2.cell
  have e := a3.perm.length_eq
  refine ⟨L2.length, A, c, a3.few, hc, ?_, fun q => ?_⟩
  · obtain ⟨gw, cw, rw_, ge, ce, re, v, hF, _⟩ := a2
    exact heap_lt hF
  · rw [← e]
    exact (waits_any g1 zs es now L1 S1 (W.drewN q) (a1.ext (ext_drewN' _ _))).mono fun _ _ ⟨x, y⟩ => ⟨x, y.symm⟩
set_option maxRecDepth 100000 in
set_option maxHeartbeats 16000000 in
theorem flowSays_good (v1 v2 : Value) (zs : List Int) (l : List St) (w : World) (h1 : IntsAt w v1 zs) (h2 : StepsAt w v2 l) (hl : l.length ≤ 1048576) (he : newErr zs = 0) (h8 : zs.length ≤ 8) (hzb : ∀ f, f < zs.length → 1 ≤ zs.getD f 0 ∧ zs.getD f 0 ≤ 10) :
    Calls Try.prog 4 #[v1, v2] w fun e w' => e = .returned (.bool true) ∧ Ext w w' := by
  have C1 : Hid (Calls Try.prog 12 #[v1] w fun e w' => ∃ g S, e = .returned (.tuple #[.pointer (some ⟨g, 0, none⟩), .int .i64 0]) ∧ FairAt fT pT w' g zs (List.replicate zs.length 0) 0 [] S ∧ (∀ k, S k → w.heap.size ≤ k) ∧ Ext w w') := new_ok v1 zs w h1 he
  have C2 : Hid (∀ wk, Ext w wk → Calls Try.prog 13 #[v1] wk fun e w' => ∃ g S, e = .returned (.tuple #[.pointer (some ⟨g, 0, none⟩), .int .i64 0]) ∧ FairAt rT qT w' g zs (List.replicate zs.length 0) 0 [] S ∧ (∀ k, S k → wk.heap.size ≤ k) ∧ Ext wk w') := fun wk hw => (rnew_small v1 zs wk (h1.ext hw) h8).mono fun e w' ⟨_, a⟩ => a he
  have H2 := Lib.hid h2
  have H8 := Lib.hid (And.intro h8 hzb)
  obtain ⟨A, c, rfl, _⟩ := h1
  obtain ⟨A', c', rfl, _⟩ := h2
  obtain ⟨n, hn⟩ : ∃ n, n = l.length := ⟨_, rfl⟩
  rw [← hn] at hl ⊢
  have HN := Lib.hid hn
  clear he h8 hzb hn
  go_enter Try.func4, Try.ntmps4
  go_wp2_with (first
    | (go_at_call 12; (with_reducible refine C1.out.mono ?_); rintro e w1 ⟨g1, S1, rfl, a1, a2, a3⟩; have HA := Lib.hid (And.intro a1 (And.intro a2 a3)); clear a1 a2 a3)
    | (go_at_call 13; (with_reducible refine (C2.out _ HA.out.2.2).mono ?_); rintro e w2 ⟨g2, S2, rfl, b1, b2, b3⟩; have HB := Lib.hid (And.intro b1 (And.intro b2 b3)); clear b1 b2 b3))
  go_loopw [44] (fun i wr => ∃ k : Nat, i = .int .i64 (k : Int) ∧ k ≤ n ∧ Hid (J w zs g1 g2 k wr)) (fun i _ => n - (intOf i).toNat)
  case atStart =>
    obtain ⟨a1, a2, a3⟩ := HA.out
    obtain ⟨b1, b2, b3⟩ := HB.out
    exact ⟨0, rfl, Nat.zero_le _, _, _, [], [], S1, S2, a1.ext b3, b1, JP.start, fun b h1 h2 => by have := a1.lt h1; have := b2 b h2; omega, a2, fun b h => by have := b2 b h; have := a3.size; omega, a3.trans b3⟩
  case round =>
    obtain ⟨k, rfl, hk, hJ⟩ := hrel
    by_cases hlt : k < n
    · have tk : decide (k < n) = true := by simp; omega
      obtain ⟨A2, c2, e, hh⟩ := H2.out
      injection e with e1 e2 e3
      subst e1
      have hkl : k < l.length := by rw [← HN.out]; exact hlt
      obtain ⟨b, off, rfl, hb, s1, s2, s3, s4⟩ := hh k hkl
      obtain ⟨x, hx⟩ : ∃ x, x = l[k] := ⟨_, rfl⟩
      rw [← hx] at s1 s2 s3 s4
      have HXW : Ext w wr := by obtain ⟨_, _, _, _, _, _, _, _, _, _, _, _, h⟩ := hJ.out; exact h
      have p1 := (HXW.cell (p := ⟨b, off + k * 4, none⟩) hb).trans s1
      have p2 := (HXW.cell (p := ⟨b, off + k * 4 + 1, none⟩) hb).trans s2
      have p3 := (HXW.cell (p := ⟨b, off + k * 4 + 2, none⟩) hb).trans s3
      have p4 := (HXW.cell (p := ⟨b, off + k * 4 + 3, none⟩) hb).trans s4
      have hbr : b < wr.heap.size := Nat.lt_of_lt_of_le hb HXW.size
      clear hx hh s1 s2 s3 s4 HXW e2 e3 hkl
      obtain ⟨es, now, L1, L2, S1', S2', a1, a2, a3, a4, a5, a6, a7⟩ := hJ.out
      have hlen := a3.perm.length_eq
      obtain ⟨wr1, hwr1⟩ : ∃ w1, w1 = wr.alloc (.cells #[.int .i64 x.kind, .int .i64 x.flow, .int .i64 x.id, .int .i64 x.cost] 35 (0, 0)) := ⟨_, rfl⟩
      have HW1 := Lib.hid hwr1
      have hx01 : Ext wr wr1 := by rw [hwr1]; exact new_ext _ _
      have a1' := a1.ext hx01
      have a2' := a2.ext hx01
      have a7' := a7.trans hx01
      have HBX : Hid (∀ wk : World, wk.heap[wr.heap.size]? = wr1.heap[wr.heap.size]? → wk.cell? ⟨wr.heap.size, 1, none⟩ = some (.int .i64 x.flow) ∧ wk.cell? ⟨wr.heap.size, 2, none⟩ = some (.int .i64 x.id) ∧ wk.cell? ⟨wr.heap.size, 3, none⟩ = some (.int .i64 x.cost)) := fun wk hw => by
        have hbx : wk.heap[wr.heap.size]? = some (.cells #[.int .i64 x.kind, .int .i64 x.flow, .int .i64 x.id, .int .i64 x.cost] 35 (0, 0)) := by
          rw [hw, hwr1]
          exact heap_new rfl
        exact ⟨by rw [cell_of hbx]; rfl, by rw [cell_of hbx]; rfl, by rw [cell_of hbx]; rfl⟩
      have HS1 : Hid (wr.heap.size < wr1.heap.size) := by show wr.heap.size < wr1.heap.size; rw [hwr1]; simp
      have HS2 : Hid (∀ q, S1' q → q < wr.heap.size) := fun q hq => a1.lt hq
      have HS3 : Hid (∀ q, S2' q → q < wr.heap.size) := fun q hq => a2.lt hq
      have HJ0 := Lib.hid (And.intro a3 (And.intro a4 (And.intro a5 (And.intro a6 (And.intro a7' (And.intro a1' a2'))))))
      have HX01 := Lib.hid hx01
      have HLEN := Lib.hid hlen
      clear hwr1 a1 a2 a3 a4 a5 a6 a7 a1' a2' a7' hx01 hlen
      go_wp2_with fail
      refine (step_any _ _).mono ?_
      rintro e w' ⟨s, rfl, rfl⟩
      by_cases hs : s = 0
      · have ts : (s == 0) = true := by simp [hs]
        clear hs
        by_cases her : offErr zs.length L2.length x.flow x.cost = 0
        · obtain ⟨f, hf, hfz, hc1, hc2, hl63⟩ : ∃ f : Nat, x.flow = (f : Int) ∧ f < zs.length ∧ 1 ≤ x.cost ∧ x.cost ≤ 1000 ∧ L2.length ≤ 63 := by
            unfold offErr at her
            by_cases q1 : x.flow < 0 ∨ (zs.length : Int) ≤ x.flow
            · rw [if_pos q1] at her; omega
            · rw [if_neg q1] at her
              by_cases q2 : x.cost < 1 ∨ 1000 < x.cost
              · rw [if_pos q2] at her; omega
              · rw [if_neg q2] at her
                by_cases q3 : 64 ≤ L2.length
                · rw [if_pos q3] at her; omega
                · exact ⟨x.flow.toNat, by omega, by omega, by omega, by omega, by omega⟩
          clear her
          obtain ⟨y, hy⟩ : ∃ y, y = es.getD f 0 := ⟨_, rfl⟩
          have C1 : Hid (∀ wk, Ext wr1 wk → Calls Try.prog 15 #[.pointer (some ⟨g1, 0, none⟩), .int .i64 x.flow, .int .i64 x.id, .int .i64 x.cost] wk fun e w' => e = .returned (.int .i64 0) ∧
              Mid w g2 zs es now L2 S1' S2' wr1 w' g1 (es.set f (max (es.getD f 0) now + 2520 * x.cost / zs.getD f 0)) now (fun M => HeapN M M.length ∧ M.Perm (L1 ++ [⟨x.id, f, max (es.getD f 0) now⟩])) ∧ w'.cell? ⟨wr.heap.size, 1, none⟩ = some (.int .i64 x.flow) ∧ w'.cell? ⟨wr.heap.size, 2, none⟩ = some (.int .i64 x.id) ∧ w'.cell? ⟨wr.heap.size, 3, none⟩ = some (.int .i64 x.cost)) := fun wk hw => by
            obtain ⟨a3, a4, a5, a6, a7, a1, a2⟩ := HJ0.out
            rw [hf]
            have hfe : f < es.length := by rw [a3.len]; exact hfz
            have e1 := a3.ends f hfe
            have e2 := a3.now0
            have hk2 : (k : Int) * 2520000 ≤ 10000000000000 := by omega
            refine (offer_ok g1 zs es now L1 S1' f x.id x.cost wk (a1.ext hw) hfz a3.len hc1 hc2 (by rw [HLEN.out]; exact hl63) a3.heap (H8.out.2 f hfz) ⟨e1.1, by omega⟩ ⟨e2.1, by omega⟩).mono fun e w' ⟨q1, M, S', q2, q3, q4, q5, q6⟩ => ⟨q1, ?_⟩
            have hm := Mid.mk' (L2 := L2) (zs := zs) a2 a4 a5 a7 hw q2 (Q := fun M => HeapN M M.length ∧ M.Perm (L1 ++ [⟨x.id, f, max (es.getD f 0) now⟩])) ⟨q3, q4⟩ q5 q6
            have hb := HBX.out w' (hm.trn.block _ HS1.out (fun h => by have := HS2.out _ h; omega))
            rw [hf] at hb
            exact ⟨hm, hb⟩
          have C2 : Hid (∀ wk, Mid w g2 zs es now L2 S1' S2' wr1 wk g1 (es.set f (max (es.getD f 0) now + 2520 * x.cost / zs.getD f 0)) now (fun M => HeapN M M.length ∧ M.Perm (L1 ++ [⟨x.id, f, max (es.getD f 0) now⟩])) → Calls Try.prog 16 #[.pointer (some ⟨g2, 0, none⟩), .int .i64 x.flow, .int .i64 x.id, .int .i64 x.cost] wk fun e w' => e = .returned (.int .i64 0) ∧ J w zs g1 g2 (k + 1) w' ∧ w'.cell? ⟨wr.heap.size, 1, none⟩ = some (.int .i64 x.flow) ∧ w'.cell? ⟨wr.heap.size, 2, none⟩ = some (.int .i64 x.id) ∧ w'.cell? ⟨wr.heap.size, 3, none⟩ = some (.int .i64 x.cost)) := fun wk hm => by
            obtain ⟨a3, a4, a5, a6, a7, a1, a2⟩ := HJ0.out
            rw [hf]
            have hfe : f < es.length := by rw [a3.len]; exact hfz
            have e1 := a3.ends f hfe
            have e2 := a3.now0
            have hk2 : (k : Int) * 2520000 ≤ 10000000000000 := by omega
            refine (roffer_ok g2 zs es now L2 S2' f x.id x.cost wk hm.two hfz H8.out.1 a3.len hc1 hc2 hl63 (H8.out.2 f hfz) ⟨e1.1, by omega⟩ ⟨e2.1, by omega⟩).mono fun e w' ⟨q1, M, S', q2, q3, q4, q5⟩ => ⟨q1, ?_⟩
            have hwk : wk.heap[wr.heap.size]? = wr1.heap[wr.heap.size]? := hm.trn.block _ HS1.out (fun h => by have := HS2.out _ h; omega)
            have hb := HBX.out w' ((q4.block _ (by have := hm.trn.size; have := HS1.out; omega) (fun h => by have := HS3.out _ h; omega)).trans hwk)
            rw [hf] at hb
            refine ⟨hm.fin a6 q2 q4 q5 fun N hN => ?_, hb⟩
            rw [q3]
            exact a3.offer hfz hc1 hc2 (H8.out.2 f hfz) hl63 hN.1 hN.2
          clear hf hy
          have hx1 : Ext wr1 wr1 := Below.refl _ _
          obtain ⟨y1, y2, y3⟩ := HBX.out wr1 rfl
          go_wp2_with fail
          rw [← HW1.out]
          go_region_held3 (fun w' => w'.cell? ⟨wr.heap.size, 1, none⟩ = some (.int .i64 x.flow) ∧ w'.cell? ⟨wr.heap.size, 2, none⟩ = some (.int .i64 x.id) ∧ w'.cell? ⟨wr.heap.size, 3, none⟩ = some (.int .i64 x.cost))
            (first | (refine ⟨by assumption, by assumption, by assumption⟩) | go_keep)
            (first
              | (go_at_call 15; refine (C1.out _ (by first | assumption | (apply Below.drew; assumption))).mono ?_; rintro e w2 ⟨rfl, hm2, r1, r2, r3⟩)
              | (go_at_call 16; refine (C2.out _ (by first | assumption | (apply Mid.drew; assumption))).mono ?_; rintro e w3 ⟨rfl, hj3, r4, r5, r6⟩))
          have HJ3 := Lib.hid hj3
          clear hj3 hm2
          all_goals
            obtain ⟨n2, A3, c3, l1, l2, l3, l4⟩ := HJ3.out.looks
            have L4 := Lib.hid l4
            have l5 : (n2 : Int) ≤ 64 := by omega
            clear l4
            go_wp2_with fail
            go_quiet ((go_at_call 19; exact Calls.quiet_of_same (L4.out _)))
            go_wp2_with fail
            go_roundw
            case rel => exact ⟨k + 1, by go_num, hlt, J.ext HJ3.out (ext_drewN' _ _)⟩
            case measure => simp [intOf]; omega
        · obtain ⟨er, hre⟩ : ∃ e, e = offErr zs.length L2.length x.flow x.cost := ⟨_, rfl⟩
          have C1 : Hid (∀ wk, Ext wr1 wk → Calls Try.prog 15 #[.pointer (some ⟨g1, 0, none⟩), .int .i64 x.flow, .int .i64 x.id, .int .i64 x.cost] wk fun e w' => e = .returned (.int .i64 er) ∧ Ext wr1 w' ∧ w'.cell? ⟨wr.heap.size, 1, none⟩ = some (.int .i64 x.flow) ∧ w'.cell? ⟨wr.heap.size, 2, none⟩ = some (.int .i64 x.id) ∧ w'.cell? ⟨wr.heap.size, 3, none⟩ = some (.int .i64 x.cost)) := fun wk hw => by
            obtain ⟨a3, a4, a5, a6, a7, a1, a2⟩ := HJ0.out
            have := offer_err g1 zs es now L1 S1' x.flow x.id x.cost wk (a1.ext hw) (by rw [HLEN.out]; exact a3.few) (by rw [HLEN.out]; exact her)
            rw [HLEN.out] at this
            exact this.mono fun e w' ⟨q1, q2⟩ => ⟨by rw [q1, hre], hw.trans q2, HBX.out w' ((hw.trans q2).block _ HS1.out)⟩
          have C2 : Hid (∀ wk, Ext wr1 wk → Calls Try.prog 16 #[.pointer (some ⟨g2, 0, none⟩), .int .i64 x.flow, .int .i64 x.id, .int .i64 x.cost] wk fun e w' => e = .returned (.int .i64 er) ∧ Ext wr1 w' ∧ w'.cell? ⟨wr.heap.size, 1, none⟩ = some (.int .i64 x.flow) ∧ w'.cell? ⟨wr.heap.size, 2, none⟩ = some (.int .i64 x.id) ∧ w'.cell? ⟨wr.heap.size, 3, none⟩ = some (.int .i64 x.cost)) := fun wk hw => by
            obtain ⟨a3, a4, a5, a6, a7, a1, a2⟩ := HJ0.out
            exact (roffer_err g2 zs es now L2 S2' x.flow x.id x.cost wk (a2.ext hw) a3.few H8.out.1 her).mono fun e w' ⟨q1, q2⟩ => ⟨by rw [q1, hre], hw.trans q2, HBX.out w' ((hw.trans q2).block _ HS1.out)⟩
          clear hre her
          have hx1 : Ext wr1 wr1 := Below.refl _ _
          obtain ⟨y1, y2, y3⟩ := HBX.out wr1 rfl
          go_wp2_with fail
          rw [← HW1.out]
          go_region_held3 (fun w' => w'.cell? ⟨wr.heap.size, 1, none⟩ = some (.int .i64 x.flow) ∧ w'.cell? ⟨wr.heap.size, 2, none⟩ = some (.int .i64 x.id) ∧ w'.cell? ⟨wr.heap.size, 3, none⟩ = some (.int .i64 x.cost))
            (first | (refine ⟨by assumption, by assumption, by assumption⟩) | go_keep)
            (first
              | (go_at_call 15; refine (C1.out _ (by first | assumption | (apply Below.drew; assumption))).mono ?_; rintro e w2 ⟨rfl, hm2, r1, r2, r3⟩)
              | (go_at_call 16; refine (C2.out _ (by first | assumption | (apply Below.drew; assumption))).mono ?_; rintro e w3 ⟨rfl, hj3, r4, r5, r6⟩))
          have HJ3 := Lib.hid (hJ.out.mono.ext (HX01.out.trans hj3))
          clear hj3 hm2
          all_goals
            obtain ⟨n2, A3, c3, l1, l2, l3, l4⟩ := HJ3.out.looks
            have L4 := Lib.hid l4
            have l5 : (n2 : Int) ≤ 64 := by omega
            clear l4
            go_wp2_with fail
            go_quiet ((go_at_call 19; exact Calls.quiet_of_same (L4.out _)))
            go_wp2_with fail
            go_roundw
            case rel => exact ⟨k + 1, by go_num, hlt, J.ext HJ3.out (ext_drewN' _ _)⟩
            case measure => simp [intOf]; omega
      · have ts : (s == 0) = false := by simp [hs]
        clear hs
        rcases Nat.eq_zero_or_pos L2.length with h0 | h0
        · have C1 : Hid (Calls Try.prog 17 #[.pointer (some ⟨g1, 0, none⟩)] wr1 fun e w' => e = .returned (.tuple #[.int .i64 0, .int .i64 0, .bool false]) ∧ Ext wr1 w') := by
            obtain ⟨a3, a4, a5, a6, a7, a1, a2⟩ := HJ0.out
            have e : L1 = [] := List.length_eq_zero_iff.1 (by rw [HLEN.out]; exact h0)
            rw [e] at a1
            exact next_none g1 zs es now S1' wr1 a1
          have C2 : Hid (∀ wk, Ext wr1 wk → Calls Try.prog 18 #[.pointer (some ⟨g2, 0, none⟩)] wk fun e w' => e = .returned (.tuple #[.int .i64 0, .int .i64 0, .bool false]) ∧ Ext wr1 w') := fun wk hw => by
            obtain ⟨a3, a4, a5, a6, a7, a1, a2⟩ := HJ0.out
            have e : L2 = [] := List.length_eq_zero_iff.1 h0
            rw [e] at a2
            exact (rnext_none g2 zs es now S2' wk (a2.ext hw)).mono fun e w' ⟨q1, q2⟩ => ⟨q1, hw.trans q2⟩
          clear h0
          go_wp2_with fail
          rw [← HW1.out]
          refine C1.out.mono ?_
          rintro e w2 ⟨rfl, hx2⟩
          have HX2 := Lib.hid hx2
          clear hx2
          go_wp2_with (go_at_call 18; (with_reducible refine (C2.out _ HX2.out).mono ?_); rintro e w3 ⟨rfl, hj3⟩; have HJ3 := Lib.hid (hJ.out.mono.ext (HX01.out.trans hj3)); clear hj3)
          all_goals
            obtain ⟨n2, A3, c3, l1, l2, l3, l4⟩ := HJ3.out.looks
            have L4 := Lib.hid l4
            have l5 : (n2 : Int) ≤ 64 := by omega
            clear l4
            go_wp2_with fail
            go_quiet ((go_at_call 19; exact Calls.quiet_of_same (L4.out _)))
            go_wp2_with fail
            go_roundw
            case rel => exact ⟨k + 1, by go_num, hlt, J.ext HJ3.out (ext_drewN' _ _)⟩
            case measure => simp [intOf]; omega
        · obtain ⟨m, hm⟩ : ∃ m, L1.length = m + 1 := ⟨L1.length - 1, by have := HLEN.out; omega⟩
          obtain ⟨y, hy⟩ : ∃ y, y = nth L1 0 := ⟨_, rfl⟩
          have C1 : Hid (Calls Try.prog 17 #[.pointer (some ⟨g1, 0, none⟩)] wr1 fun e w' => e = .returned (.tuple #[.int .i64 y.id, .int .i64 y.flow, .bool true]) ∧
              Mid w g2 zs es now L2 S1' S2' wr1 w' g1 es y.start (fun M => HeapN M M.length ∧ (M ++ [nth L1 0]).Perm L1)) := by
            obtain ⟨a3, a4, a5, a6, a7, a1, a2⟩ := HJ0.out
            refine (next_some g1 m zs es now L1 S1' wr1 a1 hm (by have := a3.few; have := HLEN.out; omega) a3.heap).mono fun e w' ⟨q1, M, S', q2, q3, q4, q5, q6⟩ => ⟨by rw [q1, hy]; rfl, ?_⟩
            rw [hy]
            exact Mid.mk' a2 a4 a5 a7 (Below.refl _ _) q2 ⟨q3, q4⟩ q5 q6
          have C2 : Hid (∀ wk, Mid w g2 zs es now L2 S1' S2' wr1 wk g1 es y.start (fun M => HeapN M M.length ∧ (M ++ [nth L1 0]).Perm L1) → Calls Try.prog 18 #[.pointer (some ⟨g2, 0, none⟩)] wk fun e w' => e = .returned (.tuple #[.int .i64 y.id, .int .i64 y.flow, .bool true]) ∧ J w zs g1 g2 (k + 1) w') := fun wk hmid => by
            obtain ⟨a3, a4, a5, a6, a7, a1, a2⟩ := HJ0.out
            refine (rnext_some g2 L2.length zs es now L2 S2' wk hmid.two rfl h0 a3.few).mono fun e w' ⟨b, q1, q2, q3, M, S', q4, q5, q6, q7⟩ => ?_
            have eb := least_is a3.kd a3.perm a3.heap q1 q2
            refine ⟨by rw [q3, eb, hy]; rfl, ?_⟩
            rw [eb, ← hy] at q4
            refine hmid.fin a6 q4 q6 q7 fun N hN => ?_
            rw [q5, hy]
            exact (a3.next q1 q2 hN.1 hN.2).2
          clear h0 hm hy
          go_wp2_with fail
          rw [← HW1.out]
          refine C1.out.mono ?_
          rintro e w2 ⟨rfl, hm2⟩
          have HM2 := Lib.hid hm2
          clear hm2
          go_wp2_with (go_at_call 18; (with_reducible refine (C2.out _ HM2.out).mono ?_); rintro e w3 ⟨rfl, hj3⟩; have HJ3 := Lib.hid hj3; clear hj3)
          all_goals
            obtain ⟨n2, A3, c3, l1, l2, l3, l4⟩ := HJ3.out.looks
            have L4 := Lib.hid l4
            have l5 : (n2 : Int) ≤ 64 := by omega
            clear l4
            go_wp2_with fail
            go_quiet ((go_at_call 19; exact Calls.quiet_of_same (L4.out _)))
            go_wp2_with fail
            go_roundw
            case rel => exact ⟨k + 1, by go_num, hlt, J.ext HJ3.out (ext_drewN' _ _)⟩
            case measure => simp [intOf]; omega
    · have tk : decide (k < n) = false := by simp; omega
      obtain ⟨es, now, L1, L2, S1', S2', a1, a2, a3, a4, a5, a6, a7⟩ := hJ.out
      have CE : Hid (Calls Try.prog 15 #[.pointer (some ⟨g1, 0, none⟩), .int .i64 (-1), .int .i64 0, .int .i64 1] wr fun e w' => e = .returned (.int .i64 7) ∧ Ext wr w') := by
        have ho : offErr zs.length L1.length (-1) 1 = 7 := if_pos (.inl (by omega))
        have := offer_err g1 zs es now L1 S1' (-1) 0 1 wr a1 (by rw [a3.perm.length_eq]; exact a3.few) (by rw [ho]; omega)
        rw [ho] at this
        exact this
      have HX := Lib.hid a7
      clear a1 a2 a3 a4 a5 a6 a7 hlt
      go_wp2_with (go_at_call 15; (with_reducible refine CE.out.mono ?_); rintro e w' ⟨rfl, hx⟩; have HX2 := Lib.hid hx; clear hx)
      go_ret
      exact ⟨rfl, HX.out.trans HX2.out⟩
end Go.Proofs.Ytpbbohinhbboaaa.Fw
