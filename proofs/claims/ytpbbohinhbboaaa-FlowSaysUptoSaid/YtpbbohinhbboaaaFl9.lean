/-
  Flow: the reference's Offer where it refuses; its Next: the best one sought.
-/
import Derived.Test.YtpbbohinhbboaaaFl8
namespace Go.Proofs.Ytpbbohinhbboaaa.Fw
open Go Go.RowKit Go.Proofs.Ytpbbohinhbboaaa.Sx

set_option maxRecDepth 100000 in
set_option maxHeartbeats 8000000 in
theorem roffer_err (g : Nat) (ws es : List Int) (now : Int) (L : List Th) (S : Nat → Prop) (flow id cost : Int) (w : World) (h : FairAt rT qT w g ws es now L S) (hL : L.length ≤ 64) (hw8 : ws.length ≤ 8) (he : offErr ws.length L.length flow cost ≠ 0) :
    Calls Try.prog 16 #[.pointer (some ⟨g, 0, none⟩), .int .i64 flow, .int .i64 id, .int .i64 cost] w fun e w' => e = .returned (.int .i64 (offErr ws.length L.length flow cost)) ∧ Ext w w' := by
  obtain ⟨gw, cw, rw_, ge, ce, re, v, hF, hgw, hge, hv, hd, hS⟩ := h
  have b0 : w.cell? ⟨g, 0, none⟩ = some (.slice (some ⟨gw, 0, none⟩) ws.length cw) := by rw [cell_of hF]; rfl
  have b3 := hF.cell
  obtain ⟨A, c, rfl⟩ := hv.slice
  obtain ⟨n, hn⟩ : ∃ n, n = ws.length := ⟨_, rfl⟩
  obtain ⟨m, hm⟩ : ∃ n, n = L.length := ⟨_, rfl⟩
  rw [← hn] at b0 he hw8 ⊢
  rw [← hm] at b3 he ⊢
  rw [← hm] at hL
  have hw8i : (n : Int) ≤ 8 := by omega
  clear hF hgw hge hv hd hS hn hm
  by_cases h1 : flow < 0 ∨ (n : Int) ≤ flow
  · have HE : Hid (offErr n m flow cost = 7) := if_pos h1
    have ho1 : outB flow 0 ((n : Int) - 1) = true := by
      unfold outB
      rcases h1 with h1 | h1
      · simp [h1]
      · simp; omega
    clear he h1 hL hw8
    go_enter Try.func16, Try.ntmps16
    go_wp2_with (go_at_call 59; (with_reducible refine (outside_any flow 0 ((n : Int) - 1) _).mono ?_); rintro e w' ⟨he, rfl⟩; rw [ho1] at he; subst he)
    go_ret
    exact ⟨by rw [HE.out]; rfl, Below.refl _ _⟩
  · have ho1 : outB flow 0 ((n : Int) - 1) = false := by unfold outB; simp; omega
    by_cases h3 : cost < 1 ∨ 1000 < cost
    · have HE : Hid (offErr n m flow cost = 1) := (if_neg h1).trans (if_pos h3)
      have ho2 : outB cost 1 1000 = true := by
        unfold outB
        rcases h3 with h3 | h3
        · simp; omega
        · simp [h3]
      clear he h1 h3 hL hw8
      go_enter Try.func16, Try.ntmps16
      go_wp2_with (first
        | (go_at_call 59; (with_reducible refine (outside_any flow 0 ((n : Int) - 1) _).mono ?_); rintro e w' ⟨he, rfl⟩; rw [ho1] at he; subst he)
        | (go_at_call 59; (with_reducible refine (outside_any cost 1 1000 _).mono ?_); rintro e w' ⟨he, rfl⟩; rw [ho2] at he; subst he))
      go_ret
      exact ⟨by rw [HE.out]; rfl, Below.refl _ _⟩
    · have ho2 : outB cost 1 1000 = false := by unfold outB; simp; omega
      by_cases h5 : 64 ≤ m
      · have HE : Hid (offErr n m flow cost = 22) := (if_neg h1).trans ((if_neg h3).trans (if_pos h5))
        obtain rfl : m = 64 := by omega
        clear he h1 h3 h5 hL hw8
        go_enter Try.func16, Try.ntmps16
        go_wp2_with (first
          | (go_at_call 59; (with_reducible refine (outside_any flow 0 ((n : Int) - 1) _).mono ?_); rintro e w' ⟨he, rfl⟩; rw [ho1] at he; subst he)
          | (go_at_call 59; (with_reducible refine (outside_any cost 1 1000 _).mono ?_); rintro e w' ⟨he, rfl⟩; rw [ho2] at he; subst he))
        go_ret
        exact ⟨by rw [HE.out]; rfl, Below.refl _ _⟩
      · exact absurd ((if_neg h1).trans ((if_neg h3).trans (if_neg h5))) he
/-- The best one of the first ones. -/
def bestAt (L : List Th) (i : Nat) (b : Int) : Prop := (i = 0 ∧ b = -1) ∨ ∃ k : Nat, k < i ∧ b = (k : Int) ∧ ∀ m, m < i → ¬ lt (nth L m) (nth L k)
theorem bestAt.first {L : List Th} : bestAt L 1 0 := .inr ⟨0, by omega, rfl, fun m hm => by
  have e : m = 0 := by omega
  subst e
  exact fun h => lt_asymm h h⟩
theorem bestAt.new {L : List Th} {i k : Nat} (h : ∀ m, m < i → ¬ lt (nth L m) (nth L k)) (hl : lt (nth L i) (nth L k)) : bestAt L (i + 1) (i : Int) :=
  .inr ⟨i, by omega, rfl, fun m hm => by
    by_cases e : m = i
    · subst e; exact fun h => lt_asymm h h
    · exact fun h2 => h m (by omega) (lt_trans h2 hl)⟩
theorem bestAt.old {L : List Th} {i k : Nat} (hk : k < i) (h : ∀ m, m < i → ¬ lt (nth L m) (nth L k)) (hl : ¬ lt (nth L i) (nth L k)) : bestAt L (i + 1) (k : Int) :=
  .inr ⟨k, by omega, rfl, fun m hm => by
    by_cases e : m = i
    · subst e; exact hl
    · exact h m (by omega)⟩
/-- A slice of a row, from a place on. -/
theorem slicedT (ad : Addr) (l m c : Nat) : ∃ ad', sliced (some ad) l m c 3 = .slice (some ad') (m - l) (c - l) ∧ (l < c → ad' = ad.add (l * 3)) := by
  unfold sliced
  by_cases h : c = l
  · exact ⟨ad, by rw [if_pos h], fun h2 => by omega⟩
  · exact ⟨ad.add (l * 3), by rw [if_neg h]; rfl, fun _ => rfl⟩
theorem TRow.suffix {et base : Nat} {w : World} {ad ad' : Addr} {n c l : Nat} {L : List Th} (h : TRow et base w (.slice (some ad) n c) L) (hn : L.length = n) (hnc : n ≤ c) (had : l < c → ad' = ad.add (l * 3)) : TSrc w (.slice (some ad') (n - l) (c - l)) (L.drop l) := by
  refine .inr ⟨ad', c - l, by rw [List.length_drop, hn], fun j u hj => ?_⟩
  have hjl : j < (tcells (L.drop l)).length := (List.getElem?_eq_some_iff.1 hj).1
  rw [tcells_len, List.length_drop] at hjl
  rw [had (by omega)]
  rw [tcells_drop, List.getElem?_drop] at hj
  rcases h.src with ⟨_, e, _⟩ | ⟨ad2, c2, e, hh⟩
  · cases e
  · injection e with e1 e2 e3
    injection e1 with e1
    subst e1
    have := hh (l * 3 + j) u hj
    rw [← this, Addr.add_add]
/-- What Copy leaves. -/
theorem rcopy_any (v : Value) (L : List Th) (w : World) (h : TSrc w v L) (hL : L.length ≤ 64) :
    Calls Try.prog 64 #[v] w fun e w' => ∃ A c, e = .returned (.slice A L.length c) ∧ TRow qT w.heap.size w' (.slice A L.length c) L ∧ Ext w w' := by
  have H := Lib.hid h
  have hsl : ∃ A c, v = .slice A L.length c := by
    rcases h with ⟨c, rfl, rfl⟩ | ⟨ad, c, rfl, _⟩
    · exact ⟨_, _, rfl⟩
    · exact ⟨_, _, rfl⟩
  obtain ⟨A, c, rfl⟩ := hsl
  clear h
  go_enter Try.func64, Try.ntmps64
  go_wp2_with (at_builtin; refine append_things qTy rfl _ _ (by rfl) w.heap.size 0 L.length _ _ _ [] L (by rfl) (by rfl) TRow.nil H.out rfl rfl (by omega) (Nat.le_refl _) ?_; intro A3 c3 w3 h3 hg3 ho3; have H3 := Lib.hid (And.intro h3 hg3); clear h3 hg3 ho3)
  go_ret
  obtain ⟨h3, hg3⟩ := H3.out
  rw [Nat.zero_add, List.nil_append] at h3
  exact ⟨A3, c3, rfl, h3, ⟨hg3.os, hg3.tape, hg3.output, hg3.size, fun k hk => hg3.block k hk (by simp [Value.ownBlock])⟩⟩
theorem ext_app {et : Nat} {w1 W w3 : World} {v : Value} {L : List Th} (hg : W.grownBy w3 v.ownBlock) (hw : Ext w1 W) (hr : TRow et w1.heap.size W v L) : Ext w1 w3 :=
  ⟨hg.os.trans hw.os, hg.tape.trans hw.tape, hg.output.trans hw.output, Nat.le_trans hw.size hg.size, fun k hk => (hg.block k (Nat.lt_of_lt_of_le hk hw.size) (fun e => by have := (hr.block k e.symm).1; omega)).trans (hw.block k hk)⟩
theorem TRow.low {et base base' : Nat} {w : World} {v : Value} {L : List Th} (h : TRow et base w v L) (hb : base' ≤ base) : TRow et base' w v L := by
  rcases h with h | ⟨g, c, rest, e, h1, h2⟩
  · exact .inl h
  · exact .inr ⟨g, c, rest, e, Nat.le_trans hb h1, h2⟩
set_option maxRecDepth 100000 in
theorem run_cut_w (g n c k : Nat) (hk : k ≤ c) (W : World) : (Instr.slice 41 (.slice (some ⟨g, 0, none⟩) n c) none (some (.int .i64 (k : Int))) none).run Try.prog W = .ok (.slice (some ⟨g, 0, none⟩) k c) W := by
  have h := run_slice_h (P := Try.prog) (w := W) 41 (some ⟨g, 0, none⟩) n c Try.underlying41 .i64 (k : Int) (by omega) (by omega)
  rw [h]
  have e1 : (sizeOf (Try.prog.elem 41)).run Try.prog W = .ok 3 W := by kernel_rfl
  rw [e1]
  simp only [Result.andThen, sliced]
  congr 2
  simp
  intro _
  rfl
set_option maxRecDepth 100000 in
theorem run_tail_w (g n c k : Nat) (hk : k ≤ n) : ∃ ad', (∀ W : World, (Instr.slice 41 (.slice (some ⟨g, 0, none⟩) n c) (some (.int .i64 (k : Int))) none none).run Try.prog W = .ok (.slice (some ad') (n - k) (c - k)) W) ∧ (k < c → ad' = (⟨g, 0, none⟩ : Addr).add (k * 3)) := by
  obtain ⟨ad', e, ha⟩ := slicedT ⟨g, 0, none⟩ k n c
  refine ⟨ad', fun W => ?_, ha⟩
  have h := run_slice_l (P := Try.prog) (w := W) 41 (some ⟨g, 0, none⟩) n c Try.underlying41 .i64 (k : Int) (by omega) (by omega)
  rw [h]
  have e1 : (sizeOf (Try.prog.elem 41)).run Try.prog W = .ok 3 W := by kernel_rfl
  rw [e1]
  have e2 : (k : Int).toNat = k := by omega
  simp only [Result.andThen, e2, e]
end Go.Proofs.Ytpbbohinhbboaaa.Fw
