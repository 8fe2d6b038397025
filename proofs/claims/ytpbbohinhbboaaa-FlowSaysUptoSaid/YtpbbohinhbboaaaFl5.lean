/-
  Flow: the line's Push and Pop; the heap's Push and Pop.
-/
import Derived.Test.YtpbbohinhbboaaaFl4
import Derived.Deep.RegionLaw
import Derived.Test.YtpbbohinhbboaaaSrs
namespace Go.Proofs.Ytpbbohinhbboaaa.Fw
open Go Go.RowKit Go.Proofs.Ytpbbohinhbboaaa.Sx

/-- Only the blocks of S have turned. -/
structure Trn (S : Nat → Prop) (w w' : World) : Prop where
  os : w'.os = w.os
  tape : w'.tape = w.tape
  output : w'.output = w.output
  size : w.heap.size ≤ w'.heap.size
  block : ∀ k, k < w.heap.size → ¬ S k → w'.heap[k]? = w.heap[k]?
theorem Trn.refl (S : Nat → Prop) (w : World) : Trn S w w := ⟨rfl, rfl, rfl, Nat.le_refl _, fun _ _ _ => rfl⟩
theorem Trn.trans {S S' : Nat → Prop} {w w1 w2 : World} (h : Trn S w w1) (h' : Trn S' w1 w2) (hs : ∀ k, k < w.heap.size → S' k → S k) : Trn S w w2 :=
  ⟨h'.os.trans h.os, h'.tape.trans h.tape, h'.output.trans h.output, Nat.le_trans h.size h'.size, fun k hk hn => (h'.block k (Nat.lt_of_lt_of_le hk h.size) (fun e => hn (hs k hk e))).trans (h.block k hk hn)⟩
theorem Trn.of_ext {S : Nat → Prop} {w w' : World} (h : Ext w w') : Trn S w w' := ⟨h.os, h.tape, h.output, h.size, fun k hk _ => h.block k hk⟩
theorem Trn.of_grown {S : Nat → Prop} {w w' : World} {row : Option Nat} (h : w.grownBy w' row) (hs : ∀ k, row = some k → S k) : Trn S w w' :=
  ⟨h.os, h.tape, h.output, h.size, fun k hk hn => h.block k hk (fun e => hn (hs k e.symm))⟩
theorem Trn.setCell {S : Nat → Prop} {w w' : World} {g o : Nat} {v : Value} (h : Trn S w w') (hs : S g) : Trn S w (w'.setCell ⟨g, o, none⟩ v) :=
  ⟨h.os, h.tape, h.output, by have := h.size; simpa [World.setCell] using this, fun k hk hn => (Below.heap_setCell w' ⟨g, o, none⟩ v k (fun e => hn (by rw [e]; exact hs))).trans (h.block k hk hn)⟩
theorem Trn.drew {S : Nat → Prop} {w w' : World} (h : Trn S w w') : Trn S w w'.drew := ⟨h.os, h.tape, h.output, h.size, h.block⟩
/-- The blocks of a line that lies in a struct: the struct's, the row's. -/
def SF (gF : Nat) (v : Value) (k : Nat) : Prop := k = gF ∨ v.ownBlock = some k
/-- The struct round a line. -/
def Fbox (T gF : Nat) (x0 x1 x2 v : Value) (w : World) : Prop := w.heap[gF]? = some (.cells #[x0, x1, x2, v] T (0, 0))
/-- What a call leaves that has turned a line. -/
def LinePost (et T gF : Nat) (x0 x1 x2 : Value) (P : List Th → Prop) (w : World) (v : Value) (w' : World) : Prop :=
  ∃ v' M, Fbox T gF x0 x1 x2 v' w' ∧ P M ∧ TRow et 0 w' v' M ∧ Trn (SF gF v) w w' ∧ (v'.ownBlock = v.ownBlock ∨ ∀ k, v'.ownBlock = some k → w.heap.size ≤ k)
theorem line_set {et T gF : Nat} {x0 x1 x2 v v' : Value} {P : List Th → Prop} {w w3 : World} {M : List Th} (hF : Fbox T gF x0 x1 x2 v w) (hne : v.ownBlock ≠ some gF) (h3 : TRow et 0 w3 v' M) (g3 : w.grownBy w3 v.ownBlock)
    (o3 : v'.ownBlock = v.ownBlock ∨ ∀ k, v'.ownBlock = some k → w.heap.size ≤ k) (hP : P M) : LinePost et T gF x0 x1 x2 P w v (w3.setCell ⟨gF, 3, none⟩ v') := by
  have hF3 : w3.heap[gF]? = some (.cells #[x0, x1, x2, v] T (0, 0)) := (g3.block gF (heap_lt hF) (fun e => hne e.symm)).trans hF
  have hlt := heap_lt hF
  refine ⟨v', M, ?_, hP, h3.kept (grown_setCell (grown_refl w3 (some gF))) ?_, (Trn.of_grown g3 (fun k hk => .inr hk)).setCell (.inl rfl), o3⟩
  · have := heap_setCell_same w3 gF 3 #[x0, x1, x2, v] T v' hF3
    simpa [Fbox] using this
  · intro k hk e
    injection e with e
    subst e
    rcases o3 with o3 | hk'
    · rw [o3] at hk; exact hne hk
    · have := hk' _ hk
      omega
theorem Fbox.kept {T gF : Nat} {x0 x1 x2 v : Value} {w w' : World} {row : Option Nat} (h : Fbox T gF x0 x1 x2 v w) (hg : w.grownBy w' row) (hne : row ≠ some gF) : Fbox T gF x0 x1 x2 v w' := (hg.block gF (heap_lt h) (fun e => hne e.symm)).trans h
/-- A line turned, then its row alone. -/
theorem LinePost.then_ {et T gF : Nat} {x0 x1 x2 v v1 : Value} {Q : List Th → Prop} {w w1 w2 : World} {M : List Th} (hF : Fbox T gF x0 x1 x2 v1 w1) (hne : v1.ownBlock ≠ some gF) (ht : Trn (SF gF v) w w1) (ho : v1.ownBlock = v.ownBlock ∨ ∀ k, v1.ownBlock = some k → w.heap.size ≤ k)
    (h : TRow et 0 w2 v1 M) (hg : w1.grownBy w2 v1.ownBlock) (hQ : Q M) : LinePost et T gF x0 x1 x2 Q w v w2 :=
  ⟨v1, M, hF.kept hg hne, hQ, h, ht.trans (Trn.of_grown (S := SF gF v1) hg (fun k hk => .inr hk)) (fun k hk hs => by
    rcases hs with hs | hs
    · exact .inl hs
    · rcases ho with ho | hk'
      · rw [ho] at hs; exact .inr hs
      · have := hk' _ hs; omega), ho⟩
/-- Two turns of a line. -/
theorem LinePost.trans {et T gF : Nat} {x0 x1 x2 v v1 : Value} {Q : List Th → Prop} {w w1 w2 : World} (ht : Trn (SF gF v) w w1) (ho : v1.ownBlock = v.ownBlock ∨ ∀ k, v1.ownBlock = some k → w.heap.size ≤ k)
    (h : LinePost et T gF x0 x1 x2 Q w1 v1 w2) : LinePost et T gF x0 x1 x2 Q w v w2 := by
  obtain ⟨v2, M, a1, a2, a3, a4, a5⟩ := h
  refine ⟨v2, M, a1, a2, a3, ht.trans a4 (fun k hk hs => by
    rcases hs with hs | hs
    · exact .inl hs
    · rcases ho with ho | hk'
      · rw [ho] at hs; exact .inr hs
      · have := hk' _ hs; omega), ?_⟩
  rcases a5 with a5 | hk
  · rw [a5]; exact ho
  · exact .inr fun k e => by have := hk k e; have := ht.size; omega
theorem LinePost.ext {et T gF : Nat} {x0 x1 x2 v : Value} {Q : List Th → Prop} {w w1 w2 : World} (h : LinePost et T gF x0 x1 x2 Q w v w1) (he : Ext w1 w2) : LinePost et T gF x0 x1 x2 Q w v w2 := by
  obtain ⟨v2, M, a1, a2, a3, a4, a5⟩ := h
  exact ⟨v2, M, a1.kept (row := none) (grown_of_extB' he) (by simp), a2, a3.ext he, a4.trans (Trn.of_ext (S := fun _ => False) he) (fun _ _ f => f.elim), a5⟩
theorem own_ne {v v1 : Value} {gF : Nat} {w : World} (hlt : gF < w.heap.size) (hne : v.ownBlock ≠ some gF) (ho : v1.ownBlock = v.ownBlock ∨ ∀ k, v1.ownBlock = some k → w.heap.size ≤ k) : v1.ownBlock ≠ some gF := by
  rcases ho with ho | hk
  · rw [ho]; exact hne
  · intro e2; have := hk _ e2; omega
set_option maxRecDepth 100000 in
theorem assert_thing (a b c : Int) (w : World) : (Instr.typeAssert (.iface pT (.agg #[.int .i64 a, .int .i64 b, .int .i64 c])) 20 108 true).run Try.prog w = .ok (.tuple #[.agg #[.int .i64 a, .int .i64 b, .int .i64 c], .bool true]) w := by kernel_rfl
theorem grown_free {w w' : World} {row : Option Nat} {T gF o : Nat} {x0 x1 x2 v : Value} (h : w.grownBy w' row) (hF : Fbox T gF x0 x1 x2 v w) (hne : row ≠ some gF) : w'.frozen? ⟨gF, o, none⟩ = false := by
  have e := h.block gF (heap_lt hF) (fun e => hne e.symm)
  exact row_free (e.trans hF)
set_option maxRecDepth 100000 in
set_option maxHeartbeats 4000000 in
theorem push_any (T gF : Nat) (x0 x1 x2 v : Value) (L : List Th) (x : Th) (w : World) (hF : Fbox T gF x0 x1 x2 v w) (h : TRow pT 0 w v L) (hL : L.length ≤ 64) (hne : v.ownBlock ≠ some gF) :
    Calls Try.prog 194 #[.pointer (some ⟨gF, 3, none⟩), .iface pT (.agg #[.int .i64 x.id, .int .i64 x.flow, .int .i64 x.start])] w fun e w' => e = .returned (.tuple #[]) ∧ LinePost pT T gF x0 x1 x2 (fun M => M = L ++ [x]) w v w' := by
  have hc : w.cell? ⟨gF, 3, none⟩ = some v := by rw [cell_of hF]; rfl
  have hlt : gF < w.heap.size := heap_lt hF
  have HF := Lib.hid hF
  have H := Lib.hid h
  obtain ⟨A, c, rfl⟩ := h.slice
  have HNE := Lib.hid hne
  have EX : Hid (Ext w ((w.alloc (.cells #[.int .i64 x.id, .int .i64 x.flow, .int .i64 x.start] pT (0, 0))).alloc (.cells #[.int .i64 x.id, .int .i64 x.flow, .int .i64 x.start] pT (0, 0))).drew) := ((new_ext _ _).trans (new_ext _ _)).trans (Below.refl _ _).drew
  have SRC : Hid (TSrc ((w.alloc (.cells #[.int .i64 x.id, .int .i64 x.flow, .int .i64 x.start] pT (0, 0))).alloc (.cells #[.int .i64 x.id, .int .i64 x.flow, .int .i64 x.start] pT (0, 0))).drew (.slice (some ⟨w.heap.size + 1, 0, none⟩) 1 1) [x]) := TSrc.of_block (L := [x]) (et := pT) (by
    have e : (w.alloc (.cells #[.int .i64 x.id, .int .i64 x.flow, .int .i64 x.start] pT (0, 0))).heap.size = w.heap.size + 1 := by simp
    rw [← e]
    exact heap_new rfl)
  have hta := assert_thing x.id x.flow x.start
  clear hF h hne
  go_enter Try.func194, Try.ntmps194
  go_wp2
  go_region_law (first
    | (refine step_append_things pTy rfl _ _ (by rfl) 0 L.length 1 _ _ _ L [x] (by rfl) (by rfl) (H.out.ext EX.out) SRC.out rfl rfl (by omega) (Nat.zero_le _) ?_; intro A3 c3 w3 h3 hg3 ho3; have g3 := (grown_of_extB' EX.out).trans hg3; have q1 := grown_cell g3 hc HNE.out; have q2 := grown_free g3 HF.out HNE.out (o := 3); have H3 := Lib.hid (And.intro h3 (And.intro g3 ho3)); clear h3 g3 hg3 ho3))
  all_goals
    go_end0
    obtain ⟨h3, g3, o3⟩ := H3.out
    refine ⟨rfl, line_set (v := .slice A L.length c) HF.out HNE.out h3 g3 ?_ rfl⟩
    rcases o3 with o3 | o3
    · exact .inl o3
    · exact .inr fun k e => by rw [o3] at e; injection e with e; exact Nat.le_trans EX.out.size (Nat.le_of_eq e)
set_option maxRecDepth 100000 in
theorem run_cut_line (g n c k : Nat) (hk : k ≤ c) (W : World) : (Instr.slice 100 (.slice (some ⟨g, 0, none⟩) n c) none (some (.int .i64 (k : Int))) none).run Try.prog W = .ok (.slice (some ⟨g, 0, none⟩) k c) W := by
  have h := run_slice_h (P := Try.prog) (w := W) 100 (some ⟨g, 0, none⟩) n c Try.underlying100 .i64 (k : Int) (by omega) (by omega)
  rw [h]
  have e1 : (sizeOf (Try.prog.elem 100)).run Try.prog W = .ok 3 W := by kernel_rfl
  rw [e1]
  simp only [Result.andThen, sliced]
  congr 2
  simp
  intro _
  rfl
theorem nth_take {L : List Th} {n k : Nat} (h : k < n) : nth (L.take n) k = nth L k := by
  unfold nth
  rw [List.getD_eq_getElem?_getD, List.getD_eq_getElem?_getD, List.getElem?_take_of_lt h]
theorem TRow.take {et base : Nat} {w : World} {g n c k : Nat} {L : List Th} (h : TRow et base w (.slice (some ⟨g, 0, none⟩) n c) L) (hk : k ≤ L.length) : TRow et base w (.slice (some ⟨g, 0, none⟩) k c) (L.take k) := by
  rcases h with ⟨e, _⟩ | ⟨g', c', rest, e, hb, hg, hc, hm⟩
  · cases e
  · injection e with e1 e2 e3
    injection e1 with e1
    injection e1 with e1
    subst e1 e3
    refine .inr ⟨g, c, tcells (L.drop k) ++ rest, by rw [List.length_take, Nat.min_eq_left hk], hb, ?_, ?_, hm⟩
    · rw [← List.append_assoc, ← tcells_append, List.take_append_drop]
      exact hg
    · rw [List.length_append, tcells_len, List.length_take, List.length_drop]
      omega
set_option maxRecDepth 100000 in
set_option maxHeartbeats 4000000 in
theorem pop_any (T gF : Nat) (x0 x1 x2 v : Value) (L : List Th) (n : Nat) (w : World) (hF : Fbox T gF x0 x1 x2 v w) (h : TRow pT 0 w v L) (hL : L.length = n + 1) (h64 : n ≤ 64) (hne : v.ownBlock ≠ some gF) :
    Calls Try.prog 193 #[.pointer (some ⟨gF, 3, none⟩)] w fun e w' => e = .returned (.iface pT (.agg #[.int .i64 (nth L n).id, .int .i64 (nth L n).flow, .int .i64 (nth L n).start])) ∧ LinePost pT T gF x0 x1 x2 (fun M => M = L.take n) w v w' := by
  have hc : w.cell? ⟨gF, 3, none⟩ = some v := by rw [cell_of hF]; rfl
  have hfz : w.frozen? ⟨gF, 3, none⟩ = false := row_free hF
  have hlt : gF < w.heap.size := heap_lt hF
  have HF := Lib.hid hF
  have H := Lib.hid h
  have HNE := Lib.hid hne
  obtain ⟨g, c, rest, rfl, _, hg, hcc, hm⟩ := h.some_ (by omega)
  obtain ⟨a1, a2, a3⟩ := row_three hg (k := n) (by omega)
  have hglt : g < w.heap.size := heap_lt hg
  obtain ⟨x, hx⟩ : ∃ x, x = nth L n := ⟨_, rfl⟩
  rw [← hx] at a1 a2 a3 ⊢
  obtain ⟨m, hmm⟩ : ∃ m, m = L.length := ⟨_, rfl⟩
  rw [← hmm] at hc ⊢
  have hnm : (m : Int) - 1 = (n : Int) := by omega
  have hn1 : (1 : Int) ≤ (m : Int) := by omega
  have hm64 : (m : Int) ≤ 65 := by omega
  have hlt2 : n < m := by omega
  have hlt3 : (n : Int) < (m : Int) := by omega
  have hcut := run_cut_line g m c n (by omega)
  have HEND : Hid (∀ w3, Ext w w3 → LinePost pT T gF x0 x1 x2 (fun M => M = L.take n) w (.slice (some ⟨g, 0, none⟩) m c) (w3.setCell ⟨gF, 3, none⟩ (.slice (some ⟨g, 0, none⟩) n c))) := fun w3 hw => by
    subst hmm
    exact line_set HF.out HNE.out ((H.out.ext hw).take (by omega)) (grown_of_extB' hw) (.inl rfl) rfl
  clear hF h hne hg hcc hm hL h64 hx hmm
  go_enter Try.func193, Try.ntmps193
  go_wp2
  go_ret
  exact ⟨rfl, (HEND.out _ (Below.refl _ _)).ext (new_ext _ _)⟩
theorem len_of {base n : Nat} {v : Value} {L : List Th} {w : World} (h : TRow pT base w v L) (hn : L.length = n) : Calls Try.prog 190 #[v] w fun e w' => e = .returned (.int .i64 ((n : Nat) : Int)) ∧ w = w' := by
  obtain ⟨A, c, rfl⟩ := h.slice
  rw [← hn]
  exact len_any A L.length c w
theorem Fbox.cell {T gF : Nat} {x0 x1 x2 v : Value} {w : World} (h : Fbox T gF x0 x1 x2 v w) : w.cell? ⟨gF, 3, none⟩ = some v := by rw [cell_of h]; rfl
set_option maxRecDepth 100000 in
set_option maxHeartbeats 4000000 in
theorem hpush_any (T gF : Nat) (x0 x1 x2 v : Value) (L : List Th) (x : Th) (w : World) (hF : Fbox T gF x0 x1 x2 v w) (h : TRow pT 0 w v L) (hL : L.length ≤ 63) (hne : v.ownBlock ≠ some gF) (hh : HeapN L L.length) :
    Calls Try.prog 62 #[.iface ptrT (.pointer (some ⟨gF, 3, none⟩)), .iface pT (.agg #[.int .i64 x.id, .int .i64 x.flow, .int .i64 x.start])] w fun e w' => e = .returned (.tuple #[]) ∧ LinePost pT T gF x0 x1 x2 (fun M => HeapN M M.length ∧ M.Perm (L ++ [x])) w v w' := by
  have H := Lib.hid (And.intro hF (And.intro h (And.intro hne hh)))
  have hm0 := m_push ⟨gF, 3, none⟩ w
  obtain ⟨q, hq⟩ : ∃ q, q = L.length := ⟨_, rfl⟩
  have hq1 : (1 : Int) ≤ ((q + 1 : Nat) : Int) := by omega
  have hq64 : ((q + 1 : Nat) : Int) ≤ 64 := by omega
  have hqq : ((q + 1 : Nat) : Int) - 1 = (q : Int) := by omega
  have HQ := Lib.hid hq
  have HL := Lib.hid hL
  have HGF : Hid (gF < w.heap.size) := heap_lt hF
  have HLQ : Hid ((L ++ [x]).length = q + 1) := by unfold Hid; rw [List.length_append, hq]; rfl
  have HUP : Hid (UpI (L ++ [x]) (L ++ [x]).length q) := by
    unfold Hid
    have := up_start (x := x) hh
    rw [hq, List.length_append]
    exact this
  have HLT : Hid (q < (L ++ [x]).length ∧ (L ++ [x]).length ≤ 64) := by rw [HLQ.out]; exact ⟨by omega, by omega⟩
  clear hF h hne hh hq hL
  go_enter Try.func62, Try.ntmps62
  go_wp2_with (first
    | (go_at_call 194; (with_reducible refine (push_any T gF x0 x1 x2 v L x w H.out.1 H.out.2.1 (Nat.le_succ_of_le HL.out) H.out.2.2.1).mono ?_); rintro e w1 ⟨rfl, v1, M, k1, rfl, k3, k4, k5⟩; have hm1 := m_len ⟨gF, 3, none⟩ v1 w1 k1.cell; have H1 := Lib.hid (And.intro k1 (And.intro k3 (And.intro k4 k5))); clear k1 k3 k4 k5)
    | (go_at_call 190; (with_reducible refine (len_of H1.out.2.1 (n := q + 1) HLQ.out).mono ?_); rintro e w2 ⟨rfl, rfl⟩)
    | (go_at_call 116; (with_reducible refine (up_any 0 gF v1 (L ++ [x]) q w1 H1.out.1.cell H1.out.2.1 HUP.out HLT.out.1 HLT.out.2 (own_ne HGF.out H.out.2.2.1 H1.out.2.2.2)).mono ?_); rintro e w3 ⟨rfl, N, n1, n2, n3, n4⟩; have HN := Lib.hid (And.intro n1 (And.intro n2 (And.intro n3 n4))); clear n1 n2 n3 n4))
  go_end0
  obtain ⟨k1, k3, k4, k5⟩ := H1.out
  obtain ⟨n1, n2, n3, n4⟩ := HN.out
  exact ⟨rfl, LinePost.then_ k1 (own_ne (heap_lt H.out.1) H.out.2.2.1 k5) k4 k5 n3 n4 ⟨by rw [n2.length_eq]; exact n1, n2⟩⟩
set_option maxRecDepth 100000 in
set_option maxHeartbeats 4000000 in
theorem hpop_any (T gF : Nat) (x0 x1 x2 v : Value) (L : List Th) (n : Nat) (w : World) (hF : Fbox T gF x0 x1 x2 v w) (h : TRow pT 0 w v L) (hL : L.length = n + 1) (h64 : n ≤ 63) (hne : v.ownBlock ≠ some gF) (hh : HeapN L L.length) :
    Calls Try.prog 63 #[.iface ptrT (.pointer (some ⟨gF, 3, none⟩))] w fun e w' => e = .returned (.iface pT (.agg #[.int .i64 (nth L 0).id, .int .i64 (nth L 0).flow, .int .i64 (nth L 0).start])) ∧ LinePost pT T gF x0 x1 x2 (fun M => HeapN M M.length ∧ (M ++ [nth L 0]).Perm L) w v w' := by
  have H := Lib.hid (And.intro hF (And.intro h (And.intro hne hh)))
  have hm0 := m_len ⟨gF, 3, none⟩ v w hF.cell
  have hm1 := m_swap ⟨gF, 3, none⟩ v w hF.cell
  have hq1 : (1 : Int) ≤ ((n + 1 : Nat) : Int) := by omega
  have hq64 : ((n + 1 : Nat) : Int) ≤ 64 := by omega
  have hqq : ((n + 1 : Nat) : Int) - 1 = (n : Int) := by omega
  have HL := Lib.hid hL
  have H64 := Lib.hid h64
  have CSW : Hid (Calls Try.prog 192 #[v, .int .i64 0, .int .i64 (n : Int)] w fun e w' => e = .returned (.tuple #[]) ∧ TRow pT 0 w' v (swapL L 0 n) ∧ w.grownBy w' v.ownBlock) := swap_any 0 v L 0 n w h (by omega) (by omega)
  have HDN : Hid (DownI (swapL L 0 n) n 0 ∧ n < (swapL L 0 n).length ∧ (swapL L 0 n).length ≤ 64) := ⟨down_start (by rw [← hL]; exact hh) (by omega), by rw [swap_len]; omega, by rw [swap_len]; omega⟩
  have HNL : ∀ M : List Th, M.Perm (swapL L 0 n) → Hid (M.length = n + 1) := fun M hM => by unfold Hid; rw [hM.length_eq, swap_len]; exact HL.out
  clear hF h hne hh hL h64
  go_enter Try.func63, Try.ntmps63
  go_wp2_with (first
    | (go_at_call 190; (with_reducible refine (len_of H.out.2.1 (n := n + 1) HL.out).mono ?_); rintro e w2 ⟨rfl, rfl⟩)
    | (go_at_call 192; (with_reducible refine CSW.out.mono ?_); rintro e w3 ⟨rfl, h3, h4⟩; have H3 := Lib.hid (And.intro h3 h4); clear h3 h4)
    | (go_at_call 117; (with_reducible refine (down_any 0 gF n v (swapL L 0 n) w3 (grown_cell H3.out.2 H.out.1.cell H.out.2.2.1) H3.out.1 HDN.out.1 HDN.out.2.1 HDN.out.2.2 H.out.2.2.1).mono ?_); rintro e w4 ⟨b, rfl, M, n1, n2, n3, n4, n5⟩; have HN := Lib.hid (And.intro n1 (And.intro n2 (And.intro n3 (And.intro n4 (grown_trans H3.out.2 n5))))); clear n1 n2 n3 n4 n5; have hm4 := m_pop ⟨gF, 3, none⟩ w4)
    | (go_at_call 193; (with_reducible refine (pop_any T gF x0 x1 x2 v M n w4 (H.out.1.kept HN.out.2.2.2.2 H.out.2.2.1) HN.out.2.2.2.1 (HNL _ HN.out.2.1).out (Nat.le_succ_of_le H64.out) H.out.2.2.1).mono ?_); rintro e w5 ⟨rfl, h5⟩; have H5 := Lib.hid h5; clear h5))
  go_ret
  obtain ⟨n1, n2, n3, n4, n5⟩ := HN.out
  have e0 : nth M n = nth L 0 := by rw [n3 n (Nat.le_refl _), nth_swap (by rw [HL.out]; omega) (by rw [HL.out]; omega), if_pos rfl]
  have hlen : M.length = n + 1 := by rw [n2.length_eq, swap_len]; exact HL.out
  refine ⟨by rw [← e0]; rfl, LinePost.trans (Trn.of_grown n5 (fun k hk => .inr hk)) (.inl rfl) ?_⟩
  obtain ⟨v2, N, a1, rfl, a3, a4, a5⟩ := H5.out
  have ht : (M.take n).length = n := by rw [List.length_take]; omega
  refine ⟨v2, M.take n, a1, ⟨?_, ?_⟩, a3, a4, a5⟩
  · rw [ht]
    intro k k0 hk
    rw [nth_take hk, nth_take (by have := par_lt k0; omega)]
    exact n1 k k0 hk
  · have e1 : M.take n ++ [nth M n] = M := by
      have hn : n < M.length := by omega
      rw [nth_eq hn, ← List.take_succ_eq_append_getElem hn, List.take_of_length_le (by omega)]
    rw [← e0, e1]
    exact n2.trans (swap_perm (by rw [HL.out]; omega) (by rw [HL.out]; omega))
end Go.Proofs.Ytpbbohinhbboaaa.Fw
