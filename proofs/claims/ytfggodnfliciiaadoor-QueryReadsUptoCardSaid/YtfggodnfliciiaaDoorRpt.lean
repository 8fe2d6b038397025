/-
  A row of parts in memory, one's own: appends to it; what it reads as.
-/
import Derived.Test.YtfggodnfliciiaaDoorBgn
import Derived.Test.YtfggodnfliciiaaDoorQry
import Derived.Test.YtfggodnfliciiaaDoorChecked
import Derived.Laws.Rows
import Derived.Laws.AppendOwn
namespace Go.Proofs.YtfggodnfliciiaaDoor.Rd
open Go Go.RowKit Go.Proofs.YtfggodnfliciiaaDoor.Sx

/-- The three cells of a part. -/
structure Rw where
  key : ByteArray
  kind : Int
  A : Option Addr
  n : Nat
  c : Nat
def nth (L : List Rw) (k : Nat) : Rw := L.getD k ⟨⟨#[]⟩, 0, none, 0, 0⟩
def rcell (t : Rw) : List Value := [.string t.key, .int .i64 t.kind, .slice t.A t.n t.c]
def rcells : List Rw → List Value
  | [] => []
  | t :: r => rcell t ++ rcells r
theorem rcells_len : ∀ (L : List Rw), (rcells L).length = L.length * 3
  | [] => rfl
  | t :: r => by
    have := rcells_len r
    simp only [rcells, List.length_append, List.length_cons, this]
    show 3 + r.length * 3 = _
    omega
theorem rcells_append : ∀ (L M : List Rw), rcells (L ++ M) = rcells L ++ rcells M
  | [], M => rfl
  | t :: r, M => by simp only [List.cons_append, rcells, rcells_append r M, List.append_assoc]
theorem rcells_at : ∀ {L : List Rw} {k : Nat} (_ : k < L.length) {j : Nat} (_ : j < 3), (rcells L)[k * 3 + j]? = (rcell (nth L k))[j]?
  | t :: r, 0, _, j, hj => by
    simp only [rcells, Nat.zero_mul, Nat.zero_add]
    rw [List.getElem?_append_left (by show j < 3; exact hj)]
    rfl
  | t :: r, k + 1, h, j, hj => by
    have h' : k < r.length := by simpa using h
    have ih := rcells_at (L := r) h' hj
    simp only [rcells]
    rw [List.getElem?_append_right (by show 3 ≤ _; omega)]
    have e : (k + 1) * 3 + j - (rcell t).length = k * 3 + j := by show (k + 1) * 3 + j - 3 = _; omega
    rw [e, ih]
    rfl
theorem rcells_take (L : List Rw) (k : Nat) : rcells (L.take k) = (rcells L).take (k * 3) := by
  induction L generalizing k with
  | nil => simp [rcells]
  | cons t r ih =>
    cases k with
    | zero => simp [rcells]
    | succ k =>
      simp only [List.take_succ_cons, rcells, ih]
      rw [List.take_append]
      have e1 : (rcell t).take ((k + 1) * 3) = rcell t := List.take_of_length_le (by show 3 ≤ _; omega)
      have e2 : (k + 1) * 3 - (rcell t).length = k * 3 := by show (k + 1) * 3 - 3 = _; omega
      rw [e1, e2]
theorem rcells_drop (L : List Rw) (k : Nat) : rcells (L.drop k) = (rcells L).drop (k * 3) := by
  induction L generalizing k with
  | nil => simp [rcells]
  | cons t r ih =>
    cases k with
    | zero => simp
    | succ k =>
      simp only [List.drop_succ_cons, rcells, ih]
      rw [List.drop_append]
      have e1 : (rcell t).drop ((k + 1) * 3) = [] := List.drop_of_length_le (by show 3 ≤ _; omega)
      have e2 : (k + 1) * 3 - (rcell t).length = k * 3 := by show (k + 1) * 3 - 3 = _; omega
      rw [e1, e2, List.nil_append]
theorem rcells_one (L : List Rw) : ∀ u ∈ rcells L, u.oneCell' = true := by
  induction L with
  | nil => intro u hu; simp [rcells] at hu
  | cons t r ih =>
    intro u hu
    rcases List.mem_append.1 hu with hu | hu
    · simp [rcell] at hu
      rcases hu with rfl | rfl | rfl <;> rfl
    · exact ih u hu
/-- A thing set: its three cells. -/
theorem rcells_set : ∀ (L : List Rw) (k : Nat) (t : Rw), k < L.length → rcells (L.set k t) = (((rcells L).set (k * 3) (.string t.key)).set (k * 3 + 1) (.int .i64 t.kind)).set (k * 3 + 2) (.slice t.A t.n t.c)
  | x :: r, 0, t, _ => rfl
  | x :: r, k + 1, t, h => by
    have ih := rcells_set r k t (by simpa using h)
    simp only [List.set_cons_succ, rcells, ih]
    have e : ∀ (M : List Value) (i : Nat) (u : Value), rcell x ++ M.set i u = (rcell x ++ M).set (i + 3) u := fun M i u => rfl
    rw [e, e, e]
    congr 1
    · congr 1
      · congr 1
        omega
      · omega
    · omega

/-! ### The row -/

/-- The slice v is a row of one's own: these things. -/
def RRow (et base : Nat) (w : World) (v : Value) (L : List Rw) : Prop :=
  (v = .slice none 0 0 ∧ L = []) ∨ ∃ g c rest, v = .slice (some ⟨g, 0, none⟩) L.length c ∧ base ≤ g ∧ w.heap[g]? = some (.cells (rcells L ++ rest).toArray et (0, 0)) ∧ L.length * 3 + rest.length = c * 3 ∧ c ≤ maxLen
section
variable {et base : Nat} {w w' : World} {v : Value} {L : List Rw}
theorem RRow.nil : RRow et base w (.slice none 0 0) [] := .inl ⟨rfl, rfl⟩
theorem RRow.owns (h : RRow et base w v L) : w.ownsRow base et 3 v L.length (rcells L) := by
  refine ⟨rcells_len L, ?_⟩
  rcases h with ⟨rfl, rfl⟩ | ⟨g, c, rest, rfl, hb, hg, hc, hm⟩
  · exact .inl ⟨rfl, rfl⟩
  · refine .inr ⟨g, c, _, rfl, hb, hg, by omega, hm, ?_, ?_⟩
    · simp [rcells_len]; omega
    · have : (rcells L ++ rest).take (L.length * 3) = rcells L := by rw [← rcells_len, List.take_left']; rfl
      simpa using this
theorem RRow.of_owns {n : Nat} (hn : n = L.length) (h : w.ownsRow base et 3 v n (rcells L)) : RRow et base w v L := by
  subst hn
  rcases h.2 with ⟨rfl, h0⟩ | ⟨g, cap, cur, rfl, hb, hg, hnc, hm, hs, ht⟩
  · exact .inl ⟨rfl, List.length_eq_zero_iff.1 h0⟩
  · have hl : cur.toList.length = cap * 3 := by simpa using hs
    have he : cur = (rcells L ++ cur.toList.drop (L.length * 3)).toArray := by
      rw [← ht, List.take_append_drop, Array.toArray_toList]
    refine .inr ⟨g, cap, cur.toList.drop (L.length * 3), rfl, hb, by rw [hg, ← he], ?_, hm⟩
    rw [List.length_drop, hl]
    omega
theorem RRow.kept {row : Option Nat} (h : RRow et base w v L) (hg : w.grownBy w' row) (hne : ∀ g, v.ownBlock = some g → row ≠ some g) : RRow et base w' v L := by
  rcases h with h | ⟨g, c, rest, rfl, hb, hh, hc, hm⟩
  · exact .inl h
  · exact .inr ⟨g, c, rest, rfl, hb, (hg.block g (heap_lt hh) (fun e => hne g rfl e.symm)).trans hh, hc, hm⟩
theorem RRow.ext (h : RRow et base w v L) (he : Ext w w') : RRow et base w' v L := h.kept (grown_of_extB he) (fun g _ => by simp)
theorem RRow.block (h : RRow et base w v L) : ∀ g, v.ownBlock = some g → base ≤ g ∧ g < w.heap.size := by
  rcases h with ⟨rfl, _⟩ | ⟨g, c, rest, rfl, hb, hh, _⟩
  · intro g hg; simp [Value.ownBlock] at hg
  · intro g' hg
    have : g = g' := by simpa [Value.ownBlock] using hg
    subst this
    exact ⟨hb, heap_lt hh⟩
theorem RRow.slice (h : RRow et base w v L) : ∃ A c, v = .slice A L.length c := by
  rcases h with ⟨rfl, rfl⟩ | ⟨g, c, rest, rfl, _⟩
  · exact ⟨_, _, rfl⟩
  · exact ⟨_, _, rfl⟩
/-- A row with something in it. -/
theorem RRow.some_ (h : RRow et base w v L) (h0 : 0 < L.length) : ∃ g c rest, v = .slice (some ⟨g, 0, none⟩) L.length c ∧ base ≤ g ∧ w.heap[g]? = some (.cells (rcells L ++ rest).toArray et (0, 0)) ∧ L.length * 3 + rest.length = c * 3 ∧ c ≤ maxLen := by
  rcases h with ⟨_, rfl⟩ | h
  · simp at h0
  · exact h
end
theorem row_cell {w : World} {g et k j : Nat} {L : List Rw} {rest : List Value} (hg : w.heap[g]? = some (.cells (rcells L ++ rest).toArray et (0, 0))) (hk : k < L.length) (hj : j < 3) : w.cell? ⟨g, k * 3 + j, none⟩ = (rcell (nth L k))[j]? := by
  rw [cell_of hg, List.getElem?_toArray, List.getElem?_append_left (by rw [rcells_len]; omega)]
  exact rcells_at hk hj
theorem row_three {w : World} {g et k : Nat} {L : List Rw} {rest : List Value} (hg : w.heap[g]? = some (.cells (rcells L ++ rest).toArray et (0, 0))) (hk : k < L.length) :
    w.cell? ⟨g, k * 3, none⟩ = some (.string (nth L k).key) ∧ w.cell? ⟨g, k * 3 + 1, none⟩ = some (.int .i64 (nth L k).kind) ∧ w.cell? ⟨g, k * 3 + 2, none⟩ = some (.slice (nth L k).A (nth L k).n (nth L k).c) :=
  ⟨row_cell hg hk (j := 0) (by omega), row_cell hg hk (j := 1) (by omega), row_cell hg hk (j := 2) (by omega)⟩
theorem row_free {w : World} {g et k : Nat} {C : Array Value} (hg : w.heap[g]? = some (.cells C et (0, 0))) : w.frozen? ⟨g, k, none⟩ = false := by
  simp [World.frozen?, hg]
/-- Three stores: a thing set. -/
theorem row_put {w : World} {g et k : Nat} {L : List Rw} {rest : List Value} (hg : w.heap[g]? = some (.cells (rcells L ++ rest).toArray et (0, 0))) (hk : k < L.length) (t : Rw) :
    (((w.setCell ⟨g, k * 3, none⟩ (.string t.key)).setCell ⟨g, k * 3 + 1, none⟩ (.int .i64 t.kind)).setCell ⟨g, k * 3 + 2, none⟩ (.slice t.A t.n t.c)).heap[g]? = some (.cells (rcells (L.set k t) ++ rest).toArray et (0, 0)) := by
  have h1 := heap_setCell_same w g (k * 3) _ et (.string t.key) hg
  have h2 := heap_setCell_same _ g (k * 3 + 1) _ et (.int .i64 t.kind) h1
  have h3 := heap_setCell_same _ g (k * 3 + 2) _ et (.slice t.A t.n t.c) h2
  rw [h3, rcells_set L k t hk]
  congr 2
  simp only [List.setIfInBounds_toArray]
  congr 1
  rw [List.set_append_left _ _ (by rw [rcells_len]; omega), List.set_append_left _ _ (by rw [List.length_set, rcells_len]; omega), List.set_append_left _ _ (by rw [List.length_set, List.length_set, rcells_len]; omega)]

/-! ### Append -/

/-- A slice that reads as these things. -/
def RSrc (w : World) (x : Value) (L : List Rw) : Prop := (∃ c, x = .slice none 0 c ∧ L = []) ∨ ∃ ad c, x = .slice (some ad) L.length c ∧ ∀ j u, (rcells L)[j]? = some u → w.cell? (ad.add j) = some u
theorem RRow.src {et base : Nat} {w : World} {v : Value} {L : List Rw} (h : RRow et base w v L) : RSrc w v L := by
  rcases h with ⟨rfl, rfl⟩ | ⟨g, c, rest, rfl, _, hg, _⟩
  · exact .inl ⟨0, rfl, rfl⟩
  · exact .inr ⟨_, c, rfl, fun j u hj => by
      rw [Addr.add_lit, Nat.zero_add, cell_of hg, List.getElem?_toArray, List.getElem?_append_left (List.getElem?_eq_some_iff.1 hj).1]
      exact hj⟩
structure RTyOk (st et : Nat) : Prop where
  under : Tryd.prog.underlying st = some (.slice et)
  info : (Tryd.prog.info? et).map (fun i => (i.zero, i.size, i.bytes)) = some (some (.agg #[.string ⟨#[]⟩, .int .i64 0, .slice none 0 0]), 3, 48)
theorem RSrc.of_block {w : World} {g et c : Nat} {L : List Rw} (h : w.heap[g]? = some (.cells (rcells L).toArray et (0, 0))) : RSrc w (.slice (some ⟨g, 0, none⟩) L.length c) L :=
  .inr ⟨_, _, rfl, fun j u hj => by rw [Addr.add_lit, Nat.zero_add, cell_of h, List.getElem?_toArray]; exact hj⟩
theorem run_rappend {st et : Nat} (hty : RTyOk st et) (base : Nat) (ty : TypeId) (w : World) (v x : Value) (zs ys : List Rw) (hrow : RRow et base w v zs) (hx : RSrc w x ys) (hs : zs.length + ys.length ≤ 1048576) (hbase : base ≤ w.heap.size) :
    ∃ A c w', (Builtin.append_ #[st, st] ty #[v, x]).run Tryd.prog w = .ok (.slice A (zs.length + ys.length) c) w' ∧ RRow et base w' (.slice A (zs.length + ys.length) c) (zs ++ ys) ∧ w.grownBy w' v.ownBlock ∧ ((Value.slice A (zs.length + ys.length) c).ownBlock = v.ownBlock ∨ (Value.slice A (zs.length + ys.length) c).ownBlock = some w.heap.size) := by
  obtain ⟨i0, hi, hz0, hz1, hz2⟩ := info_parts hty.info
  rcases hx with ⟨c, rfl, rfl⟩ | ⟨ad, c, rfl, hc⟩
  · have hr := run_append_noneB (P := Tryd.prog) (w := w) base st ty et i0 3 c hty.under hi v zs.length (rcells zs) hrow.owns
    obtain ⟨A, c', rfl⟩ := hrow.slice
    exact ⟨A, c', w, hr, by rw [List.append_nil]; exact hrow, grown_of_extB' (Below.refl _ _), .inl rfl⟩
  · by_cases h0 : ys = []
    · subst h0
      have hr := run_append_zero (P := Tryd.prog) (w := w) base st ty et i0 3 ad c hty.under hi v zs.length (rcells zs) hrow.owns
      obtain ⟨A, c', rfl⟩ := hrow.slice
      exact ⟨A, c', w, hr, by rw [List.append_nil]; exact hrow, grown_of_extB' (Below.refl _ _), .inl rfl⟩
    · have hpos : 0 < ys.length := List.length_pos_iff.2 h0
      obtain ⟨v', w', hr, h2, h3, _, h5⟩ := run_append_own_at (P := Tryd.prog) w base st ty et i0 _ 3 48 hty.under hi hz0 hz1 hz2 rfl (by omega) v zs.length (rcells zs) hrow.owns ad ys.length c (rcells ys) (rcells_len ys) hc (rcells_one ys) (by unfold maxLen; omega) (by omega) hbase
      have hrow' : RRow et base w' v' (zs ++ ys) := RRow.of_owns (n := zs.length + ys.length) (by simp) (by rw [rcells_append]; exact h2)
      obtain ⟨A, c', hv⟩ := hrow'.slice
      rw [List.length_append] at hv
      subst hv
      exact ⟨A, c', w', hr, hrow', h3, h5⟩
theorem append_parts {st et : Nat} (hty : RTyOk st et) {ops : Array Oper} {rest : List Oper} {o : Oper} {a : Act} {Q : Exit → Act → World → Prop} (hgd : o.guard = none) (s x : Operand)
    (ho : o.op = .call { callee := .builtin .append, args := #[s, x], argTypes := #[st, st] }) (base n m : Nat) (w : World) (v y : Value) (zs ys : List Rw)
    (hs : a.eval s = v) (hx : a.eval x = y) (hrow : RRow et base w v zs) (hy : RSrc w y ys) (hn : zs.length = n) (hm : ys.length = m) (hsm : n + m ≤ 1048576) (hbase : base ≤ w.heap.size)
    (h : ∀ A c w', RRow et base w' (.slice A (n + m) c) (zs ++ ys) → w.grownBy w' v.ownBlock → ((Value.slice A (n + m) c).ownBlock = v.ownBlock ∨ (Value.slice A (n + m) c).ownBlock = some w.heap.size) → wpList Tryd.prog ops Q rest (a.put o.dst (.slice A (n + m) c)) w') : wpList Tryd.prog ops Q (o :: rest) a w := by
  subst hn hm
  obtain ⟨A, c, w', hr, h1, h2, h3⟩ := run_rappend hty base o.type w v y zs ys hrow hy hsm hbase
  refine wpList_plain hgd fun K hK => ?_
  unfold Oper.wp execOp
  simp only [ho, resolve, invoke, builtin, Sem.run_bind, Sem.run_pure, Result.andThen_ok, List.map_toArray, List.map_cons, List.map_nil, hs, hx, hr]
  exact hK _ _ (h A c w' h1 h2 h3)
theorem step_append_parts {st et : Nat} (hty : RTyOk st et) {ops : Array Oper} {o : Oper} {a : Act} {K : Act → World → Prop} {Q : Exit → Act → World → Prop} {E : Prop} (hgd : o.guard = none) (s x : Operand)
    (ho : o.op = .call { callee := .builtin .append, args := #[s, x], argTypes := #[st, st] }) (base n m : Nat) (w : World) (v y : Value) (zs ys : List Rw)
    (hs : a.eval s = v) (hx : a.eval x = y) (hrow : RRow et base w v zs) (hy : RSrc w y ys) (hn : zs.length = n) (hm : ys.length = m) (hsm : n + m ≤ 1048576) (hbase : base ≤ w.heap.size)
    (h : ∀ A c w', RRow et base w' (.slice A (n + m) c) (zs ++ ys) → w.grownBy w' v.ownBlock → ((Value.slice A (n + m) c).ownBlock = v.ownBlock ∨ (Value.slice A (n + m) c).ownBlock = some w.heap.size) → K (a.put o.dst (.slice A (n + m) c)) w') : if Region.wanted o (yielded ops a.tmps) = true then Oper.wp Tryd.prog o a w K Q else E := by
  subst hn hm
  obtain ⟨A, c, w', hr, h1, h2, h3⟩ := run_rappend hty base o.type w v y zs ys hrow hy hsm hbase
  have hw : Region.wanted o (yielded ops a.tmps) = true := by simp [Region.wanted, hgd]
  rw [if_pos hw]
  unfold Oper.wp execOp
  simp only [ho, resolve, invoke, builtin, Sem.run_bind, Sem.run_pure, Result.andThen_ok, List.map_toArray, List.map_cons, List.map_nil, hs, hx, hr]
  exact h A c w' h1 h2 h3
abbrev reqT : Nat := 29
/-- The row's cells tell these parts. -/
def repR (B : Nat) (w : World) (t : Rw) (r : Req) : Prop := t.key = r.key ∧ t.kind = r.kind ∧ t.n = r.vals.length ∧ reqR B w (rcell t) r
def RepL (B : Nat) (w : World) (L : List Rw) (l : List Req) : Prop := L.length = l.length ∧ ∀ i (hi : i < l.length), repR B w (nth L i) l[i]
theorem repR.below {B B' : Nat} {w w' : World} {t : Rw} {r : Req} (h : repR B w t r) (hb : Below B w w') (hB : B ≤ B') : repR B' w' t r := ⟨h.1, h.2.1, h.2.2.1, h.2.2.2.below hb hB⟩
theorem RepL.below {B B' : Nat} {w w' : World} {L : List Rw} {l : List Req} (h : RepL B w L l) (hb : Below B w w') (hB : B ≤ B') : RepL B' w' L l := ⟨h.1, fun i hi => (h.2 i hi).below hb hB⟩
theorem rows_at {L : List Rw} {j : Nat} {u : Value} (h : (rcells L)[j]? = some u) : ∃ i k, i < L.length ∧ k < 3 ∧ j = i * 3 + k ∧ (rcell (nth L i))[k]? = some u := by
  have hj := (List.getElem?_eq_some_iff.1 h).1
  rw [rcells_len] at hj
  refine ⟨j / 3, j % 3, by omega, by omega, by omega, ?_⟩
  rw [← rcells_at (L := L) (k := j / 3) (by omega) (j := j % 3) (by omega), ← h]
  congr 1
  omega
/-- A row's parts, read. -/
theorem reqs_of_row {et base B : Nat} {w : World} {v : Value} {L : List Rw} {l : List Req} (h : RRow et base w v L) (hL : RepL B w L l) (hB : B ≤ w.heap.size) (hn : l.length ≤ 1099511627776) : ReqsR w.heap.size w v l := by
  rcases h with ⟨rfl, rfl⟩ | ⟨g, c, rest, rfl, _, hg, _, _⟩
  · have : l = [] := List.length_eq_zero_iff.1 hL.1.symm
    subst this
    exact ⟨hn, none, 0, rfl, fun i hi => by simp at hi⟩
  · refine ⟨hn, some ⟨g, 0, none⟩, c, by rw [hL.1], fun i hi => ⟨g, 0, rcell (nth L i), rfl, heap_lt hg, rfl, ((hL.2 i hi).2.2.2).below (Below.refl _ _) hB, fun k u hu => ?_⟩⟩
    have hk : k < 3 := (List.getElem?_eq_some_iff.1 hu).1
    rw [Nat.zero_add, row_cell hg (by rw [hL.1]; exact hi) hk]
    exact hu

theorem req_info : (Tryd.prog.info? reqT).map (fun i => (i.zero, i.size, i.bytes)) = some (some (Value.agg #[.string ⟨#[]⟩, .int .i64 0, .slice none 0 0]), 3, 48) := by kernel_rfl
theorem qTyOk : RTyOk 22 reqT := ⟨Tryd.underlying22, req_info⟩
theorem nth_append_left {L M : List Rw} {i : Nat} (h : i < L.length) : nth (L ++ M) i = nth L i := by
  unfold nth
  rw [List.getD_eq_getElem?_getD, List.getD_eq_getElem?_getD, List.getElem?_append_left h]
theorem nth_append_one {L : List Rw} {t : Rw} : nth (L ++ [t]) L.length = t := by
  unfold nth
  rw [List.getD_eq_getElem?_getD, List.getElem?_append_right (Nat.le_refl _), Nat.sub_self]
  rfl
/-- One part more. -/
theorem RepL.more {B : Nat} {w : World} {L : List Rw} {l : List Req} {t : Rw} {r : Req} (h : RepL B w L l) (ht : repR B w t r) : RepL B w (L ++ [t]) (l ++ [r]) := by
  refine ⟨by simp [h.1], fun i hi => ?_⟩
  rcases Nat.lt_or_ge i l.length with h1 | h1
  · rw [nth_append_left (by rw [h.1]; exact h1), List.getElem_append_left h1]
    exact h.2 i h1
  · have e : i = l.length := by simp at hi; omega
    subst e
    rw [List.getElem_append_right (Nat.le_refl _)]
    simp only [Nat.sub_self, List.getElem_cons_zero]
    rw [← h.1, nth_append_one]
    exact ht
theorem rrow_below {et base : Nat} {w w' : World} {v : Value} {L : List Rw} (h : RRow et base w v L) (hg : w.grownBy w' v.ownBlock) (hb : base ≤ w.heap.size) : Below base w w' :=
  ⟨hg.os, hg.tape, hg.output, hg.size, fun k hk => hg.block k (by omega) fun e => by have := (h.block k e.symm).1; omega⟩
theorem RRow.low {et base base' : Nat} {w : World} {v : Value} {L : List Rw} (h : RRow et base w v L) (hb : base' ≤ base) : RRow et base' w v L := by
  rcases h with h | ⟨g, c, rest, h1, h2, h3⟩
  · exact .inl h
  · exact .inr ⟨g, c, rest, h1, Nat.le_trans hb h2, h3⟩

end Go.Proofs.YtfggodnfliciiaaDoor.Rd
