/-
  Flow: a row of things in memory: three cells each; an append to it, an exchange in it.
-/
import Derived.Test.YtpbbohinhbboaaaBrow
import Derived.Laws.Rows
import Derived.Test.YtpbbohinhbboaaaFl0
namespace Go.Proofs.Ytpbbohinhbboaaa.Fw
open Go Go.RowKit Go.Proofs.Ytpbbohinhbboaaa.Sx

def tcell (t : Th) : List Value := [.int .i64 t.id, .int .i64 t.flow, .int .i64 t.start]
def tcells : List Th → List Value
  | [] => []
  | t :: r => tcell t ++ tcells r
theorem tcells_len : ∀ (L : List Th), (tcells L).length = L.length * 3
  | [] => rfl
  | t :: r => by
    have := tcells_len r
    simp only [tcells, List.length_append, List.length_cons, this]
    show 3 + r.length * 3 = _
    omega
theorem tcells_append : ∀ (L M : List Th), tcells (L ++ M) = tcells L ++ tcells M
  | [], M => rfl
  | t :: r, M => by simp only [List.cons_append, tcells, tcells_append r M, List.append_assoc]
theorem tcells_at : ∀ {L : List Th} {k : Nat} (_ : k < L.length) {j : Nat} (_ : j < 3), (tcells L)[k * 3 + j]? = (tcell (nth L k))[j]?
  | t :: r, 0, _, j, hj => by
    simp only [tcells, Nat.zero_mul, Nat.zero_add]
    rw [List.getElem?_append_left (by show j < 3; exact hj)]
    rfl
  | t :: r, k + 1, h, j, hj => by
    have h' : k < r.length := by simpa using h
    have ih := tcells_at (L := r) h' hj
    simp only [tcells]
    rw [List.getElem?_append_right (by show 3 ≤ _; omega)]
    have e : (k + 1) * 3 + j - (tcell t).length = k * 3 + j := by show (k + 1) * 3 + j - 3 = _; omega
    rw [e, ih]
    rfl
theorem tcells_take (L : List Th) (k : Nat) : tcells (L.take k) = (tcells L).take (k * 3) := by
  induction L generalizing k with
  | nil => simp [tcells]
  | cons t r ih =>
    cases k with
    | zero => simp [tcells]
    | succ k =>
      simp only [List.take_succ_cons, tcells, ih]
      rw [List.take_append]
      have e1 : (tcell t).take ((k + 1) * 3) = tcell t := List.take_of_length_le (by show 3 ≤ _; omega)
      have e2 : (k + 1) * 3 - (tcell t).length = k * 3 := by show (k + 1) * 3 - 3 = _; omega
      rw [e1, e2]
theorem tcells_drop (L : List Th) (k : Nat) : tcells (L.drop k) = (tcells L).drop (k * 3) := by
  induction L generalizing k with
  | nil => simp [tcells]
  | cons t r ih =>
    cases k with
    | zero => simp
    | succ k =>
      simp only [List.drop_succ_cons, tcells, ih]
      rw [List.drop_append]
      have e1 : (tcell t).drop ((k + 1) * 3) = [] := List.drop_of_length_le (by show 3 ≤ _; omega)
      have e2 : (k + 1) * 3 - (tcell t).length = k * 3 := by show (k + 1) * 3 - 3 = _; omega
      rw [e1, e2, List.nil_append]
theorem tcells_one (L : List Th) : ∀ u ∈ tcells L, u.oneCell' = true := by
  induction L with
  | nil => intro u hu; simp [tcells] at hu
  | cons t r ih =>
    intro u hu
    rcases List.mem_append.1 hu with hu | hu
    · simp [tcell] at hu
      rcases hu with rfl | rfl | rfl <;> rfl
    · exact ih u hu
/-- A thing set: its three cells. -/
theorem tcells_set : ∀ (L : List Th) (k : Nat) (t : Th), k < L.length → tcells (L.set k t) = (((tcells L).set (k * 3) (.int .i64 t.id)).set (k * 3 + 1) (.int .i64 t.flow)).set (k * 3 + 2) (.int .i64 t.start)
  | x :: r, 0, t, _ => rfl
  | x :: r, k + 1, t, h => by
    have ih := tcells_set r k t (by simpa using h)
    simp only [List.set_cons_succ, tcells, ih]
    have e : ∀ (M : List Value) (i : Nat) (u : Value), tcell x ++ M.set i u = (tcell x ++ M).set (i + 3) u := fun M i u => rfl
    rw [e, e, e]
    congr 1
    · congr 1
      · congr 1
        omega
      · omega
    · omega

/-! ### The row -/

/-- The slice v is a row of one's own: these things. -/
def TRow (et base : Nat) (w : World) (v : Value) (L : List Th) : Prop :=
  (v = .slice none 0 0 ∧ L = []) ∨ ∃ g c rest, v = .slice (some ⟨g, 0, none⟩) L.length c ∧ base ≤ g ∧ w.heap[g]? = some (.cells (tcells L ++ rest).toArray et (0, 0)) ∧ L.length * 3 + rest.length = c * 3 ∧ c ≤ maxLen
section
variable {et base : Nat} {w w' : World} {v : Value} {L : List Th}
theorem TRow.nil : TRow et base w (.slice none 0 0) [] := .inl ⟨rfl, rfl⟩
theorem TRow.owns (h : TRow et base w v L) : w.ownsRow base et 3 v L.length (tcells L) := by
  refine ⟨tcells_len L, ?_⟩
  rcases h with ⟨rfl, rfl⟩ | ⟨g, c, rest, rfl, hb, hg, hc, hm⟩
  · exact .inl ⟨rfl, rfl⟩
  · refine .inr ⟨g, c, _, rfl, hb, hg, by omega, hm, ?_, ?_⟩
    · simp [tcells_len]; omega
    · have : (tcells L ++ rest).take (L.length * 3) = tcells L := by rw [← tcells_len, List.take_left']; rfl
      simpa using this
theorem TRow.of_owns {n : Nat} (hn : n = L.length) (h : w.ownsRow base et 3 v n (tcells L)) : TRow et base w v L := by
  subst hn
  rcases h.2 with ⟨rfl, h0⟩ | ⟨g, cap, cur, rfl, hb, hg, hnc, hm, hs, ht⟩
  · exact .inl ⟨rfl, List.length_eq_zero_iff.1 h0⟩
  · have hl : cur.toList.length = cap * 3 := by simpa using hs
    have he : cur = (tcells L ++ cur.toList.drop (L.length * 3)).toArray := by
      rw [← ht, List.take_append_drop, Array.toArray_toList]
    refine .inr ⟨g, cap, cur.toList.drop (L.length * 3), rfl, hb, by rw [hg, ← he], ?_, hm⟩
    rw [List.length_drop, hl]
    omega
theorem TRow.kept {row : Option Nat} (h : TRow et base w v L) (hg : w.grownBy w' row) (hne : ∀ g, v.ownBlock = some g → row ≠ some g) : TRow et base w' v L := by
  rcases h with h | ⟨g, c, rest, rfl, hb, hh, hc, hm⟩
  · exact .inl h
  · exact .inr ⟨g, c, rest, rfl, hb, (hg.block g (heap_lt hh) (fun e => hne g rfl e.symm)).trans hh, hc, hm⟩
theorem TRow.ext (h : TRow et base w v L) (he : Ext w w') : TRow et base w' v L := h.kept (grown_of_extB he) (fun g _ => by simp)
theorem TRow.block (h : TRow et base w v L) : ∀ g, v.ownBlock = some g → base ≤ g ∧ g < w.heap.size := by
  rcases h with ⟨rfl, _⟩ | ⟨g, c, rest, rfl, hb, hh, _⟩
  · intro g hg; simp [Value.ownBlock] at hg
  · intro g' hg
    have : g = g' := by simpa [Value.ownBlock] using hg
    subst this
    exact ⟨hb, heap_lt hh⟩
theorem TRow.slice (h : TRow et base w v L) : ∃ A c, v = .slice A L.length c := by
  rcases h with ⟨rfl, rfl⟩ | ⟨g, c, rest, rfl, _⟩
  · exact ⟨_, _, rfl⟩
  · exact ⟨_, _, rfl⟩
/-- A row with something in it. -/
theorem TRow.some_ (h : TRow et base w v L) (h0 : 0 < L.length) : ∃ g c rest, v = .slice (some ⟨g, 0, none⟩) L.length c ∧ base ≤ g ∧ w.heap[g]? = some (.cells (tcells L ++ rest).toArray et (0, 0)) ∧ L.length * 3 + rest.length = c * 3 ∧ c ≤ maxLen := by
  rcases h with ⟨_, rfl⟩ | h
  · simp at h0
  · exact h
end
theorem row_cell {w : World} {g et k j : Nat} {L : List Th} {rest : List Value} (hg : w.heap[g]? = some (.cells (tcells L ++ rest).toArray et (0, 0))) (hk : k < L.length) (hj : j < 3) : w.cell? ⟨g, k * 3 + j, none⟩ = (tcell (nth L k))[j]? := by
  rw [cell_of hg, List.getElem?_toArray, List.getElem?_append_left (by rw [tcells_len]; omega)]
  exact tcells_at hk hj
theorem row_three {w : World} {g et k : Nat} {L : List Th} {rest : List Value} (hg : w.heap[g]? = some (.cells (tcells L ++ rest).toArray et (0, 0))) (hk : k < L.length) :
    w.cell? ⟨g, k * 3, none⟩ = some (.int .i64 (nth L k).id) ∧ w.cell? ⟨g, k * 3 + 1, none⟩ = some (.int .i64 (nth L k).flow) ∧ w.cell? ⟨g, k * 3 + 2, none⟩ = some (.int .i64 (nth L k).start) :=
  ⟨row_cell hg hk (j := 0) (by omega), row_cell hg hk (j := 1) (by omega), row_cell hg hk (j := 2) (by omega)⟩
theorem row_free {w : World} {g et k : Nat} {C : Array Value} (hg : w.heap[g]? = some (.cells C et (0, 0))) : w.frozen? ⟨g, k, none⟩ = false := by
  simp [World.frozen?, hg]
/-- Three stores: a thing set. -/
theorem row_put {w : World} {g et k : Nat} {L : List Th} {rest : List Value} (hg : w.heap[g]? = some (.cells (tcells L ++ rest).toArray et (0, 0))) (hk : k < L.length) (t : Th) :
    (((w.setCell ⟨g, k * 3, none⟩ (.int .i64 t.id)).setCell ⟨g, k * 3 + 1, none⟩ (.int .i64 t.flow)).setCell ⟨g, k * 3 + 2, none⟩ (.int .i64 t.start)).heap[g]? = some (.cells (tcells (L.set k t) ++ rest).toArray et (0, 0)) := by
  have h1 := heap_setCell_same w g (k * 3) _ et (.int .i64 t.id) hg
  have h2 := heap_setCell_same _ g (k * 3 + 1) _ et (.int .i64 t.flow) h1
  have h3 := heap_setCell_same _ g (k * 3 + 2) _ et (.int .i64 t.start) h2
  rw [h3, tcells_set L k t hk]
  congr 2
  simp only [List.setIfInBounds_toArray]
  congr 1
  rw [List.set_append_left _ _ (by rw [tcells_len]; omega), List.set_append_left _ _ (by rw [List.length_set, tcells_len]; omega), List.set_append_left _ _ (by rw [List.length_set, List.length_set, tcells_len]; omega)]

/-! ### Append -/

/-- A slice that reads as these things. -/
def TSrc (w : World) (x : Value) (L : List Th) : Prop := (∃ c, x = .slice none 0 c ∧ L = []) ∨ ∃ ad c, x = .slice (some ad) L.length c ∧ ∀ j u, (tcells L)[j]? = some u → w.cell? (ad.add j) = some u
theorem TRow.src {et base : Nat} {w : World} {v : Value} {L : List Th} (h : TRow et base w v L) : TSrc w v L := by
  rcases h with ⟨rfl, rfl⟩ | ⟨g, c, rest, rfl, _, hg, _⟩
  · exact .inl ⟨0, rfl, rfl⟩
  · exact .inr ⟨_, c, rfl, fun j u hj => by
      rw [Addr.add_lit, Nat.zero_add, cell_of hg, List.getElem?_toArray, List.getElem?_append_left (List.getElem?_eq_some_iff.1 hj).1]
      exact hj⟩
structure TyOk (st et : Nat) : Prop where
  under : Try.prog.underlying st = some (.slice et)
  info : (Try.prog.info? et).map (fun i => (i.zero, i.size, i.bytes)) = some (some (.agg #[.int .i64 0, .int .i64 0, .int .i64 0]), 3, 24)
theorem TSrc.of_block {w : World} {g et c : Nat} {L : List Th} (h : w.heap[g]? = some (.cells (tcells L).toArray et (0, 0))) : TSrc w (.slice (some ⟨g, 0, none⟩) L.length c) L :=
  .inr ⟨_, _, rfl, fun j u hj => by rw [Addr.add_lit, Nat.zero_add, cell_of h, List.getElem?_toArray]; exact hj⟩
theorem run_tappend {st et : Nat} (hty : TyOk st et) (base : Nat) (ty : TypeId) (w : World) (v x : Value) (zs ys : List Th) (hrow : TRow et base w v zs) (hx : TSrc w x ys) (hs : zs.length + ys.length ≤ 1048576) (hbase : base ≤ w.heap.size) :
    ∃ A c w', (Builtin.append_ #[st, st] ty #[v, x]).run Try.prog w = .ok (.slice A (zs.length + ys.length) c) w' ∧ TRow et base w' (.slice A (zs.length + ys.length) c) (zs ++ ys) ∧ w.grownBy w' v.ownBlock ∧ ((Value.slice A (zs.length + ys.length) c).ownBlock = v.ownBlock ∨ (Value.slice A (zs.length + ys.length) c).ownBlock = some w.heap.size) := by
  obtain ⟨i0, hi, hz0, hz1, hz2⟩ := info_parts hty.info
  rcases hx with ⟨c, rfl, rfl⟩ | ⟨ad, c, rfl, hc⟩
  · have hr := run_append_noneB (P := Try.prog) (w := w) base st ty et i0 3 c hty.under hi v zs.length (tcells zs) hrow.owns
    obtain ⟨A, c', rfl⟩ := hrow.slice
    exact ⟨A, c', w, hr, by rw [List.append_nil]; exact hrow, grown_of_extB' (Below.refl _ _), .inl rfl⟩
  · by_cases h0 : ys = []
    · subst h0
      have hr := run_append_zero (P := Try.prog) (w := w) base st ty et i0 3 ad c hty.under hi v zs.length (tcells zs) hrow.owns
      obtain ⟨A, c', rfl⟩ := hrow.slice
      exact ⟨A, c', w, hr, by rw [List.append_nil]; exact hrow, grown_of_extB' (Below.refl _ _), .inl rfl⟩
    · have hpos : 0 < ys.length := List.length_pos_iff.2 h0
      obtain ⟨v', w', hr, h2, h3, _, h5⟩ := run_append_own_at (P := Try.prog) w base st ty et i0 _ 3 24 hty.under hi hz0 hz1 hz2 rfl (by omega) v zs.length (tcells zs) hrow.owns ad ys.length c (tcells ys) (tcells_len ys) hc (tcells_one ys) (by unfold maxLen; omega) (by omega) hbase
      have hrow' : TRow et base w' v' (zs ++ ys) := TRow.of_owns (n := zs.length + ys.length) (by simp) (by rw [tcells_append]; exact h2)
      obtain ⟨A, c', hv⟩ := hrow'.slice
      rw [List.length_append] at hv
      subst hv
      exact ⟨A, c', w', hr, hrow', h3, h5⟩
theorem append_things {st et : Nat} (hty : TyOk st et) {ops : Array Oper} {rest : List Oper} {o : Oper} {a : Act} {Q : Exit → Act → World → Prop} (hgd : o.guard = none) (s x : Operand)
    (ho : o.op = .call { callee := .builtin .append, args := #[s, x], argTypes := #[st, st] }) (base n m : Nat) (w : World) (v y : Value) (zs ys : List Th)
    (hs : a.eval s = v) (hx : a.eval x = y) (hrow : TRow et base w v zs) (hy : TSrc w y ys) (hn : zs.length = n) (hm : ys.length = m) (hsm : n + m ≤ 1048576) (hbase : base ≤ w.heap.size)
    (h : ∀ A c w', TRow et base w' (.slice A (n + m) c) (zs ++ ys) → w.grownBy w' v.ownBlock → ((Value.slice A (n + m) c).ownBlock = v.ownBlock ∨ (Value.slice A (n + m) c).ownBlock = some w.heap.size) → wpList Try.prog ops Q rest (a.put o.dst (.slice A (n + m) c)) w') : wpList Try.prog ops Q (o :: rest) a w := by
  subst hn hm
  obtain ⟨A, c, w', hr, h1, h2, h3⟩ := run_tappend hty base o.type w v y zs ys hrow hy hsm hbase
  refine wpList_plain hgd fun K hK => ?_
  unfold Oper.wp execOp
  simp only [ho, resolve, invoke, builtin, Sem.run_bind, Sem.run_pure, Result.andThen_ok, List.map_toArray, List.map_cons, List.map_nil, hs, hx, hr]
  exact hK _ _ (h A c w' h1 h2 h3)
theorem step_append_things {st et : Nat} (hty : TyOk st et) {ops : Array Oper} {o : Oper} {a : Act} {K : Act → World → Prop} {Q : Exit → Act → World → Prop} {E : Prop} (hgd : o.guard = none) (s x : Operand)
    (ho : o.op = .call { callee := .builtin .append, args := #[s, x], argTypes := #[st, st] }) (base n m : Nat) (w : World) (v y : Value) (zs ys : List Th)
    (hs : a.eval s = v) (hx : a.eval x = y) (hrow : TRow et base w v zs) (hy : TSrc w y ys) (hn : zs.length = n) (hm : ys.length = m) (hsm : n + m ≤ 1048576) (hbase : base ≤ w.heap.size)
    (h : ∀ A c w', TRow et base w' (.slice A (n + m) c) (zs ++ ys) → w.grownBy w' v.ownBlock → ((Value.slice A (n + m) c).ownBlock = v.ownBlock ∨ (Value.slice A (n + m) c).ownBlock = some w.heap.size) → K (a.put o.dst (.slice A (n + m) c)) w') : if Region.wanted o (yielded ops a.tmps) = true then Oper.wp Try.prog o a w K Q else E := by
  subst hn hm
  obtain ⟨A, c, w', hr, h1, h2, h3⟩ := run_tappend hty base o.type w v y zs ys hrow hy hsm hbase
  have hw : Region.wanted o (yielded ops a.tmps) = true := by simp [Region.wanted, hgd]
  rw [if_pos hw]
  unfold Oper.wp execOp
  simp only [ho, resolve, invoke, builtin, Sem.run_bind, Sem.run_pure, Result.andThen_ok, List.map_toArray, List.map_cons, List.map_nil, hs, hx, hr]
  exact h A c w' h1 h2 h3
end Go.Proofs.Ytpbbohinhbboaaa.Fw
