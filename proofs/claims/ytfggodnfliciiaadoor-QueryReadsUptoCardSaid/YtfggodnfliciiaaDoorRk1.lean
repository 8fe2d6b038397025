/-
  A row of signs in memory, one's own: three cells each.
-/
import Derived.Test.YtfggodnfliciiaaDoorBgn
import Derived.Test.YtfggodnfliciiaaDoorChecked
import Derived.Laws.Rows
import Derived.Laws.AppendOwn
namespace Go.Proofs.YtfggodnfliciiaaDoor.Rd
open Go Go.RowKit Go.Proofs.YtfggodnfliciiaaDoor.Sx

/-- The three cells of a sign. -/
structure Kw where
  text : ByteArray
  word : Bool
  blank : Bool
def kth (L : List Kw) (k : Nat) : Kw := L.getD k ⟨⟨#[]⟩, false, false⟩
def kcell (t : Kw) : List Value := [.string t.text, .bool t.word, .bool t.blank]
def kcells : List Kw → List Value
  | [] => []
  | t :: r => kcell t ++ kcells r
theorem kcells_len : ∀ (L : List Kw), (kcells L).length = L.length * 3
  | [] => rfl
  | t :: r => by
    have := kcells_len r
    simp only [kcells, List.length_append, List.length_cons, this]
    show 3 + r.length * 3 = _
    omega
theorem kcells_append : ∀ (L M : List Kw), kcells (L ++ M) = kcells L ++ kcells M
  | [], M => rfl
  | t :: r, M => by simp only [List.cons_append, kcells, kcells_append r M, List.append_assoc]
theorem kcells_at : ∀ {L : List Kw} {k : Nat} (_ : k < L.length) {j : Nat} (_ : j < 3), (kcells L)[k * 3 + j]? = (kcell (kth L k))[j]?
  | t :: r, 0, _, j, hj => by
    simp only [kcells, Nat.zero_mul, Nat.zero_add]
    rw [List.getElem?_append_left (by show j < 3; exact hj)]
    rfl
  | t :: r, k + 1, h, j, hj => by
    have h' : k < r.length := by simpa using h
    have ih := kcells_at (L := r) h' hj
    simp only [kcells]
    rw [List.getElem?_append_right (by show 3 ≤ _; omega)]
    have e : (k + 1) * 3 + j - (kcell t).length = k * 3 + j := by show (k + 1) * 3 + j - 3 = _; omega
    rw [e, ih]
    rfl
theorem kcells_take (L : List Kw) (k : Nat) : kcells (L.take k) = (kcells L).take (k * 3) := by
  induction L generalizing k with
  | nil => simp [kcells]
  | cons t r ih =>
    cases k with
    | zero => simp [kcells]
    | succ k =>
      simp only [List.take_succ_cons, kcells, ih]
      rw [List.take_append]
      have e1 : (kcell t).take ((k + 1) * 3) = kcell t := List.take_of_length_le (by show 3 ≤ _; omega)
      have e2 : (k + 1) * 3 - (kcell t).length = k * 3 := by show (k + 1) * 3 - 3 = _; omega
      rw [e1, e2]
theorem kcells_drop (L : List Kw) (k : Nat) : kcells (L.drop k) = (kcells L).drop (k * 3) := by
  induction L generalizing k with
  | nil => simp [kcells]
  | cons t r ih =>
    cases k with
    | zero => simp
    | succ k =>
      simp only [List.drop_succ_cons, kcells, ih]
      rw [List.drop_append]
      have e1 : (kcell t).drop ((k + 1) * 3) = [] := List.drop_of_length_le (by show 3 ≤ _; omega)
      have e2 : (k + 1) * 3 - (kcell t).length = k * 3 := by show (k + 1) * 3 - 3 = _; omega
      rw [e1, e2, List.nil_append]
theorem kcells_one (L : List Kw) : ∀ u ∈ kcells L, u.oneCell' = true := by
  induction L with
  | nil => intro u hu; simp [kcells] at hu
  | cons t r ih =>
    intro u hu
    rcases List.mem_append.1 hu with hu | hu
    · simp [kcell] at hu
      rcases hu with rfl | rfl | rfl <;> rfl
    · exact ih u hu
/-- A thing set: its three cells. -/
theorem kcells_set : ∀ (L : List Kw) (k : Nat) (t : Kw), k < L.length → kcells (L.set k t) = (((kcells L).set (k * 3) (.string t.text)).set (k * 3 + 1) (.bool t.word)).set (k * 3 + 2) (.bool t.blank)
  | x :: r, 0, t, _ => rfl
  | x :: r, k + 1, t, h => by
    have ih := kcells_set r k t (by simpa using h)
    simp only [List.set_cons_succ, kcells, ih]
    have e : ∀ (M : List Value) (i : Nat) (u : Value), kcell x ++ M.set i u = (kcell x ++ M).set (i + 3) u := fun M i u => rfl
    rw [e, e, e]
    congr 1
    · congr 1
      · congr 1
        omega
      · omega
    · omega

/-! ### The row -/

/-- The slice v is a row of one's own: these things. -/
def KRow (et base : Nat) (w : World) (v : Value) (L : List Kw) : Prop :=
  (v = .slice none 0 0 ∧ L = []) ∨ ∃ g c rest, v = .slice (some ⟨g, 0, none⟩) L.length c ∧ base ≤ g ∧ w.heap[g]? = some (.cells (kcells L ++ rest).toArray et (0, 0)) ∧ L.length * 3 + rest.length = c * 3 ∧ c ≤ maxLen
section
variable {et base : Nat} {w w' : World} {v : Value} {L : List Kw}
theorem KRow.nil : KRow et base w (.slice none 0 0) [] := .inl ⟨rfl, rfl⟩
theorem KRow.owns (h : KRow et base w v L) : w.ownsRow base et 3 v L.length (kcells L) := by
  refine ⟨kcells_len L, ?_⟩
  rcases h with ⟨rfl, rfl⟩ | ⟨g, c, rest, rfl, hb, hg, hc, hm⟩
  · exact .inl ⟨rfl, rfl⟩
  · refine .inr ⟨g, c, _, rfl, hb, hg, by omega, hm, ?_, ?_⟩
    · simp [kcells_len]; omega
    · have : (kcells L ++ rest).take (L.length * 3) = kcells L := by rw [← kcells_len, List.take_left']; rfl
      simpa using this
theorem KRow.of_owns {n : Nat} (hn : n = L.length) (h : w.ownsRow base et 3 v n (kcells L)) : KRow et base w v L := by
  subst hn
  rcases h.2 with ⟨rfl, h0⟩ | ⟨g, cap, cur, rfl, hb, hg, hnc, hm, hs, ht⟩
  · exact .inl ⟨rfl, List.length_eq_zero_iff.1 h0⟩
  · have hl : cur.toList.length = cap * 3 := by simpa using hs
    have he : cur = (kcells L ++ cur.toList.drop (L.length * 3)).toArray := by
      rw [← ht, List.take_append_drop, Array.toArray_toList]
    refine .inr ⟨g, cap, cur.toList.drop (L.length * 3), rfl, hb, by rw [hg, ← he], ?_, hm⟩
    rw [List.length_drop, hl]
    omega
theorem KRow.kept {row : Option Nat} (h : KRow et base w v L) (hg : w.grownBy w' row) (hne : ∀ g, v.ownBlock = some g → row ≠ some g) : KRow et base w' v L := by
  rcases h with h | ⟨g, c, rest, rfl, hb, hh, hc, hm⟩
  · exact .inl h
  · exact .inr ⟨g, c, rest, rfl, hb, (hg.block g (heap_lt hh) (fun e => hne g rfl e.symm)).trans hh, hc, hm⟩
theorem KRow.ext (h : KRow et base w v L) (he : Ext w w') : KRow et base w' v L := h.kept (grown_of_extB he) (fun g _ => by simp)
theorem KRow.block (h : KRow et base w v L) : ∀ g, v.ownBlock = some g → base ≤ g ∧ g < w.heap.size := by
  rcases h with ⟨rfl, _⟩ | ⟨g, c, rest, rfl, hb, hh, _⟩
  · intro g hg; simp [Value.ownBlock] at hg
  · intro g' hg
    have : g = g' := by simpa [Value.ownBlock] using hg
    subst this
    exact ⟨hb, heap_lt hh⟩
theorem KRow.slice (h : KRow et base w v L) : ∃ A c, v = .slice A L.length c := by
  rcases h with ⟨rfl, rfl⟩ | ⟨g, c, rest, rfl, _⟩
  · exact ⟨_, _, rfl⟩
  · exact ⟨_, _, rfl⟩
/-- A row with something in it. -/
theorem KRow.some_ (h : KRow et base w v L) (h0 : 0 < L.length) : ∃ g c rest, v = .slice (some ⟨g, 0, none⟩) L.length c ∧ base ≤ g ∧ w.heap[g]? = some (.cells (kcells L ++ rest).toArray et (0, 0)) ∧ L.length * 3 + rest.length = c * 3 ∧ c ≤ maxLen := by
  rcases h with ⟨_, rfl⟩ | h
  · simp at h0
  · exact h
end
theorem krow_cell {w : World} {g et k j : Nat} {L : List Kw} {rest : List Value} (hg : w.heap[g]? = some (.cells (kcells L ++ rest).toArray et (0, 0))) (hk : k < L.length) (hj : j < 3) : w.cell? ⟨g, k * 3 + j, none⟩ = (kcell (kth L k))[j]? := by
  rw [cell_of hg, List.getElem?_toArray, List.getElem?_append_left (by rw [kcells_len]; omega)]
  exact kcells_at hk hj
theorem krow_three {w : World} {g et k : Nat} {L : List Kw} {rest : List Value} (hg : w.heap[g]? = some (.cells (kcells L ++ rest).toArray et (0, 0))) (hk : k < L.length) :
    w.cell? ⟨g, k * 3, none⟩ = some (.string (kth L k).text) ∧ w.cell? ⟨g, k * 3 + 1, none⟩ = some (.bool (kth L k).word) ∧ w.cell? ⟨g, k * 3 + 2, none⟩ = some (.bool (kth L k).blank) :=
  ⟨krow_cell hg hk (j := 0) (by omega), krow_cell hg hk (j := 1) (by omega), krow_cell hg hk (j := 2) (by omega)⟩
theorem krow_free {w : World} {g et k : Nat} {C : Array Value} (hg : w.heap[g]? = some (.cells C et (0, 0))) : w.frozen? ⟨g, k, none⟩ = false := by
  simp [World.frozen?, hg]
/-- Three stores: a thing set. -/
theorem krow_put {w : World} {g et k : Nat} {L : List Kw} {rest : List Value} (hg : w.heap[g]? = some (.cells (kcells L ++ rest).toArray et (0, 0))) (hk : k < L.length) (t : Kw) :
    (((w.setCell ⟨g, k * 3, none⟩ (.string t.text)).setCell ⟨g, k * 3 + 1, none⟩ (.bool t.word)).setCell ⟨g, k * 3 + 2, none⟩ (.bool t.blank)).heap[g]? = some (.cells (kcells (L.set k t) ++ rest).toArray et (0, 0)) := by
  have h1 := heap_setCell_same w g (k * 3) _ et (.string t.text) hg
  have h2 := heap_setCell_same _ g (k * 3 + 1) _ et (.bool t.word) h1
  have h3 := heap_setCell_same _ g (k * 3 + 2) _ et (.bool t.blank) h2
  rw [h3, kcells_set L k t hk]
  congr 2
  simp only [List.setIfInBounds_toArray]
  congr 1
  rw [List.set_append_left _ _ (by rw [kcells_len]; omega), List.set_append_left _ _ (by rw [List.length_set, kcells_len]; omega), List.set_append_left _ _ (by rw [List.length_set, List.length_set, kcells_len]; omega)]

/-! ### Append -/

/-- A slice that reads as these things. -/
def KSrc (w : World) (x : Value) (L : List Kw) : Prop := (∃ c, x = .slice none 0 c ∧ L = []) ∨ ∃ ad c, x = .slice (some ad) L.length c ∧ ∀ j u, (kcells L)[j]? = some u → w.cell? (ad.add j) = some u
theorem KRow.src {et base : Nat} {w : World} {v : Value} {L : List Kw} (h : KRow et base w v L) : KSrc w v L := by
  rcases h with ⟨rfl, rfl⟩ | ⟨g, c, rest, rfl, _, hg, _⟩
  · exact .inl ⟨0, rfl, rfl⟩
  · exact .inr ⟨_, c, rfl, fun j u hj => by
      rw [Addr.add_lit, Nat.zero_add, cell_of hg, List.getElem?_toArray, List.getElem?_append_left (List.getElem?_eq_some_iff.1 hj).1]
      exact hj⟩
structure KTyOk (st et : Nat) : Prop where
  under : Tryd.prog.underlying st = some (.slice et)
  info : (Tryd.prog.info? et).map (fun i => (i.zero, i.size, i.bytes)) = some (some (.agg #[.string ⟨#[]⟩, .bool false, .bool false]), 3, 24)
theorem KSrc.of_block {w : World} {g et c : Nat} {L : List Kw} (h : w.heap[g]? = some (.cells (kcells L).toArray et (0, 0))) : KSrc w (.slice (some ⟨g, 0, none⟩) L.length c) L :=
  .inr ⟨_, _, rfl, fun j u hj => by rw [Addr.add_lit, Nat.zero_add, cell_of h, List.getElem?_toArray]; exact hj⟩
theorem run_kappend {st et : Nat} (hty : KTyOk st et) (base : Nat) (ty : TypeId) (w : World) (v x : Value) (zs ys : List Kw) (hrow : KRow et base w v zs) (hx : KSrc w x ys) (hs : zs.length + ys.length ≤ 1048576) (hbase : base ≤ w.heap.size) :
    ∃ A c w', (Builtin.append_ #[st, st] ty #[v, x]).run Tryd.prog w = .ok (.slice A (zs.length + ys.length) c) w' ∧ KRow et base w' (.slice A (zs.length + ys.length) c) (zs ++ ys) ∧ w.grownBy w' v.ownBlock ∧ ((Value.slice A (zs.length + ys.length) c).ownBlock = v.ownBlock ∨ (Value.slice A (zs.length + ys.length) c).ownBlock = some w.heap.size) := by
  obtain ⟨i0, hi, hz0, hz1, hz2⟩ := info_parts hty.info
  rcases hx with ⟨c, rfl, rfl⟩ | ⟨ad, c, rfl, hc⟩
  · have hr := run_append_noneB (P := Tryd.prog) (w := w) base st ty et i0 3 c hty.under hi v zs.length (kcells zs) hrow.owns
    obtain ⟨A, c', rfl⟩ := hrow.slice
    exact ⟨A, c', w, hr, by rw [List.append_nil]; exact hrow, grown_of_extB' (Below.refl _ _), .inl rfl⟩
  · by_cases h0 : ys = []
    · subst h0
      have hr := run_append_zero (P := Tryd.prog) (w := w) base st ty et i0 3 ad c hty.under hi v zs.length (kcells zs) hrow.owns
      obtain ⟨A, c', rfl⟩ := hrow.slice
      exact ⟨A, c', w, hr, by rw [List.append_nil]; exact hrow, grown_of_extB' (Below.refl _ _), .inl rfl⟩
    · have hpos : 0 < ys.length := List.length_pos_iff.2 h0
      obtain ⟨v', w', hr, h2, h3, _, h5⟩ := run_append_own_at (P := Tryd.prog) w base st ty et i0 _ 3 24 hty.under hi hz0 hz1 hz2 rfl (by omega) v zs.length (kcells zs) hrow.owns ad ys.length c (kcells ys) (kcells_len ys) hc (kcells_one ys) (by unfold maxLen; omega) (by omega) hbase
      have hrow' : KRow et base w' v' (zs ++ ys) := KRow.of_owns (n := zs.length + ys.length) (by simp) (by rw [kcells_append]; exact h2)
      obtain ⟨A, c', hv⟩ := hrow'.slice
      rw [List.length_append] at hv
      subst hv
      exact ⟨A, c', w', hr, hrow', h3, h5⟩
theorem append_toks {st et : Nat} (hty : KTyOk st et) {ops : Array Oper} {rest : List Oper} {o : Oper} {a : Act} {Q : Exit → Act → World → Prop} (hgd : o.guard = none) (s x : Operand)
    (ho : o.op = .call { callee := .builtin .append, args := #[s, x], argTypes := #[st, st] }) (base n m : Nat) (w : World) (v y : Value) (zs ys : List Kw)
    (hs : a.eval s = v) (hx : a.eval x = y) (hrow : KRow et base w v zs) (hy : KSrc w y ys) (hn : zs.length = n) (hm : ys.length = m) (hsm : n + m ≤ 1048576) (hbase : base ≤ w.heap.size)
    (h : ∀ A c w', KRow et base w' (.slice A (n + m) c) (zs ++ ys) → w.grownBy w' v.ownBlock → ((Value.slice A (n + m) c).ownBlock = v.ownBlock ∨ (Value.slice A (n + m) c).ownBlock = some w.heap.size) → wpList Tryd.prog ops Q rest (a.put o.dst (.slice A (n + m) c)) w') : wpList Tryd.prog ops Q (o :: rest) a w := by
  subst hn hm
  obtain ⟨A, c, w', hr, h1, h2, h3⟩ := run_kappend hty base o.type w v y zs ys hrow hy hsm hbase
  refine wpList_plain hgd fun K hK => ?_
  unfold Oper.wp execOp
  simp only [ho, resolve, invoke, builtin, Sem.run_bind, Sem.run_pure, Result.andThen_ok, List.map_toArray, List.map_cons, List.map_nil, hs, hx, hr]
  exact hK _ _ (h A c w' h1 h2 h3)
theorem step_append_toks {st et : Nat} (hty : KTyOk st et) {ops : Array Oper} {o : Oper} {a : Act} {K : Act → World → Prop} {Q : Exit → Act → World → Prop} {E : Prop} (hgd : o.guard = none) (s x : Operand)
    (ho : o.op = .call { callee := .builtin .append, args := #[s, x], argTypes := #[st, st] }) (base n m : Nat) (w : World) (v y : Value) (zs ys : List Kw)
    (hs : a.eval s = v) (hx : a.eval x = y) (hrow : KRow et base w v zs) (hy : KSrc w y ys) (hn : zs.length = n) (hm : ys.length = m) (hsm : n + m ≤ 1048576) (hbase : base ≤ w.heap.size)
    (h : ∀ A c w', KRow et base w' (.slice A (n + m) c) (zs ++ ys) → w.grownBy w' v.ownBlock → ((Value.slice A (n + m) c).ownBlock = v.ownBlock ∨ (Value.slice A (n + m) c).ownBlock = some w.heap.size) → K (a.put o.dst (.slice A (n + m) c)) w') : if Region.wanted o (yielded ops a.tmps) = true then Oper.wp Tryd.prog o a w K Q else E := by
  subst hn hm
  obtain ⟨A, c, w', hr, h1, h2, h3⟩ := run_kappend hty base o.type w v y zs ys hrow hy hsm hbase
  have hw : Region.wanted o (yielded ops a.tmps) = true := by simp [Region.wanted, hgd]
  rw [if_pos hw]
  unfold Oper.wp execOp
  simp only [ho, resolve, invoke, builtin, Sem.run_bind, Sem.run_pure, Result.andThen_ok, List.map_toArray, List.map_cons, List.map_nil, hs, hx, hr]
  exact h A c w' h1 h2 h3
abbrev sgT : Nat := 41
theorem sgTyOk : KTyOk 38 sgT := ⟨Tryd.underlying38, by kernel_rfl⟩
end Go.Proofs.YtfggodnfliciiaaDoor.Rd
