/-
  Rows of one's own, of things of any size: what they look like, appends to them. Slices that read as such things.
-/
import Derived.Test.YtnccefeehkcneaaGreatDoorBgn
import Derived.Test.YtnccefeehkcneaaGreatDoorChecked
import Derived.Laws.Rows
import Derived.Laws.AppendOwn
namespace Go.Proofs.YtnccefeehkcneaaGreatDoor.Gr
open Go Go.RowKit Go.Proofs.YtnccefeehkcneaaGreatDoor.Sx
/-- All of one size, of single cells. -/
def Sized (sz : Nat) (L : List (List Value)) : Prop := ∀ t ∈ L, t.length = sz ∧ ∀ u ∈ t, u.oneCell' = true
theorem Sized.nil {sz : Nat} : Sized sz [] := fun t h => by simp at h
theorem Sized.append {sz : Nat} {L M : List (List Value)} (h : Sized sz L) (g : Sized sz M) : Sized sz (L ++ M) := fun t ht => by
  rcases List.mem_append.1 ht with h1 | h1
  · exact h t h1
  · exact g t h1
theorem Sized.one {sz : Nat} {t : List Value} (h : t.length = sz) (h1 : ∀ u ∈ t, u.oneCell' = true) : Sized sz [t] := fun x hx => by
  rw [List.mem_singleton] at hx
  rw [hx]
  exact ⟨h, h1⟩
theorem Sized.tail {sz : Nat} {t : List Value} {L : List (List Value)} (h : Sized sz (t :: L)) : Sized sz L := fun x hx => h x (List.mem_cons_of_mem _ hx)
theorem flat_len {sz : Nat} : ∀ {L : List (List Value)}, Sized sz L → L.flatten.length = L.length * sz
  | [], _ => by simp
  | t :: r, h => by
    have h1 := (h t (List.mem_cons_self ..)).1
    rw [List.flatten_cons, List.length_append, flat_len h.tail, h1, List.length_cons, Nat.add_mul, Nat.one_mul, Nat.add_comm]
theorem flat_one {sz : Nat} {L : List (List Value)} (h : Sized sz L) : ∀ u ∈ L.flatten, u.oneCell' = true := fun u hu => by
  obtain ⟨t, ht, h1⟩ := List.mem_flatten.1 hu
  exact (h t ht).2 u h1
theorem flat_at {sz : Nat} : ∀ {L : List (List Value)}, Sized sz L → ∀ {k : Nat} (hk : k < L.length) {j : Nat} (_ : j < sz), L.flatten[k * sz + j]? = L[k][j]?
  | t :: r, h, 0, _, j, hj => by
    rw [List.flatten_cons, Nat.zero_mul, Nat.zero_add, List.getElem?_append_left (by rw [(h t (List.mem_cons_self ..)).1]; exact hj)]
    rfl
  | t :: r, h, k + 1, hk, j, hj => by
    have h1 := (h t (List.mem_cons_self ..)).1
    have ih := flat_at h.tail (k := k) (by simpa using hk) hj
    rw [List.flatten_cons, List.getElem?_append_right (by rw [h1, Nat.add_mul]; omega)]
    have e : (k + 1) * sz + j - t.length = k * sz + j := by rw [h1, Nat.add_mul]; omega
    rw [e, ih]
    rfl
theorem flat_take {sz : Nat} {L : List (List Value)} (h : Sized sz L) (k : Nat) : (L.take k).flatten = L.flatten.take (k * sz) := by
  induction L generalizing k with
  | nil => simp
  | cons t r ih =>
    cases k with
    | zero => simp
    | succ k =>
      have h1 := (h t (List.mem_cons_self ..)).1
      rw [List.take_succ_cons, List.flatten_cons, List.flatten_cons, ih h.tail, List.take_append]
      have e1 : t.take ((k + 1) * sz) = t := List.take_of_length_le (by rw [h1, Nat.add_mul]; omega)
      have e2 : (k + 1) * sz - t.length = k * sz := by rw [h1, Nat.add_mul]; omega
      rw [e1, e2]
/-- The slice v is a row of one's own: these things. -/
def GRow (et sz base : Nat) (w : World) (v : Value) (L : List (List Value)) : Prop :=
  Sized sz L ∧ ((v = .slice none 0 0 ∧ L = []) ∨ ∃ g c rest, v = .slice (some ⟨g, 0, none⟩) L.length c ∧ base ≤ g ∧ w.heap[g]? = some (.cells (L.flatten ++ rest).toArray et (0, 0)) ∧ L.length * sz + rest.length = c * sz ∧ L.length ≤ c ∧ c ≤ maxLen)
section
variable {et sz base : Nat} {w w' : World} {v : Value} {L : List (List Value)}
theorem GRow.nil : GRow et sz base w (.slice none 0 0) [] := ⟨Sized.nil, .inl ⟨rfl, rfl⟩⟩
theorem GRow.owns (h : GRow et sz base w v L) : w.ownsRow base et sz v L.length L.flatten := by
  refine ⟨flat_len h.1, ?_⟩
  rcases h.2 with ⟨rfl, rfl⟩ | ⟨g, c, rest, rfl, hb, hg, hc, hn, hm⟩
  · exact .inl ⟨rfl, rfl⟩
  · refine .inr ⟨g, c, _, rfl, hb, hg, hn, hm, ?_, ?_⟩
    · simp only [List.size_toArray, List.length_append, flat_len h.1]; omega
    · have : (L.flatten ++ rest).take (L.length * sz) = L.flatten := by rw [← flat_len h.1, List.take_left']; rfl
      simpa using this
theorem GRow.of_owns {n : Nat} (hs : Sized sz L) (hn : n = L.length) (h : w.ownsRow base et sz v n L.flatten) : GRow et sz base w v L := by
  subst hn
  refine ⟨hs, ?_⟩
  rcases h.2 with ⟨rfl, h0⟩ | ⟨g, cap, cur, rfl, hb, hg, hnc, hm, hz, ht⟩
  · exact .inl ⟨rfl, List.length_eq_zero_iff.1 h0⟩
  · have hl : cur.toList.length = cap * sz := by simpa using hz
    have he : cur = (L.flatten ++ cur.toList.drop (L.length * sz)).toArray := by
      rw [← ht, List.take_append_drop, Array.toArray_toList]
    have hle : L.length * sz ≤ cap * sz := Nat.mul_le_mul_right sz hnc
    refine .inr ⟨g, cap, cur.toList.drop (L.length * sz), rfl, hb, by rw [hg, ← he], ?_, hnc, hm⟩
    rw [List.length_drop, hl]
    omega
theorem GRow.kept {row : Option Nat} (h : GRow et sz base w v L) (hg : w.grownBy w' row) (hne : ∀ g, v.ownBlock = some g → row ≠ some g) : GRow et sz base w' v L := by
  refine ⟨h.1, ?_⟩
  rcases h.2 with h | ⟨g, c, rest, rfl, hb, hh, hc⟩
  · exact .inl h
  · exact .inr ⟨g, c, rest, rfl, hb, (hg.block g (heap_lt hh) (fun e => hne g rfl e.symm)).trans hh, hc⟩
/-- Where the row's own block stands as it was. -/
theorem GRow.keep (h : GRow et sz base w v L) (hk : ∀ g, v.ownBlock = some g → w'.heap[g]? = w.heap[g]?) : GRow et sz base w' v L := by
  refine ⟨h.1, ?_⟩
  rcases h.2 with h | ⟨g, c, rest, rfl, hb, hh, hc⟩
  · exact .inl h
  · exact .inr ⟨g, c, rest, rfl, hb, (hk g rfl).trans hh, hc⟩
theorem GRow.ext (h : GRow et sz base w v L) (he : Ext w w') : GRow et sz base w' v L := h.kept (grown_of_extB he) (fun g _ => by simp)
theorem GRow.block (h : GRow et sz base w v L) : ∀ g, v.ownBlock = some g → base ≤ g ∧ g < w.heap.size := by
  rcases h.2 with ⟨rfl, _⟩ | ⟨g, c, rest, rfl, hb, hh, _⟩
  · intro g hg; simp [Value.ownBlock] at hg
  · intro g' hg
    have : g = g' := by simpa [Value.ownBlock] using hg
    subst this
    exact ⟨hb, heap_lt hh⟩
theorem GRow.slice (h : GRow et sz base w v L) : ∃ A c, v = .slice A L.length c ∧ L.length ≤ c := by
  rcases h.2 with ⟨rfl, rfl⟩ | ⟨g, c, rest, rfl, _, _, _, hn, _⟩
  · exact ⟨_, _, rfl, Nat.le_refl _⟩
  · exact ⟨_, _, rfl, hn⟩
/-- A row with something in it. -/
theorem GRow.some_ (h : GRow et sz base w v L) (h0 : 0 < L.length) : ∃ g c rest, v = .slice (some ⟨g, 0, none⟩) L.length c ∧ base ≤ g ∧ w.heap[g]? = some (.cells (L.flatten ++ rest).toArray et (0, 0)) ∧ L.length * sz + rest.length = c * sz ∧ L.length ≤ c ∧ c ≤ maxLen := by
  rcases h.2 with ⟨_, rfl⟩ | h
  · simp at h0
  · exact h
theorem GRow.low {base' : Nat} (h : GRow et sz base w v L) (hb : base' ≤ base) : GRow et sz base' w v L := by
  refine ⟨h.1, ?_⟩
  rcases h.2 with h | ⟨g, c, rest, rfl, hb', hh⟩
  · exact .inl h
  · exact .inr ⟨g, c, rest, rfl, Nat.le_trans hb hb', hh⟩
/-- Its cells. -/
theorem GRow.at_ {A : Option Addr} {n c : Nat} (h : GRow et sz base w (.slice A n c) L) {k : Nat} (hk : k < L.length) : ∃ g, A = some ⟨g, 0, none⟩ ∧ g < w.heap.size ∧ base ≤ g ∧ (∀ o, w.frozen? ⟨g, o, none⟩ = false) ∧ ∀ j u, L[k][j]? = some u → w.cell? ⟨g, k * sz + j, none⟩ = some u := by
  obtain ⟨g, c', rest, hv, hb, hg, _⟩ := h.some_ (by omega)
  injection hv with e1 _ _
  refine ⟨g, e1, heap_lt hg, hb, fun o => by simp [World.frozen?, hg], fun j u hj => ?_⟩
  have hjs : j < sz := by
    have h1 := (List.getElem?_eq_some_iff.1 hj).1
    rw [(h.1 _ (List.getElem_mem hk)).1] at h1
    exact h1
  have hlt : k * sz + j < L.flatten.length := by
    rw [flat_len h.1]
    have : (k + 1) * sz ≤ L.length * sz := Nat.mul_le_mul_right sz hk
    rw [Nat.add_mul] at this
    omega
  rw [cell_of hg, List.getElem?_toArray, List.getElem?_append_left hlt, flat_at h.1 hk hjs]
  exact hj
/-- The row without its last things. -/
theorem GRow.take {A : Option Addr} {n c k : Nat} (h : GRow et sz base w (.slice A n c) L) (hk : k ≤ L.length) (hA : A ≠ none) : GRow et sz base w (.slice A k c) (L.take k) := by
  refine ⟨fun t ht => h.1 t (List.mem_of_mem_take ht), ?_⟩
  rcases h.2 with ⟨hv, _⟩ | ⟨g, c', rest, hv, hb, hg, hc, hn, hm⟩
  · injection hv with e1 _ _; exact absurd e1 hA
  · injection hv with e1 e2 e3
    subst e3
    have hl : (L.take k).length = k := by rw [List.length_take]; omega
    refine .inr ⟨g, c, L.flatten.drop (k * sz) ++ rest, by rw [hl, e1], hb, ?_, ?_, by omega, hm⟩
    · rw [hg, ← List.append_assoc, flat_take h.1, List.take_append_drop]
    · have : k * sz ≤ L.length * sz := Nat.mul_le_mul_right sz hk
      rw [hl, List.length_append, List.length_drop, flat_len h.1]
      omega
end
/-- A slice that reads as these things. -/
def GSrc (sz : Nat) (w : World) (x : Value) (L : List (List Value)) : Prop := Sized sz L ∧ ((∃ c, x = .slice none 0 c ∧ L = []) ∨ ∃ ad c, x = .slice (some ad) L.length c ∧ ∀ j u, L.flatten[j]? = some u → w.cell? (ad.add j) = some u)
theorem GRow.src {et sz base : Nat} {w : World} {v : Value} {L : List (List Value)} (h : GRow et sz base w v L) : GSrc sz w v L := by
  refine ⟨h.1, ?_⟩
  rcases h.2 with ⟨rfl, rfl⟩ | ⟨g, c, rest, rfl, _, hg, _⟩
  · exact .inl ⟨0, rfl, rfl⟩
  · exact .inr ⟨_, c, rfl, fun j u hj => by
      rw [Addr.add_lit, Nat.zero_add, cell_of hg, List.getElem?_toArray, List.getElem?_append_left (List.getElem?_eq_some_iff.1 hj).1]
      exact hj⟩
theorem GSrc.of_block {w : World} {g et sz c : Nat} {L : List (List Value)} (hs : Sized sz L) (h : w.heap[g]? = some (.cells L.flatten.toArray et (0, 0))) : GSrc sz w (.slice (some ⟨g, 0, none⟩) L.length c) L :=
  ⟨hs, .inr ⟨_, _, rfl, fun j u hj => by rw [Addr.add_lit, Nat.zero_add, cell_of h, List.getElem?_toArray]; exact hj⟩⟩
/-- One thing in a block of its own. -/
theorem GSrc.one {w : World} {g et sz : Nat} {t : List Value} (hl : t.length = sz) (h1 : ∀ u ∈ t, u.oneCell' = true) (h : w.heap[g]? = some (.cells t.toArray et (0, 0))) : GSrc sz w (.slice (some ⟨g, 0, none⟩) 1 1) [t] :=
  GSrc.of_block (L := [t]) (et := et) (c := 1) (Sized.one hl h1) (by simpa using h)
theorem GSrc.ext {sz : Nat} {w w' : World} {x : Value} {L : List (List Value)} (h : GSrc sz w x L) (he : Ext w w') : GSrc sz w' x L := by
  refine ⟨h.1, ?_⟩
  rcases h.2 with h | ⟨ad, c, rfl, hc⟩
  · exact .inl h
  · refine .inr ⟨ad, c, rfl, fun j u hj => ?_⟩
    have h2 := hc j u hj
    have hlt : (ad.add j).block < w.heap.size := by
      unfold World.cell? at h2
      cases hh : w.heap[(ad.add j).block]? with
      | none => rw [hh] at h2; simp at h2
      | some o => exact heap_lt hh
    rw [← h2]
    exact Below.cell he hlt
structure GTy (st et sz bytes : Nat) (z : Value) : Prop where
  under : Tryz.prog.underlying st = some (.slice et)
  info : (Tryz.prog.info? et).map (fun i => (i.zero, i.size, i.bytes)) = some (some z, sz, bytes)
  cells : z.cells.size = sz
  pos : 0 < sz
  small : bytes ≤ 4096
theorem run_gappend {st et sz bytes : Nat} {z : Value} (hty : GTy st et sz bytes z) (base : Nat) (ty : TypeId) (w : World) (v x : Value) (zs ys : List (List Value)) (hrow : GRow et sz base w v zs) (hx : GSrc sz w x ys) (hs : zs.length + ys.length ≤ 1073741824) (hbase : base ≤ w.heap.size) :
    ∃ A c w', (Builtin.append_ #[st, st] ty #[v, x]).run Tryz.prog w = .ok (.slice A (zs.length + ys.length) c) w' ∧ GRow et sz base w' (.slice A (zs.length + ys.length) c) (zs ++ ys) ∧ w.grownBy w' v.ownBlock ∧ ((Value.slice A (zs.length + ys.length) c).ownBlock = v.ownBlock ∨ (Value.slice A (zs.length + ys.length) c).ownBlock = some w.heap.size) := by
  obtain ⟨i0, hi, hz0, hz1, hz2⟩ := info_parts hty.info
  rcases hx.2 with ⟨c, rfl, rfl⟩ | ⟨ad, c, rfl, hc⟩
  · have hr := run_append_noneB (P := Tryz.prog) (w := w) base st ty et i0 sz c hty.under hi v zs.length zs.flatten hrow.owns
    obtain ⟨A, c', rfl, _⟩ := hrow.slice
    exact ⟨A, c', w, hr, by rw [List.append_nil]; exact hrow, grown_of_extB' (Below.refl _ _), .inl rfl⟩
  · by_cases h0 : ys = []
    · subst h0
      have hr := run_append_zero (P := Tryz.prog) (w := w) base st ty et i0 sz ad c hty.under hi v zs.length zs.flatten hrow.owns
      obtain ⟨A, c', rfl, _⟩ := hrow.slice
      exact ⟨A, c', w, hr, by rw [List.append_nil]; exact hrow, grown_of_extB' (Below.refl _ _), .inl rfl⟩
    · have hb : (zs.length + ys.length) * bytes ≤ 140737488355328 := Nat.le_trans (Nat.mul_le_mul hs hty.small) (by decide)
      obtain ⟨v', w', hr, h2, h3, _, h5⟩ := run_append_own_at (P := Tryz.prog) w base st ty et i0 z sz bytes hty.under hi hz0 hz1 hz2 hty.cells hty.pos v zs.length zs.flatten hrow.owns ad ys.length c ys.flatten (flat_len hx.1) hc (flat_one hx.1) (by unfold maxLen; omega) hb hbase
      have hrow' : GRow et sz base w' v' (zs ++ ys) := GRow.of_owns (n := zs.length + ys.length) (hrow.1.append hx.1) (by simp) (by rw [List.flatten_append]; exact h2)
      obtain ⟨A, c', hv, _⟩ := hrow'.slice
      rw [List.length_append] at hv
      subst hv
      exact ⟨A, c', w', hr, hrow', h3, h5⟩
theorem append_g {st et sz bytes : Nat} {z : Value} (hty : GTy st et sz bytes z) {ops : Array Oper} {rest : List Oper} {o : Oper} {a : Act} {Q : Exit → Act → World → Prop} (hgd : o.guard = none) (s x : Operand)
    (ho : o.op = .call { callee := .builtin .append, args := #[s, x], argTypes := #[st, st] }) (base n m : Nat) (w : World) (v y : Value) (zs ys : List (List Value))
    (hs : a.eval s = v) (hx : a.eval x = y) (hrow : GRow et sz base w v zs) (hy : GSrc sz w y ys) (hn : zs.length = n) (hm : ys.length = m) (hsm : n + m ≤ 1073741824) (hbase : base ≤ w.heap.size)
    (h : ∀ A c w', GRow et sz base w' (.slice A (n + m) c) (zs ++ ys) → w.grownBy w' v.ownBlock → ((Value.slice A (n + m) c).ownBlock = v.ownBlock ∨ (Value.slice A (n + m) c).ownBlock = some w.heap.size) → wpList Tryz.prog ops Q rest (a.put o.dst (.slice A (n + m) c)) w') : wpList Tryz.prog ops Q (o :: rest) a w := by
  subst hn hm
  obtain ⟨A, c, w', hr, h1, h2, h3⟩ := run_gappend hty base o.type w v y zs ys hrow hy hsm hbase
  refine wpList_plain hgd fun K hK => ?_
  unfold Oper.wp execOp
  simp only [ho, resolve, invoke, builtin, Sem.run_bind, Sem.run_pure, Result.andThen_ok, List.map_toArray, List.map_cons, List.map_nil, hs, hx, hr]
  exact hK _ _ (h A c w' h1 h2 h3)
theorem step_append_g {st et sz bytes : Nat} {z : Value} (hty : GTy st et sz bytes z) {ops : Array Oper} {o : Oper} {a : Act} {K : Act → World → Prop} {Q : Exit → Act → World → Prop} {E : Prop} (hgd : o.guard = none) (s x : Operand)
    (ho : o.op = .call { callee := .builtin .append, args := #[s, x], argTypes := #[st, st] }) (base n m : Nat) (w : World) (v y : Value) (zs ys : List (List Value))
    (hs : a.eval s = v) (hx : a.eval x = y) (hrow : GRow et sz base w v zs) (hy : GSrc sz w y ys) (hn : zs.length = n) (hm : ys.length = m) (hsm : n + m ≤ 1073741824) (hbase : base ≤ w.heap.size)
    (h : ∀ A c w', GRow et sz base w' (.slice A (n + m) c) (zs ++ ys) → w.grownBy w' v.ownBlock → ((Value.slice A (n + m) c).ownBlock = v.ownBlock ∨ (Value.slice A (n + m) c).ownBlock = some w.heap.size) → K (a.put o.dst (.slice A (n + m) c)) w') : if Region.wanted o (yielded ops a.tmps) = true then Oper.wp Tryz.prog o a w K Q else E := by
  subst hn hm
  obtain ⟨A, c, w', hr, h1, h2, h3⟩ := run_gappend hty base o.type w v y zs ys hrow hy hsm hbase
  have hw : Region.wanted o (yielded ops a.tmps) = true := by simp [Region.wanted, hgd]
  rw [if_pos hw]
  unfold Oper.wp execOp
  simp only [ho, resolve, invoke, builtin, Sem.run_bind, Sem.run_pure, Result.andThen_ok, List.map_toArray, List.map_cons, List.map_nil, hs, hx, hr]
  exact h A c w' h1 h2 h3
end Go.Proofs.YtnccefeehkcneaaGreatDoor.Gr
