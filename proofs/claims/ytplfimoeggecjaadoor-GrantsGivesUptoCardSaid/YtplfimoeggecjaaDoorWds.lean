/-
  Three rows of strings of the call's own, in a box of three words: an append to one of them.
-/
import Derived.Test.YtplfimoeggecjaaDoorFrr
import Derived.Test.YtplfimoeggecjaaDoorSrs
import Derived.Test.YtplfimoeggecjaaDoorWrd
import Derived.Test.YtplfimoeggecjaaDoorHtl
namespace Go.Proofs.YtplfimoeggecjaaDoor.Sx
open Go Go.RowKit Go.Proofs.YtplfimoeggecjaaDoor.Dc

theorem StrsR.src {B : Nat} {w : World} {v : Value} {xs : List ByteArray} (h : StrsR B w v xs) : SrcS w v xs := by
  by_cases h0 : xs.length = 0
  · have e : xs = [] := List.length_eq_zero_iff.1 h0
    subst e
    obtain ⟨_, A, c, rfl, -⟩ := h
    cases A with
    | none => exact .inl ⟨c, rfl, rfl⟩
    | some ad => exact .inr ⟨ad, c, rfl, fun j u hj => by simp [strVals] at hj⟩
  · obtain ⟨b, off, c, rfl, hb, hc⟩ := h.cells (by omega)
    refine .inr ⟨⟨b, off, none⟩, c, rfl, fun j u hj => ?_⟩
    have hjl : j < xs.length := by have := (List.getElem?_eq_some_iff.1 hj).1; rwa [strVals_len] at this
    rw [Addr.add_lit, (hc j hjl).1]
    simpa [strVals, hjl] using hj
/-- The three rows lie behind block kw, apart. -/
structure Wds (w0 : World) (kw : Nat) (W : World) (a : Value) (l1 : List ByteArray) (b : Value) (l2 : List ByteArray) (c : Value) (l3 : List ByteArray) : Prop where
  one : SRow (kw + 1) W a l1
  two : SRow (kw + 1) W b l2
  three : SRow (kw + 1) W c l3
  ab : apartV a b
  ac : apartV a c
  bc : apartV b c
  bel : Below kw w0 W
  lt : kw < W.heap.size
section
variable {w0 W W' : World} {kw : Nat} {a b c a' : Value} {l1 l2 l3 : List ByteArray}
theorem Wds.nil (h : Below kw w0 W) (hk : kw < W.heap.size) : Wds w0 kw W (.slice none 0 0) [] (.slice none 0 0) [] (.slice none 0 0) [] :=
  ⟨.nil, .nil, .nil, fun g h => by simp [Value.ownBlock] at h, fun g h => by simp [Value.ownBlock] at h, fun g h => by simp [Value.ownBlock] at h, h, hk⟩
theorem Wds.rot (h : Wds w0 kw W a l1 b l2 c l3) : Wds w0 kw W b l2 c l3 a l1 := ⟨h.two, h.three, h.one, h.bc, h.ab.symm, h.ac.symm, h.bel, h.lt⟩
theorem Wds.kept (h : Wds w0 kw W a l1 b l2 c l3) (he : Ext W W') : Wds w0 kw W' a l1 b l2 c l3 :=
  ⟨h.one.ext he, h.two.ext he, h.three.ext he, h.ab, h.ac, h.bc, h.bel.trans (he.mono (Nat.le_of_lt h.lt)), Nat.lt_of_lt_of_le h.lt he.size⟩
theorem srow_set {v x : Value} {xs : List ByteArray} {i : Nat} (h : SRow (kw + 1) W v xs) : SRow (kw + 1) (W.setCell ⟨kw, i, none⟩ x) v xs := by
  rcases h with h | ⟨g, rest, rfl, hb, hg, hm⟩
  · exact .inl h
  · refine .inr ⟨g, rest, rfl, hb, ?_, hm⟩
    have : kw ≠ g := by omega
    simp [World.setCell, Array.getElem?_modify, this, hg]
/-- A store into the box. -/
theorem Wds.put {x : Value} {i : Nat} (h : Wds w0 kw W a l1 b l2 c l3) : Wds w0 kw (W.setCell ⟨kw, i, none⟩ x) a l1 b l2 c l3 :=
  ⟨srow_set h.one, srow_set h.two, srow_set h.three, h.ab, h.ac, h.bc, Below.setCell h.bel (Nat.le_refl _) _, by simpa [World.setCell] using h.lt⟩
theorem Wds.grow {ys : List ByteArray} (h : Wds w0 kw W a l1 b l2 c l3) (hr : SRow (kw + 1) W' a' (l1 ++ ys)) (hg : W.grownBy W' a.ownBlock) (ho : a'.ownBlock = a.ownBlock ∨ a'.ownBlock = some W.heap.size) : Wds w0 kw W' a' (l1 ++ ys) b l2 c l3 := by
  have hn : ∀ {x : Value} {xs : List ByteArray}, SRow (kw + 1) W x xs → apartV a x → apartV a' x := fun hx hax g h1 h2 => by
    rcases ho with ho | ho
    · rw [ho] at h1; exact hax g h1 h2
    · rw [ho] at h1
      injection h1 with h1
      have := (hx.block g h2).2
      omega
  exact ⟨hr, h.two.kept hg (fun g hg2 e => h.ab g e hg2), h.three.kept hg (fun g hg2 e => h.ac g e hg2), hn h.two h.ab, hn h.three h.ac, h.bc,
    ⟨hg.os.trans h.bel.os, hg.tape.trans h.bel.tape, hg.output.trans h.bel.output, Nat.le_trans h.bel.size hg.size, fun k hk => (hg.block k (Nat.lt_trans hk h.lt) (fun e => by have := (h.one.block k e.symm).1; omega)).trans (h.bel.block k hk)⟩, Nat.lt_of_lt_of_le h.lt hg.size⟩
end
theorem keep_row {W W' : World} {a : Value} {k : Nat} {o : Obj} (hg : W.grownBy W' a.ownBlock) (hn : ∀ g, a.ownBlock = some g → g ≠ k) (hk : W.heap[k]? = some o) : W'.heap[k]? = some o :=
  (hg.block k (heap_lt hk) (fun e => hn k e.symm rfl)).trans hk
/-- What the first rules have of words. -/
theorem verbs_succ {l : List Rule} {k : Nat} (h : k < l.length) : verbsOf (l.take (k + 1)) = verbsOf (l.take k) ++ l[k].verbs := by
  unfold verbsOf; rw [List.take_succ_eq_append_getElem h, List.map_append, List.flatten_append]; simp
theorem kinds_succ {l : List Rule} {k : Nat} (h : k < l.length) : kindsOf (l.take (k + 1)) = kindsOf (l.take k) ++ l[k].kinds := by
  unfold kindsOf; rw [List.take_succ_eq_append_getElem h, List.map_append, List.flatten_append]; simp
theorem names_succ {l : List Rule} {k : Nat} (h : k < l.length) : namesOf (l.take (k + 1)) = namesOf (l.take k) ++ l[k].names := by
  unfold namesOf; rw [List.take_succ_eq_append_getElem h, List.map_append, List.flatten_append]; simp
theorem flat_take {l : List Rule} {f : Rule → List ByteArray} (k : Nat) : (((l.take k).map f).flatten).length ≤ ((l.map f).flatten).length := by
  conv => rhs; rw [← List.take_append_drop k l, List.map_append, List.flatten_append, List.length_append]
  omega
theorem words_small {B : Nat} {w : World} {v : Value} {l : List Rule} (h : RulesR B w v l) : (∀ x ∈ verbsOf l, x.size ≤ 1048576) ∧ (∀ x ∈ kindsOf l, x.size ≤ 1048576) ∧ ∀ x ∈ namesOf l, x.size ≤ 1048576 := by
  have hs : ∀ {u : Value} {xs : List ByteArray}, StrsR B w u xs → ∀ x ∈ xs, x.size ≤ 1048576 := fun {u xs} hx x hm => by
    obtain ⟨j, hj, rfl⟩ := List.mem_iff_getElem.1 hm
    obtain ⟨b, off, c, -, -, hc⟩ := hx.cells (by omega)
    exact (hc j hj).2
  have hr : ∀ r ∈ l, (∀ x ∈ r.verbs, x.size ≤ 1048576) ∧ (∀ x ∈ r.kinds, x.size ≤ 1048576) ∧ ∀ x ∈ r.names, x.size ≤ 1048576 := fun r hm => by
    obtain ⟨j, hj, rfl⟩ := List.mem_iff_getElem.1 hm
    obtain ⟨_, A, c, _, hi⟩ := h
    obtain ⟨_, _, cs, _, _, _, ⟨v1, v2, v3, _, h1, h2, h3⟩, _⟩ := hi j hj
    exact ⟨hs h1, hs h2, hs h3⟩
  have hf : ∀ {f : Rule → List ByteArray}, (∀ r ∈ l, ∀ x ∈ f r, x.size ≤ 1048576) → ∀ x ∈ (l.map f).flatten, x.size ≤ 1048576 := fun hh x hx => by
    obtain ⟨m, h1, h2⟩ := List.mem_flatten.1 hx
    obtain ⟨r, h3, rfl⟩ := List.mem_map.1 h1
    exact hh r h3 x h2
  exact ⟨hf fun r hr' => (hr r hr').1, hf fun r hr' => (hr r hr').2.1, hf fun r hr' => (hr r hr').2.2⟩
/-- An ask's verb, its kind set. -/
theorem put_zero {wE W : World} {g : Nat} {a b c d : ByteArray} (hx : Ext wE W) (hb : wE.heap.size ≤ g) (hg : W.heap[g]? = some (.cells #[.string a, .string b, .string c, .string d] 33 (0, 0))) (n : ByteArray) :
    (W.setCell ⟨g, 0, none⟩ (.string n)).heap[g]? = some (.cells #[.string n, .string b, .string c, .string d] 33 (0, 0)) ∧ Ext wE (W.setCell ⟨g, 0, none⟩ (.string n)) := by
  refine ⟨?_, Below.setCell hx (by exact hb) _⟩
  simp [World.setCell, Array.getElem?_modify, hg]
theorem put_one {wE W : World} {g : Nat} {a b c d : ByteArray} (hx : Ext wE W) (hb : wE.heap.size ≤ g) (hg : W.heap[g]? = some (.cells #[.string a, .string b, .string c, .string d] 33 (0, 0))) (n : ByteArray) :
    (W.setCell ⟨g, 1, none⟩ (.string n)).heap[g]? = some (.cells #[.string a, .string n, .string c, .string d] 33 (0, 0)) ∧ Ext wE (W.setCell ⟨g, 1, none⟩ (.string n)) := by
  refine ⟨?_, Below.setCell hx (by exact hb) _⟩
  simp [World.setCell, Array.getElem?_modify, hg]
theorem star_ways (s : ByteArray) (ws : List ByteArray) : ((s.toList == (⟨#[42]⟩ : ByteArray).toList) = true ∧ (s.toList == [42]) = true ∧ wordS s ws = freshS ws) ∨ ((s.toList == (⟨#[42]⟩ : ByteArray).toList) = false ∧ (s.toList == [42]) = false ∧ wordS s ws = s) := by
  have e42 : (⟨#[42]⟩ : ByteArray).toList = [42] := by rw [ByteArray.toList_eq]
  cases hs : eqS s starS with
  | true => exact .inl ⟨hs, by rw [← e42]; exact hs, if_pos hs⟩
  | false => exact .inr ⟨hs, by rw [← e42]; exact hs, if_neg (by rw [hs]; simp)⟩
end Go.Proofs.YtplfimoeggecjaaDoor.Sx
