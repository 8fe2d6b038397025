/-
  A row of rules of the call's own, what is gathered; a role's rules appended to it.
-/
import Derived.Test.YtplfimoeggecjaaDoorFor
import Derived.Laws.AppendOwn
namespace Go.Proofs.YtplfimoeggecjaaDoor.Sx
open Go Go.RowKit

theorem flat_at {css : List (List Value)} (h3 : ∀ cs ∈ css, cs.length = 3) {j : Nat} {u : Value} (hj : css.flatten[j]? = some u) : ∃ i k cs, css[i]? = some cs ∧ cs[k]? = some u ∧ j = i * 3 + k := by
  induction css generalizing j with
  | nil => simp at hj
  | cons c l ih =>
    have hc := h3 c (by simp)
    rw [List.flatten_cons] at hj
    by_cases hlt : j < 3
    · rw [List.getElem?_append_left (by omega)] at hj
      exact ⟨0, j, c, rfl, hj, by omega⟩
    · rw [List.getElem?_append_right (by omega), hc] at hj
      obtain ⟨i, k, cs, h1, h2, h4⟩ := ih (fun cs hcs => h3 cs (by simp [hcs])) hj
      exact ⟨i + 1, k, cs, by simpa using h1, h2, by omega⟩
theorem flat_of {css : List (List Value)} (h3 : ∀ cs ∈ css, cs.length = 3) {i k : Nat} {cs : List Value} {u : Value} (hi : css[i]? = some cs) (hk : cs[k]? = some u) : css.flatten[i * 3 + k]? = some u := by
  induction css generalizing i with
  | nil => simp at hi
  | cons c l ih =>
    have hc := h3 c (by simp)
    rw [List.flatten_cons]
    cases i with
    | zero =>
      simp at hi
      subst hi
      rw [List.getElem?_append_left (by have := (List.getElem?_eq_some_iff.1 hk).1; omega)]
      simpa using hk
    | succ i =>
      rw [List.getElem?_append_right (by omega), hc, show (i + 1) * 3 + k - 3 = i * 3 + k by omega]
      exact ih (fun cs hcs => h3 cs (by simp [hcs])) (by simpa using hi)
theorem flat_len {css : List (List Value)} (h3 : ∀ cs ∈ css, cs.length = 3) : css.flatten.length = css.length * 3 := by
  induction css with
  | nil => rfl
  | cons c l ih =>
    rw [List.flatten_cons, List.length_append, h3 c (by simp), ih (fun cs hcs => h3 cs (by simp [hcs])), List.length_cons]
    omega

/-! ### Only rows of elements of type T, from block b on, change -/

structure ModR (T b : Nat) (w w' : World) : Prop where
  os : w'.os = w.os
  tape : w'.tape = w.tape
  output : w'.output = w.output
  size : w.heap.size ≤ w'.heap.size
  block : ∀ k, k < w.heap.size → (k < b ∨ ∀ c f, w.heap[k]? ≠ some (.cells c T f)) → w'.heap[k]? = w.heap[k]?

section
variable {T b : Nat} {w w' w'' : World}
theorem ModR.refl : ModR T b w w := ⟨rfl, rfl, rfl, Nat.le_refl _, fun _ _ _ => rfl⟩
theorem ModR.trans (h : ModR T b w w') (h' : ModR T b w' w'') : ModR T b w w'' :=
  ⟨h'.os.trans h.os, h'.tape.trans h.tape, h'.output.trans h.output, Nat.le_trans h.size h'.size, fun k hk hs => by
    have e := h.block k hk hs
    refine (h'.block k (Nat.lt_of_lt_of_le hk h.size) ?_).trans e
    rcases hs with hs | hs
    · exact .inl hs
    · exact .inr fun c f => by rw [e]; exact hs c f⟩
theorem ModR.of_ext (h : Ext w w') : ModR T b w w' := ⟨h.os, h.tape, h.output, h.size, fun k hk _ => h.block k hk⟩
theorem ModR.below (h : ModR T b w w') (hb : b ≤ w.heap.size) : Below b w w' := ⟨h.os, h.tape, h.output, h.size, fun k hk => h.block k (by omega) (.inl hk)⟩
theorem ModR.heap (h : ModR T b w w') {k : Nat} {c : Array Value} {t : TypeId} {f : Nat × Nat} (ho : w.heap[k]? = some (.cells c t f)) (ht : t ≠ T) : w'.heap[k]? = some (.cells c t f) :=
  (h.block k (heap_lt ho) (.inr fun c' f' e => by rw [ho] at e; injection e with e; injection e with _ e2; exact ht e2)).trans ho
end

abbrev rT : Nat := 31

/-- The call's own row v holds the rules L (each one's words lie below B). -/
def OwnRules (B base : Nat) (w : World) (v : Value) (L : List Rule) : Prop :=
  ∃ css : List (List Value), css.length = L.length ∧ w.ownsRow base rT 3 v L.length css.flatten ∧ ∀ i (h : i < L.length), ∃ cs, css[i]? = some cs ∧ ruleQ B w cs L[i]

theorem ruleQ.len {B : Nat} {w : World} {cs : List Value} {r : Rule} (h : ruleQ B w cs r) : cs.length = 3 := by
  obtain ⟨_, _, _, rfl, _⟩ := h
  rfl
theorem ruleQ.one {B : Nat} {w : World} {cs : List Value} {r : Rule} (h : ruleQ B w cs r) : ∀ u ∈ cs, u.oneCell' = true := by
  obtain ⟨_, _, _, rfl, ⟨_, _, _, rfl, _⟩, ⟨_, _, _, rfl, _⟩, ⟨_, _, _, rfl, _⟩⟩ := h
  intro u hu
  simp at hu
  rcases hu with rfl | rfl | rfl <;> rfl
theorem three_of {B : Nat} {w : World} {css : List (List Value)} {L : List Rule} (hl : css.length = L.length) (h : ∀ i (h : i < L.length), ∃ cs, css[i]? = some cs ∧ ruleQ B w cs L[i]) : ∀ cs ∈ css, cs.length = 3 ∧ ∀ u ∈ cs, u.oneCell' = true := by
  intro cs hcs
  obtain ⟨i, hi, rfl⟩ := List.mem_iff_getElem.1 hcs
  obtain ⟨cs', h1, h2⟩ := h i (by omega)
  rw [List.getElem?_eq_getElem hi] at h1
  injection h1 with h1
  rw [h1]
  exact ⟨h2.len, h2.one⟩

theorem OwnRules.nil {B base : Nat} {w : World} : OwnRules B base w (.slice none 0 0) [] := ⟨[], rfl, World.ownsRow_nil _ _ _ _, fun i h => by simp at h⟩
theorem OwnRules.slice {B base : Nat} {w : World} {v : Value} {L : List Rule} (h : OwnRules B base w v L) : ∃ A c, v = .slice A L.length c := by
  obtain ⟨css, _, h2, _⟩ := h
  rcases h2.2 with ⟨rfl, h0⟩ | ⟨g, cap, cur, rfl, _⟩
  · exact ⟨none, 0, by rw [h0]⟩
  · exact ⟨_, _, rfl⟩
theorem OwnRules.ext {B base : Nat} {w w' : World} {v : Value} {L : List Rule} (h : OwnRules B base w v L) (he : Ext w w') (hB : B ≤ w.heap.size) : OwnRules B base w' v L := by
  obtain ⟨css, h1, h2, h3⟩ := h
  refine ⟨css, h1, h2.kept (row := none) ⟨he.os, he.tape, he.output, he.size, fun k hk _ => he.block k hk⟩ (by cases h : v.ownBlock <;> simp), fun i hi => ?_⟩
  obtain ⟨cs, h4, h5⟩ := h3 i hi
  exact ⟨cs, h4, h5.below (he.mono hB) (Nat.le_refl _)⟩

/-- What is gathered, as a list that can be read. -/
theorem OwnRules.toR {B base : Nat} {w : World} {v : Value} {L : List Rule} (h : OwnRules B base w v L) (hn : L.length ≤ 1099511627776) (hB : B ≤ w.heap.size) : RulesR w.heap.size w v L := by
  obtain ⟨css, h1, h2, h3⟩ := h
  have h33 := three_of h1 h3
  rcases h2.2 with ⟨rfl, h0⟩ | ⟨g, cap, cur, rfl, hb, hg, _, _, hs, ht⟩
  · have hx : L = [] := List.length_eq_zero_iff.1 h0
    subst hx
    exact ⟨hn, none, 0, rfl, fun i hi => by simp at hi⟩
  · refine ⟨hn, _, _, rfl, fun i hi => ?_⟩
    obtain ⟨cs, h4, h5⟩ := h3 i hi
    refine ⟨g, 0, cs, rfl, heap_lt hg, h5.len, h5.below (Below.refl _ _) hB, fun j u hu => ?_⟩
    have hf := flat_of (fun cs hcs => (h33 cs hcs).1) h4 hu
    have hj : j < 3 := by rw [← h5.len]; exact (List.getElem?_eq_some_iff.1 hu).1
    rw [cell_of hg]
    have h6 : (cur.toList.take (L.length * 3))[i * 3 + j]? = css.flatten[i * 3 + j]? := by rw [ht]
    rw [List.getElem?_take_of_lt (by omega), hf] at h6
    simpa using h6

/-- A role's rules, cell by cell. -/
theorem RulesR.src {B : Nat} {w : World} {ad : Addr} {c : Nat} {l : List Rule} (h : RulesR B w (.slice (some ad) l.length c) l) :
    ∃ css : List (List Value), css.length = l.length ∧ (∀ i (h : i < l.length), ∃ cs, css[i]? = some cs ∧ ruleQ B w cs l[i]) ∧ ∀ j u, css.flatten[j]? = some u → w.cell? (ad.add j) = some u := by
  obtain ⟨hn, A, c', hv, hi⟩ := h
  injection hv with hA _ _
  subst hA
  have hex : ∀ i : Fin l.length, ∃ cs, cs.length = 3 ∧ ruleQ B w cs l[i.1] ∧ ∀ j u, cs[j]? = some u → w.cell? (ad.add (i.1 * 3 + j)) = some u := fun i => by
    obtain ⟨b, off, cs, e, _, h3, hr, hc⟩ := hi i.1 i.2
    injection e with e
    subst e
    refine ⟨cs, h3, hr, fun j u hu => ?_⟩
    have e2 : (⟨b, off, none⟩ : Addr).add (i.1 * 3 + j) = ⟨b, off + i.1 * 3 + j, none⟩ := by
      unfold Addr.add
      split
      · rename_i h0; rw [show off + i.1 * 3 + j = off by omega]
      · rw [show off + (i.1 * 3 + j) = off + i.1 * 3 + j by omega]
    rw [e2]
    exact hc j u hu
  let f : Fin l.length → List Value := fun i => (hex i).choose
  have hf : ∀ i, (f i).length = 3 ∧ ruleQ B w (f i) l[i.1] ∧ ∀ j u, (f i)[j]? = some u → w.cell? (ad.add (i.1 * 3 + j)) = some u := fun i => (hex i).choose_spec
  refine ⟨List.ofFn f, by simp, fun i hil => ⟨f ⟨i, hil⟩, by simp [hil], (hf ⟨i, hil⟩).2.1⟩, fun j u hj => ?_⟩
  have h3 : ∀ cs ∈ List.ofFn f, cs.length = 3 := fun cs hcs => by
    obtain ⟨i, rfl⟩ := List.mem_ofFn.1 hcs
    exact (hf i).1
  obtain ⟨i, k, cs, h1, h2, rfl⟩ := flat_at h3 hj
  have hil : i < l.length := by
    have := (List.getElem?_eq_some_iff.1 h1).1
    simpa using this
  simp [hil] at h1
  subst h1
  exact (hf ⟨i, hil⟩).2.2 k u h2

theorem rule_info : (Tryd.prog.info? rT).map (fun i => (i.zero, i.size, i.bytes)) = some (some (.agg #[.slice none 0 0, .slice none 0 0, .slice none 0 0]), 3, 72) := by kernel_rfl

theorem run_append_none (base : Nat) (t ty e : TypeId) (i : TypeInfo) (size c : Nat) {P : Program} {w : World} (ht : P.underlying t = some (.slice e)) (hi : P.info? e = some i)
    (v : Value) (n : Nat) (xs : List Value) (hown : w.ownsRow base e size v n xs) :
    (Builtin.append_ #[t, t] ty #[v, .slice none 0 c]).run P w = .ok v w := by
  rcases hown.2 with ⟨rfl, rfl⟩ | ⟨g, cap, cur, rfl, _, _, hnc, _⟩
  · simp [Builtin.append_, run_underlying ht, sizeOf, typeInfo, hi, Builtin.lenOf, Builtin.firstCells]
  · simp [Builtin.append_, run_underlying ht, sizeOf, typeInfo, hi, Builtin.lenOf, Builtin.firstCells, hnc, storeCells]

theorem modR_of_grown {w w' : World} {b n : Nat} {v : Value} {xs : List Value} (ho : w.ownsRow b rT 3 v n xs) (hg : w.grownBy w' v.ownBlock) : ModR rT b w w' :=
  ⟨hg.os, hg.tape, hg.output, hg.size, fun k hk hs => hg.block k hk (fun e => by
    rcases ho.2 with ⟨rfl, _⟩ | ⟨g, cap, cur, rfl, hlt, hh, _⟩
    · simp [Value.ownBlock] at e
    · have hkg : k = g := by simpa [Value.ownBlock] using e
      subst hkg
      rcases hs with hs | hs
      · omega
      · exact hs _ _ hh)⟩

set_option maxRecDepth 100000 in
theorem append_rules {ops : Array Oper} {rest : List Oper} {o : Oper} {a : Act} {Q : Exit → Act → World → Prop} (hgd : o.guard = none) (s x : Operand)
    (ho : o.op = .call { callee := .builtin .append, args := #[s, x], argTypes := #[29, 29] }) (B base : Nat) (w : World) (v : Value) (L : List Rule) (A : Option Addr) (c : Nat) (l : List Rule)
    (hs : a.eval s = v) (hx : a.eval x = .slice A l.length c) (hown : OwnRules B base w v L) (hl : RulesR B w (.slice A l.length c) l) (hsm : L.length + l.length ≤ 1099511627776) (hB : B ≤ base) (hbase : base ≤ w.heap.size)
    (h : ∀ A' c' w', OwnRules B base w' (.slice A' (L ++ l).length c') (L ++ l) → ModR rT base w w' → wpList Tryd.prog ops Q rest (a.put o.dst (.slice A' (L ++ l).length c')) w') : wpList Tryd.prog ops Q (o :: rest) a w := by
  obtain ⟨i0, hi, hz0, hz1, hz2⟩ := info_parts rule_info
  have hsl := hown.slice
  have hown0 := hown
  obtain ⟨css, h1, h2, h3⟩ := hown
  cases A with
  | none =>
    have hl0 : l = [] := by
      cases l with
      | nil => rfl
      | cons r l =>
        obtain ⟨_, A, c', hv, hi⟩ := hl
        injection hv with hA _ _
        subst hA
        obtain ⟨_, _, _, e, _⟩ := hi 0 (by simp)
        cases e
    subst hl0
    refine wpList_plain hgd fun K hK => ?_
    have hrun := run_append_none (P := Tryd.prog) (w := w) base 29 o.type rT i0 3 c Tryd.underlying29 hi v L.length css.flatten h2
    obtain ⟨A', c', rfl⟩ := hsl
    simp only [List.append_nil] at h
    unfold Oper.wp
    simp [execOp, ho, resolve, invoke, builtin, hs, hx, hrun, Result.andThen]
    exact hK _ _ (h A' c' w hown0 .refl)
  | some ad =>
    obtain ⟨css', k1, k2, k3⟩ := hl.src
    have hthree := three_of k1 k2
    refine wpList_append_own w hgd s x 29 ho base rT i0 _ 3 72 Tryd.underlying29 hi hz0 hz1 hz2 rfl (by omega) v L.length css.flatten hs h2 ad l.length c css'.flatten hx ?_ k3 ?_ ?_ ?_ hbase ?_
    · rw [flat_len (fun cs hcs => (hthree cs hcs).1), k1]
    · intro u hu
      obtain ⟨cs, hcs, hu⟩ := List.mem_flatten.1 hu
      exact (hthree cs hcs).2 u hu
    · unfold maxLen; omega
    · omega
    · intro v' w' hown' hgrow _
      have hm := modR_of_grown h2 hgrow
      have hbl := (hm.below hbase).mono hB
      have hfin : OwnRules B base w' v' (L ++ l) := by
        refine ⟨css ++ css', by simp [h1, k1], by rw [List.length_append, List.flatten_append]; exact hown', fun i hil => ?_⟩
        by_cases hlt : i < L.length
        · obtain ⟨cs, e1, e2⟩ := h3 i hlt
          exact ⟨cs, by rw [List.getElem?_append_left (by omega)]; exact e1, by rw [List.getElem_append_left hlt]; exact e2.below hbl (Nat.le_refl _)⟩
        · obtain ⟨cs, e1, e2⟩ := k2 (i - L.length) (by simp at hil; omega)
          refine ⟨cs, by rw [List.getElem?_append_right (by omega), h1]; exact e1, ?_⟩
          rw [List.getElem_append_right (by omega)]
          exact e2.below hbl (Nat.le_refl _)
      obtain ⟨A', c', rfl⟩ := hfin.slice
      exact h A' c' w' hfin hm
end Go.Proofs.YtplfimoeggecjaaDoor.Sx
