/-
  Rows of slices of the call's own: three of them side by side, an append to one of them.
-/
import Derived.Test.YtplfimoeggecjaaDoorFrr
import Derived.Test.YtplfimoeggecjaaDoorBrow
import Derived.Deep.RegionLaw
namespace Go.Proofs.YtplfimoeggecjaaDoor.Sx
open Go Go.RowKit Go.Proofs.YtplfimoeggecjaaDoor.Dc

abbrev slT : Nat := 26
theorem sl_info : (Tryd.prog.info? slT).map (fun i => (i.zero, i.size, i.bytes)) = some (some (.slice none 0 0), 1, 24) := by kernel_rfl
/-- The slice v is a row of one's own of these slices. -/
def VRow (base : Nat) (w : World) (v : Value) (us : List Value) : Prop := w.ownsRow base slT 1 v us.length us ∧ ∀ u ∈ us, u.oneCell' = true
section
variable {base : Nat} {w w' : World} {v : Value} {us : List Value}
theorem VRow.nil : VRow base w (.slice none 0 0) [] := ⟨World.ownsRow_nil _ _ _ _, fun u hu => by cases hu⟩
theorem VRow.slice (h : VRow base w v us) : ∃ A c, v = .slice A us.length c := by
  rcases h.1.2 with ⟨rfl, h0⟩ | ⟨g, cap, cur, rfl, _⟩
  · exact ⟨none, 0, by rw [h0]⟩
  · exact ⟨_, _, rfl⟩
theorem VRow.kept {row : Option Nat} (h : VRow base w v us) (hg : w.grownBy w' row) (hne : ∀ g, v.ownBlock = some g → row ≠ some g) : VRow base w' v us :=
  ⟨h.1.kept hg (by
    cases hv : v.ownBlock with
    | none => exact .inl rfl
    | some g => exact .inr (fun e => hne g hv e.symm)), h.2⟩
theorem VRow.block (h : VRow base w v us) : ∀ g, v.ownBlock = some g → base ≤ g ∧ g < w.heap.size := by
  rcases h.1.2 with ⟨rfl, _⟩ | ⟨g, cap, cur, rfl, hb, hh, _⟩
  · intro g hg; simp [Value.ownBlock] at hg
  · intro g' hg
    have : g = g' := by simpa [Value.ownBlock] using hg
    subst this
    exact ⟨hb, heap_lt hh⟩
theorem VRow.at_ (h : VRow base w v us) {j : Nat} (hj : j < us.length) : ∃ g c, v = .slice (some ⟨g, 0, none⟩) us.length c ∧ g < w.heap.size ∧ w.cell? ⟨g, j, none⟩ = some us[j] := by
  rcases h.1.2 with ⟨_, h0⟩ | ⟨g, cap, cur, rfl, hb, hh, hnc, hm, hs, ht⟩
  · omega
  · refine ⟨g, cap, rfl, heap_lt hh, ?_⟩
    rw [cell_of hh]
    have h6 : (cur.toList.take (us.length * 1))[j]? = us[j]? := by rw [ht]
    rw [List.getElem?_take_of_lt (by omega), List.getElem?_eq_getElem hj] at h6
    simpa using h6
end
def apartV (v u : Value) : Prop := ∀ g, v.ownBlock = some g → u.ownBlock ≠ some g
theorem apartV.symm {v u : Value} (h : apartV v u) : apartV u v := fun g h1 h2 => h g h2 h1
/-- Three rows that lie apart; w: the world where it began. -/
structure Tri (w W : World) (a : Value) (l1 : List Value) (b : Value) (l2 : List Value) (c : Value) (l3 : List Value) : Prop where
  one : VRow w.heap.size W a l1
  two : VRow w.heap.size W b l2
  three : VRow w.heap.size W c l3
  ab : apartV a b
  ac : apartV a c
  bc : apartV b c
  ext : Ext w W
section
variable {w W W' : World} {a b c a' : Value} {l1 l2 l3 : List Value}
theorem Tri.nil : Tri w w (.slice none 0 0) [] (.slice none 0 0) [] (.slice none 0 0) [] :=
  ⟨.nil, .nil, .nil, fun g h => by simp [Value.ownBlock] at h, fun g h => by simp [Value.ownBlock] at h, fun g h => by simp [Value.ownBlock] at h, Below.refl _ _⟩
theorem Tri.kept (h : Tri w W a l1 b l2 c l3) (he : Ext W W') : Tri w W' a l1 b l2 c l3 :=
  ⟨h.one.kept (row := none) (grown_of_extB' he) (by simp), h.two.kept (row := none) (grown_of_extB' he) (by simp), h.three.kept (row := none) (grown_of_extB' he) (by simp), h.ab, h.ac, h.bc, h.ext.trans he⟩
theorem Tri.rot (h : Tri w W a l1 b l2 c l3) : Tri w W b l2 c l3 a l1 := ⟨h.two, h.three, h.one, h.bc, h.ab.symm, h.ac.symm, h.ext⟩
/-- One row is appended to. -/
theorem Tri.grow {u : Value} (h : Tri w W a l1 b l2 c l3) (hr : VRow w.heap.size W' a' (l1 ++ [u])) (hg : W.grownBy W' a.ownBlock) (ho : a'.ownBlock = a.ownBlock ∨ a'.ownBlock = some W.heap.size) : Tri w W' a' (l1 ++ [u]) b l2 c l3 := by
  have hn : ∀ {x : Value} {xs : List Value}, VRow w.heap.size W x xs → apartV a x → apartV a' x := fun hx hax g h1 h2 => by
    rcases ho with ho | ho
    · rw [ho] at h1; exact hax g h1 h2
    · rw [ho] at h1
      injection h1 with h1
      have := (hx.block g h2).2
      omega
  exact ⟨hr, h.two.kept hg (fun g hg2 e => h.ab g e hg2), h.three.kept hg (fun g hg2 e => h.ac g e hg2), hn h.two h.ab, hn h.three h.ac, h.bc,
    ⟨hg.os.trans h.ext.os, hg.tape.trans h.ext.tape, hg.output.trans h.ext.output, Nat.le_trans h.ext.size hg.size, fun k hk => (hg.block k (Nat.lt_of_lt_of_le hk h.ext.size) (fun e => by have := (h.one.block k e.symm).1; omega)).trans (h.ext.block k hk)⟩⟩
end
theorem ext_alloc1 {a W : World} {o : Obj} (h : Ext a W) : Ext a (W.alloc o) := h.trans (new_ext _ _)
theorem ext_drew1 {a W : World} (h : Ext a W) : Ext a W.drew := Below.drew h
theorem keep_lit {W W' : World} {a : Value} {n0 b : Nat} {o : Obj} (g : W.grownBy W' a.ownBlock) (h0 : ∀ g, a.ownBlock = some g → g < n0) (hb : n0 ≤ b) (h : W.heap[b]? = some o) : W'.heap[b]? = some o :=
  (g.block b (heap_lt h) (fun e => by have := h0 b e.symm; omega)).trans h
theorem run_vappend (w W : World) (ty : TypeId) (a b c : Value) (l1 l2 l3 : List Value) (u : Value) (vb : Nat) (h : Tri w W a l1 b l2 c l3) (hu : u.oneCell' = true) (hvb : W.heap[vb]? = some (.cells #[u] slT (0, 0))) (hn : l1.length ≤ 1048576) :
    ∃ A d W', (Builtin.append_ #[40, 40] ty #[a, .slice (some ⟨vb, 0, none⟩) 1 1]).run Tryd.prog W = .ok (.slice A (l1.length + 1) d) W' ∧ Tri w W' (.slice A (l1.length + 1) d) (l1 ++ [u]) b l2 c l3 ∧ W.grownBy W' a.ownBlock := by
  obtain ⟨i0, hi, hz0, hz1, hz2⟩ := info_parts sl_info
  obtain ⟨v', w', hr, h2, h3, _, h5⟩ := run_append_own_at (P := Tryd.prog) W w.heap.size 40 ty slT i0 _ 1 24 Tryd.underlying40 hi hz0 hz1 hz2 rfl (by omega) a l1.length l1 h.one.1 ⟨vb, 0, none⟩ 1 1 [u] (by simp) (fun j x hj => by
    have hj0 : j = 0 := by
      have := (List.getElem?_eq_some_iff.1 hj).1
      simp at this
      omega
    subst hj0
    rw [Addr.add_lit, cell_of hvb]
    simpa using hj) (fun x hx => by rw [List.mem_singleton.1 hx]; exact hu) (by unfold maxLen; omega) (by omega) h.ext.size
  have hrow : VRow w.heap.size w' v' (l1 ++ [u]) := ⟨by rw [List.length_append]; exact h2, fun x hx => by
    rcases List.mem_append.1 hx with hx | hx
    · exact h.one.2 x hx
    · rw [List.mem_singleton.1 hx]; exact hu⟩
  obtain ⟨A, d, hv⟩ := hrow.slice
  rw [List.length_append] at hv
  subst hv
  exact ⟨A, d, w', hr, h.grow hrow h3 h5, h3⟩
theorem step_vappend {ops : Array Oper} {o : Oper} {ac : Act} {K : Act → World → Prop} {Q : Exit → Act → World → Prop} {E : Prop} (hgd : o.guard = none) (s x : Operand)
    (ho : o.op = .call { callee := .builtin .append, args := #[s, x], argTypes := #[40, 40] }) (w W : World) (a b c : Value) (l1 l2 l3 : List Value) (n : Nat) (u : Value) (vb : Nat)
    (hs : ac.eval s = a) (hx : ac.eval x = .slice (some ⟨vb, 0, none⟩) 1 1) (h : Tri w W a l1 b l2 c l3) (hl : l1.length = n) (hu : u.oneCell' = true) (hvb : W.heap[vb]? = some (.cells #[u] slT (0, 0))) (hn : n ≤ 1048576)
    (hK : ∀ A d W', Tri w W' (.slice A (n + 1) d) (l1 ++ [u]) b l2 c l3 → W.grownBy W' a.ownBlock → K (ac.put o.dst (.slice A (n + 1) d)) W') : if Region.wanted o (yielded ops ac.tmps) = true then Oper.wp Tryd.prog o ac W K Q else E := by
  subst hl
  obtain ⟨A, d, W', hr, h1, h2⟩ := run_vappend w W o.type a b c l1 l2 l3 u vb h hu hvb hn
  have hw : Region.wanted o (yielded ops ac.tmps) = true := by simp [Region.wanted, hgd]
  rw [if_pos hw]
  unfold Oper.wp execOp
  simp only [ho, resolve, invoke, builtin, Sem.run_bind, Sem.run_pure, Result.andThen_ok, List.map_toArray, List.map_cons, List.map_nil, hs, hx, hr]
  exact hK A d W' h1 h2
end Go.Proofs.YtplfimoeggecjaaDoor.Sx
