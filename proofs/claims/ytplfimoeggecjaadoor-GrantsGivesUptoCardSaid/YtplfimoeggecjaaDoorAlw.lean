/-
  What a rule allows: the program's grants.has, allows, Allows.
-/
import Derived.Test.YtplfimoeggecjaaDoorLst
namespace Go.Proofs.YtplfimoeggecjaaDoor.Sx
open Go Go.RowKit

/-- The word, or '*'. -/
def hasW (l : List ByteArray) (s : ByteArray) : Bool := hasS l s || hasS l starS
def okNames (r : Rule) (a : Ask) : Bool := decide (r.names.length = 0) || (decide (a.name.size ≠ 0) && hasS r.names a.name)
def okRule (r : Rule) (a : Ask) : Bool := hasW r.verbs a.verb && hasW r.kinds a.kind && okNames r a

theorem hasW_true {l : List ByteArray} {s : ByteArray} (h : hasS l s = true) : hasW l s = true := by unfold hasW; rw [h]; rfl
theorem hasW_false {l : List ByteArray} {s : ByteArray} (h : hasS l s = false) : hasW l s = hasS l starS := by unfold hasW; rw [h]; rfl

set_option maxRecDepth 100000 in
theorem has_any {B : Nat} {v : Value} {xs : List ByteArray} (s : ByteArray) {w : World} (h : StrsR B w v xs) :
    Calls Tryd.prog 48 #[v, .string s] w fun e w' => e = .returned (.bool (hasW xs s)) ∧ w = w' := by
  have H := Lib.hid h
  obtain ⟨_, A, c, rfl, _⟩ := h
  cases hh : hasS xs s with
  | true =>
    have hf := Lib.hid (hasW_true hh)
    have HH := Lib.hid hh
    clear hh
    go_enter Tryd.func48, Tryd.ntmps48
    go_wp2_with (go_at_call 30; refine (contains_strs _ H.out).mono ?_; rintro e w' ⟨rfl, rfl⟩; rw [HH.out])
    go_ret
    exact ⟨ret_bool hf.out.symm, rfl⟩
  | false =>
    have hf := Lib.hid (hasW_false hh)
    have HH := Lib.hid hh
    clear hh
    go_enter Tryd.func48, Tryd.ntmps48
    go_wp2_with (go_at_call 30; refine (contains_strs _ H.out).mono ?_; rintro e w' ⟨rfl, rfl⟩; try rw [HH.out])
    go_ret
    exact ⟨ret_bool hf.out.symm, rfl⟩

/-- A rule's three cells, whatever the capacities. -/
def ruleQ (B : Nat) (w : World) (cs : List Value) (r : Rule) : Prop := ∃ v1 v2 v3, cs = [v1, v2, v3] ∧ StrsR B w v1 r.verbs ∧ StrsR B w v2 r.kinds ∧ StrsR B w v3 r.names
theorem ruleQ.below {B B' : Nat} {w w' : World} {cs : List Value} {r : Rule} (h : ruleQ B w cs r) (hb : Below B w w') (hB : B ≤ B') : ruleQ B' w' cs r := by
  obtain ⟨v1, v2, v3, e, h1, h2, h3⟩ := h
  exact ⟨v1, v2, v3, e, h1.below hb hB, h2.below hb hB, h3.below hb hB⟩
theorem ruleR.toQ {B : Nat} {w : World} {cs : List Value} {r : Rule} (h : ruleR B w cs r) : ruleQ B w cs r := by
  obtain ⟨v1, v2, v3, e, h1, h2, h3⟩ := h
  exact ⟨v1, v2, v3, e, h1.toR, h2.toR, h3.toR⟩
abbrev RulesR (B : Nat) (w : World) (v : Value) (l : List Rule) : Prop := SlR (ruleQ B) 3 B w v l
theorem RulesR.below {B B' : Nat} {w w' : World} {v : Value} {xs : List Rule} (h : RulesR B w v xs) (hb : Below B w w') (hB : B ≤ B') : RulesR B' w' v xs := SlR.below h hb hB fun _ _ hr => hr.below hb hB
theorem RulesAt.toR {B : Nat} {w : World} {v : Value} {xs : List Rule} (h : RulesAt B w v xs) : RulesR B w v xs := SlAt.toR h fun _ _ hr => hr.toQ

set_option maxRecDepth 100000 in
set_option maxHeartbeats 1000000 in
theorem allows_any (B : Nat) (v1 v2 v3 : Value) (r : Rule) (a : Ask) (w : World) (hB : B ≤ w.heap.size) (h1 : StrsR B w v1 r.verbs) (h2 : StrsR B w v2 r.kinds) (h3 : StrsR B w v3 r.names) :
    Calls Tryd.prog 33 #[.agg #[v1, v2, v3], a.val] w fun e w' => e = .returned (.bool (okRule r a)) ∧ Ext w w' := by
  have HV := Lib.hid (And.intro h1 (And.intro h2 h3))
  obtain ⟨_, A1, c1, rfl, _⟩ := h1
  obtain ⟨_, A2, c2, rfl, _⟩ := h2
  obtain ⟨hn3, A3, c3, rfl, _⟩ := h3
  have hE : Hid (∀ b1 b2 b3, hasW r.verbs a.verb = b1 → hasW r.kinds a.kind = b2 → okNames r a = b3 → okRule r a = (b1 && b2 && b3)) := fun b1 b2 b3 e1 e2 e3 => by unfold okRule; rw [e1, e2, e3]
  unfold Ask.val
  go_enter Tryd.func33, Tryd.ntmps33
  go_wp2_with fail
  obtain ⟨w0, hw0⟩ : ∃ w0, w0 = (w.alloc (.cells #[.slice A1 r.verbs.length c1, .slice A2 r.kinds.length c2, .slice A3 r.names.length c3] 31)).alloc (.cells #[.string a.verb, .string a.kind, .string a.space, .string a.name] 33) := ⟨_, rfl⟩
  have hx0 : Ext w w0 := by rw [hw0]; exact ((Below.refl _ _).alloc (Nat.le_refl _) _).alloc (by simp) _
  have hg0 : w0.heap[w.heap.size]? = some (.cells #[.slice A1 r.verbs.length c1, .slice A2 r.kinds.length c2, .slice A3 r.names.length c3] 31 (0, 0)) := by rw [hw0]; exact heap_old (heap_new rfl)
  have ha0 : w0.heap[w.heap.size + 1]? = some (.cells #[.string a.verb, .string a.kind, .string a.space, .string a.name] 33 (0, 0)) := by rw [hw0]; exact heap_new (by simp)
  obtain ⟨g0, g1, g2⟩ := cells3 hg0
  obtain ⟨a0, a1, a2, a3⟩ := cells4 ha0
  rw [← hw0]
  have hbl := hx0.mono hB
  have HX0 := Lib.hid hx0
  have HS : Hid (StrsR B w0 (.slice A1 r.verbs.length c1) r.verbs ∧ StrsR B w0 (.slice A2 r.kinds.length c2) r.kinds ∧ StrsR B w0 (.slice A3 r.names.length c3) r.names) := ⟨HV.out.1.below hbl (Nat.le_refl _), HV.out.2.1.below hbl (Nat.le_refl _), HV.out.2.2.below hbl (Nat.le_refl _)⟩
  clear hw0 hx0 hg0 ha0 hbl
  refine Calls.mono (has_any _ HS.out.1) ?_
  rintro e w' ⟨rfl, rfl⟩
  cases hb1 : hasW r.verbs a.verb with
  | false =>
    have hf := Lib.hid (hE.out _ _ _ hb1 rfl rfl)
    clear hb1
    go_wp2
    go_ret
    exact ⟨ret_bool (by rw [hf.out]; rfl), HX0.out⟩
  | true =>
    have HB1 := Lib.hid hb1
    clear hb1
    go_wp2_with fail
    refine Calls.mono (has_any _ HS.out.2.1) ?_
    rintro e w' ⟨rfl, rfl⟩
    cases hb2 : hasW r.kinds a.kind with
    | false =>
      have hf := Lib.hid (hE.out _ _ _ HB1.out hb2 rfl)
      clear hb2
      go_wp2
      go_ret
      exact ⟨ret_bool (by rw [hf.out]; rfl), HX0.out⟩
    | true =>
      have HB2 := Lib.hid hb2
      clear hb2
      by_cases hl : r.names.length = 0
      · have hf := Lib.hid (hE.out _ _ true HB1.out HB2.out (by unfold okNames; simp [hl]))
        have hb3 : ((r.names.length : Int) == 0) = true := by simp [hl]
        clear hl
        go_wp2
        go_ret
        exact ⟨ret_bool (by rw [hf.out]; rfl), HX0.out⟩
      · have hb3 : ((r.names.length : Int) == 0) = false := beq_eq_false_iff_ne.2 (by omega)
        by_cases hz : a.name.size = 0
        · have hf := Lib.hid (hE.out _ _ false HB1.out HB2.out (by unfold okNames; simp [hz, hl]))
          have e1 := isEmpty_of_zero hz
          clear hz
          go_wp2
          go_ret
          exact ⟨ret_bool (by rw [hf.out]; rfl), HX0.out⟩
        · have hf := Lib.hid (hE.out _ _ (hasS r.names a.name) HB1.out HB2.out (by unfold okNames; simp [hz, hl]))
          have e1 := isEmpty_of_pos (s := a.name) (by omega)
          clear hz
          go_wp2_with (go_at_call 30; refine (contains_strs _ HS.out.2.2).mono ?_; rintro e w' ⟨rfl, rfl⟩)
          go_ret
          exact ⟨ret_bool (by rw [hf.out]; rfl), HX0.out⟩
end Go.Proofs.YtplfimoeggecjaaDoor.Sx
