/-
  A region that draws, loads cells, calls what makes memory, and at its end stores into those cells: its head in whatever order under one condition on the world, its tail in the one order there is. No program in sight.
-/
import Derived.StillTail
import Derived.OrdersHeld
import Derived.Deep.RegionHeld3
namespace Go.Proofs.YtplfimoeggecjaaDoor.Sx
open Go

section
variable {P : Program} {ops : Array Oper} {md : Region.Mode} {S : World → Prop} {Q : Exit → Act → World → Prop}

/-- The next f operations are of the first n, in whatever order, S behind each; then L. -/
def wpHead (P : Program) (md : Region.Mode) (ops : Array Oper) (Q : Exit → Act → World → Prop) (S : World → Prop) (n : Nat) (L : Array Bool → Act → World → Prop) : Nat → Array Bool → Act → World → Prop
  | 0, listed, a, w => L listed a w
  | f + 1, listed, a, w => Region.ready md ops listed ≠ [] ∧ ∀ i ∈ Region.ready md ops listed, i < n ∧ wpOp P ops Q i (fun a' w' => S w' ∧ wpHead P md ops Q S n L f (listed.setIfInBounds i true) a' w') a w

theorem wpAny_of_wpHead {n g : Nat} {L : Array Bool → Act → World → Prop} (hL : ∀ listed a w, L listed a w → wpAny P md ops Q g listed a w) :
    ∀ (f : Nat) (listed : Array Bool) (a : Act) (w : World), wpHead P md ops Q S n L f listed a w → wpAny P md ops Q (f + g) listed a w
  | 0, listed, a, w, h => by rw [Nat.zero_add]; exact hL _ _ _ h
  | f + 1, listed, a, w, h => by
    rw [show f + 1 + g = (f + g) + 1 by omega]
    exact ⟨fun h0 => absurd h0 h.1, fun i hi => wpOp_mono (fun a' w' h' => wpAny_of_wpHead hL f _ a' w' h'.2) (h.2 i hi).2⟩

theorem wpHead_first {n i : Nat} {oi : Oper} {v : Value} {L : Array Bool → Act → World → Prop} (hi : ops[i]? = some oi) (hsel : ∀ (j : Nat) (o : Oper) cs b, ops[j]? = some o → o.op ≠ .select cs b)
    (hQ : ∀ c a w, Q (.panic c) (a.put oi.dst v) w → Q (.panic c) a w)
    (hs : Region.sinkB md ops n = true) (hc : Region.chainB md ops n = true) (hn : n < ops.size) (hin : i < n)
    (hdone : ∀ listed a w, L listed a w → ∀ j ∈ Region.ready md ops listed, n ≤ j) :
    ∀ (f : Nat) (listed : Array Bool) (a : Act) (w : World), HeadInv md ops n listed →
      (∀ j oj, ops[j]? = some oj → j ≠ i → listed.getD j true = false → (∀ e ∈ oj.after, Region.binds md e = true → e.on ≠ i) → oi.apart ops oj = true) →
      i ∈ Region.ready md ops listed → YieldsIf P ops S oi v a → S w →
      wpHead P md ops Q S n L f (listed.setIfInBounds i true) (a.put oi.dst v) w → wpHead P md ops Q S n L (f + 1) listed a w := by
  intro f
  induction f with
  | zero =>
    intro listed a w inv _ hr hy hS H
    have hun := (mem_ready.1 hr).1
    refine ⟨fun h => (by rw [h] at hr; cases hr), fun j hj => ?_⟩
    have hjn : j < n := by
      rcases Nat.lt_or_ge j n with h | h
      · exact h
      · exact absurd hj (tail_waits hs hc hn inv _ i rfl hin hun j h)
    refine ⟨hjn, ?_⟩
    by_cases hji : j = i
    · subst hji; exact hy.wpOp hi hS ⟨hS, H⟩
    · have := hdone _ _ _ H j (ready_mono hj hji)
      omega
  | succ f ih =>
    intro listed a w inv hfree hr hy hS H
    have hun := (mem_ready.1 hr).1
    refine ⟨fun h => (by rw [h] at hr; cases hr), fun j hj => ?_⟩
    have hjn : j < n := by
      rcases Nat.lt_or_ge j n with h | h
      · exact h
      · exact absurd hj (tail_waits hs hc hn inv _ i rfl hin hun j h)
    refine ⟨hjn, ?_⟩
    by_cases hji : j = i
    · subst hji; exact hy.wpOp hi hS ⟨hS, H⟩
    · have h1 := (H.2 j (ready_mono hj hji)).2
      obtain ⟨hjun, oj, hoj, hall⟩ := mem_ready.1 hj
      have hnot : ∀ e ∈ oj.after, Region.binds md e = true → e.on ≠ i := fun e he hb heq => by
        have h1 := hall e he hb
        rw [heq, getD_both hun] at h1
        cases h1
      have h2 := wpOp_putIf hoj (hfree j oj hoj hji hjun hnot) (fun cs b => hsel i oi cs b hi) (fun cs b => hsel j oj cs b hoj) hQ hy h1
      have hfree' : ∀ k ok, ops[k]? = some ok → k ≠ i → (listed.setIfInBounds j true).getD k true = false →
          (∀ e ∈ ok.after, Region.binds md e = true → e.on ≠ i) → oi.apart ops ok = true := fun k ok hk hki hun hno => by
        refine hfree k ok hk hki ?_ hno
        by_cases hjk : j = k
        · subst hjk; exact hjun
        · rw [getD_set_ne true hjk] at hun; exact hun
      refine wpOp_mono (fun a' w' h3 => ⟨h3.2.1, ih (listed.setIfInBounds j true) a' w' (inv.set hj hjn) hfree' (ready_mono hr (Ne.symm hji)) h3.1 h3.2.1 ?_⟩) h2
      rw [Array.setIfInBounds_comm _ _ hji]
      exact h3.2.2

/-- What the head's beginning asks, as one Bool. -/
def headB (md : Region.Mode) (ops : Array Oper) (n : Nat) (listed : Array Bool) : Bool :=
  (listed.size == ops.size) && ((List.range ops.size).all fun j => match ops[j]? with
    | some o => !(listed.getD j false) || o.after.all fun e => !(Region.binds md e) || listed.getD e.on false
    | none => true) && (List.range ops.size).all fun t => decide (t < n) || !(listed.getD t true)
theorem headB_inv {n : Nat} {listed : Array Bool} (h : headB md ops n listed = true) : HeadInv md ops n listed := by
  unfold headB at h
  simp only [Bool.and_eq_true, beq_iff_eq, List.all_eq_true, List.mem_range] at h
  obtain ⟨⟨h1, h2⟩, h3⟩ := h
  refine ⟨h1, fun j oj hj hl e he hb => ?_, fun t ht hs => ?_⟩
  · have h4 := h2 j (Array.getElem?_eq_some_iff.1 hj).1
    rw [hj] at h4
    simp only [hl, Bool.not_true, Bool.false_or] at h4
    obtain ⟨m, hm, rfl⟩ := Array.mem_iff_getElem.1 he
    have h5 := Array.all_eq_true.1 h4 m hm
    simp only [hb, Bool.not_true, Bool.false_or] at h5
    exact h5
  · have h4 := h3 t hs
    have : decide (t < n) = false := by simp; omega
    simpa [this] using h4
/-- All that the tail asks. -/
def tailB (md : Region.Mode) (ops : Array Oper) (n : Nat) : Bool := Region.noSelect ops && decide (n < ops.size) && Region.sinkB md ops n && Region.chainB md ops n
/-- Behind the head: the tail, in the one order there is. -/
def Tail (P : Program) (ops : Array Oper) (Q : Exit → Act → World → Prop) (l : List Oper) (n : Nat) (listed : Array Bool) (a : Act) (w : World) : Prop := Region.seqB .any ops l.length n listed = true ∧ wpList P ops Q l a w

theorem wpHead_take {l0 : List Oper} {n i : Nat} {oi : Oper} {v : Value} {l : List Oper} {f : Nat} {listed : Array Bool} {a : Act} {w : World} (hT : tailB .any l0.toArray n = true) (hi : l0[i]? = some oi)
    (hf : (headB .any l0.toArray n listed && decide (i < n) && Region.free .any l0.toArray listed i && (Region.ready .any l0.toArray listed).contains i) = true)
    (hQ : ∀ c a w, Q (.panic c) (a.put oi.dst v) w → Q (.panic c) a w) (hy : YieldsIf P l0.toArray S oi v a) (hS : S w)
    (h : wpHead P .any l0.toArray Q S n (Tail P l0.toArray Q l n) f (listed.setIfInBounds i true) (a.put oi.dst v) w) : wpHead P .any l0.toArray Q S n (Tail P l0.toArray Q l n) (f + 1) listed a w := by
  have hi' : l0.toArray[i]? = some oi := by simpa using hi
  simp only [tailB, Bool.and_eq_true, decide_eq_true_eq] at hT
  simp only [Bool.and_eq_true, decide_eq_true_eq] at hf
  obtain ⟨⟨⟨t1, t2⟩, t3⟩, t4⟩ := hT
  obtain ⟨⟨⟨f1, f2⟩, f3⟩, f4⟩ := hf
  exact wpHead_first hi' (Region.noSelect_spec t1) hQ t3 t4 t2 f2 (fun listed a w hL => seqB_ready hL.1) f listed a w (headB_inv f1) (Region.free_spec hi' f3) (by simpa using f4) hy hS h
/-- The one that may come up is carried out. -/
theorem wpHead_one {l0 : List Oper} {n i : Nat} {o : Oper} {L : Array Bool → Act → World → Prop} {f : Nat} {listed : Array Bool} {a : Act} {w : World} (ho : l0[i]? = some o) (hr : decide (Region.ready md l0.toArray listed = [i] ∧ i < n) = true)
    (h : ∀ K' : Act → World → Prop, Shut (∀ a w, S w → (S w → wpHead P md l0.toArray Q S n L f (listed.setIfInBounds i true) a w) → K' a w) → if Region.wanted o (yielded l0.toArray a.tmps) = true then Oper.wp P o a w K' Q else K' (a.put o.dst undef) w) :
    wpHead P md l0.toArray Q S n L (f + 1) listed a w := by
  have ho' : l0.toArray[i]? = some o := by simpa using ho
  simp only [decide_eq_true_eq] at hr
  refine ⟨by rw [hr.1]; simp, fun j hj => ?_⟩
  rw [hr.1] at hj
  have e : j = i := by simpa using hj
  subst e
  exact ⟨hr.2, wpOp_step ho' (fun K' hK => h K' (fun a w hS hW => hK a w ⟨hS, hW hS⟩))⟩
/-- The head is done. -/
theorem wpHead_done {n : Nat} {l : List Oper} {listed : Array Bool} {a : Act} {w : World} (hB : Region.seqB .any ops l.length n listed = true) (h : wpList P ops Q l a w) : wpHead P .any ops Q S n (Tail P ops Q l n) 0 listed a w := ⟨hB, h⟩
/-- The beginning. -/
theorem wp_region_head {id : Nat} {a : Act} {w : World} {l : List Oper} (n : Nat) (hm : P.follows .mixedOrders = true) (hn : n ≤ l.length) (hS : S w.drew)
    (h : S w.drew → wpHead P .any l.toArray Q S n (Tail P l.toArray Q (l.drop n) n) n (Array.replicate l.toArray.size false) a w.drew) : (Code.region id l.toArray true).wp P Q a w := by
  refine wp_region_any hm ?_
  have hg : (l.drop n).length = l.length - n := by simp
  have := wpAny_of_wpHead (md := .any) (Q := Q) (S := S) (n := n) (g := (l.drop n).length) (fun listed a' w' hL => wpAny_of_seq (md := .any) (Q' := Q) (l.drop n) n listed a' w' (fun j => by simp [List.getElem?_drop]) hL.1 hL.2) _ _ _ _ (h hS)
  rw [hg, show n + (l.length - n) = l.toArray.size by simp; omega] at this
  exact this
end
end Go.Proofs.YtplfimoeggecjaaDoor.Sx
