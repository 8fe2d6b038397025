/-
  A region that draws its order of evaluation, whose last operations wait for all others: the head in whatever order, then the tail.
-/
import Derived.StillTail
import Derived.Deep.RegionHeld3
namespace Go.Proofs.YtnccefeehkcneaaGreatDoor.Ur
open Go
/-- What the head must leave: the tail runs behind it. -/
def TailQ (P : Program) (ops : Array Oper) (Q : Exit → Act → World → Prop) (tail : List Oper) : Exit → Act → World → Prop
  | .normal, a, w => wpList P ops Q tail a w
  | e, a, w => Q e a w
section
variable {P : Program} {ops hd : Array Oper} {Q : Exit → Act → World → Prop} {md : Region.Mode} {tail : List Oper} {n : Nat} {listed listed' : Array Bool}
theorem TailQ.normal {a : Act} {w : World} (h : wpList P ops Q tail a w) : TailQ P ops Q tail .normal a w := h
theorem TailQ.lets (h : LetsOut (TailQ P ops Q tail)) : LetsOut Q := by
  obtain ⟨a, w, h⟩ := h
  exact ⟨a, w, h⟩
theorem wp_tail {o : Oper} {a : Act} {w : World} {K K' : Act → World → Prop} (h : ∀ a w, K a w → K' a w) (hh : o.wp P a w K (TailQ P ops Q tail)) : o.wp P a w K' Q := by
  unfold Oper.wp at *
  generalize (execOp a.eval o).run P w = r at *
  cases r with
  | ok x w' =>
    cases x <;> simp only [Oper.upon] at hh ⊢ <;> first
      | exact h _ _ hh
      | exact Rows.mono hh (fun _ _ he => h _ _ he)
      | (refine Calls.mono hh (fun e w'' he => ?_)
         cases e with
         | returned v => exact h _ _ he
         | panicked c => exact he
         | outgrown => exact TailQ.lets he)
  | halt x w' => cases x <;> simp only [Oper.upon] at hh ⊢ <;> exact hh
/-- No operation of the head is guarded; each waits for earlier ones alone. -/
def headB (md : Region.Mode) (ops : Array Oper) (n : Nat) : Bool :=
  (List.range n).all fun j => match ops[j]? with
    | some o => o.guard.isNone && o.after.all (fun e => !Region.binds md e || decide (e.on < j))
    | none => false
theorem headB_spec (h : headB md ops n = true) {j : Nat} (hj : j < n) : ∃ o, ops[j]? = some o ∧ o.guard = none ∧ ∀ e ∈ o.after, Region.binds md e = true → e.on < j := by
  have h1 := List.all_eq_true.1 h j (List.mem_range.2 hj)
  cases ho : ops[j]? with
  | none => rw [ho] at h1; cases h1
  | some o =>
    rw [ho] at h1
    simp only [Bool.and_eq_true, Option.isNone_iff_eq_none] at h1
    refine ⟨o, rfl, h1.1, fun e he hb => ?_⟩
    have h2 := Array.all_eq_true_iff_forall_mem.1 h1.2 e he
    simpa [hb] using h2
theorem getD_same {i : Nat} (h : i < listed.size) : listed.getD i true = listed.getD i false := by simp [h]
theorem head_ready (hhd : ∀ i, i < n → hd[i]? = ops[i]?) (hB : headB md ops n = true) (hsz : listed.size = n) (inv : HeadInv md ops n listed') (hn : n < ops.size) (heq : ∀ i, i < n → listed.getD i false = listed'.getD i false) {i : Nat} (hi : i < n) :
    i ∈ Region.ready md hd listed ↔ i ∈ Region.ready md ops listed' := by
  obtain ⟨o, ho, _, hall⟩ := headB_spec hB hi
  rw [mem_ready, mem_ready, hhd i hi, getD_same (by omega), getD_same (by rw [inv.size]; omega), heq i hi]
  constructor
  · rintro ⟨h0, o', ho', h⟩
    refine ⟨h0, o', ho', fun e he hb => ?_⟩
    have : o' = o := Option.some.inj (ho'.symm.trans ho)
    subst this
    rw [← heq e.on (Nat.lt_trans (hall e he hb) hi)]
    exact h e he hb
  · rintro ⟨h0, o', ho', h⟩
    refine ⟨h0, o', ho', fun e he hb => ?_⟩
    have : o' = o := Option.some.inj (ho'.symm.trans ho)
    subst this
    rw [heq e.on (Nat.lt_trans (hall e he hb) hi)]
    exact h e he hb
theorem head_full (hhd : ∀ i, i < n → hd[i]? = ops[i]?) (hB : headB md ops n = true) (hsz : listed.size = n) (hr : Region.ready md hd listed = []) : ∀ i, i < n → listed.getD i false = true := by
  intro i
  induction i using Nat.strongRecOn with
  | _ i ih =>
    intro hi
    cases hl : listed.getD i false with
    | true => rfl
    | false =>
      obtain ⟨o, ho, _, hall⟩ := headB_spec hB hi
      have : i ∈ Region.ready md hd listed := mem_ready.2 ⟨by rw [getD_same (by omega)]; exact hl, o, by rw [hhd i hi]; exact ho, fun e he hb => ih e.on (hall e he hb) (Nat.lt_trans (hall e he hb) hi)⟩
      rw [hr] at this
      cases this
def fullA (n N : Nat) : Array Bool := Array.replicate n true ++ Array.replicate (N - n) false
theorem full_eq (inv : HeadInv md ops n listed) (hn : n < ops.size) (h : ∀ i, i < n → listed.getD i false = true) : listed = fullA n ops.size := by
  unfold fullA
  refine Array.ext (by rw [Array.size_append, Array.size_replicate, Array.size_replicate, inv.size]; omega) (fun i h1 h2 => ?_)
  by_cases hi : i < n
  · rw [Array.getElem_append_left (by simpa using hi), Array.getElem_replicate]
    have := h i hi
    simpa [h1] using this
  · rw [Array.getElem_append_right (by simpa using hi), Array.getElem_replicate]
    have := inv.tail i (by omega) (by rw [← inv.size]; exact h1)
    simpa [h1] using this
theorem any_more : ∀ (f : Nat) (listed : Array Bool) (a : Act) (w : World), wpAny P md ops Q f listed a w → wpAny P md ops Q (f + 1) listed a w
  | 0, listed, a, w, h => ⟨fun _ => h.2, fun i hi => by rw [h.1] at hi; cases hi⟩
  | f + 1, listed, a, w, h => ⟨h.1, fun i hi => wpOp_mono (fun a' w' h' => any_more f _ a' w' h') (h.2 i hi)⟩
theorem any_mores (f g : Nat) {a : Act} {w : World} (h : wpAny P md ops Q g listed a w) : wpAny P md ops Q (f + g) listed a w := by
  induction f with
  | zero => rw [Nat.zero_add]; exact h
  | succ f ih => rw [show f + 1 + g = (f + g) + 1 by omega]; exact any_more _ _ _ _ ih
theorem head_any (hhd : ∀ i, i < n → hd[i]? = ops[i]?) (hsd : hd.size = n) (hB : headB md ops n = true) (hs : Region.sinkB md ops n = true) (hc : Region.chainB md ops n = true) (hn : n < ops.size)
    (htail : ∀ j, tail[j]? = ops[n + j]?) (hseq : Region.seqB md ops tail.length n (fullA n ops.size) = true) :
    ∀ (f : Nat) (listed listed' : Array Bool) (a : Act) (w : World), listed.size = n → HeadInv md ops n listed' → (∀ i, i < n → listed.getD i false = listed'.getD i false) →
      wpAny P md hd (TailQ P ops Q tail) f listed a w → wpAny P md ops Q (f + tail.length) listed' a w := by
  have done : ∀ (listed listed' : Array Bool) (a : Act) (w : World), listed.size = n → HeadInv md ops n listed' → (∀ i, i < n → listed.getD i false = listed'.getD i false) →
      Region.ready md hd listed = [] → TailQ P ops Q tail .normal a w → wpAny P md ops Q tail.length listed' a w := fun listed listed' a w hsz inv heq hr hq => by
    have hfull := full_eq inv hn (fun i hi => by rw [← heq i hi]; exact head_full hhd hB hsz hr i hi)
    rw [hfull]
    exact wpAny_of_seq tail n _ a w htail hseq hq
  intro f
  induction f with
  | zero =>
    intro listed listed' a w hsz inv heq h
    rw [Nat.zero_add]
    exact done listed listed' a w hsz inv heq h.1 h.2
  | succ f ih =>
    intro listed listed' a w hsz inv heq h
    by_cases hr : Region.ready md hd listed = []
    · exact any_mores (f + 1) _ (done listed listed' a w hsz inv heq hr (h.1 hr))
    · obtain ⟨i, hi⟩ := List.exists_mem_of_ne_nil _ hr
      have hlt : ∀ j, j ∈ Region.ready md hd listed → j < n := fun j hj => by
        obtain ⟨_, o, ho, _⟩ := mem_ready.1 hj
        have := (Array.getElem?_eq_some_iff.1 ho).1
        omega
      have hun := (mem_ready.1 ((head_ready hhd hB hsz inv hn heq (hlt i hi)).1 hi)).1
      have hno : ∀ t, n ≤ t → t ∉ Region.ready md ops listed' := tail_waits hs hc hn inv _ i rfl (hlt i hi) hun
      rw [show f + 1 + tail.length = (f + tail.length) + 1 by omega]
      refine ⟨fun h0 => ?_, fun j hj => ?_⟩
      · have := (head_ready hhd hB hsz inv hn heq (hlt i hi)).1 hi
        rw [h0] at this
        cases this
      · have hjn : j < n := by
          rcases Nat.lt_or_ge j n with h' | h'
          · exact h'
          · exact absurd hj (hno j h')
        have h2 := h.2 j ((head_ready hhd hB hsz inv hn heq hjn).2 hj)
        obtain ⟨o, ho, hg, _⟩ := headB_spec hB hjn
        have hw : ∀ y, Region.wanted o y = true := fun y => by simp [Region.wanted, hg]
        unfold wpOp at h2 ⊢
        rw [hhd j hjn] at h2
        simp only [ho, hw, if_true] at h2 ⊢
        rcases h2 with h2 | ⟨h2, h3⟩
        · refine .inl (wp_tail (fun a' w' h' => ih _ _ a' w' (by simpa using hsz) (inv.set hj hjn) (fun k hk => ?_) h') h2)
          by_cases hjk : j = k
          · subst hjk
            have h4 : j < listed'.size := by rw [inv.size]; omega
            simp [hsz, hk, h4]
          · rw [getD_set_ne false hjk, getD_set_ne false hjk]
            exact heq k hk
        · exact .inr ⟨h2, TailQ.lets h3⟩
def splitB (ops : Array Oper) (n : Nat) : Bool :=
  decide (n < ops.size) && Region.sinkB .any ops n && Region.chainB .any ops n && headB .any ops n && Region.seqB .any ops (ops.size - n) n (fullA n ops.size)
/-- The head in whatever order, S being shown behind each of its operations; then the tail. -/
theorem wp_region_split {id : Nat} {a : Act} {w : World} {l : List Oper} (S : World → Prop) (n : Nat) (hm : P.follows .mixedOrders = true) (hB : splitB l.toArray n = true) (hS : S w.drew)
    (h : S w.drew → wpAnyH P .any (l.take n).toArray (TailQ P l.toArray Q (l.drop n)) S n (Array.replicate n false) a w.drew) : (Code.region id l.toArray true).wp P Q a w := by
  simp only [splitB, Bool.and_eq_true, decide_eq_true_eq] at hB
  obtain ⟨⟨⟨⟨hn, hs⟩, hc⟩, hh⟩, hq⟩ := hB
  have hn' : n < l.length := by simpa using hn
  have hdl : (l.drop n).length = l.toArray.size - n := by simp
  refine wp_region_any hm ?_
  have h1 := wpAny_of_held _ _ _ _ (h hS)
  have h2 := head_any (P := P) (Q := Q) (md := .any) (ops := l.toArray) (hd := (l.take n).toArray) (tail := l.drop n) (n := n) (fun i hi => by simp [hi]) (by simp; omega) hh hs hc hn
    (fun j => by simp [List.getElem?_drop]) (by rw [hdl]; exact hq) n (Array.replicate n false) (Array.replicate l.toArray.size false) a w.drew (by simp)
    ⟨by simp, fun j oj _ hl => (by rw [getD_replicate_false] at hl; cases hl), fun t _ ht => getD_in (by simpa using ht) (getD_replicate_false _ _)⟩
    (fun i _ => by rw [getD_replicate_false, getD_replicate_false]) h1
  rw [hdl, show n + (l.toArray.size - n) = l.toArray.size by omega] at h2
  exact h2
end
end Go.Proofs.YtnccefeehkcneaaGreatDoor.Ur
