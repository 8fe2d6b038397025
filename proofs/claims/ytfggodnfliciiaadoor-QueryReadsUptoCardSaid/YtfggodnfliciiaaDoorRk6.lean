/-
  What the letter next finds, in plain words.
-/
import Derived.Test.YtfggodnfliciiaaDoorRk5
namespace Go.Proofs.YtfggodnfliciiaaDoor.Rd
open Go Go.RowKit Go.Proofs.YtfggodnfliciiaaDoor.Sx

theorem okAt_get {ts : List Tok} {i j : Nat} {p : ByteArray} (h : i + j < ts.length) : okAt ts i p j = (!ts[i + j].word && decide (ts[i + j].text = [byteAt p j]) && (decide (j = 0) || !ts[i + j].blank)) := by
  unfold okAt
  rw [List.getElem?_eq_getElem h]
theorem one_eq (x c : UInt8) : decide (([x] : Tx) = [c]) = (x == c) := by
  rw [Bool.eq_iff_iff, decide_eq_true_eq, beq_iff_eq]
  constructor
  · intro h
    injection h
  · rintro rfl
    rfl
theorem beq_sym (x c : UInt8) : (x == c) = (c == x) := by
  rw [Bool.eq_iff_iff, beq_iff_eq, beq_iff_eq]
  exact eq_comm
def headIs (c : UInt8) (s : Tx) : Bool := match s with | [] => c == 44 | x :: _ => x == c
theorem ok_zero {ts : List Tok} {i : Nat} {b : Bool} {s : Tx} {p : ByteArray} {c : UInt8} (h : At ts i b s) (hc : isW c = false) (hp : byteAt p 0 = c) : okAt ts i p 0 = headIs c (skip s) := by
  have hi := h.lt
  rw [okAt_get (j := 0) hi]
  simp only [Nat.add_zero, hp]
  unfold headIs
  cases hs : skip s with
  | nil =>
    obtain ⟨_, h1, _⟩ := h.end_ hs
    rw [h1, show decide (comma.text = [c]) = ((44 : UInt8) == c) from one_eq 44 c, beq_sym]
    simp [comma]
  | cons x r =>
    cases hw : isW x with
    | true =>
      obtain ⟨_, h1, _⟩ := h.word hs hw
      rw [h1]
      have : (x == c) = false := by rw [beq_eq_false_iff_ne]; exact fun e => by rw [e, hc] at hw; cases hw
      simp [this]
    | false =>
      obtain ⟨_, h1, _⟩ := h.sign hs hw
      rw [h1]
      have e1 : decide (([x] : Tx) = [c]) = (x == c) := one_eq x c
      simp only [Bool.not_false, Bool.true_and, decide_true, Bool.true_or, Bool.and_true]
      exact e1
theorem ok_one {ts : List Tok} {i : Nat} {r : Tx} {p : ByteArray} {d : UInt8} (h : At ts (i + 1) false r) (hd : isW d = false) (h44 : d ≠ 44) (h32 : d ≠ 32) (hp : byteAt p 1 = d) : okAt ts i p 1 = decide (r.head? = some d) := by
  have hi := h.lt
  rw [okAt_get (j := 1) hi]
  rw [hp]
  cases hs : skip r with
  | nil =>
    obtain ⟨_, h1, _⟩ := h.end_ hs
    have hne : decide (r.head? = some d) = false := by
      refine decide_eq_false fun e => ?_
      cases r with
      | nil => cases e
      | cons x q =>
        injection e with e
        subst e
        rw [skip_other h32] at hs
        cases hs
    rw [h1, hne]
    have : ¬ (44 : UInt8) = d := fun e => h44 e.symm
    simp [comma, this]
  | cons x q =>
    cases r with
    | nil => cases hs
    | cons y q2 =>
      by_cases hy : y = 32
      · have hne : decide ((y :: q2).head? = some d) = false := decide_eq_false fun e => by injection e with e; exact h32 (e.symm.trans hy)
        rw [hne]
        have hbl : hb (y :: q2) = true := by rw [hy]; rfl
        cases hw : isW x with
        | true => obtain ⟨_, h1, _⟩ := h.word hs hw; rw [h1]; simp
        | false => obtain ⟨_, h1, _⟩ := h.sign hs hw; rw [h1, hbl]; simp
      · rw [skip_other hy] at hs
        injection hs with e1 e2
        subst e1 e2
        have hbl : hb (y :: q2) = false := by simp [hb, hy]
        cases hw : isW y with
        | true =>
          obtain ⟨_, h1, _⟩ := h.word (skip_other hy) hw
          have hne : decide ((y :: q2).head? = some d) = false := decide_eq_false fun e => by injection e with e; rw [e, hd] at hw; cases hw
          rw [h1, hne]
          simp
        | false =>
          obtain ⟨_, h1, _⟩ := h.sign (skip_other hy) hw
          rw [h1, hbl]
          simp
theorem byte_lit1 (c : UInt8) : byteAt ⟨#[c]⟩ 0 = c := rfl
theorem byte_lit2 (c d : UInt8) : byteAt ⟨#[c, d]⟩ 0 = c ∧ byteAt ⟨#[c, d]⟩ 1 = d := ⟨rfl, rfl⟩
/-- A sign of one byte. -/
theorem all_1 {ts : List Tok} {i : Nat} {b : Bool} {s : Tx} {c : UInt8} (h : At ts i b s) (hc : isW c = false) : allAt ts i ⟨#[c]⟩ = headIs c (skip s) := by
  unfold allAt
  have e : (⟨#[c]⟩ : ByteArray).size = 1 := rfl
  rw [e]
  have h1 : List.range 1 = [0] := rfl
  rw [h1, List.all_cons, List.all_nil, Bool.and_true]
  exact ok_zero h hc (byte_lit1 c)
/-- A sign of two bytes. -/
theorem all_2 {ts : List Tok} {i : Nat} {b : Bool} {s : Tx} {c d : UInt8} (h : At ts i b s) (hc : isW c = false) (hc44 : c ≠ 44) (hd : isW d = false) (h44 : d ≠ 44) (h32 : d ≠ 32) :
    allAt ts i ⟨#[c, d]⟩ = match skip s with | x :: r => (x == c) && decide (r.head? = some d) | [] => false := by
  unfold allAt
  have e : (⟨#[c, d]⟩ : ByteArray).size = 2 := rfl
  rw [e]
  have h1 : List.range 2 = [0, 1] := rfl
  rw [h1, List.all_cons, List.all_cons, List.all_nil, Bool.and_true, ok_zero h hc (byte_lit2 c d).1]
  unfold headIs
  cases hs : skip s with
  | nil =>
    have : (c == 44) = false := by rw [beq_eq_false_iff_ne]; exact hc44
    simp only [this, Bool.false_and]
  | cons x r =>
    simp only
    by_cases hx : x = c
    · subst hx
      obtain ⟨_, _, h2⟩ := h.sign hs hc
      rw [ok_one h2 hd h44 h32 (byte_lit2 x d).2]
    · have : (x == c) = false := by rw [beq_eq_false_iff_ne]; exact hx
      rw [this, Bool.false_and, Bool.false_and]
/-- Behind a sign of two bytes. -/
theorem At.two {ts : List Tok} {i : Nat} {b : Bool} {s r : Tx} {c d : UInt8} (h : At ts i b s) (hs : Rd.skip s = c :: d :: r) (hc : isW c = false) (hd : isW d = false) (h32 : d ≠ 32) : At ts (i + 2) false r := by
  obtain ⟨_, _, h2⟩ := h.sign hs hc
  obtain ⟨_, _, h3⟩ := h2.sign (skip_other h32) hd
  exact h3
end Go.Proofs.YtfggodnfliciiaaDoor.Rd
