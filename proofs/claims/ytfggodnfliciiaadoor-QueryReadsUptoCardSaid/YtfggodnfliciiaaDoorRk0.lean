/-
  The signs of a text, in plain words. No program in sight.
-/
import Derived.Test.YtfggodnfliciiaaDoorRd8
namespace Go.Proofs.YtfggodnfliciiaaDoor.Rd
open Go Go.RowKit Go.Proofs.YtfggodnfliciiaaDoor.Sx

/-- A word, or a sign of one byte; is a blank ahead of it? -/
structure Tok where
  text : Tx
  word : Bool
  blank : Bool
theorem restW_lt {c : UInt8} {s : Tx} (h : isW c = true) : (restW (c :: s)).length < (c :: s).length := by
  rw [(runW_cons h).2]
  have := rest_len s
  simp
  omega
def toks (b : Bool) : Tx → List Tok
  | [] => []
  | c :: s => if c = 32 then toks true s else if h : isW c = true then ⟨runW (c :: s), true, b⟩ :: toks false (restW (c :: s)) else ⟨[c], false, b⟩ :: toks false s
termination_by s => s.length
decreasing_by
  · simp
  · exact restW_lt h
  · simp
theorem toks_nil (b : Bool) : toks b [] = [] := by rw [toks]
theorem toks_blank (b : Bool) (s : Tx) : toks b (32 :: s) = toks true s := by rw [toks]; simp
theorem toks_word {b : Bool} {c : UInt8} {s : Tx} (h : isW c = true) : toks b (c :: s) = ⟨runW (c :: s), true, b⟩ :: toks false (restW (c :: s)) := by
  have h32 : c ≠ 32 := fun e => by rw [e, isW_blank] at h; cases h
  rw [toks, if_neg h32, dif_pos h]
theorem toks_sign {b : Bool} {c : UInt8} {s : Tx} (h32 : c ≠ 32) (h : isW c = false) : toks b (c :: s) = ⟨[c], false, b⟩ :: toks false s := by
  rw [toks, if_neg h32, dif_neg (by rw [h]; simp)]
/-- Blanks ahead: told by the first sign's flag. -/
theorem toks_skip (b : Bool) (s : Tx) : toks b s = toks (b || hb s) (skip s) := by
  induction s generalizing b with
  | nil => rw [skip_nil, toks_nil, toks_nil]
  | cons c s ih =>
    by_cases h : c = 32
    · subst h
      rw [toks_blank, skip_blank, ih true]
      simp [hb]
    · rw [skip_other h]
      have : hb (c :: s) = false := by simp [hb, h]
      rw [this, Bool.or_false]
theorem toks_empty {b : Bool} {s : Tx} : toks b s = [] ↔ skip s = [] := by
  rw [toks_skip]
  constructor
  · intro h
    cases hs : skip s with
    | nil => rfl
    | cons c r =>
      rw [hs] at h
      have h32 : c ≠ 32 := fun e => by
        have := hb_skip s
        rw [hs, e] at this
        simp [hb] at this
      cases hw : isW c with
      | true => rw [toks_word hw] at h; cases h
      | false => rw [toks_sign h32 hw] at h; cases h
  · intro h
    rw [h, toks_nil]
theorem toks_len (b : Bool) : ∀ (m : Nat) (s : Tx), s.length ≤ m → (toks b s).length ≤ s.length := by
  intro m
  induction m generalizing b with
  | zero => intro s h; have : s = [] := List.length_eq_zero_iff.1 (by omega); rw [this, toks_nil]; exact Nat.le_refl _
  | succ m ih =>
    intro s h
    cases s with
    | nil => rw [toks_nil]; exact Nat.le_refl _
    | cons c s =>
      simp at h
      by_cases h32 : c = 32
      · subst h32
        rw [toks_blank]
        have := ih true s h
        simp
        omega
      · cases hw : isW c with
        | true =>
          rw [toks_word hw]
          have h1 := restW_lt (s := s) hw
          simp at h1 ⊢
          have := ih false (restW (c :: s)) (by omega)
          omega
        | false =>
          rw [toks_sign h32 hw]
          have := ih false s h
          simp
          omega
end Go.Proofs.YtfggodnfliciiaaDoor.Rd
