/-
  A text as a selector, in plain words: words, signs, parts, over the bytes that are left; the signs of a text. No program in sight.
-/
import Derived.Test.YtfggodnfliciiaaDoorQry
namespace Go.Proofs.YtfggodnfliciiaaDoor.Rd
open Go Go.RowKit Go.Proofs.YtfggodnfliciiaaDoor.Sx

abbrev Tx := List UInt8
def isW (c : UInt8) : Bool := (97 ≤ c && c ≤ 122) || (65 ≤ c && c ≤ 90) || (48 ≤ c && c ≤ 57) || c == 45 || c == 95 || c == 46 || c == 47
def skip (s : Tx) : Tx := s.dropWhile (· == 32)
def hb : Tx → Bool
  | [] => false
  | c :: _ => c == 32
def runW (s : Tx) : Tx := s.takeWhile isW
def restW (s : Tx) : Tx := s.dropWhile isW
theorem skip_nil : skip [] = [] := rfl
theorem skip_blank (s : Tx) : skip (32 :: s) = skip s := by simp [skip]
theorem skip_other {c : UInt8} {s : Tx} (h : c ≠ 32) : skip (c :: s) = c :: s := by simp [skip, h]
theorem hb_skip (s : Tx) : hb (skip s) = false := by
  induction s with
  | nil => rfl
  | cons c s ih =>
    by_cases h : c = 32
    · subst h; rw [skip_blank]; exact ih
    · rw [skip_other h]; simp [hb, h]
theorem skip_skip (s : Tx) : skip (skip s) = skip s := by
  induction s with
  | nil => rfl
  | cons c s ih =>
    by_cases h : c = 32
    · subst h; rw [skip_blank]; exact ih
    · rw [skip_other h, skip_other h]
theorem isW_blank : isW 32 = false := by decide
theorem skip_len (s : Tx) : (skip s).length ≤ s.length := (List.dropWhile_sublist _).length_le
theorem rest_len (s : Tx) : (restW s).length ≤ s.length := (List.dropWhile_sublist _).length_le

/-- A word: blanks ahead of it, the longest run, blanks behind it. -/
def wordOf (s : Tx) : Tx := runW (skip s)
def wordBl (s : Tx) : Bool := hb (restW (skip s))
def wordRest (s : Tx) : Tx := skip (restW (skip s))
theorem wordRest_len (s : Tx) : (wordRest s).length ≤ s.length := Nat.le_trans (skip_len _) (Nat.le_trans (rest_len _) (skip_len _))
def inT : Tx := [105, 110]
def notinT : Tx := [110, 111, 116, 105, 110]
/-- The values in brackets, behind the bracket. -/
def listS (s : Tx) (acc : List Tx) : Option (List Tx × Tx) :=
  match h : wordRest s with
  | [] => none
  | c :: r =>
    if c = 44 then listS r (acc ++ [wordOf s])
    else if c = 41 then some (acc ++ [wordOf s], skip r)
    else none
termination_by s.length
decreasing_by
  have := wordRest_len s
  rw [h] at this
  simp at this
  omega
structure Pt where
  key : Tx
  kind : Int
  vals : List Tx
def choiceS (k : Tx) (s : Tx) : Option (Pt × Tx) :=
  if wordOf s = inT ∨ wordOf s = notinT then
    match wordRest s with
    | [] => none
    | c :: r => if c = 40 then (listS r []).map fun p => (⟨k, if wordOf s = inT then 1 else 2, p.1⟩, p.2) else none
  else none
/-- Behind a key. -/
def tailS (k : Tx) (bl : Bool) : Tx → Option (Pt × Tx)
  | [] => some (⟨k, 3, []⟩, [])
  | c :: r =>
    if c = 44 then some (⟨k, 3, []⟩, c :: r)
    else if c = 61 then
      match r with
      | [] => some (⟨k, 1, [wordOf r]⟩, wordRest r)
      | d :: r2 => if d = 61 then some (⟨k, 1, [wordOf r2]⟩, wordRest r2) else some (⟨k, 1, [wordOf r]⟩, wordRest r)
    else if c = 33 ∧ r.head? = some 61 then some (⟨k, 2, [wordOf r.tail]⟩, wordRest r.tail)
    else if bl then choiceS k (c :: r)
    else none
def partS (s : Tx) : Option (Pt × Tx) :=
  match skip s with
  | [] => some (⟨[], 3, []⟩, [])
  | c :: r => if c = 33 then some (⟨wordOf r, 4, []⟩, wordRest r) else tailS (wordOf s) (wordBl s) (wordRest s)
end Go.Proofs.YtfggodnfliciiaaDoor.Rd
