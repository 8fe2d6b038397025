/-
  What a rule allows and others don't, in plain words.
-/
import Derived.Test.YtplfimoeggecjaaDoorDec
import Derived.Test.YtplfimoeggecjaaDoorAlw2
namespace Go.Proofs.YtplfimoeggecjaaDoor.Sx
open Go Go.RowKit Go.Proofs.YtplfimoeggecjaaDoor.Dc

def verbsOf (l : List Rule) : List ByteArray := (l.map (·.verbs)).flatten
def kindsOf (l : List Rule) : List ByteArray := (l.map (·.kinds)).flatten
def namesOf (l : List Rule) : List ByteArray := (l.map (·.names)).flatten
/-- The word, or a fresh one for '*'. -/
noncomputable def wordS (s : ByteArray) (ws : List ByteArray) : ByteArray := if eqS s starS = true then freshS ws else s
noncomputable def askOf (l : List Rule) (v k n : ByteArray) : Ask := ⟨wordS v (verbsOf l), wordS k (kindsOf l), ⟨#[]⟩, n⟩
noncomputable def namesR (l : List Rule) (r : Rule) : List ByteArray := if r.names.length = 0 then [freshS (namesOf l)] else r.names
noncomputable def tryN (l : List Rule) (v k n : ByteArray) : Option Ask := if n.size = 0 then none else if allowsL l (askOf l v k n) = true then none else some (askOf l v k n)
noncomputable def tryK (l : List Rule) (ns : List ByteArray) (v k : ByteArray) : Option Ask := ns.findSome? (tryN l v k)
noncomputable def tryV (l : List Rule) (ns ks : List ByteArray) (v : ByteArray) : Option Ask := ks.findSome? (tryK l ns v)
/-- What is beyond; none: nothing. -/
noncomputable def beyondL (l : List Rule) (r : Rule) : Option Ask := r.verbs.findSome? (tryV l (namesR l r) r.kinds)
/-- The first ones give nothing. -/
def noneF {α β : Type} (f : α → Option β) (l : List α) (k : Nat) : Prop := ∀ i (h : i < l.length), i < k → f l[i] = none
theorem noneF.zero {α β : Type} {f : α → Option β} {l : List α} : noneF f l 0 := fun i _ h => by omega
theorem noneF.succ {α β : Type} {f : α → Option β} {l : List α} {k : Nat} (h : noneF f l k) (hk : k < l.length) (hn : f l[k] = none) : noneF f l (k + 1) := fun i hi hlt => by
  rcases Nat.lt_or_ge i k with h1 | h1
  · exact h i hi h1
  · have e : i = k := by omega
    subst e
    exact hn
theorem noneF.all {α β : Type} {f : α → Option β} {l : List α} {k : Nat} (h : noneF f l k) (hk : l.length ≤ k) : l.findSome? f = none := by
  rw [List.findSome?_eq_none_iff]
  intro x hx
  obtain ⟨i, hi, rfl⟩ := List.mem_iff_getElem.1 hx
  exact h i hi (by omega)
theorem noneF.hit {α β : Type} {f : α → Option β} {l : List α} {k : Nat} {b : β} (h : noneF f l k) (hk : k < l.length) (hs : f l[k] = some b) : l.findSome? f = some b := by
  have e : l = l.take k ++ l[k] :: l.drop (k + 1) := by rw [← List.drop_eq_getElem_cons hk, List.take_append_drop]
  have h1 : (l.take k).findSome? f = none := by
    rw [List.findSome?_eq_none_iff]
    intro x hx
    obtain ⟨i, hi, rfl⟩ := List.mem_iff_getElem.1 hx
    rw [List.getElem_take]
    rw [List.length_take] at hi
    exact h i (by omega) (by omega)
  rw [e, List.findSome?_append, h1, List.findSome?_cons, hs]
  rfl
theorem tryN_empty {l : List Rule} {v k n : ByteArray} (h : n.size = 0) : tryN l v k n = none := if_pos h
theorem tryN_yes {l : List Rule} {v k n : ByteArray} (h : n.size ≠ 0) (ha : allowsL l (askOf l v k n) = true) : tryN l v k n = none := (if_neg h).trans (if_pos ha)
theorem tryN_no {l : List Rule} {v k n : ByteArray} (h : n.size ≠ 0) (ha : allowsL l (askOf l v k n) = false) : tryN l v k n = some (askOf l v k n) := (if_neg h).trans (if_neg (by rw [ha]; simp))
theorem namesR_none {l : List Rule} {r : Rule} (h : r.names.length = 0) : namesR l r = [freshS (namesOf l)] := if_pos h
theorem namesR_some {l : List Rule} {r : Rule} (h : r.names.length ≠ 0) : namesR l r = r.names := if_neg h
theorem freshS_pos (ws : List ByteArray) : (freshS ws).size ≠ 0 := by
  unfold freshS xN
  show ((120 :: Lib.decDigits _).toArray).size ≠ 0
  simp
end Go.Proofs.YtplfimoeggecjaaDoor.Sx
