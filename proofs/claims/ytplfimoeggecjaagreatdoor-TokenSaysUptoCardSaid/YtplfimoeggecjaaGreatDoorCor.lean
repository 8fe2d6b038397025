/-
  What all checks share: the first error counts; a space's name; cells of a box.
-/
import Derived.Test.YtplfimoeggecjaaGreatDoorName1
import Derived.Test.YtplfimoeggecjaaGreatDoorHas
namespace Go.Proofs.YtplfimoeggecjaaGreatDoor.Sx
open Go Go.RowKit

abbrev eT : Nat := 24
/-- The first error counts. -/
def say (c e : Int) : Int := if c = 0 then e else c
theorem say_zero (e : Int) : say 0 e = e := if_pos rfl
theorem say_ne {c : Int} (h : c ≠ 0) (e : Int) : say c e = c := if_neg h
theorem say_none (c : Int) : say c 0 = c := by unfold say; split <;> simp_all
/-- A space's name: none, or a name. -/
def spaceI (c : Int) (s : ByteArray) : Int := if s.size = 0 then c else say c (nameI s)
theorem cells2 {w : World} {k : Nat} {x y : Value} {t : TypeId} {f : Nat × Nat} (h : w.heap[k]? = some (.cells #[x, y] t f)) :
    w.cell? ⟨k, 0, none⟩ = some x ∧ w.cell? ⟨k, 1, none⟩ = some y := by
  refine ⟨?_, ?_⟩ <;> simp [cell_of h]
theorem SlAt.take {α : Type} {R : World → List Value → α → Prop} {sz B : Nat} {w : World} {A : Option Addr} {c : Nat} {xs : List α} (h : SlAt R sz B w (.slice A xs.length c) xs) {k : Nat} (hk : k ≤ xs.length) : SlAt R sz B w (.slice A k c) (xs.take k) := by
  obtain ⟨hn, A', c', hv, hc, hc2, hi⟩ := h
  injection hv with h1 h2 h3
  subst h1 h3
  have hl : (xs.take k).length = k := by rw [List.length_take]; omega
  refine ⟨by omega, A, c, by rw [hl], by omega, hc2, fun i hi' => ?_⟩
  rw [hl] at hi'
  obtain ⟨blk, off, cs, hA, hlt, hsz, hr, hcell⟩ := hi i (by omega)
  exact ⟨blk, off, cs, hA, hlt, hsz, by rw [List.getElem_take]; exact hr, hcell⟩
/-- In the world behind a call: the checker and its box. -/
def CheckPost (w : World) (n : Int) (e : Ending) (w' : World) : Prop := e = .returned (.int .i64 n) ∧ Ext w w'
theorem cells4 {w : World} {k : Nat} {a0 a1 a2 a3 : Value} {t : TypeId} {f : Nat × Nat} (h : w.heap[k]? = some (.cells #[a0, a1, a2, a3] t f)) :
    w.cell? ⟨k, 0, none⟩ = some a0 ∧ w.cell? ⟨k, 1, none⟩ = some a1 ∧ w.cell? ⟨k, 2, none⟩ = some a2 ∧ w.cell? ⟨k, 3, none⟩ = some a3 := by
  refine ⟨?_, ?_, ?_, ?_⟩ <;> simp [cell_of h]
end Go.Proofs.YtplfimoeggecjaaGreatDoor.Sx
