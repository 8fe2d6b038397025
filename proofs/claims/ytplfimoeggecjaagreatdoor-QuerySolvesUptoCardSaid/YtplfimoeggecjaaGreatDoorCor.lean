/-
  What all checks share: the first error counts; a space's name; cells of a box.
-/
import Derived.Test.YtplfimoeggecjaaGreatDoorName1
import Derived.Test.YtplfimoeggecjaaGreatDoorHas
namespace Go.Proofs.YtplfimoeggecjaaGreatDoor.Sx
open Go Go.RowKit

abbrev eT : Nat := 24
/-- The first error counts. -/
def say (c e : Int) : Int := if c = 0 then e else c
theorem say_zero (e : Int) : say 0 e = e := if_pos rfl
theorem say_ne {c : Int} (h : c ≠ 0) (e : Int) : say c e = c := if_neg h
theorem say_none (c : Int) : say c 0 = c := by unfold say; split <;> simp_all
/-- A space's name: none, or a name. -/
def spaceI (c : Int) (s : ByteArray) : Int := if s.size = 0 then c else say c (nameI s)
theorem cells2 {w : World} {k : Nat} {x y : Value} {t : TypeId} {f : Nat × Nat} (h : w.heap[k]? = some (.cells #[x, y] t f)) :
    w.cell? ⟨k, 0, none⟩ = some x ∧ w.cell? ⟨k, 1, none⟩ = some y := by
  refine ⟨?_, ?_⟩ <;> simp [cell_of h]
theorem SlAt.take {α : Type} {R : World → List Value → α → Prop} {sz B : Nat} {w : World} {A : Option Addr} {c : Nat} {xs : List α} (h : SlAt R sz B w (.slice A xs.length c) xs) {k : Nat} (hk : k ≤ xs.length) : SlAt R sz B w (.slice A k c) (xs.take k) := by
  obtain ⟨hn, A', c', hv, hc, hc2, hi⟩ := h
  injection hv with h1 h2 h3
  subst h1 h3
  have hl : (xs.take k).length = k := by rw [List.length_take]; omega
  refine ⟨by omega, A, c, by rw [hl], by omega, hc2, fun i hi' => ?_⟩
  rw [hl] at hi'
  obtain ⟨blk, off, cs, hA, hlt, hsz, hr, hcell⟩ := hi i (by omega)
  exact ⟨blk, off, cs, hA, hlt, hsz, by rw [List.getElem_take]; exact hr, hcell⟩
/-- In the world behind a call: the checker and its box. -/
def CheckPost (w : World) (n : Int) (e : Ending) (w' : World) : Prop := e = .returned (.int .i64 n) ∧ Ext w w'
theorem cells4 {w : World} {k : Nat} {a0 a1 a2 a3 : Value} {t : TypeId} {f : Nat × Nat} (h : w.heap[k]? = some (.cells #[a0, a1, a2, a3] t f)) :
    w.cell? ⟨k, 0, none⟩ = some a0 ∧ w.cell? ⟨k, 1, none⟩ = some a1 ∧ w.cell? ⟨k, 2, none⟩ = some a2 ∧ w.cell? ⟨k, 3, none⟩ = some a3 := by
  refine ⟨?_, ?_, ?_, ?_⟩ <;> simp [cell_of h]
def starS : ByteArray := ⟨#[42]⟩
/-- Names (with star: or '*'), one behind the other. -/
def nameI1 (star : Bool) (c : Int) (s : ByteArray) : Int := if star && s.toList == [42] then c else say c (nameI s)
def namesI (c : Int) (l : List ByteArray) (star : Bool) : Int := l.foldl (nameI1 star) c
/-- A slice of strings whose cells are safe. -/
def StrsS (b : Nat) (w : World) (A : Option Addr) (xs : List ByteArray) : Prop :=
  xs.length ≤ 1048576 ∧ ∀ i (h : i < xs.length), ∃ blk off, A = some ⟨blk, off, none⟩ ∧ blk < w.heap.size ∧ Safe eT b w blk ∧ w.cell? ⟨blk, off + i, none⟩ = some (.string xs[i]) ∧ xs[i].size ≤ 1048576
theorem StrsS.mod {b : Nat} {w w' : World} {A : Option Addr} {xs : List ByteArray} (h : StrsS b w A xs) (hm : Mod eT b w w') : StrsS b w' A xs :=
  ⟨h.1, fun i hi => by
    obtain ⟨blk, off, hA, hlt, hs, hc, hz⟩ := h.2 i hi
    refine ⟨blk, off, hA, Nat.lt_of_lt_of_le hlt hm.size, hm.safe hlt hs, ?_, hz⟩
    rw [World.cell?_of_block (w := w) (hm.block blk hlt hs)]; exact hc⟩
theorem strsS_of {B b : Nat} {w : World} {v : Value} {xs : List ByteArray} (h : StrsAt B w v xs) (hB : B ≤ b) (hb : b < w.heap.size) : ∃ A c, v = .slice A xs.length c ∧ StrsS b w A xs := by
  obtain ⟨hn, A, c, hv, _, _, hi⟩ := h
  refine ⟨A, c, hv, hn, fun i hl => ?_⟩
  obtain ⟨blk, off, cs, hA, hlt, _, ⟨hr, hz⟩, hcell⟩ := hi i hl
  exact ⟨blk, off, hA, by omega, .inl (by omega), by simpa using hcell 0 _ (by rw [hr]; rfl), hz⟩
def namesTo (c : Int) (l : List ByteArray) (star : Bool) (k : Nat) : Int := namesI c (l.take k) star
theorem namesTo_succ (c : Int) (l : List ByteArray) (star : Bool) (k : Nat) (h : k < l.length) : namesTo c l star (k + 1) = nameI1 star (namesTo c l star k) l[k] := by
  unfold namesTo namesI
  rw [List.take_succ_eq_append_getElem h, List.foldl_append]
  rfl
theorem namesTo_all (c : Int) (l : List ByteArray) (star : Bool) (k : Nat) (h : l.length ≤ k) : namesTo c l star k = namesI c l star := by
  unfold namesTo
  rw [List.take_of_length_le h]
theorem two_strs {b : Nat} {w : World} {s n : ByteArray} (hb : b < w.heap.size) (h1 : s.size ≤ 1048576) (h2 : n.size ≤ 1048576) : StrsS b (w.alloc (.cells #[.string s, .string n] 9)) (some ⟨w.heap.size, 0, none⟩) [s, n] := by
  have hh : (w.alloc (.cells #[.string s, .string n] 9)).heap[w.heap.size]? = some (.cells #[.string s, .string n] 9 (0, 0)) := heap_new rfl
  refine ⟨by simp, fun i hi => ⟨w.heap.size, 0, rfl, by simp, safe_of (by omega) hh (by decide), ?_⟩⟩
  match i, hi with
  | 0, _ => exact ⟨by simp [cell_of hh], h1⟩
  | 1, _ => exact ⟨by simp [cell_of hh], h2⟩
theorem one_strs {b : Nat} {w : World} {s : ByteArray} (hb : b < w.heap.size) (h1 : s.size ≤ 1048576) : StrsS b (w.alloc (.cells #[.string s] 9)) (some ⟨w.heap.size, 0, none⟩) [s] := by
  have hh : (w.alloc (.cells #[.string s] 9)).heap[w.heap.size]? = some (.cells #[.string s] 9 (0, 0)) := heap_new rfl
  refine ⟨by simp, fun i hi => ⟨w.heap.size, 0, rfl, by simp, safe_of (by omega) hh (by decide), ?_⟩⟩
  match i, hi with
  | 0, _ => exact ⟨by simp [cell_of hh], h1⟩
end Go.Proofs.YtplfimoeggecjaaGreatDoor.Sx
