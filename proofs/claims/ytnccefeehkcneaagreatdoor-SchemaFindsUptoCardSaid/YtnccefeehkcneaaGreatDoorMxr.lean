/-
  The variable internal/bytealg.MaxLen holds a number.
  Pointers, the plain part: replaceAll byte by byte; a text cut at a byte; an escaped step read back. No program in sight.
  strings.ReplaceAll, one byte at a time.
-/
import Derived.Test.YtnccefeehkcneaaGreatDoorBase
import Derived.Test.YtnccefeehkcneaaGreatDoorShelf
import Derived.Lib.Replace
import Derived.Lib.SplitLaws
import Derived.Lib.CountLaws
namespace Go.Proofs.YtnccefeehkcneaaGreatDoor.Sx
open Go Go.RowKit
/-- The library's variable MaxLen holds an integer. -/
def MaxC (w : World) : Prop := ∃ m, w.cell? ⟨1, 0, none⟩ = some (.int .i64 m)
theorem MaxC.ext {w w' : World} (h : MaxC w) (hx : Ext w w') : MaxC w' := by
  obtain ⟨m, hm⟩ := h
  refine ⟨m, (hx.cell (p := ⟨1, 0, none⟩) ?_).trans hm⟩
  rcases Nat.lt_or_ge 1 w.heap.size with h1 | h1
  · exact h1
  · unfold World.cell? at hm
    rw [Array.getElem?_eq_none h1] at hm
    cases hm
theorem MaxC.of_shaped {w : World} (h : w.ShapedOpen Tryz.prog) : MaxC w := Tryz.laysM143.s1_3 w h
end Go.Proofs.YtnccefeehkcneaaGreatDoor.Sx
namespace Go.Proofs.YtnccefeehkcneaaGreatDoor.Pt
open Go Go.Lib
def rep (old new s : List UInt8) : List UInt8 := replaceK old new (count s old) s
theorem replaceAll_rep {old new : List UInt8} (hne : old ≠ new) (s : List UInt8) : replaceAll s old new = rep old new s := by
  unfold replaceAll replace rep replaceNum
  rw [if_neg (by simpa using hne), if_pos (Or.inl (by omega))]
theorem rep_nil {old new : List UInt8} (h : old ≠ []) : rep old new [] = [] := by
  have hi : index [] old = -1 := by
    unfold index
    rw [if_neg (by cases old with | nil => exact absurd rfl h | cons _ _ => simp)]
  unfold rep
  rw [count_miss hi]
  rfl
theorem rep_hit {old new : List UInt8} (h : old ≠ []) (t : List UInt8) : rep old new (old ++ t) = new ++ rep old new t := by
  have hi : index (old ++ t) old = ((0 : Nat) : Int) := by
    cases old with
    | nil => exact absurd rfl h
    | cons c r =>
      rw [List.cons_append, index, if_pos (by rw [← List.cons_append, List.isPrefixOf_iff_prefix]; exact List.prefix_append _ _)]
      rfl
  unfold rep
  have hc := count_hit h hi
  rw [Nat.zero_add, List.drop_left] at hc
  rw [hc, Nat.add_comm 1, replaceK_hit _ _ _ _ _ hi, Nat.zero_add, List.drop_left, List.take_zero, List.nil_append]
theorem rep_miss {old new : List UInt8} (h : old ≠ []) (c : UInt8) (r : List UInt8) (hp : old.isPrefixOf (c :: r) = false) : rep old new (c :: r) = c :: rep old new r := by
  unfold rep
  rcases index_spec r old with ⟨hi, _⟩ | ⟨i, hi, _⟩
  · have hs : index (c :: r) old = -1 := by
      rw [index, if_neg (by rw [hp]; simp), if_pos (by rw [hi]; rfl)]
    rw [count_miss hi, count_miss hs]
    rfl
  · have hs : index (c :: r) old = ((i + 1 : Nat) : Int) := by
      rw [index, if_neg (by rw [hp]; simp), hi, if_neg (by simp)]
      simp
    have e : (i + 1) + old.length = (i + old.length) + 1 := by omega
    rw [count_hit h hi, count_hit h hs, e, List.drop_succ_cons, Nat.add_comm 1, replaceK_hit _ _ _ _ _ hi, replaceK_hit _ _ _ _ _ hs, e, List.drop_succ_cons, List.take_succ_cons]
    rfl
theorem rep_one_eq (c : UInt8) (new r : List UInt8) : rep [c] new (c :: r) = new ++ rep [c] new r := rep_hit (old := [c]) (by simp) r
theorem rep_one_ne {c d : UInt8} (new r : List UInt8) (h : c ≠ d) : rep [c] new (d :: r) = d :: rep [c] new r := rep_miss (by simp) d r (by simp [List.isPrefixOf, h])
theorem rep_one_flat (c : UInt8) (new s : List UInt8) : rep [c] new s = s.flatMap fun d => if d = c then new else [d] := by
  induction s with
  | nil => exact rep_nil (by simp)
  | cons d r ih =>
    by_cases h : d = c
    · subst h; rw [rep_one_eq, ih]; simp
    · rw [rep_one_ne _ _ (fun e => h e.symm), ih]; simp [h]
/-- A part behind a tilde begins with 0 or 1. -/
def good : List UInt8 → Bool
  | [] => false
  | c :: _ => decide (c = 48) || decide (c = 49)
end Go.Proofs.YtnccefeehkcneaaGreatDoor.Pt
namespace Go.Proofs.YtnccefeehkcneaaGreatDoor.Sx
open Go Go.RowKit Go.Proofs.YtnccefeehkcneaaGreatDoor.Pt
theorem replace_any (s old new : ByteArray) (w : World) (hm : MaxC w) (hs : s.size ≤ 67108864) (h1 : 1 ≤ old.size) (hn : new.size ≤ 2) (hne : old.data.toList ≠ new.data.toList) :
    Calls Tryz.prog 98 #[.string s, .string old, .string new] w fun e w' => e = .returned (.string ⟨(rep old.data.toList new.data.toList s.data.toList).toArray⟩) ∧ Ext w w' := by
  obtain ⟨m, hm⟩ := hm
  have hc : Lib.countB s old ≤ s.size := Lib.countB_le old h1 s.size s (Nat.le_refl _)
  have hmul : Lib.countB s old * new.size ≤ 67108864 * 2 := Nat.mul_le_mul (by omega) hn
  refine (Tryz.strings_ReplaceAll s old new m w (by omega) hm h1 (by omega)).mono fun e w' ⟨he, hw⟩ => ⟨?_, hw⟩
  rw [he, replaceAll_rep hne]
end Go.Proofs.YtnccefeehkcneaaGreatDoor.Sx
