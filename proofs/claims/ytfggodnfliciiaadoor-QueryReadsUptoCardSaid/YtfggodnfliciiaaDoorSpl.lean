/-
  A text cut at a byte: the plain list of its parts; strings.Split and strings.SplitSeq give it.
-/
import Derived.Test.YtfggodnfliciiaaDoorName3
import Derived.Test.YtfggodnfliciiaaDoorRng
import Derived.Lib.SplitLaws
import Derived.LoopIn
import Derived.LoopNIn
import Derived.OwnWalkIn
import Derived.TacticsInMore
namespace Go.Proofs.YtfggodnfliciiaaDoor.Sx
open Go Go.RowKit

abbrev oneS (c : UInt8) : ByteArray := ⟨#[c]⟩
/-- The text, cut at each byte c. -/
def parts (c : UInt8) (s : ByteArray) : List ByteArray := Lib.splitB (oneS c) 0 (Lib.countB s (oneS c)) s
theorem parts_miss {c : UInt8} {s : ByteArray} (h : Lib.indexB s (oneS c) = -1) : parts c s = [s] := Lib.splitB_miss _ _ _ _ h
theorem parts_hit {c : UInt8} {s : ByteArray} {i : Nat} (h : Lib.indexB s (oneS c) = i) : parts c s = s.extract 0 i :: parts c (s.extract (i + 1) s.size) := by
  unfold parts
  rw [Lib.countB_hit s (oneS c) i (Nat.le_refl 1) h, Nat.add_comm, Lib.splitB_hit _ _ _ _ i h]
  rfl
theorem parts_ways (c : UInt8) (s : ByteArray) : (Lib.indexByte s.data.toList c = -1 ∧ parts c s = [s]) ∨ ∃ i : Nat, Lib.indexByte s.data.toList c = i ∧ i < s.size ∧ parts c s = s.extract 0 i :: parts c (s.extract (i + 1) s.size) := by
  have he : Lib.indexB s (oneS c) = Lib.indexByte s.data.toList c := Lib.index_one _ _
  rcases Lib.indexB_cases s (oneS c) with h | ⟨i, h, hi⟩
  · exact .inl ⟨by rw [← he, h], parts_miss h⟩
  · exact .inr ⟨i, by rw [← he, h], by have : (oneS c).size = 1 := rfl; omega, parts_hit h⟩

theorem index_at (s : ByteArray) (c : UInt8) (v : Int) (h : Lib.indexByte s.data.toList c = v) (w : World) :
    Calls Tryd.prog 32 #[.string s, .string (oneS c)] w fun e w' => e = .returned (.int .i64 v) ∧ w = w' :=
  (Tryd.strings_Index_one s c w).mono fun _ _ ⟨he, hw⟩ => ⟨by rw [he, h], hw.symm⟩

/-- How long the text in block k is. -/
def leftIn (k : Nat) (w : World) : Nat := match w.cell? ⟨k, 0, none⟩ with | some (.string s) => s.size | _ => 0
theorem leftIn_eq {k : Nat} {w : World} {s : ByteArray} {t : TypeId} (h : w.heap[k]? = some (.cells #[.string s] t (0, 0))) : leftIn k w = s.size := by
  unfold leftIn
  rw [cell_of h 0]
  rfl
/-- The three boxes. -/
def Boxes (k : Nat) (c : UInt8) (w : World) (s : ByteArray) : Prop :=
  w.heap[k]? = some (.cells #[.string s] 9 (0, 0)) ∧ w.heap[k + 1]? = some (.cells #[.string (oneS c)] 9 (0, 0)) ∧ w.heap[k + 2]? = some (.cells #[.int .i64 0] 3 (0, 0))
theorem Boxes.keeps {k : Nat} {c : UInt8} {w w' : World} {s : ByteArray} (h : Boxes k c w s) (hk : Keeps k (k + 3) w w') : Boxes k c w' s :=
  ⟨(hk _ (by omega) (by omega)).trans h.1, (hk _ (by omega) (by omega)).trans h.2.1, (hk _ (by omega) (by omega)).trans h.2.2⟩
theorem Boxes.store {k : Nat} {c : UInt8} {w : World} {s : ByteArray} (h : Boxes k c w s) (t : ByteArray) : Boxes k c (w.setCell ⟨k, 0, none⟩ (.string t)) t := by
  refine ⟨?_, (Below.heap_setCell _ _ _ _ (by simp)).trans h.2.1, (Below.heap_setCell _ _ _ _ (by simp)).trans h.2.2⟩
  have h0 := h.1
  simp [World.setCell, Array.getElem?_modify, h0]

attribute [local go_sem] Oper.semAt_some

set_option maxRecDepth 100000 in
set_option maxHeartbeats 2000000 in
theorem splitSeq_hands (c : UInt8) (s : ByteArray) (k n : Nat) (w : World) (hs : s.size ≤ maxLen) (hb : Boxes k c w s) (hn : 1 ≤ n) :
    Hands n Tryd.prog 58 #[.pointer (some ⟨k + 1, 0, none⟩), .pointer (some ⟨k, 0, none⟩), .pointer (some ⟨k + 2, 0, none⟩)] k (k + 3) k (parts c s) w := by
  intro l J W hW hJ hY h0
  have HB := Lib.hid (hb.keeps hW)
  have HJ := Lib.hid hJ
  have HY := Lib.hid hY
  clear hb hW hJ hY
  refine callsIn_of_wp Tryd.func58 rfl trivial ?_ rfl
  simp only [Tryd.ntmps58, List.size_toArray, List.length_cons, List.length_nil, Nat.reduceAdd, Nat.reduceSub, Array.replicate_succ, Array.replicate_zero, List.push_toArray, List.append_toArray, List.nil_append, List.cons_append]
  have c0 := cell_of HB.out.1 0
  have c1 := cell_of HB.out.2.1 0
  have c2 := cell_of HB.out.2.2 0
  simp at c0 c1 c2
  gi_wp2
  gi_loopw [7] (fun _ wr => ∃ (pre : List ByteArray) (rem : ByteArray), Hid (parts c s = pre ++ parts c rem) ∧ rem.size ≤ 9223372036854775807 ∧ Hid (Boxes k c wr rem) ∧ Hid (J pre wr)) (fun _ wr => leftIn k wr)
  case atStart => exact ⟨[], s, rfl, hs, HB, h0⟩
  case round =>
    obtain ⟨pre, rem, hp, hsz, hB, hj⟩ := hrel
    have c0 := cell_of hB.out.1 0
    have c1 := cell_of hB.out.2.1 0
    have c2 := cell_of hB.out.2.2 0
    simp at c0 c1 c2
    rcases parts_ways c rem with ⟨hi, hpr⟩ | ⟨i, hi, hil, hpr⟩
    · have HI := Lib.hid hi
      have HP : Hid (parts c s = pre ++ [rem]) := by unfold Hid; rw [hp.out, hpr]
      clear hi hpr
      obtain ⟨fn, tmps, assign, body, hy, hR⟩ := HY.out pre rem wr hj.out (by rw [HP.out]; exact List.prefix_refl _)
      gi_wp2_with (refine ⟨trivial, ?_⟩; gi_at_call 32; refine (callsIn_wide.2 (index_at rem c _ HI.out _)).mono ?_; rintro e w' ⟨rfl, rfl⟩)
      refine hR.mono ?_
      rintro e W3 ⟨rfl, hJ3, hk3⟩
      gi_wp2
      go_end0
      exact ⟨⟨_, rfl⟩, by rw [HP.out]; exact hJ3⟩
    · have HI := Lib.hid hi
      have HP : Hid (parts c s = (pre ++ [rem.extract 0 i]) ++ parts c (rem.extract (i + 1) rem.size)) := by unfold Hid; rw [hp.out, hpr]; simp
      clear hi hpr
      obtain ⟨fn, tmps, assign, body, hy, hR⟩ := HY.out pre (rem.extract 0 i) wr hj.out (by rw [HP.out]; exact ⟨_, rfl⟩)
      gi_wp2_with (refine ⟨trivial, ?_⟩; gi_at_call 32; refine (callsIn_wide.2 (index_at rem c _ HI.out _)).mono ?_; rintro e w' ⟨rfl, rfl⟩)
      refine hR.mono ?_
      rintro e W3 ⟨rfl, hJ3, hk3⟩
      have HB3 := Lib.hid (hB.out.keeps hk3)
      have HJ3 := Lib.hid hJ3
      have c0 := cell_of HB3.out.1 0
      have c1 := cell_of HB3.out.2.1 0
      have c2 := cell_of HB3.out.2.2 0
      have f0 := free_of HB3.out.1 0
      simp at c0 c1 c2
      clear hJ3 hk3 hR hy
      gi_wp2
      exact ⟨⟨_, _, HP, by simp; omega, HB3.out.store _, HJ.out _ _ _ HJ3.out⟩, by rw [leftIn_eq (HB3.out.store _).1, leftIn_eq hB.out.1]; simp; omega⟩

/-! ### SplitSeq: the closure, and its boxes -/
def boxed3 (w : World) (s : ByteArray) (c : UInt8) : World := ((w.alloc (.cells #[.string s] 9)).alloc (.cells #[.string (oneS c)] 9)).alloc (.cells #[.int .i64 0] 3)
theorem boxed3_in (w : World) (s : ByteArray) (c : UInt8) : Boxes w.heap.size c (boxed3 w s c) s :=
  ⟨heap_old (heap_old (heap_new rfl)), heap_old (heap_new (by simp)), heap_new (by simp)⟩
theorem boxed3_ext (w : World) (s : ByteArray) (c : UInt8) : Ext w (boxed3 w s c) := (((Below.refl _ _).alloc (Nat.le_refl _) _).alloc (by simp) _).alloc (by simp; omega) _
theorem boxed3_size (w : World) (s : ByteArray) (c : UInt8) : (boxed3 w s c).heap.size = w.heap.size + 3 := by simp [boxed3]

def seqFn (k : Nat) : Value := .func (.func 58) #[] #[.pointer (some ⟨k + 1, 0, none⟩), .pointer (some ⟨k, 0, none⟩), .pointer (some ⟨k + 2, 0, none⟩)]
/-- What SplitSeq hands back: the closure over three new boxes. -/
def SeqPost (w : World) (s : ByteArray) (c : UInt8) (e : Ending) (w' : World) : Prop := e = .returned (seqFn w.heap.size) ∧ Boxes w.heap.size c w' s ∧ Ext w w' ∧ w'.heap.size = w.heap.size + 3
set_option maxRecDepth 100000 in
theorem splitSeq_any (s : ByteArray) (c : UInt8) (w : World) : Calls Tryd.prog 46 #[.string s, .string (oneS c), .int .i64 0] w (SeqPost w s c) := by
  have H := Lib.hid (And.intro (boxed3_in w s c) (And.intro (boxed3_ext w s c) (boxed3_size w s c)))
  go_enter Tryd.func46, Tryd.ntmps46
  go_wp2
  go_ret
  exact ⟨rfl, H.out⟩
set_option maxRecDepth 100000 in
theorem splitSeqT_any (s : ByteArray) (c : UInt8) (w : World) : Calls Tryd.prog 38 #[.string s, .string (oneS c)] w (SeqPost w s c) := by
  go_enter Tryd.func38, Tryd.ntmps38
  go_wp2_with (go_at_call 46; refine (splitSeq_any _ _ _).mono ?_; rintro e w' ⟨rfl, hp⟩)
  go_ret
  exact ⟨rfl, hp⟩
end Go.Proofs.YtfggodnfliciiaaDoor.Sx
