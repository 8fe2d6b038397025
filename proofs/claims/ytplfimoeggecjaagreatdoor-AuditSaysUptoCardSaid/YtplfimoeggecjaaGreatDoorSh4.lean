/-
  The program's Hash: what lies in memory; New, Write.
-/
import Derived.Test.YtplfimoeggecjaaGreatDoorSh3
import Derived.Test.YtplfimoeggecjaaGreatDoorBrow
import Derived.Deep.MidRow
namespace Go.Proofs.YtplfimoeggecjaaGreatDoor.Sx
open Go Go.RowKit

abbrev hashT : Nat := 148
/-- A Hash lies at block k. -/
structure HashAt (w : World) (k : Nat) (st : St) (rv : Value) (many : Nat) : Prop where
  h : w.rangeAt k 0 st.cells
  r : w.cell? ⟨k, 8, none⟩ = some rv
  n : w.cell? ⟨k, 9, none⟩ = some (.int .u64 (many : Int))
  free : ∀ j, w.frozen? ⟨k, j, none⟩ = false
  lt : k < w.heap.size
theorem HashAt.of_block {w : World} {k : Nat} {st : St} {rv : Value} {many : Nat} (h : w.heap[k]? = some (.cells (st.cells ++ [rv, .int .u64 (many : Int)]).toArray hashT (0, 0))) : HashAt w k st rv many := by
  refine ⟨fun j v hj => ?_, ?_, ?_, free_of h, heap_lt h⟩
  · rw [cell_of h, Nat.zero_add, List.getElem?_toArray, List.getElem?_append_left (List.getElem?_eq_some_iff.1 hj).1]
    exact hj
  · rw [cell_of h]; rfl
  · rw [cell_of h]; rfl
theorem far_off {k j d n : Nat} (h : n ≤ d) (hj : j < n) : (⟨k, d, none⟩ : Addr) ≠ ⟨k, 0 + j, none⟩ := by
  intro e
  have e1 : d = 0 + j := congrArg Addr.off e
  omega
section
variable {w w' : World} {k : Nat} {st st' : St} {rv rv' : Value} {many m' : Nat}
theorem HashAt.below {B : Nat} (h : HashAt w k st rv many) (hb : Below B w w') (hk : k < B) : HashAt w' k st rv many :=
  ⟨fun j v hj => (hb.cell (p := ⟨k, 0 + j, none⟩) hk).trans (h.h j v hj), (hb.cell (p := ⟨k, 8, none⟩) hk).trans h.r, (hb.cell (p := ⟨k, 9, none⟩) hk).trans h.n, fun j => (hb.frozen (p := ⟨k, j, none⟩) hk).trans (h.free j), Nat.lt_of_lt_of_le h.lt hb.size⟩
theorem HashAt.ext (h : HashAt w k st rv many) (hb : Ext w w') : HashAt w' k st rv many := h.below hb h.lt
theorem HashAt.kept {row : Option Nat} (h : HashAt w k st rv many) (hg : w.grownBy w' row) (hne : row ≠ some k) : HashAt w' k st rv many := by
  have hb := hg.block k h.lt (fun e => hne e.symm)
  refine ⟨fun j v hj => ?_, ?_, ?_, fun j => ?_, Nat.lt_of_lt_of_le h.lt hg.size⟩
  · rw [World.cell?_of_block (a := ⟨k, 0 + j, none⟩) hb]; exact h.h j v hj
  · rw [World.cell?_of_block (a := ⟨k, 8, none⟩) hb]; exact h.r
  · rw [World.cell?_of_block (a := ⟨k, 9, none⟩) hb]; exact h.n
  · rw [World.frozen?_of_block (a := ⟨k, j, none⟩) hb]; exact h.free j
theorem HashAt.there (h : HashAt w k st rv many) : w.there k 0 8 := fun j hj => ⟨World.rangeAt.isSome h.h j (by simpa [St.cells] using hj), h.free _⟩
theorem HashAt.setR (h : HashAt w k st rv many) (v : Value) : HashAt (w.setCell ⟨k, 8, none⟩ v) k st v many := by
  refine ⟨fun j u hj => ?_, World.cell?_setCell_same _ _ _ h.r, ?_, fun j => by simpa using h.free j, by simpa using h.lt⟩
  · have := (List.getElem?_eq_some_iff.1 hj).1
    rw [World.cell?_setCell_other _ _ _ _ (far_off (n := 8) (by decide) this)]
    exact h.h j u hj
  · rw [World.cell?_setCell_other _ _ _ _ (by simp)]; exact h.n
theorem HashAt.setN (h : HashAt w k st rv many) (m : Nat) : HashAt (w.setCell ⟨k, 9, none⟩ (.int .u64 (m : Int))) k st rv m := by
  refine ⟨fun j u hj => ?_, ?_, World.cell?_setCell_same _ _ _ h.n, fun j => by simpa using h.free j, by simpa using h.lt⟩
  · have := (List.getElem?_eq_some_iff.1 hj).1
    rw [World.cell?_setCell_other _ _ _ _ (far_off (n := 8) (by decide) this)]
    exact h.h j u hj
  · rw [World.cell?_setCell_other _ _ _ _ (by simp)]; exact h.r
theorem HashAt.setH (h : HashAt w k st rv many) (st' : St) : HashAt (w.setCells k 0 st'.cells) k st' rv many := by
  refine ⟨World.rangeAt_setCells_same w k 0 st'.cells h.there, ?_, ?_, fun j => ?_, ?_⟩
  · rw [World.cell?_setCells_out _ _ _ _ _ (by simp [St.cells])]; exact h.r
  · rw [World.cell?_setCells_out _ _ _ _ _ (by simp [St.cells])]; exact h.n
  · rw [World.frozen?_setCells]; exact h.free j
  · have := grown_setCellsB w k 0 st'.cells
    exact Nat.lt_of_lt_of_le h.lt this.size
end
set_option maxRecDepth 100000 in
theorem new_any (w : World) : Calls Tryz.prog 80 #[] w fun e w' => ∃ k, e = .returned (.pointer (some ⟨k, 0, none⟩)) ∧ HashAt w' k h0 (.slice none 0 0) 0 ∧ w.heap.size ≤ k ∧ k + 1 = w'.heap.size ∧ Ext w w' := by
  go_enter Tryz.func80, Tryz.ntmps80
  go_wp2_with (first | (go_at_call 121; (with_reducible refine (first_any _).mono ?_); rintro e w1 ⟨rfl, hx⟩) | (refine wpList_built rfl _ _ (by rfl) (h0.cells ++ [Value.slice none 0 0, Value.int .u64 0]).toArray (by kernel_rfl) ?_))
  go_ret
  exact ⟨w1.heap.size, rfl, .of_block (heap_new rfl), hx.size, by simp, hx.trans ((Below.refl _ _).alloc (Nat.le_refl _) _)⟩
/-- What is left of a text, and its first blocks in the state. -/
def Under (st : St) (m l : List UInt8) : Prop := m.length % 64 = l.length % 64 ∧ ∀ x, hash st (m ++ x) = hash h0 (l ++ x)
theorem Under.start (l : List UInt8) : Under h0 l l := ⟨rfl, fun _ => rfl⟩
theorem Under.step {st : St} {m l : List UInt8} (h : Under st m l) (hm : 64 ≤ m.length) : Under (blk kw st (bw (m.take 64))) (m.drop 64) l := by
  refine ⟨by have := h.1; simp; omega, fun x => ?_⟩
  rw [← h.2 x, hash_step (l := m ++ x) (by simp; omega), List.take_append_of_le_length hm, List.drop_append_of_le_length hm]
def lenAt (w : World) (k : Nat) : Nat := match w.cell? ⟨k, 8, none⟩ with
  | some (.slice _ n _) => n
  | _ => 0
/-- The slice v, in a block from base on, holds these bytes. -/
def SliceB (base : Nat) (w : World) (v : Value) (l : List UInt8) : Prop :=
  (v = .slice none 0 0 ∧ l = []) ∨ ∃ b off c, v = .slice (some ⟨b, off, none⟩) l.length c ∧ l.length ≤ c ∧ base ≤ b ∧ BytesAt w b off l
theorem BytesAt.kept {w w' : World} {b off : Nat} {l : List UInt8} {row : Option Nat} (h : BytesAt w b off l) (hg : w.grownBy w' row) (hne : row ≠ some b) : BytesAt w' b off l :=
  ⟨Nat.lt_of_lt_of_le h.1 hg.size, fun j hj => (World.cell?_of_block (a := ⟨b, off + j, none⟩) (hg.block b h.1 (fun e => hne e.symm))).trans (h.2 j hj)⟩
theorem SliceB.kept {base : Nat} {w w' : World} {v : Value} {l : List UInt8} {row : Option Nat} (h : SliceB base w v l) (hg : w.grownBy w' row) (hne : ∀ g, base ≤ g → row ≠ some g) : SliceB base w' v l := by
  rcases h with h | ⟨b, off, c, hv, hc, hb, hy⟩
  · exact .inl h
  · exact .inr ⟨b, off, c, hv, hc, hb, hy.kept hg (hne b hb)⟩
theorem SliceB.ext {base : Nat} {w w' : World} {v : Value} {l : List UInt8} (h : SliceB base w v l) (he : Ext w w') : SliceB base w' v l := h.kept (grown_of_extB he) (fun _ _ => by simp)
theorem BRow.sliceB {base : Nat} {w : World} {v : Value} {l : List UInt8} (h : BRow base w v l) : SliceB base w v l := by
  rcases h with h | ⟨g, rest, hv, hb, hg, hm⟩
  · exact .inl h
  · refine .inr ⟨g, 0, _, hv, by omega, hb, heap_lt hg, fun j hj => ?_⟩
    rw [cell_of hg, Nat.zero_add, List.getElem?_toArray, List.getElem?_append_left (by rw [bvals_len]; exact hj)]
    simp [bvals, bval, hj]
theorem SliceB.src {base : Nat} {w : World} {v : Value} {l : List UInt8} (h : SliceB base w v l) : SrcB w v l := by
  rcases h with ⟨hv, hl⟩ | ⟨b, off, c, hv, hc, hb, hy⟩
  · exact .inl ⟨0, hv, hl⟩
  · refine .inr ⟨_, c, hv, fun j u hj => ?_⟩
    have hj' : j < l.length := by have := (List.getElem?_eq_some_iff.1 hj).1; rwa [bvals_len] at this
    rw [Addr.add_mid, hy.2 j hj']
    simpa [bvals, bval, hj'] using hj
theorem SliceB.slice {base : Nat} {w : World} {v : Value} {l : List UInt8} (h : SliceB base w v l) : ∃ A c, v = .slice A l.length c := by
  rcases h with ⟨hv, hl⟩ | ⟨b, off, c, hv, hc, hb, hy⟩
  · subst hl; exact ⟨_, _, hv⟩
  · exact ⟨_, _, hv⟩
theorem BytesAt.take {w : World} {b off : Nat} {l : List UInt8} (h : BytesAt w b off l) (n : Nat) : BytesAt w b off (l.take n) :=
  ⟨h.1, fun j hj => by
    have h1 : j < l.length := by simp at hj; omega
    rw [h.2 j h1, List.getElem_take]⟩
theorem BytesAt.drop {w : World} {b off : Nat} {l : List UInt8} (h : BytesAt w b off l) (n : Nat) : BytesAt w b (off + n) (l.drop n) :=
  ⟨h.1, fun j hj => by
    have h1 : n + j < l.length := by simp at hj; omega
    rw [Nat.add_assoc, h.2 (n + j) h1, List.getElem_drop]⟩
/-- What lies behind the first 64. -/
theorem SliceB.rest64 {base : Nat} {w : World} {b off c : Nat} {l : List UInt8} (hc : l.length ≤ c) (hb : base ≤ b) (hy : BytesAt w b off l) (h64 : 64 ≤ l.length) :
    ∃ o2, sliced (some ⟨b, off, none⟩) 64 l.length c 1 = .slice (some ⟨b, o2, none⟩) (l.length - 64) (c - 64) ∧ SliceB base w (.slice (some ⟨b, o2, none⟩) (l.length - 64) (c - 64)) (l.drop 64) := by
  have hl : (l.drop 64).length = l.length - 64 := List.length_drop
  unfold sliced
  by_cases hc1 : c = 64
  · rw [if_pos hc1]
    refine ⟨off, rfl, .inr ⟨b, off, c - 64, by rw [hl], by omega, hb, hy.1, fun j hj => ?_⟩⟩
    omega
  · rw [if_neg hc1]
    exact ⟨off + 64, rfl, .inr ⟨b, off + 64, c - 64, by rw [hl], by omega, hb, hy.drop 64⟩⟩
theorem setCells_one (w : World) (k o : Nat) (v : Value) : w.setCells k o [v] = w.setCell ⟨k, o, none⟩ v := by simp [World.setCells]
theorem grown_setCell (w : World) (k o : Nat) (v : Value) : w.grownBy (w.setCell ⟨k, o, none⟩ v) (some k) := by
  rw [← setCells_one]
  exact grown_setCellsB w k o [v]
end Go.Proofs.YtplfimoeggecjaaGreatDoor.Sx
