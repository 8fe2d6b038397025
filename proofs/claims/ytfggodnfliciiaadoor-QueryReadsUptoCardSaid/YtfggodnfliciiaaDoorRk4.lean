/-
  The reference's letters: word.
-/
import Derived.Test.YtfggodnfliciiaaDoorRk3
namespace Go.Proofs.YtfggodnfliciiaaDoor.Rd
open Go Go.RowKit Go.Proofs.YtfggodnfliciiaaDoor.Sx

abbrev sgsT : Nat := 38
/-- The box of the signs, the box of the place. -/
def LIn (w : World) (k : Nat) (v : Value) : Prop := w.heap[k]? = some (.cells #[v] sgsT (0, 0))
def NIn (w : World) (k : Nat) (i : Nat) : Prop := w.heap[k]? = some (.cells #[.int .i64 (i : Int)] 3 (0, 0))
theorem LIn.cell {w : World} {k : Nat} {v : Value} (h : LIn w k v) : w.cell? ⟨k, 0, none⟩ = some v := cell_of h 0
theorem NIn.cell {w : World} {k i : Nat} (h : NIn w k i) : w.cell? ⟨k, 0, none⟩ = some (.int .i64 (i : Int)) := cell_of h 0
theorem NIn.free {w : World} {k i : Nat} (h : NIn w k i) : w.frozen? ⟨k, 0, none⟩ = false := by simp [World.frozen?, show w.heap[k]? = _ from h]
theorem LIn.kept {w w' : World} {k : Nat} {v : Value} {row : Option Nat} (h : LIn w k v) (hg : w.grownBy w' row) (hne : row ≠ some k) : LIn w' k v := (hg.block _ (heap_lt h) (fun e => hne e.symm)).trans h
theorem NIn.kept {w w' : World} {k i : Nat} {row : Option Nat} (h : NIn w k i) (hg : w.grownBy w' row) (hne : row ≠ some k) : NIn w' k i := (hg.block _ (heap_lt h) (fun e => hne e.symm)).trans h
theorem NIn.set {w : World} {k i : Nat} (h : NIn w k i) (j : Nat) (z : Int) (hz : z = (j : Int)) : NIn (w.setCell ⟨k, 0, none⟩ (.int .i64 z)) k j := by
  subst hz
  exact heap_setCell_same w k 0 _ 3 _ h
/-- Below B all stands where only a block from B on turns. -/
theorem below_grown {w w' : World} {B k : Nat} (hg : w.grownBy w' (some k)) (hB : B ≤ k) (hs : B ≤ w.heap.size) : Below B w w' :=
  ⟨hg.os, hg.tape, hg.output, hg.size, fun j hj => hg.block j (by omega) (fun e => by injection e with e; omega)⟩
theorem word_none {s : Tx} (h : ∀ c r, skip s = c :: r → isW c = false) : wordOf s = [] ∧ wordRest s = skip s ∧ wordBl s = false := by
  unfold wordOf wordRest wordBl
  cases hs : skip s with
  | nil => exact ⟨rfl, rfl, rfl⟩
  | cons c r =>
    have hw := h c r hs
    obtain ⟨e1, e2⟩ := runW_stop (s := r) hw
    rw [e1, e2]
    have hsk : skip (c :: r) = c :: r := by rw [← hs]; exact skip_skip s
    exact ⟨rfl, hsk, by rw [← hs]; exact hb_skip s⟩

set_option maxRecDepth 100000 in
set_option maxHeartbeats 4000000 in
theorem rword_any {B : Nat} {w : World} {A : Option Addr} {c : Nat} {ts : List Tok} {i kl kn : Nat} {b : Bool} {s : Tx} (h : SgR B w (.slice A ts.length c) ts) (hl : LIn w kl (.slice A ts.length c)) (hn : NIn w kn i) (ha : At ts i b s) (hB : B ≤ kn) (hBs : B ≤ w.heap.size) (hlk : kl ≠ kn) :
    Calls Tryd.prog 22 #[.pointer (some ⟨kl, 0, none⟩), .pointer (some ⟨kn, 0, none⟩)] w fun e w' => ∃ i' b', e = .returned (.string (bx (wordOf s))) ∧ NIn w' kn i' ∧ At ts i' b' (wordRest s) ∧ (wordOf s ≠ [] → b' = wordBl s) ∧ i ≤ i' ∧ w.grownBy w' (some kn) := by
  have hnn := h.1
  have hi := ha.lt
  have l0 := hl.cell
  have n0 := hn.cell
  have f0 := hn.free
  have hiI : (i : Int) < (ts.length : Int) := by omega
  have hi0 : (0 : Int) ≤ (i : Int) := by omega
  by_cases hw : ∃ d r, skip s = d :: r ∧ isW d = true
  · obtain ⟨d, r, hs, hwd⟩ := hw
    obtain ⟨_, ht, hnext⟩ := ha.word hs hwd
    obtain ⟨bb, off, rfl, hbB, x0, x1, x2⟩ := h.at_ hi
    rw [ht] at x0 x1
    simp only at x0 x1
    obtain ⟨W2, hW2⟩ : ∃ W2, W2 = w.setCell ⟨kn, 0, none⟩ (.int .i64 ((i : Int) + 1)) := ⟨_, rfl⟩
    have hg : w.grownBy W2 (some kn) := by rw [hW2]; exact grown_set w kn 0 _
    have H2 : Hid (NIn W2 kn (i + 1) ∧ w.grownBy W2 (some kn)) := ⟨by rw [hW2]; exact hn.set (i + 1) _ (by omega), hg⟩
    have HN := Lib.hid hnext
    have l2 := (hl.kept hg (fun e => hlk (by injection e with e; exact e.symm))).cell
    have n2 := H2.out.1.cell
    have y0 := ((below_grown hg hB hBs).cell (p := ⟨bb, off + i * 3, none⟩) hbB).trans x0
    have hii : ((i + 1 : Nat) : Int) = (i : Int) + 1 := by omega
    have hwr : IntKind.i64.wrap ((i : Int) + 1) = (i : Int) + 1 := IntWalk.i64_in _ (by omega)
    rw [hii] at n2
    have e2 := hW2.symm
    clear h hl hn ha hnext ht hs hwd hW2 hg x2 hii
    go_enter Tryd.func22, Tryd.ntmps22
    go_wp2
    go_ret
    exact ⟨i + 1, _, rfl, H2.out.1, HN.out, fun _ => rfl, Nat.le_succ _, H2.out.2⟩
  · have hno : ∀ d r, skip s = d :: r → isW d = false := fun d r hs => by
      cases hwd : isW d with
      | false => rfl
      | true => exact absurd ⟨d, r, hs, hwd⟩ hw
    obtain ⟨e1, e2, e3⟩ := word_none hno
    have HE : Hid (wordOf s = [] ∧ wordRest s = skip s) := ⟨e1, e2⟩
    have hword : ts[i].word = false := by
      cases hs : skip s with
      | nil => obtain ⟨_, h1, _⟩ := ha.end_ hs; rw [h1]; rfl
      | cons d r => obtain ⟨_, h1, _⟩ := ha.sign hs (hno d r hs); rw [h1]
    have HA := Lib.hid ha.skip
    have HNN := Lib.hid hn
    obtain ⟨bb, off, rfl, hbB, x0, x1, x2⟩ := h.at_ hi
    rw [hword] at x1
    clear h hl hn ha hw hno e1 e2 e3 hword x0 x2 f0
    go_enter Tryd.func22, Tryd.ntmps22
    go_wp2
    go_ret
    exact ⟨i, b || hb s, by rw [HE.out.1]; rfl, HNN.out, by rw [HE.out.2]; exact HA.out, fun hne => absurd HE.out.1 hne, Nat.le_refl _, grown_refl _ _⟩
end Go.Proofs.YtfggodnfliciiaaDoor.Rd
