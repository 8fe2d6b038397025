/-
  The program's small functions under Solve: its function letters, opposite.
  The program's IndexFunc over parts, with its two function letters (printed by gen/qs3.py).
  A row of parts in memory: three cells each; an append to it, an exchange in it (printed by gen/qs4.py out of XFl1).
  The program's Clone of parts: a row of one's own.
  The program's DeleteFunc over parts: those of one key.
  The program's DeleteFunc over parts: the walk.
  The program's DeleteFunc over parts: the walk.
  The program's function letter 'fits': do all parts about a key let a value be? And opposite.
  The program's opposite of a part.
-/
import Derived.Test.YtplfimoeggecjaaGreatDoorQs1
import Derived.Test.YtplfimoeggecjaaGreatDoorBrow
import Derived.Laws.Rows
import Derived.Laws.AppendOwn
import Derived.Lib.SliceRun
import Derived.Lib.Hide
import Derived.BigGuardPart
import Derived.Deep.QuietTactic
import Derived.BigQuiet
import Derived.StillTailTactics
namespace Go.Proofs.YtplfimoeggecjaaGreatDoor.Qs
open Go Go.RowKit Go.Lib Go.Proofs.YtplfimoeggecjaaGreatDoor.Dc Go.Proofs.YtplfimoeggecjaaGreatDoor.Sx

/-- The box of the key. -/
def KeyIn (w : World) (k : Nat) (key : ByteArray) : Prop := w.heap[k]? = some (.cells #[.string key] 9 (0, 0))
theorem KeyIn.ext {w w' : World} {k : Nat} {key : ByteArray} (h : KeyIn w k key) (hx : Ext w w') : KeyIn w' k key := (hx.block _ (heap_lt h)).trans h

set_option maxRecDepth 100000 in
/-- Is it about another key? -/
theorem other_any (k : Nat) (key : ByteArray) (r : Req) (u : Value) (w : World) (h : KeyIn w k key) :
    Calls Tryz.prog 98 #[.agg #[.string r.key, .int .i64 r.kind, u], .pointer (some ⟨k, 0, none⟩)] w fun e w' => e = .returned (.bool (!(eqS r.key key))) ∧ Ext w w' := by
  have hk := heap_lt h
  have k0 : w.cell? ⟨k, 0, none⟩ = some (.string key) := cell_of h 0
  have hne : k ≠ w.heap.size := by omega
  have hE : Hid ((!(eqS r.key key)) = (r.key.toList != key.toList)) := rfl
  clear h
  go_enter Tryz.func98, Tryz.ntmps98
  go_wp2
  go_ret
  exact ⟨ret_bool hE.out.symm, (Below.refl _ _).alloc (Nat.le_refl _) _⟩

set_option maxRecDepth 100000 in
/-- Is it a set to be in? -/
theorem isIn_any (r : Req) (u : Value) (w : World) :
    Calls Tryz.prog 101 #[.agg #[.string r.key, .int .i64 r.kind, u]] w fun e w' => e = .returned (.bool (isIn r)) ∧ Ext w w' := by
  have hE : Hid (isIn r = (r.kind == 1)) := by unfold Hid isIn; by_cases h : r.kind = 1 <;> simp [h]
  go_enter Tryz.func101, Tryz.ntmps101
  go_wp2
  go_ret
  exact ⟨ret_bool hE.out.symm, (Below.refl _ _).alloc (Nat.le_refl _) _⟩
end Go.Proofs.YtplfimoeggecjaaGreatDoor.Qs
namespace Go.Proofs.YtplfimoeggecjaaGreatDoor.Qs
open Go Go.RowKit Go.Lib Go.Proofs.YtplfimoeggecjaaGreatDoor.Dc Go.Proofs.YtplfimoeggecjaaGreatDoor.Sx

/-- What IndexFunc hands back: the place of the first. -/
def FirstPost (w : World) (l : List Req) (p : Req → Bool) (e : Ending) (w' : World) : Prop :=
  ((∃ (i : Nat) (h : i < l.length), e = .returned (.int .i64 (i : Int)) ∧ p l[i] = true ∧ noneTo p l i) ∨ (e = .returned (.int .i64 (-1)) ∧ noneTo p l l.length)) ∧ Ext w w'

set_option maxRecDepth 100000 in
set_option maxHeartbeats 2000000 in
theorem firstOther_any (B : Nat) (k : Nat) (key : ByteArray) (v : Value) (l : List Req) (w : World) (hB : B ≤ w.heap.size) (hv : ReqsR B w v l) (h : KeyIn w k key) :
    Calls Tryz.prog 100 #[v, .func (.func 98) #[] #[.pointer (some ⟨k, 0, none⟩)]] w (FirstPost w l (fun r => !(eqS r.key key))) := by
  have HV := Lib.hid hv
  have HR := Lib.hid h
  clear h
  have hn := hv.1
  obtain ⟨_, A1, c1, rfl, _⟩ := hv
  go_enter Tryz.func100, Tryz.ntmps100
  go_wp2
  go_loopw [5, 8] (fun _ k wr => ∃ j : Nat, j ≤ l.length ∧ k = .int .i64 (j : Int) ∧ Hid (noneTo (fun r => !(eqS r.key key)) l j) ∧ Hid (Ext w wr)) (fun _ k _ => l.length - (intOf k).toNat)
  case atStart => exact ⟨0, Nat.zero_le _, rfl, fun i hi h => by omega, Below.refl _ _⟩
  case round =>
    obtain ⟨j, hj, rfl, hN, hX⟩ := hrel
    by_cases hlt : j < l.length
    · obtain ⟨b, off, A2, c2, rfl, _, x0, x1, x2, _, _⟩ := (HV.out.below (hX.out.mono hB) (Nat.le_refl _)).at_ hlt
      have HU : Hid ((fun r => !(eqS r.key key)) l[j] = false → noneTo (fun r => !(eqS r.key key)) l (j + 1)) := fun h => noneTo_succ hN.out hlt h
      have HJ : Hid ((fun r => !(eqS r.key key)) l[j] = true → ∃ h : j < l.length, (fun r => !(eqS r.key key)) l[j] = true) := fun h => ⟨hlt, h⟩
      obtain ⟨x, hx⟩ : ∃ x, x = l[j] := ⟨_, rfl⟩
      rw [← hx] at x0 x1 x2 HU HJ
      have HRr := Lib.hid (HR.out.ext hX.out)
      clear hx
      cases hk : (fun r => !(eqS r.key key)) x with
      | true =>
        have HF2 := Lib.hid (HJ.out hk)
        have HK := Lib.hid hk
        clear hk
        go_wp2_with fail
        refine Calls.mono (other_any _ key x _ _ HRr.out) ?_
        rintro e w2 ⟨rfl, hx2⟩
        rw [show ((!(eqS x.key key))) = true from HK.out]
        have HX2 : Hid (Ext w w2) := hX.out.trans hx2
        clear hx2
        go_wp2
        go_ret
        exact ⟨.inl ⟨j, HF2.out.1, rfl, HF2.out.2, hN.out⟩, HX2.out⟩
      | false =>
        have HU2 := Lib.hid (HU.out hk)
        have HK := Lib.hid hk
        clear hk
        go_wp2_with fail
        refine Calls.mono (other_any _ key x _ _ HRr.out) ?_
        rintro e w2 ⟨rfl, hx2⟩
        rw [show ((!(eqS x.key key))) = false from HK.out]
        have HX2 : Hid (Ext w w2) := hX.out.trans hx2
        clear hx2
        go_wp2
        go_roundw
        case rel => exact ⟨j + 1, hlt, by go_num, HU2, HX2⟩
        case measure => simp [intOf]; omega
    · have HF : Hid (noneTo (fun r => !(eqS r.key key)) l l.length) := fun i hi _ => hN.out i hi (by omega)
      go_wp2
      go_ret
      exact ⟨.inr ⟨rfl, HF.out⟩, hX.out⟩

set_option maxRecDepth 100000 in
set_option maxHeartbeats 2000000 in
theorem firstIn_any (B : Nat)  (v : Value) (l : List Req) (w : World) (hB : B ≤ w.heap.size) (hv : ReqsR B w v l)  :
    Calls Tryz.prog 100 #[v, .func (.func 101) #[] #[]] w (FirstPost w l (fun r => isIn r)) := by
  have HV := Lib.hid hv
  have hn := hv.1
  obtain ⟨_, A1, c1, rfl, _⟩ := hv
  go_enter Tryz.func100, Tryz.ntmps100
  go_wp2
  go_loopw [5, 8] (fun _ k wr => ∃ j : Nat, j ≤ l.length ∧ k = .int .i64 (j : Int) ∧ Hid (noneTo (fun r => isIn r) l j) ∧ Hid (Ext w wr)) (fun _ k _ => l.length - (intOf k).toNat)
  case atStart => exact ⟨0, Nat.zero_le _, rfl, fun i hi h => by omega, Below.refl _ _⟩
  case round =>
    obtain ⟨j, hj, rfl, hN, hX⟩ := hrel
    by_cases hlt : j < l.length
    · obtain ⟨b, off, A2, c2, rfl, _, x0, x1, x2, _, _⟩ := (HV.out.below (hX.out.mono hB) (Nat.le_refl _)).at_ hlt
      have HU : Hid ((fun r => isIn r) l[j] = false → noneTo (fun r => isIn r) l (j + 1)) := fun h => noneTo_succ hN.out hlt h
      have HJ : Hid ((fun r => isIn r) l[j] = true → ∃ h : j < l.length, (fun r => isIn r) l[j] = true) := fun h => ⟨hlt, h⟩
      obtain ⟨x, hx⟩ : ∃ x, x = l[j] := ⟨_, rfl⟩
      rw [← hx] at x0 x1 x2 HU HJ
      clear hx
      cases hk : (fun r => isIn r) x with
      | true =>
        have HF2 := Lib.hid (HJ.out hk)
        have HK := Lib.hid hk
        clear hk
        go_wp2_with fail
        refine Calls.mono (isIn_any x _ _) ?_
        rintro e w2 ⟨rfl, hx2⟩
        rw [show (isIn x) = true from HK.out]
        have HX2 : Hid (Ext w w2) := hX.out.trans hx2
        clear hx2
        go_wp2
        go_ret
        exact ⟨.inl ⟨j, HF2.out.1, rfl, HF2.out.2, hN.out⟩, HX2.out⟩
      | false =>
        have HU2 := Lib.hid (HU.out hk)
        have HK := Lib.hid hk
        clear hk
        go_wp2_with fail
        refine Calls.mono (isIn_any x _ _) ?_
        rintro e w2 ⟨rfl, hx2⟩
        rw [show (isIn x) = false from HK.out]
        have HX2 : Hid (Ext w w2) := hX.out.trans hx2
        clear hx2
        go_wp2
        go_roundw
        case rel => exact ⟨j + 1, hlt, by go_num, HU2, HX2⟩
        case measure => simp [intOf]; omega
    · have HF : Hid (noneTo (fun r => isIn r) l l.length) := fun i hi _ => hN.out i hi (by omega)
      go_wp2
      go_ret
      exact ⟨.inr ⟨rfl, HF.out⟩, hX.out⟩
end Go.Proofs.YtplfimoeggecjaaGreatDoor.Qs
namespace Go.Proofs.YtplfimoeggecjaaGreatDoor.Qs
open Go Go.RowKit Go.Proofs.YtplfimoeggecjaaGreatDoor.Sx

/-- The three cells of a part. -/
structure Rw where
  key : ByteArray
  kind : Int
  A : Option Addr
  n : Nat
  c : Nat
def nth (L : List Rw) (k : Nat) : Rw := L.getD k ⟨⟨#[]⟩, 0, none, 0, 0⟩
def rcell (t : Rw) : List Value := [.string t.key, .int .i64 t.kind, .slice t.A t.n t.c]
def rcells : List Rw → List Value
  | [] => []
  | t :: r => rcell t ++ rcells r
theorem rcells_len : ∀ (L : List Rw), (rcells L).length = L.length * 3
  | [] => rfl
  | t :: r => by
    have := rcells_len r
    simp only [rcells, List.length_append, List.length_cons, this]
    show 3 + r.length * 3 = _
    omega
theorem rcells_append : ∀ (L M : List Rw), rcells (L ++ M) = rcells L ++ rcells M
  | [], M => rfl
  | t :: r, M => by simp only [List.cons_append, rcells, rcells_append r M, List.append_assoc]
theorem rcells_at : ∀ {L : List Rw} {k : Nat} (_ : k < L.length) {j : Nat} (_ : j < 3), (rcells L)[k * 3 + j]? = (rcell (nth L k))[j]?
  | t :: r, 0, _, j, hj => by
    simp only [rcells, Nat.zero_mul, Nat.zero_add]
    rw [List.getElem?_append_left (by show j < 3; exact hj)]
    rfl
  | t :: r, k + 1, h, j, hj => by
    have h' : k < r.length := by simpa using h
    have ih := rcells_at (L := r) h' hj
    simp only [rcells]
    rw [List.getElem?_append_right (by show 3 ≤ _; omega)]
    have e : (k + 1) * 3 + j - (rcell t).length = k * 3 + j := by show (k + 1) * 3 + j - 3 = _; omega
    rw [e, ih]
    rfl
theorem rcells_take (L : List Rw) (k : Nat) : rcells (L.take k) = (rcells L).take (k * 3) := by
  induction L generalizing k with
  | nil => simp [rcells]
  | cons t r ih =>
    cases k with
    | zero => simp [rcells]
    | succ k =>
      simp only [List.take_succ_cons, rcells, ih]
      rw [List.take_append]
      have e1 : (rcell t).take ((k + 1) * 3) = rcell t := List.take_of_length_le (by show 3 ≤ _; omega)
      have e2 : (k + 1) * 3 - (rcell t).length = k * 3 := by show (k + 1) * 3 - 3 = _; omega
      rw [e1, e2]
theorem rcells_drop (L : List Rw) (k : Nat) : rcells (L.drop k) = (rcells L).drop (k * 3) := by
  induction L generalizing k with
  | nil => simp [rcells]
  | cons t r ih =>
    cases k with
    | zero => simp
    | succ k =>
      simp only [List.drop_succ_cons, rcells, ih]
      rw [List.drop_append]
      have e1 : (rcell t).drop ((k + 1) * 3) = [] := List.drop_of_length_le (by show 3 ≤ _; omega)
      have e2 : (k + 1) * 3 - (rcell t).length = k * 3 := by show (k + 1) * 3 - 3 = _; omega
      rw [e1, e2, List.nil_append]
theorem rcells_one (L : List Rw) : ∀ u ∈ rcells L, u.oneCell' = true := by
  induction L with
  | nil => intro u hu; simp [rcells] at hu
  | cons t r ih =>
    intro u hu
    rcases List.mem_append.1 hu with hu | hu
    · simp [rcell] at hu
      rcases hu with rfl | rfl | rfl <;> rfl
    · exact ih u hu
/-- A thing set: its three cells. -/
theorem rcells_set : ∀ (L : List Rw) (k : Nat) (t : Rw), k < L.length → rcells (L.set k t) = (((rcells L).set (k * 3) (.string t.key)).set (k * 3 + 1) (.int .i64 t.kind)).set (k * 3 + 2) (.slice t.A t.n t.c)
  | x :: r, 0, t, _ => rfl
  | x :: r, k + 1, t, h => by
    have ih := rcells_set r k t (by simpa using h)
    simp only [List.set_cons_succ, rcells, ih]
    have e : ∀ (M : List Value) (i : Nat) (u : Value), rcell x ++ M.set i u = (rcell x ++ M).set (i + 3) u := fun M i u => rfl
    rw [e, e, e]
    congr 1
    · congr 1
      · congr 1
        omega
      · omega
    · omega

/-! ### The row -/

/-- The slice v is a row of one's own: these things. -/
def RRow (et base : Nat) (w : World) (v : Value) (L : List Rw) : Prop :=
  (v = .slice none 0 0 ∧ L = []) ∨ ∃ g c rest, v = .slice (some ⟨g, 0, none⟩) L.length c ∧ base ≤ g ∧ w.heap[g]? = some (.cells (rcells L ++ rest).toArray et (0, 0)) ∧ L.length * 3 + rest.length = c * 3 ∧ c ≤ maxLen
section
variable {et base : Nat} {w w' : World} {v : Value} {L : List Rw}
theorem RRow.nil : RRow et base w (.slice none 0 0) [] := .inl ⟨rfl, rfl⟩
theorem RRow.owns (h : RRow et base w v L) : w.ownsRow base et 3 v L.length (rcells L) := by
  refine ⟨rcells_len L, ?_⟩
  rcases h with ⟨rfl, rfl⟩ | ⟨g, c, rest, rfl, hb, hg, hc, hm⟩
  · exact .inl ⟨rfl, rfl⟩
  · refine .inr ⟨g, c, _, rfl, hb, hg, by omega, hm, ?_, ?_⟩
    · simp [rcells_len]; omega
    · have : (rcells L ++ rest).take (L.length * 3) = rcells L := by rw [← rcells_len, List.take_left']; rfl
      simpa using this
theorem RRow.of_owns {n : Nat} (hn : n = L.length) (h : w.ownsRow base et 3 v n (rcells L)) : RRow et base w v L := by
  subst hn
  rcases h.2 with ⟨rfl, h0⟩ | ⟨g, cap, cur, rfl, hb, hg, hnc, hm, hs, ht⟩
  · exact .inl ⟨rfl, List.length_eq_zero_iff.1 h0⟩
  · have hl : cur.toList.length = cap * 3 := by simpa using hs
    have he : cur = (rcells L ++ cur.toList.drop (L.length * 3)).toArray := by
      rw [← ht, List.take_append_drop, Array.toArray_toList]
    refine .inr ⟨g, cap, cur.toList.drop (L.length * 3), rfl, hb, by rw [hg, ← he], ?_, hm⟩
    rw [List.length_drop, hl]
    omega
theorem RRow.kept {row : Option Nat} (h : RRow et base w v L) (hg : w.grownBy w' row) (hne : ∀ g, v.ownBlock = some g → row ≠ some g) : RRow et base w' v L := by
  rcases h with h | ⟨g, c, rest, rfl, hb, hh, hc, hm⟩
  · exact .inl h
  · exact .inr ⟨g, c, rest, rfl, hb, (hg.block g (heap_lt hh) (fun e => hne g rfl e.symm)).trans hh, hc, hm⟩
theorem RRow.ext (h : RRow et base w v L) (he : Ext w w') : RRow et base w' v L := h.kept (grown_of_extB he) (fun g _ => by simp)
theorem RRow.block (h : RRow et base w v L) : ∀ g, v.ownBlock = some g → base ≤ g ∧ g < w.heap.size := by
  rcases h with ⟨rfl, _⟩ | ⟨g, c, rest, rfl, hb, hh, _⟩
  · intro g hg; simp [Value.ownBlock] at hg
  · intro g' hg
    have : g = g' := by simpa [Value.ownBlock] using hg
    subst this
    exact ⟨hb, heap_lt hh⟩
theorem RRow.slice (h : RRow et base w v L) : ∃ A c, v = .slice A L.length c := by
  rcases h with ⟨rfl, rfl⟩ | ⟨g, c, rest, rfl, _⟩
  · exact ⟨_, _, rfl⟩
  · exact ⟨_, _, rfl⟩
/-- A row with something in it. -/
theorem RRow.some_ (h : RRow et base w v L) (h0 : 0 < L.length) : ∃ g c rest, v = .slice (some ⟨g, 0, none⟩) L.length c ∧ base ≤ g ∧ w.heap[g]? = some (.cells (rcells L ++ rest).toArray et (0, 0)) ∧ L.length * 3 + rest.length = c * 3 ∧ c ≤ maxLen := by
  rcases h with ⟨_, rfl⟩ | h
  · simp at h0
  · exact h
end
theorem row_cell {w : World} {g et k j : Nat} {L : List Rw} {rest : List Value} (hg : w.heap[g]? = some (.cells (rcells L ++ rest).toArray et (0, 0))) (hk : k < L.length) (hj : j < 3) : w.cell? ⟨g, k * 3 + j, none⟩ = (rcell (nth L k))[j]? := by
  rw [cell_of hg, List.getElem?_toArray, List.getElem?_append_left (by rw [rcells_len]; omega)]
  exact rcells_at hk hj
theorem row_three {w : World} {g et k : Nat} {L : List Rw} {rest : List Value} (hg : w.heap[g]? = some (.cells (rcells L ++ rest).toArray et (0, 0))) (hk : k < L.length) :
    w.cell? ⟨g, k * 3, none⟩ = some (.string (nth L k).key) ∧ w.cell? ⟨g, k * 3 + 1, none⟩ = some (.int .i64 (nth L k).kind) ∧ w.cell? ⟨g, k * 3 + 2, none⟩ = some (.slice (nth L k).A (nth L k).n (nth L k).c) :=
  ⟨row_cell hg hk (j := 0) (by omega), row_cell hg hk (j := 1) (by omega), row_cell hg hk (j := 2) (by omega)⟩
theorem row_free {w : World} {g et k : Nat} {C : Array Value} (hg : w.heap[g]? = some (.cells C et (0, 0))) : w.frozen? ⟨g, k, none⟩ = false := by
  simp [World.frozen?, hg]
/-- Three stores: a thing set. -/
theorem row_put {w : World} {g et k : Nat} {L : List Rw} {rest : List Value} (hg : w.heap[g]? = some (.cells (rcells L ++ rest).toArray et (0, 0))) (hk : k < L.length) (t : Rw) :
    (((w.setCell ⟨g, k * 3, none⟩ (.string t.key)).setCell ⟨g, k * 3 + 1, none⟩ (.int .i64 t.kind)).setCell ⟨g, k * 3 + 2, none⟩ (.slice t.A t.n t.c)).heap[g]? = some (.cells (rcells (L.set k t) ++ rest).toArray et (0, 0)) := by
  have h1 := heap_setCell_same w g (k * 3) _ et (.string t.key) hg
  have h2 := heap_setCell_same _ g (k * 3 + 1) _ et (.int .i64 t.kind) h1
  have h3 := heap_setCell_same _ g (k * 3 + 2) _ et (.slice t.A t.n t.c) h2
  rw [h3, rcells_set L k t hk]
  congr 2
  simp only [List.setIfInBounds_toArray]
  congr 1
  rw [List.set_append_left _ _ (by rw [rcells_len]; omega), List.set_append_left _ _ (by rw [List.length_set, rcells_len]; omega), List.set_append_left _ _ (by rw [List.length_set, List.length_set, rcells_len]; omega)]

/-! ### Append -/

/-- A slice that reads as these things. -/
def RSrc (w : World) (x : Value) (L : List Rw) : Prop := (∃ c, x = .slice none 0 c ∧ L = []) ∨ ∃ ad c, x = .slice (some ad) L.length c ∧ ∀ j u, (rcells L)[j]? = some u → w.cell? (ad.add j) = some u
theorem RRow.src {et base : Nat} {w : World} {v : Value} {L : List Rw} (h : RRow et base w v L) : RSrc w v L := by
  rcases h with ⟨rfl, rfl⟩ | ⟨g, c, rest, rfl, _, hg, _⟩
  · exact .inl ⟨0, rfl, rfl⟩
  · exact .inr ⟨_, c, rfl, fun j u hj => by
      rw [Addr.add_lit, Nat.zero_add, cell_of hg, List.getElem?_toArray, List.getElem?_append_left (List.getElem?_eq_some_iff.1 hj).1]
      exact hj⟩
structure RTyOk (st et : Nat) : Prop where
  under : Tryz.prog.underlying st = some (.slice et)
  info : (Tryz.prog.info? et).map (fun i => (i.zero, i.size, i.bytes)) = some (some (.agg #[.string ⟨#[]⟩, .int .i64 0, .slice none 0 0]), 3, 48)
theorem RSrc.of_block {w : World} {g et c : Nat} {L : List Rw} (h : w.heap[g]? = some (.cells (rcells L).toArray et (0, 0))) : RSrc w (.slice (some ⟨g, 0, none⟩) L.length c) L :=
  .inr ⟨_, _, rfl, fun j u hj => by rw [Addr.add_lit, Nat.zero_add, cell_of h, List.getElem?_toArray]; exact hj⟩
theorem run_rappend {st et : Nat} (hty : RTyOk st et) (base : Nat) (ty : TypeId) (w : World) (v x : Value) (zs ys : List Rw) (hrow : RRow et base w v zs) (hx : RSrc w x ys) (hs : zs.length + ys.length ≤ 1048576) (hbase : base ≤ w.heap.size) :
    ∃ A c w', (Builtin.append_ #[st, st] ty #[v, x]).run Tryz.prog w = .ok (.slice A (zs.length + ys.length) c) w' ∧ RRow et base w' (.slice A (zs.length + ys.length) c) (zs ++ ys) ∧ w.grownBy w' v.ownBlock ∧ ((Value.slice A (zs.length + ys.length) c).ownBlock = v.ownBlock ∨ (Value.slice A (zs.length + ys.length) c).ownBlock = some w.heap.size) := by
  obtain ⟨i0, hi, hz0, hz1, hz2⟩ := info_parts hty.info
  rcases hx with ⟨c, rfl, rfl⟩ | ⟨ad, c, rfl, hc⟩
  · have hr := run_append_noneB (P := Tryz.prog) (w := w) base st ty et i0 3 c hty.under hi v zs.length (rcells zs) hrow.owns
    obtain ⟨A, c', rfl⟩ := hrow.slice
    exact ⟨A, c', w, hr, by rw [List.append_nil]; exact hrow, grown_of_extB' (Below.refl _ _), .inl rfl⟩
  · by_cases h0 : ys = []
    · subst h0
      have hr := run_append_zero (P := Tryz.prog) (w := w) base st ty et i0 3 ad c hty.under hi v zs.length (rcells zs) hrow.owns
      obtain ⟨A, c', rfl⟩ := hrow.slice
      exact ⟨A, c', w, hr, by rw [List.append_nil]; exact hrow, grown_of_extB' (Below.refl _ _), .inl rfl⟩
    · have hpos : 0 < ys.length := List.length_pos_iff.2 h0
      obtain ⟨v', w', hr, h2, h3, _, h5⟩ := run_append_own_at (P := Tryz.prog) w base st ty et i0 _ 3 48 hty.under hi hz0 hz1 hz2 rfl (by omega) v zs.length (rcells zs) hrow.owns ad ys.length c (rcells ys) (rcells_len ys) hc (rcells_one ys) (by unfold maxLen; omega) (by omega) hbase
      have hrow' : RRow et base w' v' (zs ++ ys) := RRow.of_owns (n := zs.length + ys.length) (by simp) (by rw [rcells_append]; exact h2)
      obtain ⟨A, c', hv⟩ := hrow'.slice
      rw [List.length_append] at hv
      subst hv
      exact ⟨A, c', w', hr, hrow', h3, h5⟩
theorem append_parts {st et : Nat} (hty : RTyOk st et) {ops : Array Oper} {rest : List Oper} {o : Oper} {a : Act} {Q : Exit → Act → World → Prop} (hgd : o.guard = none) (s x : Operand)
    (ho : o.op = .call { callee := .builtin .append, args := #[s, x], argTypes := #[st, st] }) (base n m : Nat) (w : World) (v y : Value) (zs ys : List Rw)
    (hs : a.eval s = v) (hx : a.eval x = y) (hrow : RRow et base w v zs) (hy : RSrc w y ys) (hn : zs.length = n) (hm : ys.length = m) (hsm : n + m ≤ 1048576) (hbase : base ≤ w.heap.size)
    (h : ∀ A c w', RRow et base w' (.slice A (n + m) c) (zs ++ ys) → w.grownBy w' v.ownBlock → ((Value.slice A (n + m) c).ownBlock = v.ownBlock ∨ (Value.slice A (n + m) c).ownBlock = some w.heap.size) → wpList Tryz.prog ops Q rest (a.put o.dst (.slice A (n + m) c)) w') : wpList Tryz.prog ops Q (o :: rest) a w := by
  subst hn hm
  obtain ⟨A, c, w', hr, h1, h2, h3⟩ := run_rappend hty base o.type w v y zs ys hrow hy hsm hbase
  refine wpList_plain hgd fun K hK => ?_
  unfold Oper.wp execOp
  simp only [ho, resolve, invoke, builtin, Sem.run_bind, Sem.run_pure, Result.andThen_ok, List.map_toArray, List.map_cons, List.map_nil, hs, hx, hr]
  exact hK _ _ (h A c w' h1 h2 h3)
theorem step_append_parts {st et : Nat} (hty : RTyOk st et) {ops : Array Oper} {o : Oper} {a : Act} {K : Act → World → Prop} {Q : Exit → Act → World → Prop} {E : Prop} (hgd : o.guard = none) (s x : Operand)
    (ho : o.op = .call { callee := .builtin .append, args := #[s, x], argTypes := #[st, st] }) (base n m : Nat) (w : World) (v y : Value) (zs ys : List Rw)
    (hs : a.eval s = v) (hx : a.eval x = y) (hrow : RRow et base w v zs) (hy : RSrc w y ys) (hn : zs.length = n) (hm : ys.length = m) (hsm : n + m ≤ 1048576) (hbase : base ≤ w.heap.size)
    (h : ∀ A c w', RRow et base w' (.slice A (n + m) c) (zs ++ ys) → w.grownBy w' v.ownBlock → ((Value.slice A (n + m) c).ownBlock = v.ownBlock ∨ (Value.slice A (n + m) c).ownBlock = some w.heap.size) → K (a.put o.dst (.slice A (n + m) c)) w') : if Region.wanted o (yielded ops a.tmps) = true then Oper.wp Tryz.prog o a w K Q else E := by
  subst hn hm
  obtain ⟨A, c, w', hr, h1, h2, h3⟩ := run_rappend hty base o.type w v y zs ys hrow hy hsm hbase
  have hw : Region.wanted o (yielded ops a.tmps) = true := by simp [Region.wanted, hgd]
  rw [if_pos hw]
  unfold Oper.wp execOp
  simp only [ho, resolve, invoke, builtin, Sem.run_bind, Sem.run_pure, Result.andThen_ok, List.map_toArray, List.map_cons, List.map_nil, hs, hx, hr]
  exact h A c w' h1 h2 h3
end Go.Proofs.YtplfimoeggecjaaGreatDoor.Qs
namespace Go.Proofs.YtplfimoeggecjaaGreatDoor.Qs
open Go Go.RowKit Go.Proofs.YtplfimoeggecjaaGreatDoor.Sx

abbrev reqT : Nat := 56
/-- The row's cells tell these parts. -/
def repR (B : Nat) (w : World) (t : Rw) (r : Req) : Prop := t.key = r.key ∧ t.kind = r.kind ∧ t.n = r.vals.length ∧ reqR B w (rcell t) r
def RepL (B : Nat) (w : World) (L : List Rw) (l : List Req) : Prop := L.length = l.length ∧ ∀ i (hi : i < l.length), repR B w (nth L i) l[i]
theorem repR.below {B B' : Nat} {w w' : World} {t : Rw} {r : Req} (h : repR B w t r) (hb : Below B w w') (hB : B ≤ B') : repR B' w' t r := ⟨h.1, h.2.1, h.2.2.1, h.2.2.2.below hb hB⟩
theorem RepL.below {B B' : Nat} {w w' : World} {L : List Rw} {l : List Req} (h : RepL B w L l) (hb : Below B w w') (hB : B ≤ B') : RepL B' w' L l := ⟨h.1, fun i hi => (h.2 i hi).below hb hB⟩
theorem rows_at {L : List Rw} {j : Nat} {u : Value} (h : (rcells L)[j]? = some u) : ∃ i k, i < L.length ∧ k < 3 ∧ j = i * 3 + k ∧ (rcell (nth L i))[k]? = some u := by
  have hj := (List.getElem?_eq_some_iff.1 h).1
  rw [rcells_len] at hj
  refine ⟨j / 3, j % 3, by omega, by omega, by omega, ?_⟩
  rw [← rcells_at (L := L) (k := j / 3) (by omega) (j := j % 3) (by omega), ← h]
  congr 1
  omega
/-- Parts in memory as a row's cells. -/
theorem rep_of {B : Nat} {w : World} {a : Addr} {c : Nat} {l : List Req} (h : ReqsR B w (.slice (some a) l.length c) l) : ∃ L, RepL B w L l ∧ ∀ j u, (rcells L)[j]? = some u → w.cell? (a.add j) = some u := by
  obtain ⟨_, A', c', hv, hi⟩ := h
  injection hv with e1 _ _
  subst e1
  have hone : ∀ i : Fin l.length, ∃ t : Rw, repR B w t l[i] ∧ ∀ k u, (rcell t)[k]? = some u → w.cell? (a.add (i * 3 + k)) = some u := fun i => by
    obtain ⟨b, off, cs, hA, _, _, hr, hc⟩ := hi i.1 i.2
    injection hA with hA
    subst hA
    have hr' := hr
    obtain ⟨A1, c1, rfl, _⟩ := hr'
    refine ⟨⟨l[i].key, l[i].kind, A1, l[i].vals.length, c1⟩, ⟨rfl, rfl, rfl, hr⟩, fun k u hu => ?_⟩
    rw [Addr.add_lit, ← Nat.add_assoc]
    exact hc k u hu
  refine ⟨List.ofFn fun i => Classical.choose (hone i), ⟨List.length_ofFn, fun i hi2 => ?_⟩, fun j u hj => ?_⟩
  · have he : nth (List.ofFn fun i => Classical.choose (hone i)) i = Classical.choose (hone ⟨i, hi2⟩) := by
      unfold nth
      rw [List.getD_eq_getElem?_getD, List.getElem?_eq_getElem (by rw [List.length_ofFn]; exact hi2), List.getElem_ofFn]
      rfl
    rw [he]
    exact (Classical.choose_spec (hone ⟨i, hi2⟩)).1
  · obtain ⟨i, k, hi2, hk, rfl, hu⟩ := rows_at hj
    rw [List.length_ofFn] at hi2
    have he : nth (List.ofFn fun i => Classical.choose (hone i)) i = Classical.choose (hone ⟨i, hi2⟩) := by
      unfold nth
      rw [List.getD_eq_getElem?_getD, List.getElem?_eq_getElem (by rw [List.length_ofFn]; exact hi2), List.getElem_ofFn]
      rfl
    rw [he] at hu
    exact (Classical.choose_spec (hone ⟨i, hi2⟩)).2 k u hu
/-- A row's parts, read. -/
theorem reqs_of_row {et base B : Nat} {w : World} {v : Value} {L : List Rw} {l : List Req} (h : RRow et base w v L) (hL : RepL B w L l) (hB : B ≤ w.heap.size) (hn : l.length ≤ 1099511627776) : ReqsR w.heap.size w v l := by
  rcases h with ⟨rfl, rfl⟩ | ⟨g, c, rest, rfl, _, hg, _, _⟩
  · have : l = [] := List.length_eq_zero_iff.1 hL.1.symm
    subst this
    exact ⟨hn, none, 0, rfl, fun i hi => by simp at hi⟩
  · refine ⟨hn, some ⟨g, 0, none⟩, c, by rw [hL.1], fun i hi => ⟨g, 0, rcell (nth L i), rfl, heap_lt hg, rfl, ((hL.2 i hi).2.2.2).below (Below.refl _ _) hB, fun k u hu => ?_⟩⟩
    have hk : k < 3 := (List.getElem?_eq_some_iff.1 hu).1
    rw [Nat.zero_add, row_cell hg (by rw [hL.1]; exact hi) hk]
    exact hu

theorem req_info : (Tryz.prog.info? reqT).map (fun i => (i.zero, i.size, i.bytes)) = some (some (Value.agg #[.string ⟨#[]⟩, .int .i64 0, .slice none 0 0]), 3, 48) := by kernel_rfl
set_option maxRecDepth 100000 in
set_option maxHeartbeats 2000000 in
theorem cloneQ_some (a : Addr) (n c : Nat) (L : List Rw) (w : World) (hl : L.length = n) (hn : n ≤ 1099511627776) (hc : ∀ j u, (rcells L)[j]? = some u → w.cell? (a.add j) = some u) :
    Calls Tryz.prog 28 #[.slice (some a) n c] w fun e w' => ∃ v', e = .returned v' ∧ w'.ownsRow w.heap.size reqT 3 v' n (rcells L) ∧ Ext w w' := by
  obtain ⟨i0, hi, hz0, hz1, hz2⟩ := info_parts req_info
  have HC := Lib.hid hc
  have q22 : ∀ (w : World) (a : Option Addr) (n c n' c' : Nat), (Go.binOp .eql 22 (.slice a n c) (.slice none n' c')).run Tryz.prog w = .ok (.bool a.isNone) w := fun w a n c n' c' => Lib.run_eql_slice_nil w _ _ a n c n' c' Tryz.underlying22
  clear hc
  go_enter Tryz.func28, Tryz.ntmps28
  go_wp2_with (at_builtin; refine wpList_append_own _ (by rfl) _ _ 22 (by rfl) w.heap.size reqT i0 _ 3 48 Tryz.underlying22 hi hz0 hz1 hz2 rfl (by omega) _ _ _ (by rfl) (World.ownsRow_made w #[] 0 (Nat.le_refl _) (Nat.zero_le _) (by simp)) a n c (rcells L) (by rfl) ?c1 ?c2 ?c3 ?c4 ?c5 ?c6 ?_)
  case c1 => rw [rcells_len, hl]
  case c2 =>
    intro j u hj
    exact Lib.cell?_alloc_some _ (HC.out j u hj)
  case c3 => exact rcells_one L
  case c4 => unfold maxLen; omega
  case c5 => omega
  case c6 => simp
  intro v' w1 hown hgrow _
  go_wp2
  go_ret
  exact ⟨v', rfl, by simpa using hown, ((Below.refl _ w).alloc (Nat.le_refl _) _).grown hgrow (by simp) (by intro k hk; simp [Value.ownBlock] at hk; omega)⟩
set_option maxRecDepth 100000 in
theorem cloneQ_nil (n c : Nat) (w : World) :
    Calls Tryz.prog 28 #[.slice none n c] w fun e w' => e = .returned (.slice none 0 0) ∧ w = w' := by
  have q22 : ∀ (w : World) (a : Option Addr) (n c n' c' : Nat), (Go.binOp .eql 22 (.slice a n c) (.slice none n' c')).run Tryz.prog w = .ok (.bool a.isNone) w := fun w a n c n' c' => Lib.run_eql_slice_nil w _ _ a n c n' c' Tryz.underlying22
  go_enter Tryz.func28, Tryz.ntmps28
  go_wp2
  go_ret
  exact ⟨rfl, rfl⟩
theorem cloneQ_any {B : Nat} {w : World} {v : Value} {l : List Req} (h : ReqsR B w v l) :
    Calls Tryz.prog 28 #[v] w fun e w' => ∃ A c L, e = .returned (.slice A l.length c) ∧ RRow reqT w.heap.size w' (.slice A l.length c) L ∧ RepL B w L l ∧ Ext w w' := by
  have h0 := h
  obtain ⟨hn, A, c, rfl, hi⟩ := h
  cases A with
  | none =>
    have hl : l = [] := by
      cases l with
      | nil => rfl
      | cons x r =>
        obtain ⟨_, _, _, hA, _⟩ := hi 0 (by simp)
        cases hA
    subst hl
    exact (cloneQ_nil _ _ w).mono fun e w' ⟨he, hw⟩ => ⟨none, 0, [], he, RRow.nil, ⟨rfl, fun i hi => by simp at hi⟩, by rw [← hw]; exact Below.refl _ _⟩
  | some a =>
    obtain ⟨L, hL, hc⟩ := rep_of h0
    refine (cloneQ_some a l.length c L w hL.1 hn hc).mono fun e w' ⟨v', he, ho, hx⟩ => ?_
    have hr := RRow.of_owns hL.1.symm ho
    obtain ⟨A', c', hv⟩ := hr.slice
    rw [hL.1] at hv
    subst hv
    exact ⟨A', c', L, he, hr, hL, hx⟩
end Go.Proofs.YtplfimoeggecjaaGreatDoor.Qs
namespace Go.Proofs.YtplfimoeggecjaaGreatDoor.Qs
open Go Go.RowKit Go.Lib Go.Proofs.YtplfimoeggecjaaGreatDoor.Sx

/-- Cells of a block, written one behind the other. -/
theorem heap_setCellsQ {b : Nat} {t : TypeId} {f : Nat × Nat} (vs : List Value) : ∀ (A B C : List Value) (w : World), B.length = vs.length → w.heap[b]? = some (.cells (A ++ B ++ C).toArray t f) → (w.setCells b A.length vs).heap[b]? = some (.cells (A ++ vs ++ C).toArray t f) := by
  induction vs with
  | nil =>
    intro A B C w hB h
    have : B = [] := List.length_eq_zero_iff.1 hB
    subst this
    exact h
  | cons x r ih =>
    intro A B C w hB h
    cases B with
    | nil => simp at hB
    | cons y B =>
      have h1 : (w.setCell ⟨b, A.length, none⟩ x).heap[b]? = some (.cells ((A ++ [x]) ++ B ++ C).toArray t f) := by
        simp [World.setCell, Array.getElem?_modify, h]
      have h2 := ih (A ++ [x]) B C _ (by simpa using hB) h1
      rw [List.length_append] at h2
      simpa [World.setCells] using h2
abbrev zeroQ : Value := .agg #[.string ⟨#[]⟩, .int .i64 0, .slice none 0 0]
theorem run_zeroQ (w : World) : (zeroValue reqT).run Tryz.prog w = .ok zeroQ w := by
  simp [zeroValue]
  rfl
theorem zeros_one (n : Nat) : ∀ v ∈ (Builtin.zeroCells zeroQ.cells n).toList, v.oneCell' = true := by
  intro v hv
  have hs : zeroQ.cells.size = 3 := rfl
  unfold Builtin.zeroCells at hv
  rw [Array.toList_map, List.mem_map] at hv
  obtain ⟨i, _, rfl⟩ := hv
  rw [hs]
  have h3 : i % 3 = 0 ∨ i % 3 = 1 ∨ i % 3 = 2 := by omega
  rcases h3 with h | h | h <;> rw [h] <;> rfl
theorem zeros_len (n : Nat) : (Builtin.zeroCells zeroQ.cells n).toList.length = n * 3 := by
  unfold Builtin.zeroCells
  rw [Array.length_toList, Array.size_map, Array.size_range]
  rfl
/-- The tail of a row, cleared. -/
theorem run_clearQ {w : World} {g : Nat} {et : TypeId} {cur : List Rw} {rest : List Value} (hg : w.heap[g]? = some (.cells (rcells cur ++ rest).toArray et (0, 0))) {i : Nat} (hi : i < cur.length) (c : Nat) :
    ∃ w', (∀ ty, (Builtin.clear_ #[22] ty #[.slice (some ⟨g, i * 3, none⟩) (cur.length - i) c]).run Tryz.prog w = .ok (.tuple #[]) w') ∧ (∃ zs, w'.heap[g]? = some (.cells (rcells (cur.take i) ++ zs).toArray et (0, 0)) ∧ zs.length = (cur.length - i) * 3 + rest.length) ∧ ∀ B, B ≤ g → Below B w w' := by
  have hl := zeros_len (cur.length - i)
  have h1 := zeros_one (cur.length - i)
  refine ⟨w.setCells g (i * 3) (Builtin.zeroCells zeroQ.cells (cur.length - i)).toList, ?_, ⟨(Builtin.zeroCells zeroQ.cells (cur.length - i)).toList ++ rest, ?_, ?_⟩, ?_⟩
  · intro ty
    have hst := run_storeCells_cells (P := Tryz.prog) g (i * 3) (Builtin.zeroCells zeroQ.cells (cur.length - i)).toList 0 w (fun j hj => by
      rw [hl] at hj
      rw [cell_of hg, List.getElem?_toArray, List.getElem?_append_left (by rw [rcells_len]; omega)]
      rw [List.getElem?_eq_getElem (by rw [rcells_len]; omega)]
      rfl) (fun j _ => row_free hg) h1
    simp only [Nat.add_zero] at hst
    obtain ⟨m, hm⟩ : ∃ m, cur.length - i = m + 1 := ⟨cur.length - i - 1, by omega⟩
    rw [hm] at hst ⊢
    simp [Builtin.clear_, run_underlying Tryz.underlying22, run_zeroQ, hst]
  · have hsplit : rcells cur ++ rest = rcells (cur.take i) ++ rcells (cur.drop i) ++ rest := by rw [← rcells_append, List.take_append_drop]
    rw [hsplit] at hg
    have h2 := heap_setCellsQ (Builtin.zeroCells zeroQ.cells (cur.length - i)).toList (rcells (cur.take i)) (rcells (cur.drop i)) rest w (by rw [hl, rcells_len, List.length_drop]) hg
    rw [rcells_len, List.length_take, Nat.min_eq_left (by omega)] at h2
    rw [h2, List.append_assoc]
  · rw [List.length_append, hl]
  · intro B hB
    have hgr := grown_setCellsB w g (i * 3) (Builtin.zeroCells zeroQ.cells (cur.length - i)).toList
    exact ⟨hgr.os, hgr.tape, hgr.output, hgr.size, fun k hk => hgr.block k (by have := heap_lt hg; omega) (fun e => by injection e with e; omega)⟩
end Go.Proofs.YtplfimoeggecjaaGreatDoor.Qs
namespace Go.Proofs.YtplfimoeggecjaaGreatDoor.Qs
open Go Go.RowKit Go.Lib Go.Proofs.YtplfimoeggecjaaGreatDoor.Sx

def keepK (key : ByteArray) (r : Req) : Bool := eqS r.key key
theorem RepL.snoc {B : Nat} {w : World} {L : List Rw} {l : List Req} {t : Rw} {r : Req} (h : RepL B w L l) (hr : repR B w t r) : RepL B w (L ++ [t]) (l ++ [r]) := by
  refine ⟨by rw [List.length_append, List.length_append, h.1]; rfl, fun i hi => ?_⟩
  have hL := h.1
  rcases Nat.lt_or_ge i l.length with h1 | h1
  · have e1 : nth (L ++ [t]) i = nth L i := by unfold nth; rw [List.getD_eq_getElem?_getD, List.getD_eq_getElem?_getD, List.getElem?_append_left (by omega)]
    rw [e1, List.getElem_append_left h1]
    exact h.2 i h1
  · have hi2 : i = l.length := by simp at hi; omega
    subst hi2
    have e1 : nth (L ++ [t]) l.length = t := by unfold nth; rw [List.getD_eq_getElem?_getD, List.getElem?_append_right (by omega), hL]; simp
    rw [e1, List.getElem_append_right (by omega)]
    simpa using hr
theorem nth_set_ne {L : List Rw} {a i : Nat} (t : Rw) (h : a ≠ i) : nth (L.set a t) i = nth L i := by
  unfold nth
  rw [List.getD_eq_getElem?_getD, List.getD_eq_getElem?_getD, List.getElem?_set_ne h]
def DelI (base B g c : Nat) (key : ByteArray) (w wr : World) (L : List Rw) (l : List Req) (a j : Nat) (cur : List Rw) (rest : List Value) : Prop :=
  a < j ∧ j ≤ l.length ∧ wr.heap[g]? = some (.cells (rcells cur ++ rest).toArray reqT (0, 0)) ∧ cur.length = l.length ∧ l.length * 3 + rest.length = c * 3 ∧ Below base w wr ∧ (∀ i, j ≤ i → i < l.length → nth cur i = nth L i) ∧ RepL B w (cur.take a) ((l.take j).filter (keepK key))
theorem filter_succ {l : List Req} {j : Nat} (h : j < l.length) (p : Req → Bool) : (l.take (j + 1)).filter p = (l.take j).filter p ++ (if p l[j] then [l[j]] else []) := by
  rw [List.take_succ_eq_append_getElem h, List.filter_append]
  congr 1
  by_cases hp : p l[j] = true
  · rw [if_pos hp, List.filter_cons_of_pos hp]; rfl
  · rw [if_neg hp, List.filter_cons_of_neg hp]; rfl
theorem DelI.drop {base B g c : Nat} {key : ByteArray} {w wr w2 : World} {L : List Rw} {l : List Req} {a j : Nat} {cur : List Rw} {rest : List Value} (h : DelI base B g c key w wr L l a j cur rest) (hj : j < l.length) (hx : Ext wr w2) (hk : keepK key l[j] = false) (hb : base ≤ wr.heap.size) : DelI base B g c key w w2 L l a (j + 1) cur rest := by
  obtain ⟨h1, h2, h3, h4, h5, h6, h7, h8⟩ := h
  refine ⟨by omega, hj, (hx.block _ (heap_lt h3)).trans h3, h4, h5, h6.trans (hx.mono hb), fun i hi hl => h7 i (by omega) hl, ?_⟩
  rw [filter_succ hj, hk]
  simpa using h8
theorem DelI.keep {base B g c : Nat} {key : ByteArray} {w wr w2 w3 : World} {L : List Rw} {l : List Req} {a j : Nat} {cur : List Rw} {rest : List Value} (h : DelI base B g c key w wr L l a j cur rest) (hL : RepL B w L l) (hj : j < l.length) (hx : Ext wr w2) (hk : keepK key l[j] = true) (hb : base ≤ wr.heap.size) (hg : base ≤ g)
    (h9 : w3 = ((w2.setCell ⟨g, a * 3, none⟩ (.string (nth L j).key)).setCell ⟨g, a * 3 + 1, none⟩ (.int .i64 (nth L j).kind)).setCell ⟨g, a * 3 + 2, none⟩ (.slice (nth L j).A (nth L j).n (nth L j).c)) : DelI base B g c key w w3 L l (a + 1) (j + 1) (cur.set a (nth L j)) rest := by
  obtain ⟨h1, h2, h3, h4, h5, h6, h7, h8⟩ := h
  subst h9
  have hg2 := (hx.block _ (heap_lt h3)).trans h3
  refine ⟨by omega, hj, row_put hg2 (by omega) _, by rw [List.length_set, h4], h5, (((h6.trans (hx.mono hb)).setCell (p := ⟨g, a * 3, none⟩) hg _).setCell (p := ⟨g, a * 3 + 1, none⟩) hg _).setCell (p := ⟨g, a * 3 + 2, none⟩) hg _, fun i hi hl => ?_, ?_⟩
  · rw [nth_set_ne _ (by omega)]
    exact h7 i (by omega) hl
  · rw [filter_succ hj, hk, if_pos rfl]
    have e1 : (cur.set a (nth L j)).take (a + 1) = cur.take a ++ [nth L j] := by
      rw [List.take_succ_eq_append_getElem (by rw [List.length_set]; omega), List.take_set_of_le (Nat.le_refl _), List.getElem_set_self]
    rw [e1]
    exact h8.snoc (hL.2 j hj)
/-- Ahead of the loop: the first that goes stands at i. -/
theorem DelI.start {base B g c : Nat} {key : ByteArray} {w wr : World} {L : List Rw} {l : List Req} {i : Nat} {rest : List Value} (hg : wr.heap[g]? = some (.cells (rcells L ++ rest).toArray reqT (0, 0))) (hL : RepL B w L l) (hr : l.length * 3 + rest.length = c * 3) (hb : Below base w wr) (hi : i < l.length)
    (hp : (!(eqS l[i].key key)) = true) (hn : noneTo (fun r => !(eqS r.key key)) l i) : DelI base B g c key w wr L l i (i + 1) L rest := by
  refine ⟨by omega, hi, hg, hL.1, hr, hb, fun _ _ _ => rfl, ?_⟩
  have hk : keepK key l[i] = false := by unfold keepK; simpa using hp
  rw [filter_succ hi, hk]
  have he : (l.take i).filter (keepK key) = l.take i := by
    rw [List.filter_eq_self]
    intro r hr2
    obtain ⟨x, hx, rfl⟩ := List.mem_take_iff_getElem.1 hr2
    have := hn x (by omega) (by omega)
    unfold keepK
    simpa using this
  rw [he]
  simp only [Bool.false_eq_true, if_false, List.append_nil]
  refine ⟨by rw [List.length_take, List.length_take, hL.1], fun x hx => ?_⟩
  rw [List.length_take] at hx
  have e1 : nth (L.take i) x = nth L x := by unfold nth; rw [List.getD_eq_getElem?_getD, List.getD_eq_getElem?_getD, List.getElem?_take_of_lt (by omega)]
  rw [e1, List.getElem_take]
  exact hL.2 x (by omega)
theorem keep_all {l : List Req} {key : ByteArray} (h : noneTo (fun r => !(eqS r.key key)) l l.length) : l.filter (keepK key) = l := by
  rw [List.filter_eq_self]
  intro r hr
  obtain ⟨x, hx, rfl⟩ := List.mem_iff_getElem.1 hr
  have := h x hx hx
  unfold keepK
  simpa using this
end Go.Proofs.YtplfimoeggecjaaGreatDoor.Qs
namespace Go.Proofs.YtplfimoeggecjaaGreatDoor.Qs
open Go Go.RowKit Go.Lib Go.Proofs.YtplfimoeggecjaaGreatDoor.Sx

def DelPost (base B : Nat) (key : ByteArray) (w : World) (l : List Req) (e : Ending) (w' : World) : Prop :=
  ∃ A c m cur, e = .returned (.slice A m c) ∧ RRow reqT base w' (.slice A m c) cur ∧ RepL B w cur (l.filter (keepK key)) ∧ cur.length = m ∧ Below base w w'

set_option maxRecDepth 100000 in
set_option maxHeartbeats 4000000 in
theorem deleteQ_any (base B k : Nat) (key : ByteArray) (A : Option Addr) (c : Nat) (L : List Rw) (l : List Req) (w : World) (hrow : RRow reqT base w (.slice A l.length c) L) (hL : RepL B w L l) (hBb : B ≤ base) (hbw : base ≤ w.heap.size) (hk : KeyIn w k key) (hkb : k < base) (hn : l.length ≤ 1099511627776) :
    Calls Tryz.prog 97 #[.slice A l.length c, .func (.func 98) #[] #[.pointer (some ⟨k, 0, none⟩)]] w (DelPost base B key w l) := by
  have HV : Hid (ReqsR w.heap.size w (.slice A l.length c) l) := reqs_of_row hrow hL (Nat.le_trans hBb hbw) hn
  have HR := Lib.hid (And.intro hrow hL)
  have HK := Lib.hid hk
  have HB := Lib.hid (And.intro hBb (And.intro hbw hkb))
  clear hrow hL hk hBb hbw hkb
  go_enter Tryz.func97, Tryz.ntmps97
  go_wp2_with fail
  refine Calls.mono (firstOther_any w.heap.size k key _ l w (Nat.le_refl _) HV.out HK.out) ?_
  rintro e w1 ⟨hres, hx1⟩
  have HX1 := Lib.hid hx1
  clear hx1
  rcases hres with ⟨i, hi, rfl, hp, hno⟩ | ⟨rfl, hno⟩
  · have HI := Lib.hid (And.intro hp hno)
    obtain ⟨g, rest, hA, hbg, hg, hcc, hcm⟩ : ∃ g rest, A = some ⟨g, 0, none⟩ ∧ base ≤ g ∧ w.heap[g]? = some (.cells (rcells L ++ rest).toArray reqT (0, 0)) ∧ l.length * 3 + rest.length = c * 3 ∧ c ≤ maxLen := by
      rcases HR.out.1 with ⟨_, h0⟩ | ⟨g, c', rest, hv, hb, hg, hc, hm⟩
      · have := HR.out.2.1
        rw [h0] at this
        simp at this
        omega
      · injection hv with h1 h2 h3
        subst h3
        exact ⟨g, rest, h1, hb, hg, by rw [h2]; exact hc, hm⟩
    subst hA
    have HG := Lib.hid (And.intro hbg (And.intro hg hcc))
    have HCM : Hid (c ≤ maxLen) := hcm
    have eI : ((i : Int) == -1) = false := by simp
    clear hp hno hbg hg hcc hcm
    go_wp2
    go_loopw [5, 6, 7] (fun x5 x6 _ wr => ∃ (a j : Nat) (cur : List Rw), x5 = .int .i64 (a : Int) ∧ x6 = .int .i64 (j : Int) ∧ Hid (DelI base B g c key w wr L l a j cur rest) ∧ Hid (w.heap.size ≤ wr.heap.size)) (fun _ x6 _ _ => l.length - (intOf x6).toNat)
    case atStart => exact ⟨i, i + 1, L, rfl, by go_num, DelI.start ((HX1.out.block _ (heap_lt HG.out.2.1)).trans HG.out.2.1) HR.out.2 HG.out.2.2 (HX1.out.mono HB.out.2.1) hi HI.out.1 HI.out.2, HX1.out.size⟩
    case round =>
      obtain ⟨a, j, cur, rfl, rfl, hD, hS⟩ := hrel
      by_cases hlt : j < l.length
      · obtain ⟨t, ht⟩ : ∃ t, t = nth L j := ⟨_, rfl⟩
        obtain ⟨x0, x1, x2⟩ : wr.cell? ⟨g, j * 3, none⟩ = some (.string t.key) ∧ wr.cell? ⟨g, j * 3 + 1, none⟩ = some (.int .i64 t.kind) ∧ wr.cell? ⟨g, j * 3 + 2, none⟩ = some (.slice t.A t.n t.c) := by
          have := row_three hD.out.2.2.1 (k := j) (by have := hD.out.2.2.2.1; omega)
          rw [hD.out.2.2.2.2.2.2.1 j (Nat.le_refl _) hlt, ← ht] at this
          exact this
        have hek : eqS t.key key = keepK key l[j] := by
          have := (HR.out.2.2 j hlt).1
          rw [← ht] at this
          rw [this]
          rfl
        have HKr : Hid (KeyIn wr k key) := (hD.out.2.2.2.2.2.1.block _ HB.out.2.2).trans HK.out
        have HAL : Hid (∀ o, Ext wr (wr.alloc o)) := fun o => (Below.refl _ _).alloc (Nat.le_refl _) o
        have hbr := Nat.le_trans HB.out.2.1 hS.out
        have HT := Lib.hid ht
        have HEK := Lib.hid hek
        have HBR := Lib.hid hbr
        clear ht hek hbr
        go_wp2_with fail
        refine Calls.mono (other_any k key ⟨t.key, t.kind, []⟩ _ _ (HKr.out.ext (HAL.out _))) ?_
        rintro e w2 ⟨rfl, hx2⟩
        have hx3 : Ext wr w2 := (HAL.out _).trans hx2
        have hnew : w2.heap[wr.heap.size]? = some (.cells #[.string t.key, .int .i64 t.kind, .slice t.A t.n t.c] reqT (0, 0)) := (hx2.block _ (heap_lt (heap_new rfl))).trans (heap_new rfl)
        obtain ⟨z0, z1, z2⟩ := cells3' hnew
        clear hnew
        have HX3 := Lib.hid hx3
        clear hx2
        have hal : a < l.length := by have := hD.out.1; omega
        cases hb : eqS t.key key with
        | true =>
          have HKT : Hid (keepK key l[j] = true) := HEK.out.symm.trans hb
          have hg2 := (HX3.out.block _ (heap_lt hD.out.2.2.1)).trans hD.out.2.2.1
          obtain ⟨y0, y1, y2⟩ := row_three hg2 (k := a) (by have := hD.out.2.2.2.1; omega)
          have f0 := row_free (k := a * 3) hg2
          have f1 := row_free (k := a * 3 + 1) hg2
          have f2 := row_free (k := a * 3 + 2) hg2
          obtain ⟨w3, hw3⟩ : ∃ w3, w3 = ((w2.setCell ⟨g, a * 3, none⟩ (.string t.key)).setCell ⟨g, a * 3 + 1, none⟩ (.int .i64 t.kind)).setCell ⟨g, a * 3 + 2, none⟩ (.slice t.A t.n t.c) := ⟨_, rfl⟩
          have HW := Lib.hid hw3
          have hw4 := hw3.symm
          clear hw3 hg2 hx3
          go_wp2
          go_roundw
          case rel => exact ⟨a + 1, j + 1, cur.set a (nth L j), by go_num, by go_num, DelI.keep hD.out HR.out.2 hlt HX3.out HKT.out HBR.out HG.out.1 (by rw [← HT.out]; exact HW.out), by rw [HW.out]; exact Nat.le_trans hS.out (Nat.le_trans HX3.out.size (by simp [World.setCell]))⟩
          case measure => simp [intOf]; omega
        | false =>
          have HKT : Hid (keepK key l[j] = false) := HEK.out.symm.trans hb
          clear hx3
          go_wp2
          go_roundw
          case rel => exact ⟨a, j + 1, cur, rfl, by go_num, DelI.drop hD.out hlt HX3.out HKT.out HBR.out, Nat.le_trans hS.out HX3.out.size⟩
          case measure => simp [intOf]; omega
      · have hal : a < l.length := by have := hD.out.1; have := hD.out.2.1; omega
        have hlc : l.length ≤ c := by have := HG.out.2.2; omega
        obtain ⟨w9, hclr, hz, hbel⟩ := run_clearQ hD.out.2.2.1 (i := a) (by have := hD.out.2.2.2.1; omega) (c - a)
        rw [hD.out.2.2.2.1] at hclr hz
        have HZ := Lib.hid (And.intro hz hbel)
        have HAL : Hid (a < l.length) := hal
        clear hz hbel
        go_wp2
        go_ret
        obtain ⟨zs, hz, hzl⟩ := HZ.out.1
        have hcl := hD.out.2.2.2.1
        refine ⟨_, _, a, cur.take a, rfl, .inr ⟨g, c, zs, ?_, HG.out.1, hz, ?_, ?_⟩, ?_, ?_, ?_⟩
        · rw [List.length_take, Nat.min_eq_left (by have := HAL.out; omega)]
        · rw [List.length_take, Nat.min_eq_left (by have := HAL.out; omega), hzl]
          have := HG.out.2.2
          have := HAL.out
          omega
        · exact HCM.out
        · have h8 := hD.out.2.2.2.2.2.2.2
          rw [List.take_of_length_le (l := l) (i := j) (by omega)] at h8
          exact h8
        · rw [List.length_take, Nat.min_eq_left (by have := HAL.out; omega)]
        · exact hD.out.2.2.2.2.2.1.trans (HZ.out.2 base HG.out.1)
  · have e1 : ((-1 : Int) == -1) = true := rfl
    have HN := Lib.hid hno
    clear hno
    go_wp2
    go_ret
    refine ⟨A, c, l.length, L, rfl, ?_, ?_, HR.out.2.1, HX1.out.mono HB.out.2.1⟩
    · exact HR.out.1.ext HX1.out
    · rw [keep_all HN.out]; exact HR.out.2
end Go.Proofs.YtplfimoeggecjaaGreatDoor.Qs
namespace Go.Proofs.YtplfimoeggecjaaGreatDoor.Qs
open Go Go.RowKit Go.Lib Go.Proofs.YtplfimoeggecjaaGreatDoor.Sx

/-- The box of the parts about a key. -/
def AboutIn (w : World) (k : Nat) (v : Value) : Prop := w.heap[k]? = some (.cells #[v] 22 (0, 0))
theorem AboutIn.ext {w w' : World} {k : Nat} {v : Value} (h : AboutIn w k v) (hx : Ext w w') : AboutIn w' k v := (hx.block _ (heap_lt h)).trans h
theorem lab_one {w : World} {b : Nat} {x : Lab} (h : w.heap[b]? = some (.cells #[.string x.key, .string x.val] 31 (0, 0))) (hk : x.key.size ≤ 1048576) (hv : x.val.size ≤ 1048576) : LabsR w.heap.size w (.slice (some ⟨b, 0, none⟩) 1 1) [x] := by
  refine ⟨by simp, some ⟨b, 0, none⟩, 1, rfl, fun i hi => ?_⟩
  have hi0 : i = 0 := by simp at hi; exact hi
  subst hi0
  exact ⟨b, 0, [.string x.key, .string x.val], rfl, heap_lt h, rfl, ⟨rfl, hk, hv⟩, fun k u hu => by rw [cell_of h, Nat.zero_mul, Nat.zero_add]; simpa using hu⟩

set_option maxRecDepth 100000 in
set_option maxHeartbeats 2000000 in
theorem okV_any (ka kb : Nat) (A : Option Addr) (c : Nat) (ab : List Req) (key v : ByteArray) (w : World) (hB : ReqsR w.heap.size w (.slice A ab.length c) ab) (ha : AboutIn w ka (.slice A ab.length c)) (hb : KeyIn w kb key) (hk : key.size ≤ 1048576) (hv : v.size ≤ 1048576) :
    Calls Tryz.prog 99 #[.string v, .pointer (some ⟨ka, 0, none⟩), .pointer (some ⟨kb, 0, none⟩)] w fun e w' => e = .returned (.bool (allB ab [⟨key, v⟩])) ∧ Ext w w' := by
  have HV := Lib.hid hB
  have x0 : w.cell? ⟨ka, 0, none⟩ = some (.slice A ab.length c) := cell_of ha 0
  have x1 : w.cell? ⟨kb, 0, none⟩ = some (.string key) := cell_of hb 0
  have HK := Lib.hid (And.intro hk hv)
  have HAL : Hid (∀ o, Ext w (w.alloc o)) := fun o => (Below.refl _ _).alloc (Nat.le_refl _) o
  clear hB ha hb hk hv
  go_enter Tryz.func99, Tryz.ntmps99
  go_wp2_with fail
  refine Calls.mono (all_any' (w.alloc (.cells #[.string key, .string v] 31)).heap.size _ _ ab [⟨key, v⟩] _ (Nat.le_refl _) (HV.out.below (HAL.out _) (HAL.out _).size) (lab_one (heap_new rfl) HK.out.1 HK.out.2)) ?_
  rintro e w2 ⟨rfl, hx2⟩
  have HX2 : Hid (Ext w w2) := (HAL.out _).trans hx2
  clear hx2
  go_wp2
  go_ret
  exact ⟨rfl, HX2.out⟩
end Go.Proofs.YtplfimoeggecjaaGreatDoor.Qs
namespace Go.Proofs.YtplfimoeggecjaaGreatDoor.Qs
open Go Go.RowKit Go.Lib Go.Proofs.YtplfimoeggecjaaGreatDoor.Sx

theorem results_q {fn : Func} {p : Tmp} (h : fn.results = #[.cell p reqT]) (tmps : Array Value) (w : World) (g : Nat) {key : ByteArray} {kd : Int} {A : Option Addr} {n c : Nat} (hp : tmps.getD p undef = .pointer (some ⟨g, 0, none⟩)) (hg : w.heap[g]? = some (.cells #[.string key, .int .i64 kd, .slice A n c] reqT (0, 0))) :
    (results fn tmps).run Tryz.prog w = .ok (.agg #[.string key, .int .i64 kd, .slice A n c]) w :=
  results_cell_row h tmps w g _ _ _ _ hp hg Tryz.underlying56 rfl (by kernel_rfl)

set_option maxRecDepth 100000 in
set_option maxHeartbeats 2000000 in
theorem opposite_any (r : Req) (A : Option Addr) (n c : Nat) (w : World) (hk : 1 ≤ r.kind ∧ r.kind ≤ 4) :
    Calls Tryz.prog 29 #[.agg #[.string r.key, .int .i64 r.kind, .slice A n c]] w fun e w' => e = .returned (.agg #[.string r.key, .int .i64 (oppK r.kind), .slice A n c]) ∧ Ext w w' := by
  obtain ⟨key, kind, vals⟩ := r
  have h4 : kind = 1 ∨ kind = 2 ∨ kind = 3 ∨ kind = 4 := by have := hk.1; have := hk.2; simp only at *; omega
  clear hk
  rcases h4 with rfl | rfl | rfl | rfl
  · go_enter Tryz.func29, Tryz.ntmps29
    go_wp2
    obtain ⟨W, hW⟩ : ∃ W, W = (w.alloc (.cells #[.string key, .int .i64 1, .slice A n c] reqT)).alloc (.cells #[.string ⟨#[]⟩, .int .i64 0, .slice none 0 0] reqT) := ⟨_, rfl⟩
    have hx : Ext w W := by rw [hW]; exact (new_ext _ _).trans (new_ext _ _)
    have h1 : W.heap[w.heap.size]? = some (.cells #[.string key, .int .i64 1, .slice A n c] reqT (0, 0)) := by rw [hW, Below.heap_alloc _ _ _ (by show _ < (w.heap.push _).size; rw [Array.size_push]; omega)]; exact heap_new rfl
    have h2 : W.heap[w.heap.size + 1]? = some (.cells #[.string ⟨#[]⟩, .int .i64 0, .slice none 0 0] reqT (0, 0)) := by rw [hW]; exact heap_new (by show _ = (w.heap.push _).size; rw [Array.size_push])
    rw [← hW]
    obtain ⟨x0, x1, x2⟩ := cells3' h1
    have HX := Lib.hid hx
    have HY := Lib.hid h2
    clear hW hx h1 h2
    have hix : ∀ w, (Instr.index 90 (.agg #[.int .i64 0, .int .i64 2, .int .i64 1, .int .i64 4, .int .i64 3]) (.int .i64 1)).run Tryz.prog w = .ok (.int .i64 2) w := fun _ => rfl
    go_still_tail 9, (by kernel_rfl)
    change wpList _ _ _ _ _ W.drew
    clear x0 x1 x2 hix
    obtain ⟨V, hV⟩ : ∃ V, V = W.drew := ⟨_, rfl⟩
    have h2 : V.heap[w.heap.size + 1]? = some (.cells #[.string ⟨#[]⟩, .int .i64 0, .slice none 0 0] reqT (0, 0)) := by rw [hV]; exact HY.out
    have hx : Ext w V := by rw [hV]; exact HX.out.drew
    rw [← hV]
    obtain ⟨y0, y1, y2⟩ := cells3' h2
    have f0 := row_free (k := 0) h2
    have f1 := row_free (k := 1) h2
    have f2 := row_free (k := 2) h2
    obtain ⟨U, hU⟩ : ∃ U, U = ((V.setCell ⟨w.heap.size + 1, 0, none⟩ (.string key)).setCell ⟨w.heap.size + 1, 1, none⟩ (.int .i64 2)).setCell ⟨w.heap.size + 1, 2, none⟩ (.slice A n c) := ⟨_, rfl⟩
    have h5 : U.heap[w.heap.size + 1]? = some (.cells #[.string key, .int .i64 2, .slice A n c] reqT (0, 0)) := by
      rw [hU]
      exact heap_setCell_same _ _ _ _ _ _ (heap_setCell_same _ _ _ _ _ _ (heap_setCell_same _ _ _ _ _ _ h2))
    have hxU : Ext w U := by
      rw [hU]
      exact ((hx.setCell (p := ⟨w.heap.size + 1, 0, none⟩) (Nat.le_succ _) _).setCell (p := ⟨w.heap.size + 1, 1, none⟩) (Nat.le_succ _) _).setCell (p := ⟨w.heap.size + 1, 2, none⟩) (Nat.le_succ _) _
    have hU2 := hU.symm
    have H5 := Lib.hid (And.intro h5 hxU)
    clear hV hU h2 hx h5 hxU HX HY
    go_wp2
    refine bodyPost_ret (results_q rfl _ _ (w.heap.size + 1) rfl H5.out.1) rfl ?_
    exact ⟨rfl, H5.out.2⟩
  · go_enter Tryz.func29, Tryz.ntmps29
    go_wp2
    obtain ⟨W, hW⟩ : ∃ W, W = (w.alloc (.cells #[.string key, .int .i64 2, .slice A n c] reqT)).alloc (.cells #[.string ⟨#[]⟩, .int .i64 0, .slice none 0 0] reqT) := ⟨_, rfl⟩
    have hx : Ext w W := by rw [hW]; exact (new_ext _ _).trans (new_ext _ _)
    have h1 : W.heap[w.heap.size]? = some (.cells #[.string key, .int .i64 2, .slice A n c] reqT (0, 0)) := by rw [hW, Below.heap_alloc _ _ _ (by show _ < (w.heap.push _).size; rw [Array.size_push]; omega)]; exact heap_new rfl
    have h2 : W.heap[w.heap.size + 1]? = some (.cells #[.string ⟨#[]⟩, .int .i64 0, .slice none 0 0] reqT (0, 0)) := by rw [hW]; exact heap_new (by show _ = (w.heap.push _).size; rw [Array.size_push])
    rw [← hW]
    obtain ⟨x0, x1, x2⟩ := cells3' h1
    have HX := Lib.hid hx
    have HY := Lib.hid h2
    clear hW hx h1 h2
    have hix : ∀ w, (Instr.index 90 (.agg #[.int .i64 0, .int .i64 2, .int .i64 1, .int .i64 4, .int .i64 3]) (.int .i64 2)).run Tryz.prog w = .ok (.int .i64 1) w := fun _ => rfl
    go_still_tail 9, (by kernel_rfl)
    change wpList _ _ _ _ _ W.drew
    clear x0 x1 x2 hix
    obtain ⟨V, hV⟩ : ∃ V, V = W.drew := ⟨_, rfl⟩
    have h2 : V.heap[w.heap.size + 1]? = some (.cells #[.string ⟨#[]⟩, .int .i64 0, .slice none 0 0] reqT (0, 0)) := by rw [hV]; exact HY.out
    have hx : Ext w V := by rw [hV]; exact HX.out.drew
    rw [← hV]
    obtain ⟨y0, y1, y2⟩ := cells3' h2
    have f0 := row_free (k := 0) h2
    have f1 := row_free (k := 1) h2
    have f2 := row_free (k := 2) h2
    obtain ⟨U, hU⟩ : ∃ U, U = ((V.setCell ⟨w.heap.size + 1, 0, none⟩ (.string key)).setCell ⟨w.heap.size + 1, 1, none⟩ (.int .i64 1)).setCell ⟨w.heap.size + 1, 2, none⟩ (.slice A n c) := ⟨_, rfl⟩
    have h5 : U.heap[w.heap.size + 1]? = some (.cells #[.string key, .int .i64 1, .slice A n c] reqT (0, 0)) := by
      rw [hU]
      exact heap_setCell_same _ _ _ _ _ _ (heap_setCell_same _ _ _ _ _ _ (heap_setCell_same _ _ _ _ _ _ h2))
    have hxU : Ext w U := by
      rw [hU]
      exact ((hx.setCell (p := ⟨w.heap.size + 1, 0, none⟩) (Nat.le_succ _) _).setCell (p := ⟨w.heap.size + 1, 1, none⟩) (Nat.le_succ _) _).setCell (p := ⟨w.heap.size + 1, 2, none⟩) (Nat.le_succ _) _
    have hU2 := hU.symm
    have H5 := Lib.hid (And.intro h5 hxU)
    clear hV hU h2 hx h5 hxU HX HY
    go_wp2
    refine bodyPost_ret (results_q rfl _ _ (w.heap.size + 1) rfl H5.out.1) rfl ?_
    exact ⟨rfl, H5.out.2⟩
  · go_enter Tryz.func29, Tryz.ntmps29
    go_wp2
    obtain ⟨W, hW⟩ : ∃ W, W = (w.alloc (.cells #[.string key, .int .i64 3, .slice A n c] reqT)).alloc (.cells #[.string ⟨#[]⟩, .int .i64 0, .slice none 0 0] reqT) := ⟨_, rfl⟩
    have hx : Ext w W := by rw [hW]; exact (new_ext _ _).trans (new_ext _ _)
    have h1 : W.heap[w.heap.size]? = some (.cells #[.string key, .int .i64 3, .slice A n c] reqT (0, 0)) := by rw [hW, Below.heap_alloc _ _ _ (by show _ < (w.heap.push _).size; rw [Array.size_push]; omega)]; exact heap_new rfl
    have h2 : W.heap[w.heap.size + 1]? = some (.cells #[.string ⟨#[]⟩, .int .i64 0, .slice none 0 0] reqT (0, 0)) := by rw [hW]; exact heap_new (by show _ = (w.heap.push _).size; rw [Array.size_push])
    rw [← hW]
    obtain ⟨x0, x1, x2⟩ := cells3' h1
    have HX := Lib.hid hx
    have HY := Lib.hid h2
    clear hW hx h1 h2
    have hix : ∀ w, (Instr.index 90 (.agg #[.int .i64 0, .int .i64 2, .int .i64 1, .int .i64 4, .int .i64 3]) (.int .i64 3)).run Tryz.prog w = .ok (.int .i64 4) w := fun _ => rfl
    go_still_tail 9, (by kernel_rfl)
    change wpList _ _ _ _ _ W.drew
    clear x0 x1 x2 hix
    obtain ⟨V, hV⟩ : ∃ V, V = W.drew := ⟨_, rfl⟩
    have h2 : V.heap[w.heap.size + 1]? = some (.cells #[.string ⟨#[]⟩, .int .i64 0, .slice none 0 0] reqT (0, 0)) := by rw [hV]; exact HY.out
    have hx : Ext w V := by rw [hV]; exact HX.out.drew
    rw [← hV]
    obtain ⟨y0, y1, y2⟩ := cells3' h2
    have f0 := row_free (k := 0) h2
    have f1 := row_free (k := 1) h2
    have f2 := row_free (k := 2) h2
    obtain ⟨U, hU⟩ : ∃ U, U = ((V.setCell ⟨w.heap.size + 1, 0, none⟩ (.string key)).setCell ⟨w.heap.size + 1, 1, none⟩ (.int .i64 4)).setCell ⟨w.heap.size + 1, 2, none⟩ (.slice A n c) := ⟨_, rfl⟩
    have h5 : U.heap[w.heap.size + 1]? = some (.cells #[.string key, .int .i64 4, .slice A n c] reqT (0, 0)) := by
      rw [hU]
      exact heap_setCell_same _ _ _ _ _ _ (heap_setCell_same _ _ _ _ _ _ (heap_setCell_same _ _ _ _ _ _ h2))
    have hxU : Ext w U := by
      rw [hU]
      exact ((hx.setCell (p := ⟨w.heap.size + 1, 0, none⟩) (Nat.le_succ _) _).setCell (p := ⟨w.heap.size + 1, 1, none⟩) (Nat.le_succ _) _).setCell (p := ⟨w.heap.size + 1, 2, none⟩) (Nat.le_succ _) _
    have hU2 := hU.symm
    have H5 := Lib.hid (And.intro h5 hxU)
    clear hV hU h2 hx h5 hxU HX HY
    go_wp2
    refine bodyPost_ret (results_q rfl _ _ (w.heap.size + 1) rfl H5.out.1) rfl ?_
    exact ⟨rfl, H5.out.2⟩
  · go_enter Tryz.func29, Tryz.ntmps29
    go_wp2
    obtain ⟨W, hW⟩ : ∃ W, W = (w.alloc (.cells #[.string key, .int .i64 4, .slice A n c] reqT)).alloc (.cells #[.string ⟨#[]⟩, .int .i64 0, .slice none 0 0] reqT) := ⟨_, rfl⟩
    have hx : Ext w W := by rw [hW]; exact (new_ext _ _).trans (new_ext _ _)
    have h1 : W.heap[w.heap.size]? = some (.cells #[.string key, .int .i64 4, .slice A n c] reqT (0, 0)) := by rw [hW, Below.heap_alloc _ _ _ (by show _ < (w.heap.push _).size; rw [Array.size_push]; omega)]; exact heap_new rfl
    have h2 : W.heap[w.heap.size + 1]? = some (.cells #[.string ⟨#[]⟩, .int .i64 0, .slice none 0 0] reqT (0, 0)) := by rw [hW]; exact heap_new (by show _ = (w.heap.push _).size; rw [Array.size_push])
    rw [← hW]
    obtain ⟨x0, x1, x2⟩ := cells3' h1
    have HX := Lib.hid hx
    have HY := Lib.hid h2
    clear hW hx h1 h2
    have hix : ∀ w, (Instr.index 90 (.agg #[.int .i64 0, .int .i64 2, .int .i64 1, .int .i64 4, .int .i64 3]) (.int .i64 4)).run Tryz.prog w = .ok (.int .i64 3) w := fun _ => rfl
    go_still_tail 9, (by kernel_rfl)
    change wpList _ _ _ _ _ W.drew
    clear x0 x1 x2 hix
    obtain ⟨V, hV⟩ : ∃ V, V = W.drew := ⟨_, rfl⟩
    have h2 : V.heap[w.heap.size + 1]? = some (.cells #[.string ⟨#[]⟩, .int .i64 0, .slice none 0 0] reqT (0, 0)) := by rw [hV]; exact HY.out
    have hx : Ext w V := by rw [hV]; exact HX.out.drew
    rw [← hV]
    obtain ⟨y0, y1, y2⟩ := cells3' h2
    have f0 := row_free (k := 0) h2
    have f1 := row_free (k := 1) h2
    have f2 := row_free (k := 2) h2
    obtain ⟨U, hU⟩ : ∃ U, U = ((V.setCell ⟨w.heap.size + 1, 0, none⟩ (.string key)).setCell ⟨w.heap.size + 1, 1, none⟩ (.int .i64 3)).setCell ⟨w.heap.size + 1, 2, none⟩ (.slice A n c) := ⟨_, rfl⟩
    have h5 : U.heap[w.heap.size + 1]? = some (.cells #[.string key, .int .i64 3, .slice A n c] reqT (0, 0)) := by
      rw [hU]
      exact heap_setCell_same _ _ _ _ _ _ (heap_setCell_same _ _ _ _ _ _ (heap_setCell_same _ _ _ _ _ _ h2))
    have hxU : Ext w U := by
      rw [hU]
      exact ((hx.setCell (p := ⟨w.heap.size + 1, 0, none⟩) (Nat.le_succ _) _).setCell (p := ⟨w.heap.size + 1, 1, none⟩) (Nat.le_succ _) _).setCell (p := ⟨w.heap.size + 1, 2, none⟩) (Nat.le_succ _) _
    have hU2 := hU.symm
    have H5 := Lib.hid (And.intro h5 hxU)
    clear hV hU h2 hx h5 hxU HX HY
    go_wp2
    refine bodyPost_ret (results_q rfl _ _ (w.heap.size + 1) rfl H5.out.1) rfl ?_
    exact ⟨rfl, H5.out.2⟩
end Go.Proofs.YtplfimoeggecjaaGreatDoor.Qs
