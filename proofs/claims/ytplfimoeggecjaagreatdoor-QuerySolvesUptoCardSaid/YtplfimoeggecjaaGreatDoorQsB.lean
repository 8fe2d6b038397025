/-
  The program's Sort of strings, at a row of one's own.
  The program's Clone of strings.
  The program's value of a key: ahead of its loops.
  A row of texts of one's own, told by its cells: Sort and Compact of it.
  A row of labels in memory, one's own: two cells each; an append to it.
  Words for both sides' solve: what a checked list keeps; the keys; what solve hands back. No program in sight but for the memory's words.
-/
import Derived.Test.YtplfimoeggecjaaGreatDoorQsA
import Derived.Test.YtplfimoeggecjaaGreatDoorShelf
import Derived.Test.YtplfimoeggecjaaGreatDoorItoa
import Derived.Test.YtplfimoeggecjaaGreatDoorSrow
import Derived.Test.YtplfimoeggecjaaGreatDoorQr1
import Derived.Test.YtplfimoeggecjaaGreatDoorBrow
import Derived.Laws.Rows
import Derived.Test.YtplfimoeggecjaaGreatDoorLab
import Derived.Test.YtplfimoeggecjaaGreatDoorChecked
import Derived.Laws.AppendOwn
import Derived.Test.YtplfimoeggecjaaGreatDoorFits
namespace Go.Proofs.YtplfimoeggecjaaGreatDoor.Qs
open Go Go.RowKit Go.Lib Go.Sort Go.Proofs.YtplfimoeggecjaaGreatDoor.Sx

theorem below_putRow {α : Type} [Inhabited α] (enc : α → Value) (w : World) (B g off : Nat) (d : Array α) (h : B ≤ g) : Below B w (putRow enc w g off d) := by
  refine ⟨rfl, rfl, rfl, by simp, fun k hk => ?_⟩
  show ((putRow enc w g off d).heap)[k]? = _
  unfold putRow mapBlock
  simp only [Array.getElem?_modify]
  rw [if_neg (by omega)]
set_option maxRecDepth 100000 in
theorem sortS_any (B g c : Nat) (xs : List ByteArray) (w : World) (hc : ∀ i (h : i < xs.length), w.cell? ⟨g, i, none⟩ = some (.string xs[i])) (hf : ∀ i, i < xs.length → w.frozen? ⟨g, i, none⟩ = false) (hg : g < w.heap.size) (hB : B ≤ g) (hn : xs.length < 4611686018427387904) :
    Calls Tryz.prog 61 #[.slice (some ⟨g, 0, none⟩) xs.length c] w fun e w' => e = .returned (.tuple #[]) ∧ Below B w w' ∧ g < w'.heap.size ∧ ∀ i, i < xs.length → w'.cell? ⟨g, i, none⟩ = some (.string (bx ((isort (xs.map tx)).getD i []))) ∧ w'.frozen? ⟨g, i, none⟩ = false := by
  have hH : Holds encStr w g 0 (xs.map tx).toArray := by
    intro j hj
    have hj2 : j < xs.length := by simpa using hj
    rw [Nat.zero_add]
    refine ⟨?_, hf j hj2⟩
    rw [hc j hj2, getElem!_pos _ j hj]
    simp only [List.getElem_toArray, List.getElem_map]
    rfl
  have h := Tryz.slices_Sort_string g 0 c (xs.map tx) w hH hg (by simpa using hn)
  rw [List.length_map] at h
  refine h.mono ?_
  rintro e w' ⟨rfl, n, os, rfl⟩
  rw [sort_same]
  have hl : (isort (xs.map tx)).length = xs.length := by rw [(isort_perm _).length_eq, List.length_map]
  have hH2 := holds_ahead encStr w n g 0 _ hH
  have hsz : g < (putRow encStr (Sort.ahead w n) g 0 (isort (xs.map tx)).toArray).heap.size := by simpa using hg
  have hgr : ∀ k, k < (putRow encStr (Sort.ahead w n) g 0 (isort (xs.map tx)).toArray).heap.size → (grow (putRow encStr (Sort.ahead w n) g 0 (isort (xs.map tx)).toArray) os).heap[k]? = (putRow encStr (Sort.ahead w n) g 0 (isort (xs.map tx)).toArray).heap[k]? := fun k hk => heap_grow_old _ os hk
  have hle : (putRow encStr (Sort.ahead w n) g 0 (isort (xs.map tx)).toArray).heap.size ≤ (grow (putRow encStr (Sort.ahead w n) g 0 (isort (xs.map tx)).toArray) os).heap.size := by simp [grow]
  have ha : Below B w (Sort.ahead w n) := ⟨rfl, rfl, rfl, Nat.le_refl _, fun _ _ => rfl⟩
  refine ⟨rfl, ?_, Nat.lt_of_lt_of_le hsz hle, fun i hi => ⟨?_, ?_⟩⟩
  · exact (ha.trans (below_putRow encStr _ B g 0 _ hB)).trans ⟨rfl, rfl, rfl, hle, fun k hk => hgr k (by omega)⟩
  · rw [cell?_grow _ _ _ hsz]
    have := cell?_putRow encStr (Sort.ahead w n) g 0 _ (isort (xs.map tx)).toArray hH2 (by simp [hl]) i (by simp [hl]; exact hi)
    rw [Nat.zero_add] at this
    rw [this, getElem!_pos _ i (by simp [hl]; exact hi), List.getD_eq_getElem?_getD, List.getElem?_eq_getElem (by omega)]
    rfl
  · rw [World.frozen?_of_block (w := putRow encStr (Sort.ahead w n) g 0 (isort (xs.map tx)).toArray) (hgr g hsz), frozen?_putRow]
    exact hf i hi
end Go.Proofs.YtplfimoeggecjaaGreatDoor.Qs
namespace Go.Proofs.YtplfimoeggecjaaGreatDoor.Qs
open Go Go.RowKit Go.Lib Go.Proofs.YtplfimoeggecjaaGreatDoor.Sx

set_option maxRecDepth 100000 in
theorem cloneS_any {B : Nat} {w : World} {v : Value} {xs : List ByteArray} (h : StrsR B w v xs) :
    Calls Tryz.prog 102 #[v] w fun e w' => ∃ A c, e = .returned (.slice A xs.length c) ∧ SRow w.heap.size w' (.slice A xs.length c) xs ∧ Ext w w' := by
  have h0 := h
  obtain ⟨hn, A, c, rfl, hi⟩ := h
  cases A with
  | none =>
    have hl : xs = [] := by
      cases xs with
      | nil => rfl
      | cons x r =>
        obtain ⟨_, _, _, hA, _⟩ := hi 0 (by simp)
        cases hA
    subst hl
    exact (Tryz.slices_Clone_string_nil _ _ w).mono fun e w' ⟨he, hw⟩ => ⟨none, 0, he, SRow.nil, by rw [hw]; exact Below.refl _ _⟩
  | some a =>
    by_cases hz : xs = []
    · subst hz
      refine (Tryz.slices_Clone_string_zero a c w).mono fun e w' ⟨v', he, ho, _, hx⟩ => ?_
      have hr : SRow w.heap.size w' v' [] := SRow.of_owns (n := 0) rfl ho
      obtain ⟨A', c', hv⟩ := hr.slice
      subst hv
      exact ⟨A', c', he, hr, hx⟩
    · have hpos : 0 < xs.length := List.length_pos_iff.2 hz
      obtain ⟨b, off, cs, hA, _⟩ := hi 0 hpos
      injection hA with hA
      subst hA
      refine (Tryz.slices_Clone_string b off xs.length c xs w (Nat.le_refl _) (by omega) ?_).mono fun e w' ⟨v', he, ho, _, hx⟩ => ?_
      · intro j hj
        obtain ⟨b2, off2, cs2, hA2, _, _, hcs, hcell⟩ := hi j hj
        injection hA2 with hA2
        injection hA2 with e1 e2
        subst e1 e2
        have x0 : w.cell? ⟨b, off + j, none⟩ = some (.string xs[j]) := by
          have := hcell 0 (.string xs[j]) (by rw [hcs.1]; rfl)
          simpa using this
        rw [x0, List.getD_eq_getElem?_getD, List.getElem?_eq_getElem hj]
        rfl
      · rw [List.take_length] at ho
        have hr : SRow w.heap.size w' v' xs := SRow.of_owns rfl ho
        obtain ⟨A', c', hv⟩ := hr.slice
        subst hv
        exact ⟨A', c', he, hr, hx⟩
end Go.Proofs.YtplfimoeggecjaaGreatDoor.Qs
namespace Go.Proofs.YtplfimoeggecjaaGreatDoor.Qs
open Go Go.RowKit Go.Lib Go.Proofs.YtplfimoeggecjaaGreatDoor.Sx Go.Proofs.YtplfimoeggecjaaGreatDoor.Dc

theorem about_keep (l : List Req) (key : ByteArray) : l.filter (keepK key) = aboutL l (tx key) := by
  unfold aboutL
  congr 1
  funext r
  unfold keepK
  rw [Bool.eq_iff_iff, eqS_iff, beq_iff_eq]
  exact ⟨fun h => by rw [h], tx_inj⟩
theorem okV_eq (ab : List Req) (key v : ByteArray) : allB ab [⟨key, v⟩] = okV ab (tx key) (tx v) := rfl
/-- What value hands back. -/
def valueP (l : List Req) (key : ByteArray) : Value := match valueL l (tx key) 73 with
  | some v => .tuple #[.string (bx v), .bool true]
  | none => .tuple #[.string ⟨#[]⟩, .bool false]
/-- The first of the row that is a set. -/
theorem first_find {ab : List Req} {i : Nat} (hi : i < ab.length) (hp : isIn ab[i] = true) (hn : noneTo (fun r => isIn r) ab i) : ab.find? isIn = some ab[i] := find_at (p := isIn) hn hi hp
theorem first_none {ab : List Req} (hn : noneTo (fun r => isIn r) ab ab.length) : ab.find? isIn = none := find_none (p := isIn) hn
/-- Up to a place nothing fits. -/
theorem find_upto {p : Tx → Bool} {l : List Tx} {i : Nat} (hi : i < l.length) (hp : p l[i] = true) (hn : noneTo p l i) : l.find? p = some l[i] := find_at hn hi hp
end Go.Proofs.YtplfimoeggecjaaGreatDoor.Qs
namespace Go.Proofs.YtplfimoeggecjaaGreatDoor.Qs
open Go Go.RowKit Go.Lib Go.Sort Go.Proofs.YtplfimoeggecjaaGreatDoor.Dc Go.Proofs.YtplfimoeggecjaaGreatDoor.Sx

/-- These texts lie from A on, in a block of one's own (or nowhere, if there are none). -/
def OwnS (base : Nat) (w : World) (A : Option Addr) (c : Nat) (xs : List ByteArray) : Prop :=
  xs.length ≤ c ∧ ((A = none ∧ xs = []) ∨ ∃ g, A = some ⟨g, 0, none⟩ ∧ base ≤ g ∧ g < w.heap.size ∧ ∀ i (h : i < xs.length), w.cell? ⟨g, i, none⟩ = some (.string xs[i]) ∧ w.frozen? ⟨g, i, none⟩ = false)
theorem OwnS.ext {base c : Nat} {w w' : World} {A : Option Addr} {xs : List ByteArray} (h : OwnS base w A c xs) (hx : Ext w w') : OwnS base w' A c xs := by
  refine ⟨h.1, ?_⟩
  rcases h.2 with h | ⟨g, hA, hb, hg, hc⟩
  · exact .inl h
  · exact .inr ⟨g, hA, hb, Nat.lt_of_lt_of_le hg hx.size, fun i hi => ⟨(hx.cell (p := ⟨g, i, none⟩) hg).trans (hc i hi).1, (World.frozen?_of_block (hx.block g hg)).trans (hc i hi).2⟩⟩
theorem OwnS.of_row {base : Nat} {w : World} {A : Option Addr} {n c : Nat} {xs : List ByteArray} (h : SRow base w (.slice A n c) xs) : OwnS base w A c xs := by
  rcases h with ⟨hv, rfl⟩ | ⟨g, rest, hv, hb, hg, hm⟩
  · injection hv with h1 h2 h3
    exact ⟨by simp, .inl ⟨h1, rfl⟩⟩
  · injection hv with h1 h2 h3
    refine ⟨by omega, .inr ⟨g, h1, hb, heap_lt hg, fun j hj => ⟨?_, row_free hg⟩⟩⟩
    rw [cell_of hg]
    have : j < (strVals xs).length := by rw [strVals_len]; exact hj
    rw [List.getElem?_toArray, List.getElem?_append_left this]
    simp [strVals, hj]
theorem OwnS.strs {base c : Nat} {w : World} {A : Option Addr} {xs : List ByteArray} (h : OwnS base w A c xs) (hn : xs.length ≤ 1099511627776) (hz : ∀ x ∈ xs, x.size ≤ 1048576) : StrsR w.heap.size w (.slice A xs.length c) xs := by
  refine ⟨hn, A, c, rfl, fun i hi => ?_⟩
  rcases h.2 with ⟨_, rfl⟩ | ⟨g, hA, hb, hg, hc⟩
  · simp at hi
  · refine ⟨g, 0, [.string xs[i]], hA, hg, rfl, ⟨rfl, hz _ (List.getElem_mem hi)⟩, fun k u hu => ?_⟩
    have hk : k = 0 := by have := (List.getElem?_eq_some_iff.1 hu).1; simp at this; exact this
    subst hk
    have := (hc i hi).1
    simp at hu ⊢
    rw [this, hu]
theorem OwnS.cell {base c : Nat} {w : World} {A : Option Addr} {xs : List ByteArray} (h : OwnS base w A c xs) {i : Nat} (hi : i < xs.length) : ∃ g, A = some ⟨g, 0, none⟩ ∧ g < w.heap.size ∧ w.cell? ⟨g, i, none⟩ = some (.string xs[i]) := by
  rcases h.2 with ⟨_, rfl⟩ | ⟨g, hA, hb, hg, hc⟩
  · simp at hi
  · exact ⟨g, hA, hg, (hc i hi).1⟩
set_option maxRecDepth 100000 in
theorem sort_own (base : Nat) (A : Option Addr) (c : Nat) (xs : List ByteArray) (w : World) (h : OwnS base w A c xs) (hn : xs.length < 4611686018427387904) :
    Calls Tryz.prog 61 #[.slice A xs.length c] w fun e w' => e = .returned (.tuple #[]) ∧ Below base w w' ∧ OwnS base w' A c (sortB xs) := by
  rcases h.2 with ⟨rfl, rfl⟩ | ⟨g, rfl, hb, hg, hc⟩
  · refine (Tryz.slices_Sort_string_none none c w).mono ?_
    rintro e w' ⟨rfl, rfl⟩
    exact ⟨rfl, Below.refl _ _, by simp [sortB_nil], .inl ⟨rfl, rfl⟩⟩
  · refine (sortS_any base g c xs w (fun i hi => (hc i hi).1) (fun i hi => (hc i hi).2) hg hb hn).mono ?_
    rintro e w' ⟨rfl, h1, h2, h3⟩
    refine ⟨rfl, h1, by rw [sortB_len]; exact h.1, .inr ⟨g, rfl, hb, h2, fun i hi => ?_⟩⟩
    rw [sortB_len] at hi
    obtain ⟨h4, h5⟩ := h3 i hi
    refine ⟨?_, h5⟩
    have hi2 : i < (isort (xs.map tx)).length := by rw [(isort_perm _).length_eq, List.length_map]; exact hi
    have e : (sortB xs)[i]'(by rw [sortB_len]; exact hi) = bx ((isort (xs.map tx))[i]) := by simp [sortB]
    rw [h4, e, List.getD_eq_getElem?_getD, List.getElem?_eq_getElem hi2]
    rfl
theorem compactUp_le (d : Array (List UInt8)) : ∀ m, (compactUpTo d m).length ≤ m
  | 0 => by simp [compactUpTo]
  | m + 1 => by
    have := compactUp_le d m
    rw [compactUpTo_succ, List.length_append]
    split <;> simp <;> omega
theorem compact_le (zs : List (List UInt8)) : (Lib.compact zs).length ≤ zs.length := by
  have := compactUp_le zs.toArray zs.length
  simpa [compact] using this
set_option maxRecDepth 100000 in
theorem compact_own (base : Nat) (A : Option Addr) (c : Nat) (xs : List ByteArray) (w : World) (h : OwnS base w A c xs) (hn : xs.length < 4611686018427387904) :
    Calls Tryz.prog 62 #[.slice A xs.length c] w fun e w' => e = .returned (.slice A (Lib.compact (xs.map tx)).length c) ∧ Below base w w' ∧ OwnS base w' A c ((Lib.compact (xs.map tx)).map bx) := by
  rcases h.2 with ⟨rfl, rfl⟩ | ⟨g, rfl, hb, hg, hc⟩
  · refine (Tryz.slices_Compact_string_empty none c w).mono ?_
    rintro e w' ⟨rfl, rfl⟩
    exact ⟨rfl, Below.refl _ _, Nat.zero_le _, .inl ⟨rfl, rfl⟩⟩
  · have hH : Holds encStr w g 0 (xs.map tx).toArray := by
      intro j hj
      have hj2 : j < xs.length := by simpa using hj
      rw [Nat.zero_add]
      refine ⟨?_, (hc j hj2).2⟩
      rw [(hc j hj2).1, getElem!_pos _ j hj]
      simp only [List.getElem_toArray, List.getElem_map]
      rfl
    have hk := Tryz.slices_Compact_string g 0 c (xs.map tx) w hH (by rw [List.length_map]; omega) (by rw [List.length_map]; exact h.1)
    rw [List.length_map] at hk
    refine hk.mono ?_
    rintro e w' ⟨rfl, n, rfl⟩
    have hle := compact_le (xs.map tx)
    rw [List.length_map] at hle
    have hH2 := holds_ahead encStr w n g 0 _ hH
    have ha : Below base w (Sort.ahead w n) := ⟨rfl, rfl, rfl, Nat.le_refl _, fun _ _ => rfl⟩
    refine ⟨rfl, ha.trans (below_putRow encStr _ base g 0 _ hb), ?_, .inr ⟨g, rfl, hb, by simpa using hg, fun i hi => ⟨?_, ?_⟩⟩⟩
    · rw [List.length_map]; exact Nat.le_trans hle h.1
    · rw [List.length_map] at hi
      have := cell?_putRow encStr (Sort.ahead w n) g 0 _ (Lib.compact (xs.map tx) ++ List.replicate (xs.length - (Lib.compact (xs.map tx)).length) []).toArray hH2 (by simp; omega) i (by simp; omega)
      rw [Nat.zero_add] at this
      rw [this, getElem!_pos _ i (by simp; omega)]
      simp only [List.getElem_toArray, List.getElem_map]
      rw [List.getElem_append_left hi]
      rfl
    · rw [List.length_map] at hi
      rw [frozen?_putRow]
      exact (hc i (by omega)).2
/-- The keys in order, as the program makes them. -/
theorem keys_own (l : List Req) (ks : List ByteArray) (hk : ks.map tx = keysP l) : (Lib.compact ((sortB ks).map tx)) = keysS l := by
  rw [sortB_tx, hk, ← sort_same]
  exact keys_prog l
end Go.Proofs.YtplfimoeggecjaaGreatDoor.Qs
namespace Go.Proofs.YtplfimoeggecjaaGreatDoor.Qs
open Go Go.RowKit Go.Proofs.YtplfimoeggecjaaGreatDoor.Sx

abbrev lbT : Nat := 31
def lcell (x : Lab) : List Value := [.string x.key, .string x.val]
def lcells (l : List Lab) : List Value := l.flatMap lcell
theorem lcells_len (l : List Lab) : (lcells l).length = l.length * 2 := by
  unfold lcells
  induction l with
  | nil => rfl
  | cons x r ih => simp only [List.flatMap_cons, List.length_append, List.length_cons, ih]; simp [lcell]; omega
theorem lcells_append (a b : List Lab) : lcells (a ++ b) = lcells a ++ lcells b := List.flatMap_append
theorem lcells_get {l : List Lab} {i k : Nat} (hi : i < l.length) (hk : k < 2) : (lcells l)[i * 2 + k]? = (lcell l[i])[k]? := by
  induction l generalizing i with
  | nil => simp at hi
  | cons x r ih =>
    have e : lcells (x :: r) = lcell x ++ lcells r := by simp [lcells]
    have hl : (lcell x).length = 2 := rfl
    rw [e]
    cases i with
    | zero =>
      rw [List.getElem?_append_left (by omega), Nat.zero_mul, Nat.zero_add]
      rfl
    | succ i =>
      rw [List.getElem?_append_right (by omega)]
      have e2 : (i + 1) * 2 + k - (lcell x).length = i * 2 + k := by omega
      rw [e2]
      exact ih (by simpa using hi)
theorem lcells_one (l : List Lab) : ∀ u ∈ lcells l, u.oneCell' = true := by
  intro u hu
  obtain ⟨x, _, hu⟩ := List.mem_flatMap.1 hu
  simp [lcell] at hu
  rcases hu with rfl | rfl <;> rfl
/-- The slice v is a row of one's own: these labels. -/
def LRow (base : Nat) (w : World) (v : Value) (l : List Lab) : Prop :=
  (v = .slice none 0 0 ∧ l = []) ∨ ∃ g c rest, v = .slice (some ⟨g, 0, none⟩) l.length c ∧ base ≤ g ∧ w.heap[g]? = some (.cells (lcells l ++ rest).toArray lbT (0, 0)) ∧ l.length * 2 + rest.length = c * 2 ∧ c ≤ maxLen
section
variable {base : Nat} {w w' : World} {v : Value} {l : List Lab}
theorem LRow.nil : LRow base w (.slice none 0 0) [] := .inl ⟨rfl, rfl⟩
theorem LRow.owns (h : LRow base w v l) : w.ownsRow base lbT 2 v l.length (lcells l) := by
  refine ⟨lcells_len l, ?_⟩
  rcases h with ⟨rfl, rfl⟩ | ⟨g, c, rest, rfl, hb, hg, hc, hm⟩
  · exact .inl ⟨rfl, rfl⟩
  · refine .inr ⟨g, c, _, rfl, hb, hg, by omega, hm, ?_, ?_⟩
    · simp [lcells_len]; omega
    · have : (lcells l ++ rest).take (l.length * 2) = lcells l := by rw [← lcells_len, List.take_left']; rfl
      simpa using this
theorem LRow.of_owns {n : Nat} (hn : n = l.length) (h : w.ownsRow base lbT 2 v n (lcells l)) : LRow base w v l := by
  subst hn
  rcases h.2 with ⟨rfl, h0⟩ | ⟨g, cap, cur, rfl, hb, hg, hnc, hm, hs, ht⟩
  · exact .inl ⟨rfl, List.length_eq_zero_iff.1 h0⟩
  · have hl : cur.toList.length = cap * 2 := by simpa using hs
    have he : cur = (lcells l ++ cur.toList.drop (l.length * 2)).toArray := by
      rw [← ht, List.take_append_drop, Array.toArray_toList]
    refine .inr ⟨g, cap, cur.toList.drop (l.length * 2), rfl, hb, by rw [hg, ← he], ?_, hm⟩
    rw [List.length_drop, hl]
    omega
theorem LRow.kept {row : Option Nat} (h : LRow base w v l) (hg : w.grownBy w' row) (hne : ∀ g, v.ownBlock = some g → row ≠ some g) : LRow base w' v l := by
  rcases h with h | ⟨g, c, rest, rfl, hb, hh, hc, hm⟩
  · exact .inl h
  · exact .inr ⟨g, c, rest, rfl, hb, (hg.block g (heap_lt hh) (fun e => hne g rfl e.symm)).trans hh, hc, hm⟩
theorem LRow.ext (h : LRow base w v l) (he : Ext w w') : LRow base w' v l := h.kept (grown_of_extB he) (fun g _ => by simp)
theorem LRow.block (h : LRow base w v l) : ∀ g, v.ownBlock = some g → base ≤ g ∧ g < w.heap.size := by
  rcases h with ⟨rfl, _⟩ | ⟨g, c, rest, rfl, hb, hh, _⟩
  · intro g hg; simp [Value.ownBlock] at hg
  · intro g' hg
    have : g = g' := by simpa [Value.ownBlock] using hg
    subst this
    exact ⟨hb, heap_lt hh⟩
theorem LRow.slice (h : LRow base w v l) : ∃ A c, v = .slice A l.length c := by
  rcases h with ⟨rfl, rfl⟩ | ⟨g, c, rest, rfl, _⟩
  · exact ⟨_, _, rfl⟩
  · exact ⟨_, _, rfl⟩
theorem LRow.labs (h : LRow base w v l) (hn : l.length ≤ 1099511627776) (hz : ∀ x ∈ l, x.key.size ≤ 1048576 ∧ x.val.size ≤ 1048576) : LabsR w.heap.size w v l := by
  rcases h with ⟨rfl, rfl⟩ | ⟨g, c, rest, rfl, hb, hg, hc, hm⟩
  · exact ⟨hn, none, 0, rfl, fun i hi => by simp at hi⟩
  · refine ⟨hn, _, _, rfl, fun i hi => ⟨g, 0, lcell l[i], rfl, heap_lt hg, rfl, ⟨rfl, (hz _ (List.getElem_mem hi)).1, (hz _ (List.getElem_mem hi)).2⟩, fun k u hu => ?_⟩⟩
    have hk : k < 2 := (List.getElem?_eq_some_iff.1 hu).1
    rw [cell_of hg, Nat.zero_add, List.getElem?_toArray, List.getElem?_append_left (by rw [lcells_len]; omega), lcells_get hi hk]
    exact hu
theorem LRow.low {base' : Nat} (h : LRow base w v l) (hb : base' ≤ base) : LRow base' w v l := by
  rcases h with h | ⟨g, c, rest, h1, h2, h3⟩
  · exact .inl h
  · exact .inr ⟨g, c, rest, h1, Nat.le_trans hb h2, h3⟩
end
theorem lb_info : (Tryz.prog.info? lbT).map (fun i => (i.zero, i.size, i.bytes)) = some (some (Value.agg #[.string ⟨#[]⟩, .string ⟨#[]⟩]), 2, 32) := by kernel_rfl
theorem run_lappend (base : Nat) (ty : TypeId) (w : World) (v : Value) (l : List Lab) (x : Lab) (vb : Nat) (hrow : LRow base w v l) (hvb : w.heap[vb]? = some (.cells #[.string x.key, .string x.val] lbT (0, 0))) (hs : l.length ≤ 1048576) (hbase : base ≤ w.heap.size) :
    ∃ A c w', (Builtin.append_ #[23, 23] ty #[v, .slice (some ⟨vb, 0, none⟩) 1 1]).run Tryz.prog w = .ok (.slice A (l.length + 1) c) w' ∧ LRow base w' (.slice A (l.length + 1) c) (l ++ [x]) ∧ w.grownBy w' v.ownBlock ∧ ((Value.slice A (l.length + 1) c).ownBlock = v.ownBlock ∨ (Value.slice A (l.length + 1) c).ownBlock = some w.heap.size) := by
  obtain ⟨i0, hi, hz0, hz1, hz2⟩ := info_parts lb_info
  obtain ⟨v', w', hr, h2, h3, _, h5⟩ := run_append_own_at (P := Tryz.prog) w base 23 ty lbT i0 _ 2 32 Tryz.underlying23 hi hz0 hz1 hz2 rfl (by omega) v l.length (lcells l) hrow.owns ⟨vb, 0, none⟩ 1 1 (lcells [x]) (lcells_len [x]) (fun j u hj => by rw [Addr.add_lit, Nat.zero_add, cell_of hvb, ← Array.getElem?_toList]; simpa [lcells, lcell] using hj) (lcells_one [x]) (by unfold maxLen; omega) (by omega) hbase
  have hrow' : LRow base w' v' (l ++ [x]) := LRow.of_owns (n := l.length + 1) (by simp) (by rw [lcells_append]; exact h2)
  obtain ⟨A, c', hv⟩ := hrow'.slice
  rw [List.length_append] at hv
  subst hv
  exact ⟨A, c', w', hr, hrow', h3, h5⟩
theorem append_lab {ops : Array Oper} {rest : List Oper} {o : Oper} {a : Act} {Q : Exit → Act → World → Prop} (hgd : o.guard = none) (s x : Operand)
    (ho : o.op = .call { callee := .builtin .append, args := #[s, x], argTypes := #[23, 23] }) (base n vb : Nat) (y : Lab) (w : World) (v : Value) (l : List Lab)
    (hs : a.eval s = v) (hx : a.eval x = .slice (some ⟨vb, 0, none⟩) 1 1) (hrow : LRow base w v l) (hvb : w.heap[vb]? = some (.cells #[.string y.key, .string y.val] lbT (0, 0))) (hn : l.length = n) (hsm : n ≤ 1048576) (hbase : base ≤ w.heap.size)
    (h : ∀ A c w', LRow base w' (.slice A (n + 1) c) (l ++ [y]) → w.grownBy w' v.ownBlock → ((Value.slice A (n + 1) c).ownBlock = v.ownBlock ∨ (Value.slice A (n + 1) c).ownBlock = some w.heap.size) → wpList Tryz.prog ops Q rest (a.put o.dst (.slice A (n + 1) c)) w') : wpList Tryz.prog ops Q (o :: rest) a w := by
  subst hn
  obtain ⟨A, c, w', hr, h1, h2, h3⟩ := run_lappend base o.type w v l y vb hrow hvb hsm hbase
  refine wpList_plain hgd fun K hK => ?_
  unfold Oper.wp execOp
  simp only [ho, resolve, invoke, builtin, Sem.run_bind, Sem.run_pure, Result.andThen_ok, List.map_toArray, List.map_cons, List.map_nil, hs, hx, hr]
  exact hK _ _ (h A c w' h1 h2 h3)
theorem step_append_lab {ops : Array Oper} {o : Oper} {a : Act} {K : Act → World → Prop} {Q : Exit → Act → World → Prop} {E : Prop} (hgd : o.guard = none) (s x : Operand)
    (ho : o.op = .call { callee := .builtin .append, args := #[s, x], argTypes := #[23, 23] }) (base n vb : Nat) (y : Lab) (w : World) (v : Value) (l : List Lab)
    (hs : a.eval s = v) (hx : a.eval x = .slice (some ⟨vb, 0, none⟩) 1 1) (hrow : LRow base w v l) (hvb : w.heap[vb]? = some (.cells #[.string y.key, .string y.val] lbT (0, 0))) (hn : l.length = n) (hsm : n ≤ 1048576) (hbase : base ≤ w.heap.size)
    (h : ∀ A c w', LRow base w' (.slice A (n + 1) c) (l ++ [y]) → w.grownBy w' v.ownBlock → ((Value.slice A (n + 1) c).ownBlock = v.ownBlock ∨ (Value.slice A (n + 1) c).ownBlock = some w.heap.size) → K (a.put o.dst (.slice A (n + 1) c)) w') : if Region.wanted o (yielded ops a.tmps) = true then Oper.wp Tryz.prog o a w K Q else E := by
  subst hn
  obtain ⟨A, c, w', hr, h1, h2, h3⟩ := run_lappend base o.type w v l y vb hrow hvb hsm hbase
  have hw : Region.wanted o (yielded ops a.tmps) = true := by simp [Region.wanted, hgd]
  rw [if_pos hw]
  unfold Oper.wp execOp
  simp only [ho, resolve, invoke, builtin, Sem.run_bind, Sem.run_pure, Result.andThen_ok, List.map_toArray, List.map_cons, List.map_nil, hs, hx, hr]
  exact h A c w' h1 h2 h3
end Go.Proofs.YtplfimoeggecjaaGreatDoor.Qs
namespace Go.Proofs.YtplfimoeggecjaaGreatDoor.Qs
open Go Go.RowKit Go.Lib Go.Proofs.YtplfimoeggecjaaGreatDoor.Dc Go.Proofs.YtplfimoeggecjaaGreatDoor.Sx

def keysB (l : List Req) : List ByteArray := (l.filter wants).map fun r => r.key
theorem keysB_tx (l : List Req) : (keysB l).map tx = keysP l := by
  unfold keysB keysP
  rw [List.map_map]
  rfl
theorem keysB_yes {l : List Req} {j : Nat} (hj : j < l.length) (h : wants l[j] = true) : keysB (l.take (j + 1)) = keysB (l.take j) ++ [l[j].key] := by
  unfold keysB
  rw [← List.take_append_getElem hj, List.filter_append, List.map_append, List.filter_cons_of_pos h]
  rfl
theorem keysB_no {l : List Req} {j : Nat} (hj : j < l.length) (h : wants l[j] = false) : keysB (l.take (j + 1)) = keysB (l.take j) := by
  unfold keysB
  rw [← List.take_append_getElem hj, List.filter_append, List.filter_cons_of_neg (by simp [h])]
  simp
theorem keysB_len (l : List Req) : (keysB l).length ≤ l.length := by
  unfold keysB
  rw [List.length_map]
  exact List.length_filter_le _ _
theorem keysB_mem {l : List Req} {x : ByteArray} (h : x ∈ keysB l) : ∃ r ∈ l, r.key = x := by
  obtain ⟨r, hr, e⟩ := List.mem_map.1 h
  exact ⟨r, (List.mem_filter.1 hr).1, e⟩

/-- What is kept of a list that has been checked. -/
structure Good (l : List Req) : Prop where
  few : l.length ≤ 9
  kinds : ∀ r ∈ l, 1 ≤ r.kind ∧ r.kind ≤ 4
  vals : ∀ r ∈ l, r.vals.length ≤ 8
  some_ : ∀ r ∈ l, r.kind = 1 ∨ r.kind = 2 → r.vals.length ≠ 0
theorem good_of_check {l : List Req} (h : checkQ l = 0) : l.length ≤ 8 ∧ Good l := by
  have hk := checkQ_kinds h
  unfold checkQ at h
  by_cases h8 : 8 < l.length
  · rw [if_pos h8] at h; cases h
  · rw [if_neg h8] at h
    have hz := firstAt_eq_zero h
    have hr : ∀ r ∈ l, ¬ badKind r ∧ r.vals.length ≤ 8 := by
      intro r hr
      obtain ⟨i, hi, rfl⟩ := List.mem_iff_getElem.1 hr
      have h1 := hz i hi
      rw [reqsAt_eq hi] at h1
      unfold reqI at h1
      by_cases a1 : keyI l[i].key = 0
      · rw [if_pos a1] at h1
        by_cases a2 : badKind l[i]
        · rw [if_pos a2] at h1; cases h1
        · rw [if_neg a2] at h1
          by_cases a3 : 8 < l[i].vals.length
          · rw [if_pos a3] at h1; cases h1
          · exact ⟨a2, by omega⟩
      · rw [if_neg a1] at h1; exact absurd h1 a1
    exact ⟨by omega, by omega, hk, fun r h => (hr r h).2, fun r h e => by have := (hr r h).1; unfold badKind at this; omega⟩
theorem good_opp {a b : List Req} (ha : checkQ a = 0) (hb : checkQ b = 0) {r : Req} (hr : r ∈ b) : Good (a ++ [oppR r]) := by
  obtain ⟨h1, g1⟩ := good_of_check ha
  obtain ⟨_, g2⟩ := good_of_check hb
  refine ⟨by simp; omega, fun x hx => ?_, fun x hx => ?_, fun x hx e => ?_⟩
  · rcases List.mem_append.1 hx with hx | hx
    · exact g1.kinds x hx
    · rw [List.mem_singleton] at hx; subst hx; exact oppK_ok (g2.kinds r hr)
  · rcases List.mem_append.1 hx with hx | hx
    · exact g1.vals x hx
    · rw [List.mem_singleton] at hx; subst hx; exact g2.vals r hr
  · rcases List.mem_append.1 hx with hx | hx
    · exact g1.some_ x hx e
    · rw [List.mem_singleton] at hx
      subst hx
      refine g2.some_ r hr ?_
      have := g2.kinds r hr
      have e2 : oppK r.kind = 1 ∨ oppK r.kind = 2 := e
      unfold oppK at e2
      (repeat' split at e2) <;> omega

/-- Sizes of what stands in parts in memory. -/
theorem reqs_size {B : Nat} {w : World} {v : Value} {l : List Req} (h : ReqsR B w v l) : ∀ r ∈ l, r.key.size ≤ 1048576 ∧ ∀ x ∈ r.vals, x.size ≤ 1048576 := by
  obtain ⟨_, A, c, _, hi⟩ := h
  intro r hr
  obtain ⟨i, hl, rfl⟩ := List.mem_iff_getElem.1 hr
  obtain ⟨_, _, _, _, _, _, ⟨A1, c1, _, hk, hs, _⟩, _⟩ := hi i hl
  refine ⟨hk, fun x hx => ?_⟩
  obtain ⟨j, hj, rfl⟩ := List.mem_iff_getElem.1 hx
  obtain ⟨_, _, _, h4⟩ := hs
  obtain ⟨_, _, _, _, _, _, hr, _⟩ := h4.2 j hj
  exact hr.2
theorem cands_size {n : Nat} {v : Tx} (h : v ∈ cands n) : v.length ≤ n + 1 := by
  unfold cands at h
  rcases List.mem_cons.1 h with rfl | h
  · simp
  · obtain ⟨i, hi, rfl⟩ := List.mem_map.1 h
    have := dec_len i i (Nat.le_refl _)
    have := List.mem_range.1 hi
    omega
theorem value_size {l : List Req} {key : Tx} {n : Nat} {v : Tx} (hv : ∀ r ∈ l, ∀ x ∈ r.vals, x.size ≤ 1048576) (hn : n ≤ 100) (h : valueL l key n = some v) : v.length ≤ 1048576 := by
  have hm := List.mem_of_find?_eq_some h
  unfold candL at hm
  cases hf : (aboutL l key).find? isIn with
  | none =>
    rw [hf] at hm
    have := cands_size hm
    omega
  | some r =>
    rw [hf] at hm
    have hr := (about_key (List.mem_of_find?_eq_some hf)).2
    obtain ⟨x, hx, rfl⟩ := List.mem_map.1 ((isort_perm _).mem_iff.1 hm)
    exact hv r hr x hx
theorem labsFor_sizes {l : List Req} {n : Nat} {ks : List Tx} {a : List Lab} (hv : ∀ r ∈ l, ∀ x ∈ r.vals, x.size ≤ 1048576) (hn : n ≤ 100) (hk : ∀ k ∈ ks, k.length ≤ 1048576) (h : labsFor l n ks = some a) : ∀ x ∈ a, x.key.size ≤ 1048576 ∧ x.val.size ≤ 1048576 := by
  obtain ⟨h1, h2⟩ := labsFor_mem h
  intro x hx
  obtain ⟨v, e, h3⟩ := h1 x hx
  refine ⟨hk (tx x.key) (by rw [← h2]; exact List.mem_map.2 ⟨x, hx, rfl⟩), ?_⟩
  have h4 := value_size hv hn h3
  rw [e]
  exact h4
theorem keysS_size {l : List Req} (hv : ∀ r ∈ l, r.key.size ≤ 1048576) : ∀ k ∈ keysS l, k.length ≤ 1048576 := by
  intro k hk
  obtain ⟨r, hr, rfl⟩ := List.mem_map.1 ((keysS_mem l k).1 hk)
  exact hv r (List.mem_filter.1 hr).1
theorem keysS_len (l : List Req) : (keysS l).length ≤ l.length := by
  rw [← keys_own l (keysB l) (keysB_tx l)]
  have h1 := compact_le ((sortB (keysB l)).map tx)
  have h2 := keysB_len l
  rw [List.length_map, sortB_len] at h1
  omega

/-- What solve hands back, on both sides. -/
def SolPost (w : World) (l : List Req) (e : Ending) (w' : World) : Prop := ∃ out, e = .returned (.tuple #[out, .bool (solveL l).isSome]) ∧ LRow w.heap.size w' out ((solveL l).getD []) ∧ (∀ x ∈ (solveL l).getD [], x.key.size ≤ 1048576 ∧ x.val.size ≤ 1048576) ∧ ((solveL l).getD []).length ≤ 1099511627776 ∧ Ext w w'
/-- Up to a key. -/
theorem labs_some {l : List Req} {n : Nat} {ks : List Tx} {k : Tx} {a : List Lab} {v : Tx} (h : labsFor l n ks = some a) (hv : valueL l k n = some v) : labsFor l n (ks ++ [k]) = some (a ++ [mk k v]) := by
  rw [labsFor_snoc, h]
  simp only
  rw [hv]
  rfl
theorem labs_none {l : List Req} {n : Nat} {ks : List Tx} {k : Tx} {a : List Lab} (h : labsFor l n ks = some a) (hv : valueL l k n = none) (t : List Tx) : labsFor l n (ks ++ [k] ++ t) = none := by
  refine labsFor_none ?_ t
  rw [labsFor_snoc, h]
  simp only
  rw [hv]
  rfl
theorem sol_none {w w' : World} {l : List Req} (h : solveL l = none) (hx : Ext w w') : SolPost w l (.returned (.tuple #[.slice none 0 0, .bool false])) w' := by
  refine ⟨.slice none 0 0, by rw [h]; rfl, by rw [h]; exact LRow.nil, by rw [h]; intro x hx; simp at hx, by rw [h]; simp, hx⟩
theorem sol_some {w w' : World} {l : List Req} {a : List Lab} {out : Value} (hz : ∀ r ∈ l, r.key.size ≤ 1048576 ∧ ∀ x ∈ r.vals, x.size ≤ 1048576) (hl : l.length ≤ 9) (h : solveL l = some a) (hr : LRow w.heap.size w' out a) (hx : Ext w w') : SolPost w l (.returned (.tuple #[out, .bool true])) w' := by
  refine ⟨out, by rw [h]; rfl, by rw [h]; exact hr, by rw [h]; exact labsFor_sizes (fun r hr => (hz r hr).2) (by omega) (keysS_size fun r hr => (hz r hr).1) h, ?_, hx⟩
  rw [h]
  show a.length ≤ _
  have h2 := (labsFor_mem h).2
  have h3 := keysS_len l
  rw [← h2, List.length_map] at h3
  omega
end Go.Proofs.YtplfimoeggecjaaGreatDoor.Qs
