/-
  The program's Sort of strings, at a row of one's own.
-/
import Derived.Test.YtnccefeehkcneaaGreatDoorShelf
import Derived.Test.YtnccefeehkcneaaGreatDoorDit
import Derived.Test.YtnccefeehkcneaaGreatDoorSrow
import Derived.Test.YtnccefeehkcneaaGreatDoorQrs
import Derived.Test.YtnccefeehkcneaaGreatDoorSlr
import Derived.Test.YtnccefeehkcneaaGreatDoorBrow
import Derived.Laws.Rows
import Derived.Laws.AppendOwn
namespace Go.Proofs.YtnccefeehkcneaaGreatDoor.Qs
open Go Go.RowKit Go.Lib Go.Sort Go.Proofs.YtnccefeehkcneaaGreatDoor.Sx
theorem below_putRow {α : Type} [Inhabited α] (enc : α → Value) (w : World) (B g off : Nat) (d : Array α) (h : B ≤ g) : Below B w (putRow enc w g off d) := by
  refine ⟨rfl, rfl, rfl, by simp, fun k hk => ?_⟩
  show ((putRow enc w g off d).heap)[k]? = _
  unfold putRow mapBlock
  simp only [Array.getElem?_modify]
  rw [if_neg (by omega)]
set_option maxRecDepth 100000 in
theorem sortS_any (B g c : Nat) (xs : List ByteArray) (w : World) (hc : ∀ i (h : i < xs.length), w.cell? ⟨g, i, none⟩ = some (.string xs[i])) (hf : ∀ i, i < xs.length → w.frozen? ⟨g, i, none⟩ = false) (hg : g < w.heap.size) (hB : B ≤ g) (hn : xs.length < 4611686018427387904) :
    Calls Tryz.prog 49 #[.slice (some ⟨g, 0, none⟩) xs.length c] w fun e w' => e = .returned (.tuple #[]) ∧ Below B w w' ∧ g < w'.heap.size ∧ ∀ i, i < xs.length → w'.cell? ⟨g, i, none⟩ = some (.string (bx ((isort (xs.map tx)).getD i []))) ∧ w'.frozen? ⟨g, i, none⟩ = false := by
  have hH : Holds encStr w g 0 (xs.map tx).toArray := by
    intro j hj
    have hj2 : j < xs.length := by simpa using hj
    rw [Nat.zero_add]
    refine ⟨?_, hf j hj2⟩
    rw [hc j hj2, getElem!_pos _ j hj]
    simp only [List.getElem_toArray, List.getElem_map]
    rfl
  have h := Tryz.slices_Sort_string g 0 c (xs.map tx) w hH hg (by simpa using hn)
  rw [List.length_map] at h
  refine h.mono ?_
  rintro e w' ⟨rfl, n, os, rfl⟩
  rw [sort_same]
  have hl : (isort (xs.map tx)).length = xs.length := by rw [(isort_perm _).length_eq, List.length_map]
  have hH2 := holds_ahead encStr w n g 0 _ hH
  have hsz : g < (putRow encStr (Sort.ahead w n) g 0 (isort (xs.map tx)).toArray).heap.size := by simpa using hg
  have hgr : ∀ k, k < (putRow encStr (Sort.ahead w n) g 0 (isort (xs.map tx)).toArray).heap.size → (grow (putRow encStr (Sort.ahead w n) g 0 (isort (xs.map tx)).toArray) os).heap[k]? = (putRow encStr (Sort.ahead w n) g 0 (isort (xs.map tx)).toArray).heap[k]? := fun k hk => heap_grow_old _ os hk
  have hle : (putRow encStr (Sort.ahead w n) g 0 (isort (xs.map tx)).toArray).heap.size ≤ (grow (putRow encStr (Sort.ahead w n) g 0 (isort (xs.map tx)).toArray) os).heap.size := by simp [grow]
  have ha : Below B w (Sort.ahead w n) := ⟨rfl, rfl, rfl, Nat.le_refl _, fun _ _ => rfl⟩
  refine ⟨rfl, ?_, Nat.lt_of_lt_of_le hsz hle, fun i hi => ⟨?_, ?_⟩⟩
  · exact (ha.trans (below_putRow encStr _ B g 0 _ hB)).trans ⟨rfl, rfl, rfl, hle, fun k hk => hgr k (by omega)⟩
  · rw [cell?_grow _ _ _ hsz]
    have := cell?_putRow encStr (Sort.ahead w n) g 0 _ (isort (xs.map tx)).toArray hH2 (by simp [hl]) i (by simp [hl]; exact hi)
    rw [Nat.zero_add] at this
    rw [this, getElem!_pos _ i (by simp [hl]; exact hi), List.getD_eq_getElem?_getD, List.getElem?_eq_getElem (by omega)]
    rfl
  · rw [World.frozen?_of_block (w := putRow encStr (Sort.ahead w n) g 0 (isort (xs.map tx)).toArray) (hgr g hsz), frozen?_putRow]
    exact hf i hi
end Go.Proofs.YtnccefeehkcneaaGreatDoor.Qs
namespace Go.Proofs.YtnccefeehkcneaaGreatDoor.Qs
open Go Go.RowKit Go.Lib Go.Sort Go.Proofs.YtnccefeehkcneaaGreatDoor.Dc Go.Proofs.YtnccefeehkcneaaGreatDoor.Sx
theorem row_free {w : World} {g et k : Nat} {C : Array Value} (hg : w.heap[g]? = some (.cells C et (0, 0))) : w.frozen? ⟨g, k, none⟩ = false := by
  simp [World.frozen?, hg]
/-- These texts lie from A on, in a block of one's own (or nowhere, if there are none). -/
def OwnS (base : Nat) (w : World) (A : Option Addr) (c : Nat) (xs : List ByteArray) : Prop :=
  xs.length ≤ c ∧ ((A = none ∧ xs = []) ∨ ∃ g, A = some ⟨g, 0, none⟩ ∧ base ≤ g ∧ g < w.heap.size ∧ ∀ i (h : i < xs.length), w.cell? ⟨g, i, none⟩ = some (.string xs[i]) ∧ w.frozen? ⟨g, i, none⟩ = false)
theorem OwnS.ext {base c : Nat} {w w' : World} {A : Option Addr} {xs : List ByteArray} (h : OwnS base w A c xs) (hx : Ext w w') : OwnS base w' A c xs := by
  refine ⟨h.1, ?_⟩
  rcases h.2 with h | ⟨g, hA, hb, hg, hc⟩
  · exact .inl h
  · exact .inr ⟨g, hA, hb, Nat.lt_of_lt_of_le hg hx.size, fun i hi => ⟨(hx.cell (p := ⟨g, i, none⟩) hg).trans (hc i hi).1, (World.frozen?_of_block (hx.block g hg)).trans (hc i hi).2⟩⟩
theorem OwnS.of_row {base : Nat} {w : World} {A : Option Addr} {n c : Nat} {xs : List ByteArray} (h : SRow base w (.slice A n c) xs) : OwnS base w A c xs := by
  rcases h with ⟨hv, rfl⟩ | ⟨g, rest, hv, hb, hg, hm⟩
  · injection hv with h1 h2 h3
    exact ⟨by simp, .inl ⟨h1, rfl⟩⟩
  · injection hv with h1 h2 h3
    refine ⟨by omega, .inr ⟨g, h1, hb, heap_lt hg, fun j hj => ⟨?_, row_free hg⟩⟩⟩
    rw [cell_of hg]
    have : j < (strVals xs).length := by rw [strVals_len]; exact hj
    rw [List.getElem?_toArray, List.getElem?_append_left this]
    simp [strVals, hj]
theorem OwnS.strs {base c : Nat} {w : World} {A : Option Addr} {xs : List ByteArray} (h : OwnS base w A c xs) (hn : xs.length ≤ 1099511627776) (hz : ∀ x ∈ xs, x.size ≤ 1048576) : StrsR w.heap.size w (.slice A xs.length c) xs := by
  refine ⟨hn, A, c, rfl, fun i hi => ?_⟩
  rcases h.2 with ⟨_, rfl⟩ | ⟨g, hA, hb, hg, hc⟩
  · simp at hi
  · refine ⟨g, 0, [.string xs[i]], hA, hg, rfl, ⟨rfl, hz _ (List.getElem_mem hi)⟩, fun k u hu => ?_⟩
    have hk : k = 0 := by have := (List.getElem?_eq_some_iff.1 hu).1; simp at this; exact this
    subst hk
    have := (hc i hi).1
    simp at hu ⊢
    rw [this, hu]
theorem OwnS.cell {base c : Nat} {w : World} {A : Option Addr} {xs : List ByteArray} (h : OwnS base w A c xs) {i : Nat} (hi : i < xs.length) : ∃ g, A = some ⟨g, 0, none⟩ ∧ g < w.heap.size ∧ w.cell? ⟨g, i, none⟩ = some (.string xs[i]) := by
  rcases h.2 with ⟨_, rfl⟩ | ⟨g, hA, hb, hg, hc⟩
  · simp at hi
  · exact ⟨g, hA, hg, (hc i hi).1⟩
set_option maxRecDepth 100000 in
theorem sort_own (base : Nat) (A : Option Addr) (c : Nat) (xs : List ByteArray) (w : World) (h : OwnS base w A c xs) (hn : xs.length < 4611686018427387904) :
    Calls Tryz.prog 49 #[.slice A xs.length c] w fun e w' => e = .returned (.tuple #[]) ∧ Below base w w' ∧ OwnS base w' A c (sortB xs) := by
  rcases h.2 with ⟨rfl, rfl⟩ | ⟨g, rfl, hb, hg, hc⟩
  · refine (Tryz.slices_Sort_string_none none c w).mono ?_
    rintro e w' ⟨rfl, rfl⟩
    exact ⟨rfl, Below.refl _ _, by simp [sortB_nil], .inl ⟨rfl, rfl⟩⟩
  · refine (sortS_any base g c xs w (fun i hi => (hc i hi).1) (fun i hi => (hc i hi).2) hg hb hn).mono ?_
    rintro e w' ⟨rfl, h1, h2, h3⟩
    refine ⟨rfl, h1, by rw [sortB_len]; exact h.1, .inr ⟨g, rfl, hb, h2, fun i hi => ?_⟩⟩
    rw [sortB_len] at hi
    obtain ⟨h4, h5⟩ := h3 i hi
    refine ⟨?_, h5⟩
    have hi2 : i < (isort (xs.map tx)).length := by rw [(isort_perm _).length_eq, List.length_map]; exact hi
    have e : (sortB xs)[i]'(by rw [sortB_len]; exact hi) = bx ((isort (xs.map tx))[i]) := by simp [sortB]
    rw [h4, e, List.getD_eq_getElem?_getD, List.getElem?_eq_getElem hi2]
    rfl
end Go.Proofs.YtnccefeehkcneaaGreatDoor.Qs
