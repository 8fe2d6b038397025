/-
  Slices that read as lists, whatever the capacity; lists of strings. No program in sight but for the number of the type string.
-/
import Derived.Test.YtnccefeehkcneaaGreatDoorBase
import Derived.Laws.AppendOwn
namespace Go.Proofs.YtnccefeehkcneaaGreatDoor.Sx
open Go Go.RowKit
/-- As SlAt, whatever the capacity. -/
def SlR {α : Type} (R : World → List Value → α → Prop) (sz B : Nat) (w : World) (v : Value) (xs : List α) : Prop :=
  xs.length ≤ 1099511627776 ∧ ∃ (A : Option Addr) (c : Nat), v = .slice A xs.length c ∧ ∀ i (h : i < xs.length), ∃ blk off cs, A = some ⟨blk, off, none⟩ ∧ blk < B ∧ cs.length = sz ∧ R w cs xs[i] ∧ ∀ j u, cs[j]? = some u → w.cell? ⟨blk, off + i * sz + j, none⟩ = some u
theorem SlR.below {α : Type} {R R' : World → List Value → α → Prop} {sz B B' : Nat} {w w' : World} {v : Value} {xs : List α} (h : SlR R sz B w v xs) (hb : Below B w w') (hB : B ≤ B') (hR : ∀ cs x, R w cs x → R' w' cs x) : SlR R' sz B' w' v xs := by
  obtain ⟨hn, A, c, hv, hi⟩ := h
  refine ⟨hn, A, c, hv, fun i hl => ?_⟩
  obtain ⟨blk, off, cs, hA, hlt, hsz, hr, hcell⟩ := hi i hl
  exact ⟨blk, off, cs, hA, by omega, hsz, hR _ _ hr, fun j u hu => (hb.cell (p := ⟨blk, off + i * sz + j, none⟩) hlt).trans (hcell j u hu)⟩
theorem SlAt.toR {α : Type} {R R' : World → List Value → α → Prop} {sz B : Nat} {w : World} {v : Value} {xs : List α} (h : SlAt R sz B w v xs) (hR : ∀ cs x, R w cs x → R' w cs x) : SlR R' sz B w v xs := by
  obtain ⟨hn, A, c, hv, _, _, hi⟩ := h
  refine ⟨by omega, A, c, hv, fun i hl => ?_⟩
  obtain ⟨blk, off, cs, hA, hlt, hsz, hr, hcell⟩ := hi i hl
  exact ⟨blk, off, cs, hA, hlt, hsz, hR _ _ hr, hcell⟩
abbrev StrsR (B : Nat) (w : World) (v : Value) (xs : List ByteArray) : Prop := SlR strR 1 B w v xs
theorem StrsR.below {B B' : Nat} {w w' : World} {v : Value} {xs : List ByteArray} (h : StrsR B w v xs) (hb : Below B w w') (hB : B ≤ B') : StrsR B' w' v xs := SlR.below h hb hB fun _ _ hr => hr
theorem StrsAt.toR {B : Nat} {w : World} {v : Value} {xs : List ByteArray} (h : StrsAt B w v xs) : StrsR B w v xs := SlAt.toR h fun _ _ hr => hr
/-- Its cells. -/
theorem StrsR.cells {B : Nat} {w : World} {v : Value} {xs : List ByteArray} (h : StrsR B w v xs) (h0 : 0 < xs.length) :
    ∃ b off c, v = .slice (some ⟨b, off, none⟩) xs.length c ∧ b < B ∧ ∀ j (hj : j < xs.length), w.cell? ⟨b, off + j, none⟩ = some (.string xs[j]) ∧ xs[j].size ≤ 1048576 := by
  obtain ⟨hn, A, c, rfl, hi⟩ := h
  obtain ⟨b, off, _, rfl, hlt, _⟩ := hi 0 h0
  refine ⟨b, off, c, rfl, hlt, fun j hj => ?_⟩
  obtain ⟨b', off', cs, e, _, _, ⟨rfl, hz⟩, hc⟩ := hi j hj
  injection e with e
  injection e with e1 e2
  subst e1 e2
  exact ⟨by simpa using hc 0 _ rfl, hz⟩
theorem StrsR.getD {w : World} {b off : Nat} {xs : List ByteArray} (h : ∀ j (hj : j < xs.length), w.cell? ⟨b, off + j, none⟩ = some (.string xs[j]) ∧ xs[j].size ≤ 1048576) :
    ∀ j, j < xs.length → w.cell? ⟨b, off + j, none⟩ = some (.string (xs.getD j ByteArray.empty)) := fun j hj => by
  rw [(h j hj).1]
  simp [List.getD, hj]
/-- A row of one's own that holds these strings. -/
theorem strs_of_own {w : World} {base : Nat} {v : Value} {xs : List ByteArray} (h : w.ownsRow base 9 1 v xs.length (xs.map Value.string)) (hn : xs.length ≤ 1099511627776) (hz : ∀ x ∈ xs, x.size ≤ 1048576) : StrsR w.heap.size w v xs := by
  rcases h.2 with ⟨rfl, h0⟩ | ⟨g, cap, cur, rfl, hb, hg, _, _, hs, ht⟩
  · have hx : xs = [] := List.length_eq_zero_iff.1 h0
    subst hx
    exact ⟨hn, none, 0, rfl, fun i hi => by simp at hi⟩
  · refine ⟨hn, _, _, rfl, fun i hi => ⟨g, 0, [.string xs[i]], rfl, heap_lt hg, rfl, ⟨rfl, hz _ (List.getElem_mem hi)⟩, fun j u hu => ?_⟩⟩
    match j, hu with
    | 0, hu =>
      simp at hu
      subst hu
      rw [cell_of hg]
      have h1 : (cur.toList.take (xs.length * 1))[i]? = (xs.map Value.string)[i]? := by rw [ht]
      rw [List.getElem?_take_of_lt (by omega)] at h1
      simpa [hi] using h1
end Go.Proofs.YtnccefeehkcneaaGreatDoor.Sx
