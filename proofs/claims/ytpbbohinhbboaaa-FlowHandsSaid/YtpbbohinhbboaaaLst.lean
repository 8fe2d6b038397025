/-
  Lists of strings that are looked through, compared, copied: the program's and the reference's helpers.
-/
import Derived.Test.YtpbbohinhbboaaaChk8
import Derived.Test.YtpbbohinhbboaaaName2
import Derived.Lib.SlicesS
namespace Go.Proofs.Ytpbbohinhbboaaa.Sx
open Go Go.RowKit

/-- As SlAt, whatever the capacity. -/
def SlR {α : Type} (R : World → List Value → α → Prop) (sz B : Nat) (w : World) (v : Value) (xs : List α) : Prop :=
  xs.length ≤ 1099511627776 ∧ ∃ (A : Option Addr) (c : Nat), v = .slice A xs.length c ∧ ∀ i (h : i < xs.length), ∃ blk off cs, A = some ⟨blk, off, none⟩ ∧ blk < B ∧ cs.length = sz ∧ R w cs xs[i] ∧ ∀ j u, cs[j]? = some u → w.cell? ⟨blk, off + i * sz + j, none⟩ = some u
theorem SlR.below {α : Type} {R R' : World → List Value → α → Prop} {sz B B' : Nat} {w w' : World} {v : Value} {xs : List α} (h : SlR R sz B w v xs) (hb : Below B w w') (hB : B ≤ B') (hR : ∀ cs x, R w cs x → R' w' cs x) : SlR R' sz B' w' v xs := by
  obtain ⟨hn, A, c, hv, hi⟩ := h
  refine ⟨hn, A, c, hv, fun i hl => ?_⟩
  obtain ⟨blk, off, cs, hA, hlt, hsz, hr, hcell⟩ := hi i hl
  exact ⟨blk, off, cs, hA, by omega, hsz, hR _ _ hr, fun j u hu => (hb.cell (p := ⟨blk, off + i * sz + j, none⟩) hlt).trans (hcell j u hu)⟩
theorem SlAt.toR {α : Type} {R R' : World → List Value → α → Prop} {sz B : Nat} {w : World} {v : Value} {xs : List α} (h : SlAt R sz B w v xs) (hR : ∀ cs x, R w cs x → R' w cs x) : SlR R' sz B w v xs := by
  obtain ⟨hn, A, c, hv, _, _, hi⟩ := h
  refine ⟨by omega, A, c, hv, fun i hl => ?_⟩
  obtain ⟨blk, off, cs, hA, hlt, hsz, hr, hcell⟩ := hi i hl
  exact ⟨blk, off, cs, hA, hlt, hsz, hR _ _ hr, hcell⟩
abbrev StrsR (B : Nat) (w : World) (v : Value) (xs : List ByteArray) : Prop := SlR strR 1 B w v xs
theorem StrsR.below {B B' : Nat} {w w' : World} {v : Value} {xs : List ByteArray} (h : StrsR B w v xs) (hb : Below B w w') (hB : B ≤ B') : StrsR B' w' v xs := SlR.below h hb hB fun _ _ hr => hr
theorem StrsAt.toR {B : Nat} {w : World} {v : Value} {xs : List ByteArray} (h : StrsAt B w v xs) : StrsR B w v xs := SlAt.toR h fun _ _ hr => hr

/-- Its cells. -/
theorem StrsR.cells {B : Nat} {w : World} {v : Value} {xs : List ByteArray} (h : StrsR B w v xs) (h0 : 0 < xs.length) :
    ∃ b off c, v = .slice (some ⟨b, off, none⟩) xs.length c ∧ b < B ∧ ∀ j (hj : j < xs.length), w.cell? ⟨b, off + j, none⟩ = some (.string xs[j]) ∧ xs[j].size ≤ 1048576 := by
  obtain ⟨hn, A, c, rfl, hi⟩ := h
  obtain ⟨b, off, _, rfl, hlt, _⟩ := hi 0 h0
  refine ⟨b, off, c, rfl, hlt, fun j hj => ?_⟩
  obtain ⟨b', off', cs, e, _, _, ⟨rfl, hz⟩, hc⟩ := hi j hj
  injection e with e
  injection e with e1 e2
  subst e1 e2
  exact ⟨by simpa using hc 0 _ rfl, hz⟩
theorem StrsR.getD {w : World} {b off : Nat} {xs : List ByteArray} (h : ∀ j (hj : j < xs.length), w.cell? ⟨b, off + j, none⟩ = some (.string xs[j]) ∧ xs[j].size ≤ 1048576) :
    ∀ j, j < xs.length → w.cell? ⟨b, off + j, none⟩ = some (.string (xs.getD j ByteArray.empty)) := fun j hj => by
  rw [(h j hj).1]
  simp [List.getD, hj]

theorem eqS_iff (a b : ByteArray) : eqS a b = true ↔ a = b := by
  unfold eqS
  rw [beq_iff_eq]
  constructor
  · intro h
    apply ByteArray.ext
    apply Array.ext'
    rw [ByteArray.toList_eq, ByteArray.toList_eq] at h
    exact h
  · rintro rfl; rfl
theorem eqS_comm (a b : ByteArray) : eqS a b = eqS b a := by
  rw [Bool.eq_iff_iff, eqS_iff, eqS_iff]
  exact eq_comm

/-- Is the string among these? -/
def hasS (l : List ByteArray) (s : ByteArray) : Bool := l.any fun x => eqS x s
theorem hasS_iff (l : List ByteArray) (s : ByteArray) : hasS l s = true ↔ s ∈ l := by
  unfold hasS
  rw [List.any_eq_true]
  constructor
  · rintro ⟨x, h1, h2⟩
    rw [(eqS_iff _ _).1 h2] at h1
    exact h1
  · intro h
    exact ⟨s, h, (eqS_iff _ _).2 rfl⟩

theorem contains_strs {B : Nat} {v : Value} {xs : List ByteArray} (s : ByteArray) {w : World} (h : StrsR B w v xs) :
    Calls Try.prog 69 #[v, .string s] w fun e w' => e = .returned (.bool (hasS xs s)) ∧ w = w' := by
  by_cases h0 : 0 < xs.length
  · have hn := h.1
    obtain ⟨b, off, c, rfl, _, hc⟩ := h.cells h0
    refine (Try.slices_Contains_string b off xs.length c xs s w (Nat.le_refl _) (by omega) (StrsR.getD hc)).mono fun e w' ⟨he, hw⟩ => ⟨?_, hw.symm⟩
    rw [he, List.take_length]
    refine ret_bool ?_
    rw [Bool.eq_iff_iff, Lib.containsS_iff, hasS_iff]
  · obtain ⟨hn, A, c, rfl, _⟩ := h
    have hx : xs = [] := List.length_eq_zero_iff.1 (by omega)
    subst hx
    exact (Try.slices_Contains_string_empty A c s w).mono fun e w' ⟨he, hw⟩ => ⟨he, hw.symm⟩

/-- A row of one's own that holds these strings. -/
theorem strs_of_own {w : World} {base : Nat} {v : Value} {xs : List ByteArray} (h : w.ownsRow base 9 1 v xs.length (xs.map Value.string)) (hn : xs.length ≤ 1099511627776) (hz : ∀ x ∈ xs, x.size ≤ 1048576) : StrsR w.heap.size w v xs := by
  rcases h.2 with ⟨rfl, h0⟩ | ⟨g, cap, cur, rfl, hb, hg, _, _, hs, ht⟩
  · have hx : xs = [] := List.length_eq_zero_iff.1 h0
    subst hx
    exact ⟨hn, none, 0, rfl, fun i hi => by simp at hi⟩
  · refine ⟨hn, _, _, rfl, fun i hi => ⟨g, 0, [.string xs[i]], rfl, heap_lt hg, rfl, ⟨rfl, hz _ (List.getElem_mem hi)⟩, fun j u hu => ?_⟩⟩
    match j, hu with
    | 0, hu =>
      simp at hu
      subst hu
      rw [cell_of hg]
      have h1 : (cur.toList.take (xs.length * 1))[i]? = (xs.map Value.string)[i]? := by rw [ht]
      rw [List.getElem?_take_of_lt (by omega)] at h1
      simpa [hi] using h1

theorem clone_strs {B : Nat} {v : Value} {xs : List ByteArray} {w : World} (h : StrsR B w v xs) :
    Calls Try.prog 123 #[v] w fun e w' => ∃ A c, e = .returned (.slice A xs.length c) ∧ StrsR w'.heap.size w' (.slice A xs.length c) xs ∧ Ext w w' := by
  by_cases h0 : 0 < xs.length
  · have hn := h.1
    obtain ⟨b, off, c, rfl, _, hc⟩ := h.cells h0
    refine (Try.slices_Clone_string b off xs.length c xs w (Nat.le_refl _) (by omega) (StrsR.getD hc)).mono fun e w' ⟨v', he, ho, _, hb⟩ => ?_
    rw [List.take_length] at ho
    have hs := strs_of_own ho hn fun x hx => by
      obtain ⟨i, hi, rfl⟩ := List.mem_iff_getElem.1 hx
      exact (hc i hi).2
    obtain ⟨_, A', c', hv, _⟩ := id hs
    subst hv
    exact ⟨_, _, he, hs, hb⟩
  · obtain ⟨hn, A, c, rfl, _⟩ := h
    have hx : xs = [] := List.length_eq_zero_iff.1 (by omega)
    subst hx
    cases A with
    | none => exact (Try.slices_Clone_string_nil 0 c w).mono fun e w' ⟨he, hw⟩ => ⟨_, _, he, ⟨hn, _, _, rfl, fun i hi => by simp at hi⟩, by rw [hw]; exact Below.refl _ _⟩
    | some a =>
      refine (Try.slices_Clone_string_zero a c w).mono fun e w' ⟨v', he, ho, _, hb⟩ => ?_
      have hs := strs_of_own (xs := []) ho hn fun x hx => by cases hx
      obtain ⟨_, A', c', hv, _⟩ := id hs
      subst hv
      exact ⟨_, _, he, hs, hb⟩

set_option maxRecDepth 100000 in
set_option maxHeartbeats 400000 in
theorem rhas_any {B : Nat} {v : Value} {xs : List ByteArray} (s : ByteArray) {w : World} (h : StrsR B w v xs) :
    Calls Try.prog 71 #[v, .string s] w fun e w' => e = .returned (.bool (hasS xs s)) ∧ w = w' := by
  have hn := h.1
  have H := Lib.hid h
  obtain ⟨_, A, c, rfl, _⟩ := h
  have hE : Hid (∀ a b, (a.toList == b.toList) = eqS b a) := fun a b => by rw [eqS_comm]; rfl
  go_enter Try.func71, Try.ntmps71
  go_wp2
  go_loopw [6, 9] (fun i k wr => ∃ j : Nat, j ≤ xs.length ∧ k = .int .i64 j ∧ Hid (noneTo (fun x => eqS x s) xs j) ∧ wr = w) (fun _ k _ => xs.length - (intOf k).toNat)
  case atStart => exact ⟨0, Nat.zero_le _, rfl, fun i hi h => by omega, rfl⟩
  case round =>
    obtain ⟨j, hj, rfl, hN, rfl⟩ := hrel
    by_cases hlt : j < xs.length
    · obtain ⟨b, off, c', hv, _, hc⟩ := StrsR.cells H.out (by omega)
      injection hv with h1 h2 h3
      subst h1 h3
      have hcell := (hc j hlt).1
      have HS : Hid (∀ b, eqS xs[j] s = b → (fun x => eqS x s) xs[j] = b) := fun b hb => hb
      obtain ⟨x, hx⟩ : ∃ x, x = xs[j] := ⟨_, rfl⟩
      have HX := Lib.hid hx
      rw [← hx] at hcell
      clear hx hc h2
      cases hb : (s.toList == x.toList) with
      | true =>
        have HT := Lib.hid (any_some (p := fun x => eqS x s) hlt (HS.out _ (by rw [← HX.out, ← hE.out, hb])))
        go_wp2
        go_ret
        exact ⟨ret_bool HT.out.symm, rfl⟩
      | false =>
        have HT := Lib.hid (noneTo_succ hN.out hlt (HS.out _ (by rw [← HX.out, ← hE.out, hb])))
        go_wp2
        go_roundw
        case rel => exact ⟨j + 1, hlt, by go_num, HT, trivial⟩
        case measure => simp [intOf]; omega
    · have HA := Lib.hid (any_none hN.out (by omega))
      go_wp2
      go_ret
      exact ⟨ret_bool HA.out.symm, rfl⟩
end Go.Proofs.Ytpbbohinhbboaaa.Sx
