/-
  The reference's rows of values: what append is told, what a row reads as.
-/
import Derived.Test.YtahinicpceokcaaGreatDoorJq6
namespace Go.Proofs.YtahinicpceokcaaGreatDoor.Jm
open Go Go.RowKit Go.Proofs.YtahinicpceokcaaGreatDoor.Sx Go.Proofs.YtahinicpceokcaaGreatDoor.Js Go.Proofs.YtahinicpceokcaaGreatDoor.Gr

theorem ty_V : GTy vsT vT 6 88 (.agg #[.int .i64 0, .bool false, .int .i64 0, .string ⟨#[]⟩, .slice none 0 0, .slice none 0 0]) := ⟨Tryz.underlying27, by kernel_rfl, rfl, by omega, by omega⟩
/-- The blocks of a row's elements: new ones, and not the row's own. -/
def Off (base : Nat) (v : Value) (b : Nat) : Prop := base ≤ b ∧ v.ownBlock ≠ some b
/-- A row of one's own that reads as these values. -/
def VRow (base : Nat) (w : World) (v : Value) (acc : List J) : Prop :=
  ∃ L, GRow vT 6 base w v L ∧ L.length = acc.length ∧ ∀ q (h1 : q < L.length) (h2 : q < acc.length), RV (Off base v) w acc[q] L[q]
theorem VRow.nil (base : Nat) (w : World) : VRow base w (.slice none 0 0) [] := ⟨[], GRow.nil, rfl, fun q h1 _ => by cases h1⟩
theorem VRow.vals {base : Nat} {w : World} {A : Option Addr} {n c : Nat} {acc : List J} (h : VRow base w (.slice A n c) acc) : RValsAt (fun b => base ≤ b) w A acc := fun i hi => by
  obtain ⟨L, hg, hl, hr⟩ := h
  have h1 : i < L.length := by rw [hl]; exact hi
  obtain ⟨g, hA, _, hb, _, hc⟩ := hg.at_ h1
  have hv := RV.keep (w' := w) (F' := fun b => base ≤ b) (fun _ _ _ => rfl) (fun b hb _ => hb.1) _ _ (hr i h1 hi)
  exact ⟨g, 0, L[i], hA, hb, (RV.len hv).1, fun k x hk => by rw [Nat.zero_add]; exact hc k x hk, hv⟩
theorem VRow.kept {base k : Nat} {w w' : World} {v : Value} {acc : List J} (h : VRow base w v acc) (hg : w.grownBy w' (some k)) (hk : k < base) : VRow base w' v acc := by
  obtain ⟨L, h1, h2, h3⟩ := h
  refine ⟨L, h1.kept hg (fun g hv e => ?_), h2, fun q hq1 hq2 => RV.keep (fun b hb hlt => hg.block b hlt (fun e => ?_)) (fun _ hb _ => hb) _ _ (h3 q hq1 hq2)⟩
  · injection e with e
    have := (h1.block g hv).1
    omega
  · injection e with e
    have := hb.1
    omega
theorem VRow.ext {base : Nat} {w w' : World} {v : Value} {acc : List J} (h : VRow base w v acc) (hx : Ext w w') : VRow base w' v acc := by
  obtain ⟨L, h1, h2, h3⟩ := h
  exact ⟨L, h1.ext hx, h2, fun q hq1 hq2 => RV.ext (h3 q hq1 hq2) hx⟩
/-- Behind an append of one value. -/
theorem VRow.snoc {base : Nat} {w w' : World} {v v' : Value} {acc : List J} {L : List (List Value)} {u : List Value} {j : J} (hl : L.length = acc.length) (hr : ∀ q (h1 : q < L.length) (h2 : q < acc.length), RV (Off base v) w acc[q] L[q])
    (hu : RV (Off base v) w j u) (hg : GRow vT 6 base w' v' (L ++ [u])) (hw : w.grownBy w' v.ownBlock) (ho : v'.ownBlock = v.ownBlock ∨ v'.ownBlock = some w.heap.size) : VRow base w' v' (acc ++ [j]) := by
  have hkeep : ∀ b, Off base v b → b < w.heap.size → w'.heap[b]? = w.heap[b]? := fun b hb hlt => hw.block b hlt (fun e => hb.2 e.symm)
  have hoff : ∀ b, Off base v b → b < w.heap.size → Off base v' b := fun b hb hlt => ⟨hb.1, fun e => by
    rcases ho with h | h
    · exact hb.2 (h.symm.trans e)
    · rw [h] at e
      injection e with e
      omega⟩
  refine ⟨L ++ [u], hg, by simp [hl], fun q h1 h2 => ?_⟩
  by_cases hq : q < acc.length
  · rw [List.getElem_append_left hq, List.getElem_append_left (by omega)]
    exact RV.keep hkeep hoff _ _ (hr q (by omega) hq)
  · have hqe : q = acc.length := by simp at h2; omega
    subst hqe
    have e1 : (acc ++ [j])[acc.length] = j := by simp
    have e2 : (L ++ [u])[acc.length]'h1 = u := by
      rw [List.getElem_append_right (by omega)]
      simp [hl]
    rw [e1, e2]
    exact RV.keep hkeep hoff _ _ hu
end Go.Proofs.YtahinicpceokcaaGreatDoor.Jm
