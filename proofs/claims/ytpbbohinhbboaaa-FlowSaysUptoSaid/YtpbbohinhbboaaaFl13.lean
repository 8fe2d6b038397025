/-
  Flow: both Fairs side by side.
-/
import Derived.Test.YtpbbohinhbboaaaFl12
namespace Go.Proofs.Ytpbbohinhbboaaa.Fw
open Go Go.RowKit Go.Proofs.Ytpbbohinhbboaaa.Sx

structure JP (zs : List Int) (k : Nat) (es : List Int) (now : Int) (L1 L2 : List Th) : Prop where
  perm : L1.Perm L2
  heap : HeapN L1 L1.length
  kd : KD L2
  len : es.length = zs.length
  few : L2.length ≤ 64
  now0 : 0 ≤ now ∧ now ≤ (k : Int) * 2520000
  ends : ∀ f, f < es.length → 0 ≤ es.getD f 0 ∧ es.getD f 0 ≤ (k : Int) * 2520000
  at_ : ∀ a ∈ L2, ∃ f : Nat, a.flow = (f : Int) ∧ f < zs.length ∧ 0 ≤ a.start ∧ a.start < es.getD f 0
theorem JP.start {zs : List Int} : JP zs 0 (List.replicate zs.length 0) 0 [] [] :=
  ⟨.refl _, fun k _ h => by simp at h, fun a ha => by simp at ha, by simp, by simp, by simp, fun f hf => by
    rw [List.getD_eq_getElem?_getD, List.getElem?_eq_getElem hf]
    simp, fun a ha => by simp at ha⟩
theorem JP.mono {zs : List Int} {k : Nat} {es : List Int} {now : Int} {L1 L2 : List Th} (h : JP zs k es now L1 L2) : JP zs (k + 1) es now L1 L2 :=
  ⟨h.perm, h.heap, h.kd, h.len, h.few, ⟨h.now0.1, by have := h.now0.2; omega⟩, fun f hf => ⟨(h.ends f hf).1, by have := (h.ends f hf).2; omega⟩, h.at_⟩
theorem getD_set {es : List Int} {f j : Nat} {z : Int} (hf : f < es.length) : (es.set f z).getD j 0 = if j = f then z else es.getD j 0 := by
  simp only [List.getD_eq_getElem?_getD, List.getElem?_set]
  by_cases h : f = j
  · subst h; simp [hf]
  · have h2 : ¬ j = f := fun e => h e.symm
    rw [if_neg h2, if_neg h]
theorem JP.offer {zs : List Int} {k : Nat} {es : List Int} {now : Int} {L1 L2 M : List Th} {f : Nat} {id cost : Int} (h : JP zs k es now L1 L2) (hf : f < zs.length) (h1 : 1 ≤ cost) (h2 : cost ≤ 1000) (hz : 1 ≤ zs.getD f 0 ∧ zs.getD f 0 ≤ 10) (hl : L2.length ≤ 63)
    (hm : HeapN M M.length) (hp : M.Perm (L1 ++ [⟨id, f, max (es.getD f 0) now⟩])) : JP zs (k + 1) (es.set f (max (es.getD f 0) now + 2520 * cost / zs.getD f 0)) now M (L2 ++ [⟨id, f, max (es.getD f 0) now⟩]) := by
  have hfe : f < es.length := by rw [h.len]; exact hf
  obtain ⟨e1, e2⟩ := h.ends f hfe
  obtain ⟨n1, n2⟩ := h.now0
  obtain ⟨z, hzz⟩ : ∃ z, z = zs.getD f 0 := ⟨_, rfl⟩
  obtain ⟨y, hy⟩ : ∃ y, y = es.getD f 0 := ⟨_, rfl⟩
  rw [← hzz] at hz ⊢
  rw [← hy] at e1 e2 hp ⊢
  have d1 : 1 ≤ 2520 * cost / z := by
    rw [Int.le_ediv_iff_mul_le (by omega)]
    omega
  have d2 : 2520 * cost / z ≤ 2520000 := Int.le_trans (Int.ediv_le_self _ (by omega)) (by omega)
  obtain ⟨d, hd⟩ : ∃ d, d = 2520 * cost / z := ⟨_, rfl⟩
  rw [← hd] at d1 d2 ⊢
  refine ⟨hp.trans (h.perm.append_right _), hm, h.kd.snoc (fun a ha e => ?_), by rw [List.length_set]; exact h.len, by simp; omega, ⟨n1, by omega⟩, fun j hj => ?_, fun a ha => ?_⟩
  · obtain ⟨f', a1, a2, a3, a4⟩ := h.at_ a ha
    have : f' = f := by
      have e2 : a.flow = (f : Int) := e
      omega
    subst this
    rw [← hy] at a4
    show a.start < max y now
    omega
  · rw [getD_set hfe]
    rw [List.length_set] at hj
    by_cases e : j = f
    · rw [if_pos e]; omega
    · rw [if_neg e]; have := h.ends j hj; omega
  · rcases List.mem_append.1 ha with ha | ha
    · obtain ⟨f', a1, a2, a3, a4⟩ := h.at_ a ha
      refine ⟨f', a1, a2, a3, ?_⟩
      rw [getD_set hfe]
      by_cases e : f' = f
      · rw [if_pos e]; subst e; rw [← hy] at a4; omega
      · rw [if_neg e]; exact a4
    · rw [List.mem_singleton.1 ha]
      refine ⟨f, rfl, hf, by show 0 ≤ max y now; omega, ?_⟩
      rw [getD_set hfe, if_pos rfl]
      show max y now < _
      omega
theorem JP.next {zs : List Int} {k b : Nat} {es : List Int} {now : Int} {L1 L2 M : List Th} (h : JP zs k es now L1 L2) (hb : b < L2.length) (hmin : ∀ m, m < L2.length → ¬ lt (nth L2 m) (nth L2 b)) (hm : HeapN M M.length) (hp : (M ++ [nth L1 0]).Perm L1) :
    nth L2 b = nth L1 0 ∧ JP zs (k + 1) es (nth L1 0).start M (L2.eraseIdx b) := by
  have e := least_is h.kd h.perm h.heap hb hmin
  have hx : nth L1 0 ∈ L2 := by rw [← e]; exact nth_mem hb
  obtain ⟨f, a1, a2, a3, a4⟩ := h.at_ _ hx
  have hsub : ∀ a, a ∈ L2.eraseIdx b → a ∈ L2 := fun a ha => List.mem_of_mem_eraseIdx ha
  refine ⟨e, rest_is h.perm hb e hp, hm, fun a ha c hc => h.kd a (hsub a ha) c (hsub c hc), h.len, ?_, ⟨a3, ?_⟩, fun j hj => ?_, fun a ha => h.at_ a (hsub a ha)⟩
  · have := List.length_eraseIdx_le L2 b
    have := h.few
    omega
  · have := (h.ends f (by rw [h.len]; exact a2)).2
    omega
  · have := h.ends j hj
    omega
/-- Both Fairs in memory; w: the world where it began. -/
def J (w : World) (zs : List Int) (g1 g2 k : Nat) (W : World) : Prop := ∃ es now L1 L2 S1 S2, FairAt fT pT W g1 zs es now L1 S1 ∧ FairAt rT qT W g2 zs es now L2 S2 ∧ JP zs k es now L1 L2 ∧ (∀ b, S1 b → ¬ S2 b) ∧ (∀ b, S1 b → w.heap.size ≤ b) ∧ (∀ b, S2 b → w.heap.size ≤ b) ∧ Ext w W
theorem J.ext {w : World} {zs : List Int} {g1 g2 k : Nat} {W W' : World} (h : J w zs g1 g2 k W) (he : Ext W W') : J w zs g1 g2 k W' := by
  obtain ⟨es, now, L1, L2, S1, S2, a1, a2, a3, a4, a5, a6, a7⟩ := h
  exact ⟨es, now, L1, L2, S1, S2, a1.ext he, a2.ext he, a3, a4, a5, a6, a7.trans he⟩
theorem J.mono {w : World} {zs : List Int} {g1 g2 k : Nat} {W : World} (h : J w zs g1 g2 k W) : J w zs g1 g2 (k + 1) W := by
  obtain ⟨es, now, L1, L2, S1, S2, a1, a2, a3, a4⟩ := h
  exact ⟨es, now, L1, L2, S1, S2, a1, a2, a3.mono, a4⟩
theorem Trn.below {S : Nat → Prop} {w W W' : World} (h : Trn S W W') (hw : Ext w W) (hs : ∀ b, S b → w.heap.size ≤ b) : Ext w W' :=
  ⟨h.os.trans hw.os, h.tape.trans hw.tape, h.output.trans hw.output, Nat.le_trans hw.size h.size, fun k hk => (h.block k (Nat.lt_of_lt_of_le hk hw.size) (fun e => by have := hs k e; omega)).trans (hw.block k hk)⟩
/-- The program's Fair turned; the reference's not yet. -/
structure Mid (w : World) (g2 : Nat) (zs es : List Int) (now : Int) (L2 : List Th) (S1 S2 : Nat → Prop) (W W' : World) (g1 : Nat) (es' : List Int) (now' : Int) (Q : List Th → Prop) : Prop where
  one : ∃ M S', FairAt fT pT W' g1 zs es' now' M S' ∧ Q M ∧ (∀ b, S' b → ¬ S2 b) ∧ (∀ b, S' b → w.heap.size ≤ b)
  two : FairAt rT qT W' g2 zs es now L2 S2
  trn : Trn S1 W W'
  ext : Ext w W'
theorem Mid.mk' {w : World} {g1 g2 : Nat} {zs es es' : List Int} {now now' : Int} {L2 : List Th} {S1 S2 : Nat → Prop} {W wk W' : World} {Q : List Th → Prop} {M : List Th} {S' : Nat → Prop} (h2 : FairAt rT qT W g2 zs es now L2 S2) (hd : ∀ b, S1 b → ¬ S2 b) (hb : ∀ b, S1 b → w.heap.size ≤ b) (hw : Ext w W) (hx : Ext W wk)
    (hf : FairAt fT pT W' g1 zs es' now' M S') (hq : Q M) (ht : Trn S1 wk W') (hs : ∀ k, S' k → S1 k ∨ wk.heap.size ≤ k) : Mid w g2 zs es now L2 S1 S2 W W' g1 es' now' Q := by
  have ht' : Trn S1 W W' := (Trn.of_ext (S := S1) hx).trans ht (fun _ _ h => h)
  refine ⟨⟨M, S', hf, hq, fun b h3 h4 => ?_, fun b h3 => ?_⟩, h2.kept ht' (fun b h3 h4 => hd b h4 h3), ht', ht'.below hw hb⟩
  · have hl := h2.lt h4
    have := hx.size
    rcases hs b h3 with h5 | h5
    · exact hd b h5 h4
    · omega
  · have := hx.size
    have := hw.size
    rcases hs b h3 with h5 | h5
    · exact hb b h5
    · omega
theorem Mid.drew {w : World} {g1 g2 : Nat} {zs es es' : List Int} {now now' : Int} {L2 : List Th} {S1 S2 : Nat → Prop} {W W' : World} {Q : List Th → Prop} (h : Mid w g2 zs es now L2 S1 S2 W W' g1 es' now' Q) : Mid w g2 zs es now L2 S1 S2 W W'.drew g1 es' now' Q := by
  obtain ⟨⟨M, S', a1, a2⟩, b, c, d⟩ := h
  exact ⟨⟨M, S', a1.ext (Below.refl _ _).drew, a2⟩, b.ext (Below.refl _ _).drew, c.drew, d.drew⟩
/-- Both turned. -/
theorem Mid.fin {w : World} {g1 g2 k : Nat} {zs es es' : List Int} {now now' : Int} {L2 M2 : List Th} {S1 S2 : Nat → Prop} {W wk W' : World} {Q : List Th → Prop} {S' : Nat → Prop} (h : Mid w g2 zs es now L2 S1 S2 W wk g1 es' now' Q) (hb : ∀ b, S2 b → w.heap.size ≤ b)
    (hf : FairAt rT qT W' g2 zs es' now' M2 S') (ht : Trn S2 wk W') (hs : ∀ k, S' k → S2 k ∨ wk.heap.size ≤ k) (hj : ∀ M, Q M → JP zs k es' now' M M2) : J w zs g1 g2 k W' := by
  obtain ⟨⟨M, S0, a1, a2, a3, a4⟩, b, c, d⟩ := h
  refine ⟨es', now', M, M2, S0, S', a1.kept ht a3, hf, hj M a2, fun k h1 h2 => ?_, a4, fun k h2 => ?_, ht.below d hb⟩
  · have hl := a1.lt h1
    rcases hs k h2 with h5 | h5
    · exact a3 k h1 h5
    · omega
  · have := d.size
    rcases hs k h2 with h5 | h5
    · exact hb k h5
    · omega
end Go.Proofs.Ytpbbohinhbboaaa.Fw
