/-
  The program's grants.copied: the walk.
-/
import Derived.Test.YtpbbohinhbboaaaCpy
import Derived.Deep.RegionHeld3
import Derived.Deep.AppendLies
namespace Go.Proofs.Ytpbbohinhbboaaa.Sx
open Go Go.RowKit

theorem Ext.undrew {w w' : World} (h : Ext w.drew w') : Ext w w' := Below.trans ((Below.refl _ _).drew) h
theorem OwnS.ext {base : Nat} {w w' : World} {v : Value} {xs : List ByteArray} (h : OwnS base w v xs) (he : Ext w w') : OwnS base w' v xs := h.mod (b := 0) (.of_ext he)
theorem OwnS.one {base : Nat} {w : World} {v : Value} {xs : List ByteArray} (h : OwnS base w v xs) : v.oneCell' = true := by
  obtain ⟨A, c, rfl⟩ := h.slice
  rfl
theorem OwnC.block {base : Nat} {w : World} {v : Value} {L : List Rule} (h : OwnC base w v L) : ∀ g, v.ownBlock = some g → g < w.heap.size := by
  intro g hg
  obtain ⟨css, _, h2, _⟩ := h
  rcases h2.2 with ⟨rfl, h0⟩ | ⟨g', cap, cur, rfl, _, hh, _⟩
  · simp [Value.ownBlock] at hg
  · have : g' = g := by simpa [Value.ownBlock] using hg
    subst this
    exact heap_lt hh
theorem OwnC.css {base : Nat} {w : World} {v : Value} {L : List Rule} (h : OwnC base w v L) : ∃ css : List (List Value), css.length = L.length ∧ w.ownsRow base rT 3 v L.length css.flatten ∧ (∀ i (h : i < L.length), ∃ v1 v2 v3, css[i]? = some [v1, v2, v3] ∧ OwnS base w v1 L[i].verbs ∧ OwnS base w v2 L[i].kinds ∧ OwnS base w v3 L[i].names) := h

theorem RulesR.small {B : Nat} {w : World} {v : Value} {l : List Rule} (h : RulesR B w v l) : ∀ r ∈ l, ruleSmall r := by
  intro r hr
  obtain ⟨i, hi, rfl⟩ := List.mem_iff_getElem.1 hr
  obtain ⟨_, A, c, rfl, _⟩ := id h
  obtain ⟨_, _, _, _, _, _, _, _, _, _, _, _, _, t1, t2, t3⟩ := RulesR.at_ h hi
  exact ⟨t1.small, t2.small, t3.small⟩

theorem step_append_copy {ops : Array Oper} {o : Oper} {a : Act} {K : Act → World → Prop} {Q : Exit → Act → World → Prop} {E : Prop} (hgd : o.guard = none) (s x : Operand)
    (ho : o.op = .call { callee := .builtin .append, args := #[s, x], argTypes := #[79, 79] }) (base kb n : Nat) (w w3 : World) (v : Value) (L : List Rule) (r : Rule) (ad : Addr) (v1 v2 v3 : Value)
    (hs : a.eval s = v) (hx : a.eval x = .slice (some ad) 1 1) (hown : OwnC base w3 v L) (o1 : OwnS base w3 v1 r.verbs) (o2 : OwnS base w3 v2 r.kinds) (o3 : OwnS base w3 v3 r.names) (hw : Ext w3 w) (hc : ∀ j u, [v1, v2, v3][j]? = some u → w.cell? (ad.add j) = some u)
    (hn : L.length = n) (hsm : n + 1 ≤ 1099511627776) (hbase : base ≤ w3.heap.size) (hvb : ∀ g, v.ownBlock = some g → g < kb)
    (h : ∀ A' c' w', OwnC base w' (.slice A' (n + 1) c') (L ++ [r]) → ModR rT base w w' → (∀ k j u, kb ≤ k → w.cell? ⟨k, j, none⟩ = some u → w'.cell? ⟨k, j, none⟩ = some u) → K (a.put o.dst (.slice A' (n + 1) c')) w') :
    if Region.wanted o (yielded ops a.tmps) = true then Oper.wp Try.prog o a w K Q else E := by
  obtain ⟨i0, hi, hz0, hz1, hz2⟩ := info_parts rule_info
  subst hn
  obtain ⟨css, h1, h2, h3⟩ := (hown.ext hw).css
  refine step_append_lies w hgd s x 79 ho base rT i0 _ 3 72 Try.underlying79 hi hz0 hz1 hz2 rfl (by omega) v L.length css.flatten hs h2 ad 1 1 [v1, v2, v3] hx rfl hc ?_ (by omega) ?_ ?_ (Nat.le_trans hbase hw.size) _ rfl ?_
  · intro u hu
    simp at hu
    rcases hu with rfl | rfl | rfl
    · exact o1.one
    · exact o2.one
    · exact o3.one
  · unfold maxLen; omega
  · omega
  · intro g cap w' hown' hgrow _ _
    have hm := modR_of_grown h2 hgrow
    refine h _ _ w' ⟨css ++ [[v1, v2, v3]], by simp [h1], by rw [List.length_append, List.flatten_append]; simpa using hown', fun i hil => ?_⟩ hm ?_
    · by_cases hlt : i < L.length
      · obtain ⟨u1, u2, u3, e, a1, a2, a3⟩ := h3 i hlt
        exact ⟨u1, u2, u3, by rw [List.getElem?_append_left (by omega)]; exact e, by rw [List.getElem_append_left hlt]; exact a1.mod hm, by rw [List.getElem_append_left hlt]; exact a2.mod hm, by rw [List.getElem_append_left hlt]; exact a3.mod hm⟩
      · obtain rfl : i = L.length := by simp at hil; omega
        refine ⟨v1, v2, v3, by rw [List.getElem?_append_right (by omega), h1]; simp, ?_, ?_, ?_⟩
        · simpa using (o1.ext hw).mod hm
        · simpa using (o2.ext hw).mod hm
        · simpa using (o3.ext hw).mod hm
    · intro k j u hk hc
      by_cases hlt : k < w.heap.size
      · rw [hgrow.cell_far ⟨k, j, none⟩ hlt (fun e => by have := hvb k e.symm; omega)]
        exact hc
      · unfold World.cell? at hc
        rw [Array.getElem?_eq_none (by simpa using hlt)] at hc
        cases hc

set_option maxRecDepth 100000 in
set_option maxHeartbeats 2000000 in
theorem gcopied_any (B : Nat) (v : Value) (l : List Rule) (w : World) (hB : B ≤ w.heap.size) (h : RulesR B w v l) :
    Calls Try.prog 103 #[v] w fun e w' => ∃ A c, e = .returned (.slice A l.length c) ∧ RulesR w'.heap.size w' (.slice A l.length c) l ∧ Ext w w' := by
  have H := Lib.hid h
  have hn := h.1
  obtain ⟨_, A, c, rfl, _⟩ := h
  go_enter Try.func103, Try.ntmps103
  go_wp2
  go_loopw [3, 8] (fun v k wr => ∃ (j : Nat) (A7 : Option Addr) (c7 : Nat), j ≤ l.length ∧ k = .int .i64 j ∧ v = .slice A7 j c7 ∧ Hid (OwnC w.heap.size wr (.slice A7 j c7) (l.take j)) ∧ Hid (ModR rT w.heap.size w wr)) (fun _ k _ => l.length - (intOf k).toNat)
  case atStart => exact ⟨0, none, 0, Nat.zero_le _, rfl, rfl, OwnC.nil, ModR.refl⟩
  case round =>
    obtain ⟨j, A7, c7, hj, rfl, rfl, hO, hM⟩ := hrel
    by_cases hlt : j < l.length
    · have hR : RulesR B wr (.slice A l.length c) l := H.out.below ((hM.out.below (Nat.le_refl _)).mono hB) (Nat.le_refl _)
      obtain ⟨b, off, A1, c1, A2, c2, A3, c3, rfl, hbB, x0, x1, x2, t1, t2, t3⟩ := RulesR.at_ hR hlt
      have HSUC : Hid (l.take (j + 1) = l.take j ++ [l[j]]) := List.take_succ_eq_append_getElem hlt
      obtain ⟨r, hr⟩ : ∃ r, r = l[j] := ⟨_, rfl⟩
      rw [← hr] at x0 x1 x2 t1 t2 t3 HSUC
      have HR := Lib.hid hr
      clear hr
      have hbz : B ≤ wr.heap.size := Nat.le_trans hB hM.out.size
      go_wp2
      obtain ⟨kb, hkb⟩ : ∃ kb, kb = wr.heap.size := ⟨_, rfl⟩
      obtain ⟨w2, hw2⟩ : ∃ w2, w2 = wr.alloc (.cells #[.slice A1 r.verbs.length c1, .slice A2 r.kinds.length c2, .slice A3 r.names.length c3] 86) := ⟨_, rfl⟩
      have hx2 : Ext wr w2 := by rw [hw2]; exact (Below.refl _ _).alloc (Nat.le_refl _) _
      have hg2 : w2.heap[kb]? = some (.cells #[.slice A1 r.verbs.length c1, .slice A2 r.kinds.length c2, .slice A3 r.names.length c3] 86 (0, 0)) := by rw [hw2]; exact heap_new hkb
      rw [← hw2, ← hkb]
      have oL : OwnC w.heap.size w2 (.slice A7 j c7) (l.take j) := hO.out.ext hx2
      have HM := Lib.hid (hM.out.trans (.of_ext hx2))
      have HVB : Hid (∀ g, (Value.slice A7 j c7).ownBlock = some g → g < kb) := by unfold Hid; rw [hkb]; exact hO.out.block
      have hbl := hx2.mono hbz
      have HT := Lib.hid (And.intro (t1.below hbl (Nat.le_refl _)) (And.intro (t2.below hbl (Nat.le_refl _)) (t3.below hbl (Nat.le_refl _))))
      have HZ : Hid (w.heap.size ≤ w2.heap.size) := Nat.le_trans hM.out.size hx2.size
      have HB2 : Hid (B ≤ w2.heap.size) := Nat.le_trans hB HZ.out
      have hcs : ∀ w', Ext w2 w' → Ext w2 w' ∧ w'.cell? ⟨kb, 0, none⟩ = some (.slice A1 r.verbs.length c1) ∧ w'.cell? ⟨kb, 1, none⟩ = some (.slice A2 r.kinds.length c2) ∧ w'.cell? ⟨kb, 2, none⟩ = some (.slice A3 r.names.length c3) := fun w' hk => ⟨hk, cells3 ((hk.block _ (heap_lt hg2)).trans hg2)⟩
      have C1 : Hid (∀ wk, Ext w2 wk → Calls Try.prog 123 #[.slice A1 r.verbs.length c1] wk fun e w' => ∃ A c, e = .returned (.slice A r.verbs.length c) ∧ OwnS w.heap.size w' (.slice A r.verbs.length c) r.verbs ∧ Ext wk w' ∧ Ext w2 w' ∧ w'.cell? ⟨kb, 0, none⟩ = some (.slice A1 r.verbs.length c1) ∧ w'.cell? ⟨kb, 1, none⟩ = some (.slice A2 r.kinds.length c2) ∧ w'.cell? ⟨kb, 2, none⟩ = some (.slice A3 r.names.length c3)) := fun wk hk =>
        (clone_own (HT.out.1.below (hk.mono HB2.out) (Nat.le_refl _))).mono fun e w' ⟨A, c, he, ho, hx⟩ => ⟨A, c, he, ho.low (Nat.le_trans HZ.out hk.size), hx, hcs w' (hk.trans hx)⟩
      have C2 : Hid (∀ wk, Ext w2 wk → Calls Try.prog 123 #[.slice A2 r.kinds.length c2] wk fun e w' => ∃ A c, e = .returned (.slice A r.kinds.length c) ∧ OwnS w.heap.size w' (.slice A r.kinds.length c) r.kinds ∧ Ext wk w' ∧ Ext w2 w' ∧ w'.cell? ⟨kb, 0, none⟩ = some (.slice A1 r.verbs.length c1) ∧ w'.cell? ⟨kb, 1, none⟩ = some (.slice A2 r.kinds.length c2) ∧ w'.cell? ⟨kb, 2, none⟩ = some (.slice A3 r.names.length c3)) := fun wk hk =>
        (clone_own (HT.out.2.1.below (hk.mono HB2.out) (Nat.le_refl _))).mono fun e w' ⟨A, c, he, ho, hx⟩ => ⟨A, c, he, ho.low (Nat.le_trans HZ.out hk.size), hx, hcs w' (hk.trans hx)⟩
      have C3 : Hid (∀ wk, Ext w2 wk → Calls Try.prog 123 #[.slice A3 r.names.length c3] wk fun e w' => ∃ A c, e = .returned (.slice A r.names.length c) ∧ OwnS w.heap.size w' (.slice A r.names.length c) r.names ∧ Ext wk w' ∧ Ext w2 w' ∧ w'.cell? ⟨kb, 0, none⟩ = some (.slice A1 r.verbs.length c1) ∧ w'.cell? ⟨kb, 1, none⟩ = some (.slice A2 r.kinds.length c2) ∧ w'.cell? ⟨kb, 2, none⟩ = some (.slice A3 r.names.length c3)) := fun wk hk =>
        (clone_own (HT.out.2.2.below (hk.mono HB2.out) (Nat.le_refl _))).mono fun e w' ⟨A, c, he, ho, hx⟩ => ⟨A, c, he, ho.low (Nat.le_trans HZ.out hk.size), hx, hcs w' (hk.trans hx)⟩
      obtain ⟨q1, q2, q3⟩ := cells3 hg2
      have HLN : Hid ((l.take j).length = j) := by unfold Hid; rw [List.length_take]; omega
      have HSM : Hid (j + 1 ≤ 1099511627776) := by unfold Hid; omega
      have hxx : Ext w2 w2 := Below.refl _ _
      clear x0 x1 x2 t1 t2 t3 hR hbz hw2 hx2 hg2 hkb hbl hcs
      go_region_held3 (fun w' => w'.cell? ⟨kb, 0, none⟩ = some (.slice A1 r.verbs.length c1) ∧ w'.cell? ⟨kb, 1, none⟩ = some (.slice A2 r.kinds.length c2) ∧ w'.cell? ⟨kb, 2, none⟩ = some (.slice A3 r.names.length c3))
        (first | (refine ⟨by assumption, by assumption, by assumption⟩) | (refine ⟨hkc _ _ _ (Nat.le_refl _) ?_, hkc _ _ _ (Nat.le_refl _) ?_, hkc _ _ _ (Nat.le_refl _) ?_⟩ <;> go_keep) | go_keep)
        (first
          | (go_at_call 123; with_reducible refine (C1.out _ (by first | assumption | (apply Below.drew; assumption))).mono ?_; rintro e w' ⟨a1, d1, rfl, o1, hx, r0, r1, r2, r3⟩; first | replace oL := oL.ext hx | replace oL := oL.ext hx.undrew)
          | (go_at_call 123; with_reducible refine (C2.out _ (by first | assumption | (apply Below.drew; assumption))).mono ?_; rintro e w' ⟨a2, d2, rfl, o2, hx, r0, r1, r2, r3⟩; first | (replace oL := oL.ext hx; replace o1 := o1.ext hx) | (replace oL := oL.ext hx.undrew; replace o1 := o1.ext hx.undrew))
          | (go_at_call 123; with_reducible refine (C3.out _ (by first | assumption | (apply Below.drew; assumption))).mono ?_; rintro e w' ⟨a3, d3, rfl, o3, hx, r0, r1, r2, r3⟩; first | (replace oL := oL.ext hx; replace o1 := o1.ext hx; replace o2 := o2.ext hx) | (replace oL := oL.ext hx.undrew; replace o1 := o1.ext hx.undrew; replace o2 := o2.ext hx.undrew))
          | (refine step_append_copy (by rfl) _ _ (by rfl) w.heap.size kb j _ _ _ (l.take j) r _ _ _ _ (by rfl) (by rfl) oL o1 o2 o3 (by first | exact (Below.refl _ _).alloc (Nat.le_refl _) _ | exact ((Below.refl _ _).alloc (Nat.le_refl _) _).drew) (World.news_of_block (heap_new rfl)) HLN.out HSM.out (Nat.le_trans HZ.out r0.size) HVB.out ?_; intro A9 c9 w9 hown hm9 hkc))
      have HM9 := Lib.hid ((HM.out.trans (.of_ext (Ext.trans r0 (by first | exact (Below.refl _ _).alloc (Nat.le_refl _) _ | exact ((Below.refl _ _).alloc (Nat.le_refl _) _).drew)))).trans hm9)
      have HO9 : Hid (OwnC w.heap.size w9 (.slice A9 (j + 1) c9) (l.take (j + 1))) := by unfold Hid; rw [HSUC.out]; exact hown
      clear hm9 hown hkc
      go_wp2
      go_roundw
      case rel => exact ⟨j + 1, A9, c9, hlt, by go_num, rfl, HO9, HM9⟩
      case measure => simp [intOf]; omega
    · obtain rfl : j = l.length := by omega
      have hbz : B ≤ wr.heap.size := Nat.le_trans hB hM.out.size
      have HE : Hid (Ext w wr) := (hM.out.below (Nat.le_refl _)).mono (Nat.le_refl _)
      have HSR : Hid (∀ r ∈ l, ruleSmall r) := H.out.small
      have HR : Hid (RulesR wr.heap.size wr (.slice A7 l.length c7) l) := by
        have h1 := hO.out
        rw [List.take_length] at h1
        exact h1.toR hn HSR.out
      clear hbz
      go_wp2
      go_ret
      exact ⟨A7, c7, rfl, HR.out, HE.out⟩
end Go.Proofs.Ytpbbohinhbboaaa.Sx
