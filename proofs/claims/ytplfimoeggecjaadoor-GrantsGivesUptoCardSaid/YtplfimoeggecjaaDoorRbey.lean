/-
  The reference's Beyond.
-/
import Derived.Test.YtplfimoeggecjaaDoorWds
import Derived.Test.YtplfimoeggecjaaDoorAlw3
import Derived.BigRegion
namespace Go.Proofs.YtplfimoeggecjaaDoor.Sx
open Go Go.RowKit Go.Proofs.YtplfimoeggecjaaDoor.Dc

set_option maxRecDepth 100000 in
set_option maxHeartbeats 8000000 in
theorem rbeyond_any (B : Nat) (v v1 v2 v3 : Value) (l : List Rule) (r : Rule) (w : World) (hB : B ≤ w.heap.size) (hv : RulesR B w v l) (h1 : StrsR B w v1 r.verbs) (h2 : StrsR B w v2 r.kinds) (h3 : StrsR B w v3 r.names) (hl : l.length ≤ 1048576) (hf1 : (verbsOf l).length ≤ 1048576) (hf2 : (kindsOf l).length ≤ 1048576) (hf3 : (namesOf l).length ≤ 1048576) :
    Calls Tryd.prog 5 #[v, .agg #[v1, v2, v3]] w fun e w' => e = .returned (beyV (beyondL l r)) ∧ Ext w w' := by
  have HV := Lib.hid (And.intro hv (And.intro h1 (And.intro h2 h3)))
  have HFL := Lib.hid (And.intro hf1 (And.intro hf2 hf3))
  clear hf1 hf2 hf3
  obtain ⟨_, A, c, rfl, -⟩ := hv
  obtain ⟨_, A1, c1, rfl, -⟩ := h1
  obtain ⟨_, A2, c2, rfl, -⟩ := h2
  obtain ⟨_, A3, c3, rfl, -⟩ := h3
  go_enter Tryd.func5, Tryd.ntmps5
  go_wp2_with fail
  obtain ⟨n, hn⟩ : ∃ n, n = l.length := ⟨_, rfl⟩
  rw [← hn] at hl ⊢
  have HN := Lib.hid hn
  obtain ⟨w0, hw0⟩ : ∃ w0, w0 = ((w.alloc (.cells #[.slice A1 r.verbs.length c1, .slice A2 r.kinds.length c2, .slice A3 r.names.length c3] 31 (0, 0))).alloc (.cells #[.string ⟨#[]⟩, .string ⟨#[]⟩, .string ⟨#[]⟩, .string ⟨#[]⟩] 33 (0, 0))).alloc (.cells #[.slice none 0 0, .slice none 0 0, .slice none 0 0] 44 (0, 0)) := ⟨_, rfl⟩
  rw [← hw0]
  obtain ⟨kw, hkw⟩ : ∃ kw, kw = w.heap.size + 1 + 1 := ⟨_, rfl⟩
  rw [← hkw]
  have HKW := Lib.hid hkw
  have HX0 : Hid (Ext w w0) := by rw [hw0]; exact ((new_ext _ _).trans (new_ext _ _)).trans (new_ext _ _)
  have HW0 := Lib.hid hw0
  have HB0 : Hid (w0.heap[kw]? = some (.cells #[.slice none 0 0, .slice none 0 0, .slice none 0 0] 44 (0, 0)) ∧ kw < w0.heap.size) := by rw [hw0, hkw]; exact ⟨heap_new (by simp), by simp⟩
  clear hw0 hn hkw
  go_loopw [20] (fun i wr => ∃ (k : Nat) (x1 x2 x3 : Value), i = .int .i64 (k : Int) ∧ k ≤ n ∧ Hid (wr.heap[kw]? = some (.cells #[x1, x2, x3] 44 (0, 0))) ∧ Hid (Wds w0 kw wr x1 (verbsOf (l.take k)) x2 (kindsOf (l.take k)) x3 (namesOf (l.take k)))) (fun i _ => n - (intOf i).toNat)
  case atStart => exact ⟨0, _, _, _, rfl, Nat.zero_le _, HB0.out.1, by rw [List.take_zero]; exact Wds.nil (Below.refl _ _) HB0.out.2⟩
  case round =>
    obtain ⟨k, x1, x2, x3, rfl, hk, HBX, HT⟩ := hrel
    by_cases hlt : k < n
    · have hkl : k < l.length := by rw [← HN.out]; exact hlt
      have hxr : Ext w wr := Below.trans HX0.out (HT.out.bel.mono (by have := HKW.out; omega))
      obtain ⟨b, off, E1, f1, E2, f2, E3, f3, e, hbl, z1, z2, z3, s1, s2, s3⟩ := HV.out.1.at_ hkl
      subst e
      have hbw : b < w.heap.size := Nat.lt_of_lt_of_le hbl hB
      have z1' := (hxr.cell (p := ⟨b, off + k * 3, none⟩) hbw).trans z1
      have z2' := (hxr.cell (p := ⟨b, off + k * 3 + 1, none⟩) hbw).trans z2
      have z3' := (hxr.cell (p := ⟨b, off + k * 3 + 2, none⟩) hbw).trans z3
      have HS : Hid (∀ W : World, Below kw w0 W → SrcS W (.slice E1 l[k].verbs.length f1) l[k].verbs ∧ SrcS W (.slice E2 l[k].kinds.length f2) l[k].kinds ∧ SrcS W (.slice E3 l[k].names.length f3) l[k].names) := fun W hW => by
        have hx := (Below.trans HX0.out (hW.mono (by have := HKW.out; omega))).mono hB
        exact ⟨(s1.below hx (Nat.le_refl _)).src, (s2.below hx (Nat.le_refl _)).src, (s3.below hx (Nat.le_refl _)).src⟩
      have HSU := Lib.hid (And.intro (verbs_succ hkl) (And.intro (kinds_succ hkl) (names_succ hkl)))
      have q1l : (verbsOf (l.take k)).length + l[k].verbs.length ≤ 1048576 := by have h := flat_take (l := l) (f := fun r => r.verbs) (k + 1); have e := congrArg List.length (verbs_succ hkl); rw [List.length_append] at e; exact e ▸ Nat.le_trans h HFL.out.1
      have q2l : (kindsOf (l.take k)).length + l[k].kinds.length ≤ 1048576 := by have h := flat_take (l := l) (f := fun r => r.kinds) (k + 1); have e := congrArg List.length (kinds_succ hkl); rw [List.length_append] at e; exact e ▸ Nat.le_trans h HFL.out.2.1
      have q3l : (namesOf (l.take k)).length + l[k].names.length ≤ 1048576 := by have h := flat_take (l := l) (f := fun r => r.names) (k + 1); have e := congrArg List.length (names_succ hkl); rw [List.length_append] at e; exact e ▸ Nat.le_trans h HFL.out.2.2
      have HQ := Lib.hid (And.intro q1l (And.intro q2l q3l))
      clear q1l q2l q3l z1 z2 z3 s1 s2 s3 hxr hbl
      obtain ⟨y1, hy1⟩ : ∃ y, y = l[k].verbs := ⟨_, rfl⟩
      obtain ⟨y2, hy2⟩ : ∃ y, y = l[k].kinds := ⟨_, rfl⟩
      obtain ⟨y3, hy3⟩ : ∃ y, y = l[k].names := ⟨_, rfl⟩
      rw [← hy1, ← hy2, ← hy3] at HS HSU HQ
      rw [← hy1] at z1'
      rw [← hy2] at z2'
      rw [← hy3] at z3'
      clear hy1 hy2 hy3
      obtain ⟨p1, hp1⟩ : ∃ p, p = verbsOf (l.take k) := ⟨_, rfl⟩
      obtain ⟨p2, hp2⟩ : ∃ p, p = kindsOf (l.take k) := ⟨_, rfl⟩
      obtain ⟨p3, hp3⟩ : ∃ p, p = namesOf (l.take k) := ⟨_, rfl⟩
      rw [← hp1, ← hp2, ← hp3] at HT HSU HQ
      clear hp1 hp2 hp3
      obtain ⟨G1, g1, rfl⟩ := HT.out.one.slice
      obtain ⟨G2, g2, rfl⟩ := HT.out.two.slice
      obtain ⟨G3, g3, rfl⟩ := HT.out.three.slice
      have hbr : b < wr.heap.size := Nat.lt_of_lt_of_le hbw (Nat.le_of_lt (Nat.lt_of_le_of_lt (by have := HKW.out; omega) HT.out.lt))
      go_wp2_with fail
      obtain ⟨kb, hkb⟩ : ∃ kb, kb = wr.heap.size := ⟨_, rfl⟩
      obtain ⟨w1, hw1⟩ : ∃ w1, w1 = wr.alloc (.cells #[.slice E1 y1.length f1, .slice E2 y2.length f2, .slice E3 y3.length f3] 31 (0, 0)) := ⟨_, rfl⟩
      rw [← hw1, ← hkb]
      have hx1 : Ext wr w1 := by rw [hw1]; exact new_ext _ _
      have hbx1 : w1.heap[kw]? = some (.cells #[.slice G1 p1.length g1, .slice G2 p2.length g2, .slice G3 p3.length g3] 44 (0, 0)) := (hx1.block _ HT.out.lt).trans HBX.out
      have hhb1 : w1.heap[kb]? = some (.cells #[.slice E1 y1.length f1, .slice E2 y2.length f2, .slice E3 y3.length f3] 31 (0, 0)) := by rw [hw1, hkb]; exact heap_new rfl
      have HT1 := Lib.hid (HT.out.kept (hx1.trans (ext_drew1 (Below.refl _ _))))
      have HN1 : Hid (∀ g, ((Value.slice G1 p1.length g1).ownBlock = some g ∨ (Value.slice G2 p2.length g2).ownBlock = some g ∨ (Value.slice G3 p3.length g3).ownBlock = some g) → g ≠ kw ∧ g ≠ kb) := fun g h => by
        have h1 : kw + 1 ≤ g ∧ g < wr.heap.size := by
          rcases h with h | h | h
          · exact HT.out.one.block g h
          · exact HT.out.two.block g h
          · exact HT.out.three.block g h
        omega
      have HSS : Hid (∀ W : World, W.heap[kw]? = some (.cells #[.slice G1 p1.length g1, .slice G2 p2.length g2, .slice G3 p3.length g3] 44 (0, 0)) → W.heap[kb]? = some (.cells #[.slice E1 y1.length f1, .slice E2 y2.length f2, .slice E3 y3.length f3] 31 (0, 0)) → (W.cell? ⟨kw, 0, none⟩ = some (.slice G1 p1.length g1) ∧ W.cell? ⟨kw, 1, none⟩ = some (.slice G2 p2.length g2) ∧ W.cell? ⟨kw, 2, none⟩ = some (.slice G3 p3.length g3)) ∧ W.cell? ⟨kb, 0, none⟩ = some (.slice E1 y1.length f1) ∧ W.cell? ⟨kb, 1, none⟩ = some (.slice E2 y2.length f2) ∧ W.cell? ⟨kb, 2, none⟩ = some (.slice E3 y3.length f3)) := fun W h1 h2 => by
        refine ⟨⟨?_, ?_, ?_⟩, ?_, ?_, ?_⟩ <;> first | simp [cell_of h1] | simp [cell_of h2]
      have HB1 := Lib.hid (And.intro hbx1 hhb1)
      clear hw1 hkb hx1 hbx1 hhb1 z1' z2' z3' hbr
      refine wp_region_head (S := fun W => (W.cell? ⟨kw, 0, none⟩ = some (.slice G1 p1.length g1) ∧ W.cell? ⟨kw, 1, none⟩ = some (.slice G2 p2.length g2) ∧ W.cell? ⟨kw, 2, none⟩ = some (.slice G3 p3.length g3)) ∧ W.cell? ⟨kb, 0, none⟩ = some (.slice E1 y1.length f1) ∧ W.cell? ⟨kb, 1, none⟩ = some (.slice E2 y2.length f2) ∧ W.cell? ⟨kb, 2, none⟩ = some (.slice E3 y3.length f3)) 16 (by kernel_rfl) (by simp) (HSS.out _ HB1.out.1 HB1.out.2) (fun hS0 => ?_)
      refine wpHead_take (i := 0) (v := ?vv0) (by kernel_rfl) rfl (by kernel_rfl) (fun _ _ _ h => h) (Or.inl ⟨by rfl, ?hy0⟩) hS0 ?_
      case hy0 => (intro W hSW; (try dsimp only at hSW); obtain ⟨⟨q1, q2, q3⟩, q4, q5, q6⟩ := hSW; go_simp; all_goals (with_reducible rfl))
      simp only [Act.put, List.setIfInBounds_toArray, List.set_cons_zero, List.set_cons_succ]
      refine wpHead_take (i := 1) (v := ?vv1) (by kernel_rfl) rfl (by kernel_rfl) (fun _ _ _ h => h) (Or.inl ⟨by rfl, ?hy1⟩) hS0 ?_
      case hy1 => (intro W hSW; (try dsimp only at hSW); obtain ⟨⟨q1, q2, q3⟩, q4, q5, q6⟩ := hSW; go_simp; all_goals (with_reducible rfl))
      simp only [Act.put, List.setIfInBounds_toArray, List.set_cons_zero, List.set_cons_succ]
      refine wpHead_take (i := 2) (v := ?vv2) (by kernel_rfl) rfl (by kernel_rfl) (fun _ _ _ h => h) (Or.inl ⟨by rfl, ?hy2⟩) hS0 ?_
      case hy2 => (intro W hSW; (try dsimp only at hSW); obtain ⟨⟨q1, q2, q3⟩, q4, q5, q6⟩ := hSW; go_simp; all_goals (with_reducible rfl))
      simp only [Act.put, List.setIfInBounds_toArray, List.set_cons_zero, List.set_cons_succ]
      refine wpHead_take (i := 3) (v := ?vv3) (by kernel_rfl) rfl (by kernel_rfl) (fun _ _ _ h => h) (Or.inl ⟨by rfl, ?hy3⟩) hS0 ?_
      case hy3 => (intro W hSW; (try dsimp only at hSW); obtain ⟨⟨q1, q2, q3⟩, q4, q5, q6⟩ := hSW; go_simp; all_goals (with_reducible rfl))
      simp only [Act.put, List.setIfInBounds_toArray, List.set_cons_zero, List.set_cons_succ]
      refine wpHead_take (i := 5) (v := ?vv5) (by kernel_rfl) rfl (by kernel_rfl) (fun _ _ _ h => h) (Or.inl ⟨by rfl, ?hy5⟩) hS0 ?_
      case hy5 => (intro W hSW; (try dsimp only at hSW); obtain ⟨⟨q1, q2, q3⟩, q4, q5, q6⟩ := hSW; go_simp; all_goals (with_reducible rfl))
      simp only [Act.put, List.setIfInBounds_toArray, List.set_cons_zero, List.set_cons_succ]
      refine wpHead_take (i := 6) (v := ?vv6) (by kernel_rfl) rfl (by kernel_rfl) (fun _ _ _ h => h) (Or.inl ⟨by rfl, ?hy6⟩) hS0 ?_
      case hy6 => (intro W hSW; (try dsimp only at hSW); obtain ⟨⟨q1, q2, q3⟩, q4, q5, q6⟩ := hSW; go_simp; all_goals (with_reducible rfl))
      simp only [Act.put, List.setIfInBounds_toArray, List.set_cons_zero, List.set_cons_succ]
      refine wpHead_take (i := 7) (v := ?vv7) (by kernel_rfl) rfl (by kernel_rfl) (fun _ _ _ h => h) (Or.inl ⟨by rfl, ?hy7⟩) hS0 ?_
      case hy7 => (intro W hSW; (try dsimp only at hSW); obtain ⟨⟨q1, q2, q3⟩, q4, q5, q6⟩ := hSW; go_simp; all_goals (with_reducible rfl))
      simp only [Act.put, List.setIfInBounds_toArray, List.set_cons_zero, List.set_cons_succ]
      refine wpHead_take (i := 8) (v := ?vv8) (by kernel_rfl) rfl (by kernel_rfl) (fun _ _ _ h => h) (Or.inl ⟨by rfl, ?hy8⟩) hS0 ?_
      case hy8 => (intro W hSW; (try dsimp only at hSW); obtain ⟨⟨q1, q2, q3⟩, q4, q5, q6⟩ := hSW; go_simp; all_goals (with_reducible rfl))
      simp only [Act.put, List.setIfInBounds_toArray, List.set_cons_zero, List.set_cons_succ]
      refine wpHead_take (i := 10) (v := ?vv10) (by kernel_rfl) rfl (by kernel_rfl) (fun _ _ _ h => h) (Or.inl ⟨by rfl, ?hy10⟩) hS0 ?_
      case hy10 => (intro W hSW; (try dsimp only at hSW); obtain ⟨⟨q1, q2, q3⟩, q4, q5, q6⟩ := hSW; go_simp; all_goals (with_reducible rfl))
      simp only [Act.put, List.setIfInBounds_toArray, List.set_cons_zero, List.set_cons_succ]
      refine wpHead_take (i := 11) (v := ?vv11) (by kernel_rfl) rfl (by kernel_rfl) (fun _ _ _ h => h) (Or.inl ⟨by rfl, ?hy11⟩) hS0 ?_
      case hy11 => (intro W hSW; (try dsimp only at hSW); obtain ⟨⟨q1, q2, q3⟩, q4, q5, q6⟩ := hSW; go_simp; all_goals (with_reducible rfl))
      simp only [Act.put, List.setIfInBounds_toArray, List.set_cons_zero, List.set_cons_succ]
      refine wpHead_take (i := 12) (v := ?vv12) (by kernel_rfl) rfl (by kernel_rfl) (fun _ _ _ h => h) (Or.inl ⟨by rfl, ?hy12⟩) hS0 ?_
      case hy12 => (intro W hSW; (try dsimp only at hSW); obtain ⟨⟨q1, q2, q3⟩, q4, q5, q6⟩ := hSW; go_simp; all_goals (with_reducible rfl))
      simp only [Act.put, List.setIfInBounds_toArray, List.set_cons_zero, List.set_cons_succ]
      refine wpHead_take (i := 13) (v := ?vv13) (by kernel_rfl) rfl (by kernel_rfl) (fun _ _ _ h => h) (Or.inl ⟨by rfl, ?hy13⟩) hS0 ?_
      case hy13 => (intro W hSW; (try dsimp only at hSW); obtain ⟨⟨q1, q2, q3⟩, q4, q5, q6⟩ := hSW; go_simp; all_goals (with_reducible rfl))
      simp only [Act.put, List.setIfInBounds_toArray, List.set_cons_zero, List.set_cons_succ]
      refine wpHead_one (i := 4) rfl (by kernel_rfl) (fun K hK => ?_)
      refine step_append_srs rfl (.tmp 25) (.tmp 27) (by rfl) (kw + 1) p1.length y1.length w1.drew _ _ p1 y1 (by rfl) (by rfl) HT1.out.one (HS.out _ HT1.out.bel).1 rfl rfl (by have := HQ.out; omega) (by have := HQ.out; omega) HT1.out.lt ?_
      intro D1 d1 W1 ha hb hc
      have HT2 := Lib.hid (HT1.out.grow ha hb hc).rot
      have HB2 := Lib.hid (And.intro (keep_row hb (fun g h => (HN1.out g (.inl h)).1) HB1.out.1) (keep_row hb (fun g h => (HN1.out g (.inl h)).2) HB1.out.2))
      clear ha hb hc hS0
      refine hK.out _ _ (HSS.out _ HB2.out.1 HB2.out.2) (fun hS1 => ?_)
      clear hK K
      simp only [Act.put, List.setIfInBounds_toArray, List.set_cons_zero, List.set_cons_succ]
      refine wpHead_take (i := 15) (v := ?vv15) (by kernel_rfl) rfl (by kernel_rfl) (fun _ _ _ h => h) (Or.inl ⟨by rfl, ?hy15⟩) hS1 ?_
      case hy15 => (intro W hSW; (try dsimp only at hSW); obtain ⟨⟨q1, q2, q3⟩, q4, q5, q6⟩ := hSW; go_simp; all_goals (with_reducible rfl))
      simp only [Act.put, List.setIfInBounds_toArray, List.set_cons_zero, List.set_cons_succ]
      refine wpHead_one (i := 9) rfl (by kernel_rfl) (fun K hK => ?_)
      refine step_append_srs rfl (.tmp 30) (.tmp 32) (by rfl) (kw + 1) p2.length y2.length W1 _ _ p2 y2 (by rfl) (by rfl) HT2.out.one (HS.out _ HT2.out.bel).2.1 rfl rfl (by have := HQ.out; omega) (by have := HQ.out; omega) HT2.out.lt ?_
      intro D2 d2 W2 ha hb hc
      have HT3 := Lib.hid (HT2.out.grow ha hb hc).rot
      have HB3 := Lib.hid (And.intro (keep_row hb (fun g h => (HN1.out g (.inr (.inl h))).1) HB2.out.1) (keep_row hb (fun g h => (HN1.out g (.inr (.inl h))).2) HB2.out.2))
      clear ha hb hc hS1
      refine hK.out _ _ (HSS.out _ HB3.out.1 HB3.out.2) (fun hS2 => ?_)
      clear hK K
      simp only [Act.put, List.setIfInBounds_toArray, List.set_cons_zero, List.set_cons_succ]
      refine wpHead_one (i := 14) rfl (by kernel_rfl) (fun K hK => ?_)
      refine step_append_srs rfl (.tmp 35) (.tmp 37) (by rfl) (kw + 1) p3.length y3.length W2 _ _ p3 y3 (by rfl) (by rfl) HT3.out.one (HS.out _ HT3.out.bel).2.2 rfl rfl (by have := HQ.out; omega) (by have := HQ.out; omega) HT3.out.lt ?_
      intro D3 d3 W3 ha hb hc
      have HT4 := Lib.hid (HT3.out.grow ha hb hc).rot
      have HB4 := Lib.hid (And.intro (keep_row hb (fun g h => (HN1.out g (.inr (.inr h))).1) HB3.out.1) (keep_row hb (fun g h => (HN1.out g (.inr (.inr h))).2) HB3.out.2))
      clear ha hb hc hS2
      refine hK.out _ _ (HSS.out _ HB4.out.1 HB4.out.2) (fun hS3 => ?_)
      clear hK K
      simp only [Act.put, List.setIfInBounds_toArray, List.set_cons_zero, List.set_cons_succ]
      refine wpHead_done (by kernel_rfl) ?_
      simp only [List.drop_succ_cons, List.drop_zero]
      have HW3 := Lib.hid (And.intro HT4.out HB4.out.1)
      obtain ⟨⟨c0, c1', c2'⟩, -⟩ := hS3
      have f0 := free_cells HB4.out.1 0
      have f1' := free_cells HB4.out.1 1
      have f2' := free_cells HB4.out.1 2
      go_wp2_with fail
      go_roundw
      case rel => exact ⟨k + 1, .slice D1 (p1.length + y1.length) d1, .slice D2 (p2.length + y2.length) d2, .slice D3 (p3.length + y3.length) d3, by go_num, hlt, by unfold Hid; simp [World.setCell, Array.getElem?_modify, HB4.out.1], by unfold Hid; rw [HSU.out.1, HSU.out.2.1, HSU.out.2.2]; exact HT4.out.put.put.put⟩
      case measure => simp [intOf]; omega
    ·
      -- EXIT
      have hkn : k = n := by omega
      subst hkn
      have hxE : Ext w wr := Below.trans HX0.out (HT.out.bel.mono (by have := HKW.out; omega))
      obtain ⟨wE, rfl⟩ : ∃ wE : World, wE = wr := ⟨_, rfl⟩
      have et : l.take k = l := List.take_of_length_le (by have := HN.out; omega)
      rw [et] at HT
      have FE : Hid (∀ W : World, Ext wE W → (W.cell? ⟨w.heap.size, 0, none⟩ = some (.slice A1 r.verbs.length c1) ∧ W.cell? ⟨w.heap.size, 1, none⟩ = some (.slice A2 r.kinds.length c2) ∧ W.cell? ⟨w.heap.size, 2, none⟩ = some (.slice A3 r.names.length c3)) ∧
          W.heap[w.heap.size + 1]? = some (.cells #[.string ⟨#[]⟩, .string ⟨#[]⟩, .string ⟨#[]⟩, .string ⟨#[]⟩] 33 (0, 0)) ∧ B ≤ W.heap.size ∧ Ext w W) := fun W hW => by
        have hb : Below kw w0 W := HT.out.bel.trans (hW.mono (Nat.le_of_lt HT.out.lt))
        have h0 : W.heap[w.heap.size]? = some (.cells #[.slice A1 r.verbs.length c1, .slice A2 r.kinds.length c2, .slice A3 r.names.length c3] 31 (0, 0)) := by
          rw [hb.block _ (by have := HKW.out; omega), HW0.out]
          exact heap_old (heap_old (heap_new rfl))
        have h1 : W.heap[w.heap.size + 1]? = some (.cells #[.string ⟨#[]⟩, .string ⟨#[]⟩, .string ⟨#[]⟩, .string ⟨#[]⟩] 33 (0, 0)) := by
          rw [hb.block _ (by have := HKW.out; omega), HW0.out]
          exact heap_old (heap_new (by simp))
        exact ⟨by refine ⟨?_, ?_, ?_⟩ <;> simp [cell_of h0], h1, Nat.le_trans hB (hxE.trans hW).size, hxE.trans hW⟩
      have SM := Lib.hid (words_small HV.out.1)
      have HR1 := Lib.hid (HT.out.one.strs (by have := HFL.out; omega) SM.out.1)
      have HR2 := Lib.hid (HT.out.two.strs (by have := HFL.out; omega) SM.out.2.1)
      have HR3 := Lib.hid (HT.out.three.strs (by have := HFL.out; omega) SM.out.2.2)
      have hc1 : wE.cell? ⟨kw, 0, none⟩ = some x1 := by simp [cell_of HBX.out]
      have hc2 : wE.cell? ⟨kw, 1, none⟩ = some x2 := by simp [cell_of HBX.out]
      have hc3 : wE.cell? ⟨kw, 2, none⟩ = some x3 := by simp [cell_of HBX.out]
      have CE0 : Hid (∀ W, Ext wE W → Calls Tryd.prog 12 #[.int .i64 0, .pointer (some ⟨kw, 0, none⟩)] W fun e w' => e = .returned (.string (freshS (verbsOf l))) ∧ Ext W w') := fun W hW =>
        rfresh_any wE.heap.size kw 0 x1 _ W (by omega) hW.size (Nat.lt_of_lt_of_le HT.out.lt hW.size) ((hW.cell (p := ⟨kw, 0, none⟩) HT.out.lt).trans hc1) (HR1.out.below hW (Nat.le_refl _)) HFL.out.1
      have CE1 : Hid (∀ W, Ext wE W → Calls Tryd.prog 12 #[.int .i64 1, .pointer (some ⟨kw, 0, none⟩)] W fun e w' => e = .returned (.string (freshS (kindsOf l))) ∧ Ext W w') := fun W hW =>
        rfresh_any wE.heap.size kw 1 x2 _ W (by omega) hW.size (Nat.lt_of_lt_of_le HT.out.lt hW.size) ((hW.cell (p := ⟨kw, 1, none⟩) HT.out.lt).trans hc2) (HR2.out.below hW (Nat.le_refl _)) HFL.out.2.1
      have CE2 : Hid (∀ W, Ext wE W → Calls Tryd.prog 12 #[.int .i64 2, .pointer (some ⟨kw, 0, none⟩)] W fun e w' => e = .returned (.string (freshS (namesOf l))) ∧ Ext W w') := fun W hW =>
        rfresh_any wE.heap.size kw 2 x3 _ W (by omega) hW.size (Nat.lt_of_lt_of_le HT.out.lt hW.size) ((hW.cell (p := ⟨kw, 2, none⟩) HT.out.lt).trans hc3) (HR3.out.below hW (Nat.le_refl _)) HFL.out.2.2
      have CEA : Hid (∀ (a : Ask) W, Ext wE W → Calls Tryd.prog 15 #[.slice A l.length c, a.val] W fun e w' => e = .returned (.bool (allowsL l a)) ∧ Ext W w') := fun a W hW =>
        rallows_any B _ l a W (FE.out W hW).2.2.1 (HV.out.1.below ((FE.out W hW).2.2.2.mono hB) (Nat.le_refl _))
      have tk : decide (k < k) = false := by simp
      have hszE : w.heap.size + 1 < wE.heap.size := heap_lt (FE.out wE (Below.refl _ _)).2.1
      have hszE2 : w.heap.size < wE.heap.size := by omega
      clear hc1 hc2 hc3 hxE hlt et
      obtain ⟨⟨y1, y2, y3⟩, -⟩ := FE.out wE (Below.refl _ _)
      by_cases hN0 : r.names.length = 0
      · have tn : ((r.names.length : Int) == 0) = true := by rw [beq_iff_eq]; omega
        obtain ⟨fs, hfs⟩ : ∃ f, f = freshS (namesOf l) := ⟨_, rfl⟩
        have HNR : Hid (namesR l r = [fs]) := by rw [hfs]; exact namesR_none hN0
        have HFS : Hid (fs.size ≠ 0) := by rw [hfs]; exact freshS_pos _
        rw [← hfs] at CE2
        clear hfs
        go_wp2_with (go_at_call 12; (with_reducible refine (CE2.out wE (Below.refl _ _)).mono ?_); rintro e w6 ⟨rfl, hx6⟩; have HX6 := Lib.hid hx6; obtain ⟨⟨y4, y5, y6⟩, -⟩ := FE.out w6 hx6; have hs6 : w.heap.size < w6.heap.size := Nat.lt_of_lt_of_le hszE2 hx6.size; clear hx6)
        obtain ⟨wF, hwF⟩ : ∃ wF, wF = w6.alloc (.cells #[.string fs] 9 (0, 0)) := ⟨_, rfl⟩
        rw [← hwF]
        have HXF : Hid (Ext wE wF) := by rw [hwF]; exact HX6.out.trans (new_ext _ _)
        have hs1 : w6.heap.size < wF.heap.size := by rw [hwF]; simp
        have HLC : Hid (∀ W : World, Ext wF W → W.cell? ⟨w6.heap.size, 0, none⟩ = some (.string fs)) := fun W hW => by
          have h := (hW.block w6.heap.size hs1).trans (by rw [hwF]; exact heap_new rfl : wF.heap[w6.heap.size]? = some (.cells #[.string fs] 9 (0, 0)))
          rw [cell_of h]; rfl
        clear hwF y4 y5 y6 hs6
        have FW : Hid (∀ W : World, Ext wF W → (W.cell? ⟨w.heap.size, 0, none⟩ = some (.slice A1 r.verbs.length c1) ∧ W.cell? ⟨w.heap.size, 1, none⟩ = some (.slice A2 r.kinds.length c2) ∧ W.cell? ⟨w.heap.size, 2, none⟩ = some (.slice A3 r.names.length c3)) ∧
            W.heap[w.heap.size + 1]? = some (.cells #[.string ⟨#[]⟩, .string ⟨#[]⟩, .string ⟨#[]⟩, .string ⟨#[]⟩] 33 (0, 0)) ∧ B ≤ W.heap.size ∧ Ext w W) := fun W hW => FE.out W (HXF.out.trans hW)
        have CN0 : Hid (∀ W, Ext wF W → Calls Tryd.prog 12 #[.int .i64 0, .pointer (some ⟨kw, 0, none⟩)] W fun e w' => e = .returned (.string (freshS (verbsOf l))) ∧ Ext W w') := fun W hW => CE0.out W (HXF.out.trans hW)
        have CN1 : Hid (∀ W, Ext wF W → Calls Tryd.prog 12 #[.int .i64 1, .pointer (some ⟨kw, 0, none⟩)] W fun e w' => e = .returned (.string (freshS (kindsOf l))) ∧ Ext W w') := fun W hW => CE1.out W (HXF.out.trans hW)
        have CA : Hid (∀ (a : Ask) W, Ext wF W → Calls Tryd.prog 15 #[.slice A l.length c, a.val] W fun e w' => e = .returned (.bool (allowsL l a)) ∧ Ext W w') := fun a W hW => CEA.out a W (HXF.out.trans hW)
        obtain ⟨F1, hF1⟩ : ∃ f, f = freshS (verbsOf l) := ⟨_, rfl⟩
        obtain ⟨F2, hF2⟩ : ∃ f, f = freshS (kindsOf l) := ⟨_, rfl⟩
        rw [← hF1] at CN0
        rw [← hF2] at CN1
        have HF := Lib.hid (And.intro hF1 hF2)
        clear hF1 hF2
        go_wp2_with fail
        go_loopw [55] (fun x wr => ∃ i : Nat, x = .int .i64 (i : Int) ∧ i ≤ r.verbs.length ∧ Hid (noneF (tryV l [fs] r.kinds) r.verbs i) ∧ Ext wF wr) (fun x _ => r.verbs.length - (intOf x).toNat)
        case atStart => exact ⟨0, rfl, Nat.zero_le _, noneF.zero, Below.refl _ _⟩
        case round =>
          obtain ⟨i, rfl, hi, hNV, hE2⟩ := hrel
          obtain ⟨wv, rfl⟩ : ∃ wv : World, wv = wr := ⟨_, rfl⟩
          have HE2 := Lib.hid hE2
          obtain ⟨⟨p1, p2, p3⟩, -, -, hxv⟩ := FW.out wv hE2
          by_cases hiv : i < r.verbs.length
          · obtain ⟨bv, ov, rfl, hbv, hcv⟩ := str_cell HV.out.2.1 hB hxv hiv
            obtain ⟨v9, hv9⟩ : ∃ v, v = r.verbs[i] := ⟨_, rfl⟩
            rw [← hv9] at hcv
            have HV9 := Lib.hid hv9
            have HIV := Lib.hid hiv
            clear hE2 hxv hv9 y1 y2 y3
            go_wp2_with fail
            go_loopw [62] (fun x wr => ∃ j : Nat, x = .int .i64 (j : Int) ∧ j ≤ r.kinds.length ∧ Hid (noneF (tryK l [fs] v9) r.kinds j) ∧ Ext wF wr) (fun x _ => r.kinds.length - (intOf x).toNat)
            case atStart => exact ⟨0, rfl, Nat.zero_le _, noneF.zero, HE2.out⟩
            case round =>
              obtain ⟨j, rfl, hj, hNK, hE3⟩ := hrel
              obtain ⟨wk, rfl⟩ : ∃ wk : World, wk = wr := ⟨_, rfl⟩
              have HE3 := Lib.hid hE3
              obtain ⟨⟨p4, p5, p6⟩, -, -, hxk⟩ := FW.out wk hE3
              by_cases hjk : j < r.kinds.length
              · obtain ⟨bk, ok, rfl, hbk, hck⟩ := str_cell HV.out.2.2.1 hB hxk hjk
                obtain ⟨k9, hk9⟩ : ∃ v, v = r.kinds[j] := ⟨_, rfl⟩
                rw [← hk9] at hck
                have HK9 := Lib.hid hk9
                have HJK := Lib.hid hjk
                clear hE3 hxk hk9
                go_wp2_with fail
                go_loopw [68] (fun x wr => ∃ m : Nat, x = .int .i64 (m : Int) ∧ m ≤ 1 ∧ Hid (noneF (tryN l v9 k9) [fs] m) ∧ Ext wF wr) (fun x _ => 1 - (intOf x).toNat)
                case atStart => exact ⟨0, rfl, Nat.zero_le _, noneF.zero, HE3.out⟩
                case round =>
                  obtain ⟨m, rfl, hm, hNN, hE4⟩ := hrel
                  obtain ⟨wn, rfl⟩ : ∃ wn : World, wn = wr := ⟨_, rfl⟩
                  have HE4 := Lib.hid hE4
                  obtain ⟨⟨p7, p8, p9⟩, -, -, hxn⟩ := FW.out wn hE4
                  have hcn := HLC.out wn hE4
                  have hszn : w6.heap.size < wn.heap.size := Nat.lt_of_lt_of_le hs1 hE4.size
                  by_cases hmn : m < 1
                  · obtain rfl : m = 0 := by omega
                    have e0 : ((0 : Nat) : Int) = 0 := rfl
                    rw [e0]
                    have tz := isEmpty_of_pos (s := fs) (by have := HFS.out; omega)
                    clear hmn hm
                    obtain ⟨b9, hb9⟩ : ∃ b, b = allowsL l (askOf l v9 k9 fs) := ⟨_, rfl⟩
                    have CB9 : Hid (∀ W, Ext wF W → Calls Tryd.prog 15 #[.slice A k c, (askOf l v9 k9 fs).val] W fun e w' => e = .returned (.bool b9) ∧ Ext W w') := fun W hW => by
                      rw [hb9, HN.out]
                      exact CA.out (askOf l v9 k9 fs) W hW
                    have HT9 : Hid (tryN l v9 k9 fs = bif b9 then none else some (askOf l v9 k9 fs)) := by
                      cases b9 with
                      | true => exact tryN_yes HFS.out hb9.symm
                      | false => exact tryN_no HFS.out hb9.symm
                    have H0 : Hid ((wn.alloc (.cells #[.string v9, .string k9, .string ⟨#[]⟩, .string fs] 33 (0, 0))).heap[wn.heap.size]? = some (.cells #[.string v9, .string k9, .string ⟨#[]⟩, .string fs] 33 (0, 0)) ∧ Ext wF (wn.alloc (.cells #[.string v9, .string k9, .string ⟨#[]⟩, .string fs] 33 (0, 0)))) := ⟨heap_new rfl, HE4.out.trans (new_ext _ _)⟩
                    have HSZ : Hid (wF.heap.size ≤ wn.heap.size) := HE4.out.size
                    have HSV := Lib.hid (star_ways v9 (verbsOf l))
                    have HSK := Lib.hid (star_ways k9 (kindsOf l))
                    clear hb9 hE4 hxn
                    cases b9 with
                    | true =>
                      rcases HSV.out with ⟨sv1, sv2, hwv⟩ | ⟨sv1, sv2, hwv⟩
                      · rcases HSK.out with ⟨sk1, sk2, hwk⟩ | ⟨sk1, sk2, hwk⟩
                        · have HWV : Hid (wordS v9 (verbsOf l) = F1) := hwv.trans HF.out.1.symm
                          have HWK : Hid (wordS k9 (kindsOf l) = F2) := hwk.trans HF.out.2.symm
                          have CA9 : Hid (∀ W, Ext wF W → Calls Tryd.prog 15 #[.slice A k c, .agg #[.string F1, .string F2, .string ⟨#[]⟩, .string fs]] W fun e w' => e = .returned (.bool true) ∧ Ext W w') := fun W hW => by
                            have h := CB9.out W hW
                            unfold askOf Ask.val at h
                            rw [HWV.out, HWK.out] at h
                            exact h
                          clear hwv hwk
                          go_wp2_with (first
                            | (go_at_call 12; (with_reducible refine (CN0.out _ H0.out.2).mono ?_); rintro e w4 ⟨rfl, hx4⟩; have q4 := (hx4.block _ (heap_lt H0.out.1)).trans H0.out.1; obtain ⟨b0, b1, b2, b3⟩ := cells4 q4; have b4 := free_cells q4 0; have H4 := Lib.hid (put_zero (wE := wF) (H0.out.2.trans hx4) HSZ.out q4 F1); clear q4 hx4)
                            | (go_at_call 12; (with_reducible refine (CN1.out _ H4.out.2).mono ?_); rintro e w5 ⟨rfl, hx5⟩; have q5 := (hx5.block _ (heap_lt H4.out.1)).trans H4.out.1; obtain ⟨d0, d1, d2, d3⟩ := cells4 q5; have d4 := free_cells q5 1; have H5 := Lib.hid (put_one (wE := wF) (H4.out.2.trans hx5) HSZ.out q5 F2); clear q5 hx5)
                            | (go_at_call 15; (with_reducible refine (CA9.out _ H5.out.2).mono ?_); rintro e w7 ⟨rfl, hx7⟩; have HX7 := Lib.hid (H5.out.2.trans hx7); clear hx7))
                          go_roundw
                          case rel => exact ⟨1, rfl, Nat.le_refl _, hNN.out.succ (by simp) HT9.out, HX7.out⟩
                          case measure => simp [intOf]
                        · have HWV : Hid (wordS v9 (verbsOf l) = F1) := hwv.trans HF.out.1.symm
                          have HWK : Hid (wordS k9 (kindsOf l) = k9) := hwk
                          have CA9 : Hid (∀ W, Ext wF W → Calls Tryd.prog 15 #[.slice A k c, .agg #[.string F1, .string k9, .string ⟨#[]⟩, .string fs]] W fun e w' => e = .returned (.bool true) ∧ Ext W w') := fun W hW => by
                            have h := CB9.out W hW
                            unfold askOf Ask.val at h
                            rw [HWV.out, HWK.out] at h
                            exact h
                          clear hwv hwk
                          go_wp2_with (first
                            | (go_at_call 12; (with_reducible refine (CN0.out _ H0.out.2).mono ?_); rintro e w4 ⟨rfl, hx4⟩; have q4 := (hx4.block _ (heap_lt H0.out.1)).trans H0.out.1; obtain ⟨b0, b1, b2, b3⟩ := cells4 q4; have b4 := free_cells q4 0; have H4 := Lib.hid (put_zero (wE := wF) (H0.out.2.trans hx4) HSZ.out q4 F1); clear q4 hx4)
                            | (go_at_call 15; (with_reducible refine (CA9.out _ H4.out.2).mono ?_); rintro e w7 ⟨rfl, hx7⟩; have HX7 := Lib.hid (H4.out.2.trans hx7); clear hx7))
                          go_roundw
                          case rel => exact ⟨1, rfl, Nat.le_refl _, hNN.out.succ (by simp) HT9.out, HX7.out⟩
                          case measure => simp [intOf]
                      · rcases HSK.out with ⟨sk1, sk2, hwk⟩ | ⟨sk1, sk2, hwk⟩
                        · have HWV : Hid (wordS v9 (verbsOf l) = v9) := hwv
                          have HWK : Hid (wordS k9 (kindsOf l) = F2) := hwk.trans HF.out.2.symm
                          have CA9 : Hid (∀ W, Ext wF W → Calls Tryd.prog 15 #[.slice A k c, .agg #[.string v9, .string F2, .string ⟨#[]⟩, .string fs]] W fun e w' => e = .returned (.bool true) ∧ Ext W w') := fun W hW => by
                            have h := CB9.out W hW
                            unfold askOf Ask.val at h
                            rw [HWV.out, HWK.out] at h
                            exact h
                          clear hwv hwk
                          go_wp2_with (first
                            | (go_at_call 12; (with_reducible refine (CN1.out _ H0.out.2).mono ?_); rintro e w5 ⟨rfl, hx5⟩; have q5 := (hx5.block _ (heap_lt H0.out.1)).trans H0.out.1; obtain ⟨d0, d1, d2, d3⟩ := cells4 q5; have d4 := free_cells q5 1; have H5 := Lib.hid (put_one (wE := wF) (H0.out.2.trans hx5) HSZ.out q5 F2); clear q5 hx5)
                            | (go_at_call 15; (with_reducible refine (CA9.out _ H5.out.2).mono ?_); rintro e w7 ⟨rfl, hx7⟩; have HX7 := Lib.hid (H5.out.2.trans hx7); clear hx7))
                          go_roundw
                          case rel => exact ⟨1, rfl, Nat.le_refl _, hNN.out.succ (by simp) HT9.out, HX7.out⟩
                          case measure => simp [intOf]
                        · have HWV : Hid (wordS v9 (verbsOf l) = v9) := hwv
                          have HWK : Hid (wordS k9 (kindsOf l) = k9) := hwk
                          have CA9 : Hid (∀ W, Ext wF W → Calls Tryd.prog 15 #[.slice A k c, .agg #[.string v9, .string k9, .string ⟨#[]⟩, .string fs]] W fun e w' => e = .returned (.bool true) ∧ Ext W w') := fun W hW => by
                            have h := CB9.out W hW
                            unfold askOf Ask.val at h
                            rw [HWV.out, HWK.out] at h
                            exact h
                          clear hwv hwk
                          go_wp2_with (first
                            | (go_at_call 15; (with_reducible refine (CA9.out _ H0.out.2).mono ?_); rintro e w7 ⟨rfl, hx7⟩; have HX7 := Lib.hid (H0.out.2.trans hx7); clear hx7))
                          go_roundw
                          case rel => exact ⟨1, rfl, Nat.le_refl _, hNN.out.succ (by simp) HT9.out, HX7.out⟩
                          case measure => simp [intOf]
                    | false =>
                      have HB : Hid (beyondL l r = some (askOf l v9 k9 fs)) := by
                        unfold Hid beyondL
                        rw [HNR.out]
                        exact hNV.out.hit HIV.out (by rw [← HV9.out]; exact hNK.out.hit HJK.out (by rw [← HK9.out]; exact hNN.out.hit (by simp) HT9.out))
                      rcases HSV.out with ⟨sv1, sv2, hwv⟩ | ⟨sv1, sv2, hwv⟩
                      · rcases HSK.out with ⟨sk1, sk2, hwk⟩ | ⟨sk1, sk2, hwk⟩
                        · have HWV : Hid (wordS v9 (verbsOf l) = F1) := hwv.trans HF.out.1.symm
                          have HWK : Hid (wordS k9 (kindsOf l) = F2) := hwk.trans HF.out.2.symm
                          have CA9 : Hid (∀ W, Ext wF W → Calls Tryd.prog 15 #[.slice A k c, .agg #[.string F1, .string F2, .string ⟨#[]⟩, .string fs]] W fun e w' => e = .returned (.bool false) ∧ Ext W w') := fun W hW => by
                            have h := CB9.out W hW
                            unfold askOf Ask.val at h
                            rw [HWV.out, HWK.out] at h
                            exact h
                          clear hwv hwk
                          go_wp2_with (first
                            | (go_at_call 12; (with_reducible refine (CN0.out _ H0.out.2).mono ?_); rintro e w4 ⟨rfl, hx4⟩; have q4 := (hx4.block _ (heap_lt H0.out.1)).trans H0.out.1; obtain ⟨b0, b1, b2, b3⟩ := cells4 q4; have b4 := free_cells q4 0; have H4 := Lib.hid (put_zero (wE := wF) (H0.out.2.trans hx4) HSZ.out q4 F1); clear q4 hx4)
                            | (go_at_call 12; (with_reducible refine (CN1.out _ H4.out.2).mono ?_); rintro e w5 ⟨rfl, hx5⟩; have q5 := (hx5.block _ (heap_lt H4.out.1)).trans H4.out.1; obtain ⟨d0, d1, d2, d3⟩ := cells4 q5; have d4 := free_cells q5 1; have H5 := Lib.hid (put_one (wE := wF) (H4.out.2.trans hx5) HSZ.out q5 F2); clear q5 hx5)
                            | (go_at_call 15; (with_reducible refine (CA9.out _ H5.out.2).mono ?_); rintro e w7 ⟨rfl, hx7⟩; have HX7 := Lib.hid (H5.out.2.trans hx7); obtain ⟨s0, s1, s2, s3⟩ := cells4 (FW.out w7 (H5.out.2.trans hx7)).2.1; obtain ⟨a0, a1, a2, a3⟩ := cells4 ((hx7.block _ (heap_lt H5.out.1)).trans H5.out.1); have f0 := free_cells (FW.out w7 (H5.out.2.trans hx7)).2.1 0; have f1 := free_cells (FW.out w7 (H5.out.2.trans hx7)).2.1 1; have f2 := free_cells (FW.out w7 (H5.out.2.trans hx7)).2.1 2; have f3 := free_cells (FW.out w7 (H5.out.2.trans hx7)).2.1 3; clear hx7))
                          obtain ⟨t1, t2⟩ := put_ask (askOf l v9 k9 fs) (FW.out w7 HX7.out).2.1 (FW.out w7 HX7.out).2.2.2 (Nat.le_succ _)
                          unfold askOf at t1 t2
                          rw [HWV.out, HWK.out] at t1 t2
                          refine bodyPost_ret (results_ask rfl _ _ (w.heap.size + 1) rfl t1) rfl ?_
                          exact ⟨by rw [HB.out]; unfold askOf; rw [HWV.out, HWK.out]; rfl, t2⟩
                        · have HWV : Hid (wordS v9 (verbsOf l) = F1) := hwv.trans HF.out.1.symm
                          have HWK : Hid (wordS k9 (kindsOf l) = k9) := hwk
                          have CA9 : Hid (∀ W, Ext wF W → Calls Tryd.prog 15 #[.slice A k c, .agg #[.string F1, .string k9, .string ⟨#[]⟩, .string fs]] W fun e w' => e = .returned (.bool false) ∧ Ext W w') := fun W hW => by
                            have h := CB9.out W hW
                            unfold askOf Ask.val at h
                            rw [HWV.out, HWK.out] at h
                            exact h
                          clear hwv hwk
                          go_wp2_with (first
                            | (go_at_call 12; (with_reducible refine (CN0.out _ H0.out.2).mono ?_); rintro e w4 ⟨rfl, hx4⟩; have q4 := (hx4.block _ (heap_lt H0.out.1)).trans H0.out.1; obtain ⟨b0, b1, b2, b3⟩ := cells4 q4; have b4 := free_cells q4 0; have H4 := Lib.hid (put_zero (wE := wF) (H0.out.2.trans hx4) HSZ.out q4 F1); clear q4 hx4)
                            | (go_at_call 15; (with_reducible refine (CA9.out _ H4.out.2).mono ?_); rintro e w7 ⟨rfl, hx7⟩; have HX7 := Lib.hid (H4.out.2.trans hx7); obtain ⟨s0, s1, s2, s3⟩ := cells4 (FW.out w7 (H4.out.2.trans hx7)).2.1; obtain ⟨a0, a1, a2, a3⟩ := cells4 ((hx7.block _ (heap_lt H4.out.1)).trans H4.out.1); have f0 := free_cells (FW.out w7 (H4.out.2.trans hx7)).2.1 0; have f1 := free_cells (FW.out w7 (H4.out.2.trans hx7)).2.1 1; have f2 := free_cells (FW.out w7 (H4.out.2.trans hx7)).2.1 2; have f3 := free_cells (FW.out w7 (H4.out.2.trans hx7)).2.1 3; clear hx7))
                          obtain ⟨t1, t2⟩ := put_ask (askOf l v9 k9 fs) (FW.out w7 HX7.out).2.1 (FW.out w7 HX7.out).2.2.2 (Nat.le_succ _)
                          unfold askOf at t1 t2
                          rw [HWV.out, HWK.out] at t1 t2
                          refine bodyPost_ret (results_ask rfl _ _ (w.heap.size + 1) rfl t1) rfl ?_
                          exact ⟨by rw [HB.out]; unfold askOf; rw [HWV.out, HWK.out]; rfl, t2⟩
                      · rcases HSK.out with ⟨sk1, sk2, hwk⟩ | ⟨sk1, sk2, hwk⟩
                        · have HWV : Hid (wordS v9 (verbsOf l) = v9) := hwv
                          have HWK : Hid (wordS k9 (kindsOf l) = F2) := hwk.trans HF.out.2.symm
                          have CA9 : Hid (∀ W, Ext wF W → Calls Tryd.prog 15 #[.slice A k c, .agg #[.string v9, .string F2, .string ⟨#[]⟩, .string fs]] W fun e w' => e = .returned (.bool false) ∧ Ext W w') := fun W hW => by
                            have h := CB9.out W hW
                            unfold askOf Ask.val at h
                            rw [HWV.out, HWK.out] at h
                            exact h
                          clear hwv hwk
                          go_wp2_with (first
                            | (go_at_call 12; (with_reducible refine (CN1.out _ H0.out.2).mono ?_); rintro e w5 ⟨rfl, hx5⟩; have q5 := (hx5.block _ (heap_lt H0.out.1)).trans H0.out.1; obtain ⟨d0, d1, d2, d3⟩ := cells4 q5; have d4 := free_cells q5 1; have H5 := Lib.hid (put_one (wE := wF) (H0.out.2.trans hx5) HSZ.out q5 F2); clear q5 hx5)
                            | (go_at_call 15; (with_reducible refine (CA9.out _ H5.out.2).mono ?_); rintro e w7 ⟨rfl, hx7⟩; have HX7 := Lib.hid (H5.out.2.trans hx7); obtain ⟨s0, s1, s2, s3⟩ := cells4 (FW.out w7 (H5.out.2.trans hx7)).2.1; obtain ⟨a0, a1, a2, a3⟩ := cells4 ((hx7.block _ (heap_lt H5.out.1)).trans H5.out.1); have f0 := free_cells (FW.out w7 (H5.out.2.trans hx7)).2.1 0; have f1 := free_cells (FW.out w7 (H5.out.2.trans hx7)).2.1 1; have f2 := free_cells (FW.out w7 (H5.out.2.trans hx7)).2.1 2; have f3 := free_cells (FW.out w7 (H5.out.2.trans hx7)).2.1 3; clear hx7))
                          obtain ⟨t1, t2⟩ := put_ask (askOf l v9 k9 fs) (FW.out w7 HX7.out).2.1 (FW.out w7 HX7.out).2.2.2 (Nat.le_succ _)
                          unfold askOf at t1 t2
                          rw [HWV.out, HWK.out] at t1 t2
                          refine bodyPost_ret (results_ask rfl _ _ (w.heap.size + 1) rfl t1) rfl ?_
                          exact ⟨by rw [HB.out]; unfold askOf; rw [HWV.out, HWK.out]; rfl, t2⟩
                        · have HWV : Hid (wordS v9 (verbsOf l) = v9) := hwv
                          have HWK : Hid (wordS k9 (kindsOf l) = k9) := hwk
                          have CA9 : Hid (∀ W, Ext wF W → Calls Tryd.prog 15 #[.slice A k c, .agg #[.string v9, .string k9, .string ⟨#[]⟩, .string fs]] W fun e w' => e = .returned (.bool false) ∧ Ext W w') := fun W hW => by
                            have h := CB9.out W hW
                            unfold askOf Ask.val at h
                            rw [HWV.out, HWK.out] at h
                            exact h
                          clear hwv hwk
                          go_wp2_with (first
                            | (go_at_call 15; (with_reducible refine (CA9.out _ H0.out.2).mono ?_); rintro e w7 ⟨rfl, hx7⟩; have HX7 := Lib.hid (H0.out.2.trans hx7); obtain ⟨s0, s1, s2, s3⟩ := cells4 (FW.out w7 (H0.out.2.trans hx7)).2.1; obtain ⟨a0, a1, a2, a3⟩ := cells4 ((hx7.block _ (heap_lt H0.out.1)).trans H0.out.1); have f0 := free_cells (FW.out w7 (H0.out.2.trans hx7)).2.1 0; have f1 := free_cells (FW.out w7 (H0.out.2.trans hx7)).2.1 1; have f2 := free_cells (FW.out w7 (H0.out.2.trans hx7)).2.1 2; have f3 := free_cells (FW.out w7 (H0.out.2.trans hx7)).2.1 3; clear hx7))
                          obtain ⟨t1, t2⟩ := put_ask (askOf l v9 k9 fs) (FW.out w7 HX7.out).2.1 (FW.out w7 HX7.out).2.2.2 (Nat.le_succ _)
                          unfold askOf at t1 t2
                          rw [HWV.out, HWK.out] at t1 t2
                          refine bodyPost_ret (results_ask rfl _ _ (w.heap.size + 1) rfl t1) rfl ?_
                          exact ⟨by rw [HB.out]; unfold askOf; rw [HWV.out, HWK.out]; rfl, t2⟩
                  · have HA9 : Hid (tryK l [fs] v9 k9 = none) := hNN.out.all (by simp; omega)
                    have tm : decide ((m : Int) < 1) = false := by simp; omega
                    clear hmn hE4 hxn
                    go_wp2_with fail
                    go_roundw
                    case rel => exact ⟨j + 1, by go_num, by have := HJK.out; omega, hNK.out.succ HJK.out (by rw [← HK9.out]; exact HA9.out), HE4.out⟩
                    case measure => have := HJK.out; simp [intOf]; omega
              · have HA9 : Hid (tryV l [fs] r.kinds v9 = none) := hNK.out.all (by omega)
                have tj : decide (j < r.kinds.length) = false := by simp; omega
                clear hjk hE3 hxk
                go_wp2_with fail
                go_roundw
                case rel => exact ⟨i + 1, by go_num, by have := HIV.out; omega, hNV.out.succ HIV.out (by rw [← HV9.out]; exact HA9.out), HE3.out⟩
                case measure => have := HIV.out; simp [intOf]; omega
          · have HB : Hid (beyondL l r = none) := by
              unfold Hid beyondL
              rw [HNR.out]
              exact hNV.out.all (by omega)
            have tv : decide (i < r.verbs.length) = false := by simp; omega
            obtain ⟨s0, s1, s2, s3⟩ := cells4 (FW.out wv hE2).2.1
            have f0 := free_cells (FW.out wv hE2).2.1 0
            have f1 := free_cells (FW.out wv hE2).2.1 1
            have f2 := free_cells (FW.out wv hE2).2.1 2
            have f3 := free_cells (FW.out wv hE2).2.1 3
            clear hiv hE2 hxv
            go_wp2_with fail
            obtain ⟨t1, t2⟩ := put_ask askNone (FW.out wv HE2.out).2.1 (FW.out wv HE2.out).2.2.2 (Nat.le_succ _)
            refine bodyPost_ret (results_ask rfl _ _ (w.heap.size + 1) rfl t1) rfl ?_
            exact ⟨by rw [HB.out]; rfl, t2⟩
      · have tn : ((r.names.length : Int) == 0) = false := by rw [beq_eq_false_iff_ne]; omega
        have HNR : Hid (namesR l r = r.names) := namesR_some hN0
        obtain ⟨wF, hwF⟩ : ∃ wF, wF = wE := ⟨_, rfl⟩
        have HXF : Hid (Ext wE wF) := by rw [hwF]; exact Below.refl _ _
        rw [← hwF] at y1 y2 y3
        rw [← hwF]
        clear hwF
        have FW : Hid (∀ W : World, Ext wF W → (W.cell? ⟨w.heap.size, 0, none⟩ = some (.slice A1 r.verbs.length c1) ∧ W.cell? ⟨w.heap.size, 1, none⟩ = some (.slice A2 r.kinds.length c2) ∧ W.cell? ⟨w.heap.size, 2, none⟩ = some (.slice A3 r.names.length c3)) ∧
            W.heap[w.heap.size + 1]? = some (.cells #[.string ⟨#[]⟩, .string ⟨#[]⟩, .string ⟨#[]⟩, .string ⟨#[]⟩] 33 (0, 0)) ∧ B ≤ W.heap.size ∧ Ext w W) := fun W hW => FE.out W (HXF.out.trans hW)
        have CN0 : Hid (∀ W, Ext wF W → Calls Tryd.prog 12 #[.int .i64 0, .pointer (some ⟨kw, 0, none⟩)] W fun e w' => e = .returned (.string (freshS (verbsOf l))) ∧ Ext W w') := fun W hW => CE0.out W (HXF.out.trans hW)
        have CN1 : Hid (∀ W, Ext wF W → Calls Tryd.prog 12 #[.int .i64 1, .pointer (some ⟨kw, 0, none⟩)] W fun e w' => e = .returned (.string (freshS (kindsOf l))) ∧ Ext W w') := fun W hW => CE1.out W (HXF.out.trans hW)
        have CA : Hid (∀ (a : Ask) W, Ext wF W → Calls Tryd.prog 15 #[.slice A l.length c, a.val] W fun e w' => e = .returned (.bool (allowsL l a)) ∧ Ext W w') := fun a W hW => CEA.out a W (HXF.out.trans hW)
        obtain ⟨F1, hF1⟩ : ∃ f, f = freshS (verbsOf l) := ⟨_, rfl⟩
        obtain ⟨F2, hF2⟩ : ∃ f, f = freshS (kindsOf l) := ⟨_, rfl⟩
        rw [← hF1] at CN0
        rw [← hF2] at CN1
        have HF := Lib.hid (And.intro hF1 hF2)
        clear hF1 hF2
        go_wp2_with fail
        go_loopw [55] (fun x wr => ∃ i : Nat, x = .int .i64 (i : Int) ∧ i ≤ r.verbs.length ∧ Hid (noneF (tryV l r.names r.kinds) r.verbs i) ∧ Ext wF wr) (fun x _ => r.verbs.length - (intOf x).toNat)
        case atStart => exact ⟨0, rfl, Nat.zero_le _, noneF.zero, Below.refl _ _⟩
        case round =>
          obtain ⟨i, rfl, hi, hNV, hE2⟩ := hrel
          obtain ⟨wv, rfl⟩ : ∃ wv : World, wv = wr := ⟨_, rfl⟩
          have HE2 := Lib.hid hE2
          obtain ⟨⟨p1, p2, p3⟩, -, -, hxv⟩ := FW.out wv hE2
          by_cases hiv : i < r.verbs.length
          · obtain ⟨bv, ov, rfl, hbv, hcv⟩ := str_cell HV.out.2.1 hB hxv hiv
            obtain ⟨v9, hv9⟩ : ∃ v, v = r.verbs[i] := ⟨_, rfl⟩
            rw [← hv9] at hcv
            have HV9 := Lib.hid hv9
            have HIV := Lib.hid hiv
            clear hE2 hxv hv9 y1 y2 y3
            go_wp2_with fail
            go_loopw [62] (fun x wr => ∃ j : Nat, x = .int .i64 (j : Int) ∧ j ≤ r.kinds.length ∧ Hid (noneF (tryK l r.names v9) r.kinds j) ∧ Ext wF wr) (fun x _ => r.kinds.length - (intOf x).toNat)
            case atStart => exact ⟨0, rfl, Nat.zero_le _, noneF.zero, HE2.out⟩
            case round =>
              obtain ⟨j, rfl, hj, hNK, hE3⟩ := hrel
              obtain ⟨wk, rfl⟩ : ∃ wk : World, wk = wr := ⟨_, rfl⟩
              have HE3 := Lib.hid hE3
              obtain ⟨⟨p4, p5, p6⟩, -, -, hxk⟩ := FW.out wk hE3
              by_cases hjk : j < r.kinds.length
              · obtain ⟨bk, ok, rfl, hbk, hck⟩ := str_cell HV.out.2.2.1 hB hxk hjk
                obtain ⟨k9, hk9⟩ : ∃ v, v = r.kinds[j] := ⟨_, rfl⟩
                rw [← hk9] at hck
                have HK9 := Lib.hid hk9
                have HJK := Lib.hid hjk
                clear hE3 hxk hk9
                go_wp2_with fail
                go_loopw [68] (fun x wr => ∃ m : Nat, x = .int .i64 (m : Int) ∧ m ≤ r.names.length ∧ Hid (noneF (tryN l v9 k9) r.names m) ∧ Ext wF wr) (fun x _ => r.names.length - (intOf x).toNat)
                case atStart => exact ⟨0, rfl, Nat.zero_le _, noneF.zero, HE3.out⟩
                case round =>
                  obtain ⟨m, rfl, hm, hNN, hE4⟩ := hrel
                  obtain ⟨wn, rfl⟩ : ∃ wn : World, wn = wr := ⟨_, rfl⟩
                  have HE4 := Lib.hid hE4
                  obtain ⟨⟨p7, p8, p9⟩, -, -, hxn⟩ := FW.out wn hE4
                  by_cases hmn : m < r.names.length
                  · obtain ⟨bn, on_, rfl, hbn, hcn⟩ := str_cell HV.out.2.2.2 hB hxn hmn
                    obtain ⟨n9, hn9⟩ : ∃ v, v = r.names[m] := ⟨_, rfl⟩
                    rw [← hn9] at hcn
                    have HN9 := Lib.hid hn9
                    have HMN := Lib.hid hmn
                    clear hxn hn9
                    have H0 : Hid ((wn.alloc (.cells #[.string v9, .string k9, .string ⟨#[]⟩, .string n9] 33 (0, 0))).heap[wn.heap.size]? = some (.cells #[.string v9, .string k9, .string ⟨#[]⟩, .string n9] 33 (0, 0)) ∧ Ext wF (wn.alloc (.cells #[.string v9, .string k9, .string ⟨#[]⟩, .string n9] 33 (0, 0)))) := ⟨heap_new rfl, HE4.out.trans (new_ext _ _)⟩
                    have HSZ : Hid (wF.heap.size ≤ wn.heap.size) := HE4.out.size
                    have HSV := Lib.hid (star_ways v9 (verbsOf l))
                    have HSK := Lib.hid (star_ways k9 (kindsOf l))
                    clear hE4
                    by_cases hz : n9.size = 0
                    · have tz := isEmpty_of_zero hz
                      have HT9 : Hid (tryN l v9 k9 n9 = none) := tryN_empty hz
                      clear hz
                      rcases HSV.out with ⟨sv1, sv2, hwv⟩ | ⟨sv1, sv2, hwv⟩
                      · rcases HSK.out with ⟨sk1, sk2, hwk⟩ | ⟨sk1, sk2, hwk⟩
                        · have HWV : Hid (wordS v9 (verbsOf l) = F1) := hwv.trans HF.out.1.symm
                          have HWK : Hid (wordS k9 (kindsOf l) = F2) := hwk.trans HF.out.2.symm
                          clear hwv hwk
                          go_wp2_with (first
                            | (go_at_call 12; (with_reducible refine (CN0.out _ H0.out.2).mono ?_); rintro e w4 ⟨rfl, hx4⟩; have q4 := (hx4.block _ (heap_lt H0.out.1)).trans H0.out.1; obtain ⟨b0, b1, b2, b3⟩ := cells4 q4; have b4 := free_cells q4 0; have H4 := Lib.hid (put_zero (wE := wF) (H0.out.2.trans hx4) HSZ.out q4 F1); clear q4 hx4)
                            | (go_at_call 12; (with_reducible refine (CN1.out _ H4.out.2).mono ?_); rintro e w5 ⟨rfl, hx5⟩; have q5 := (hx5.block _ (heap_lt H4.out.1)).trans H4.out.1; obtain ⟨d0, d1, d2, d3⟩ := cells4 q5; have d4 := free_cells q5 1; have H5 := Lib.hid (put_one (wE := wF) (H4.out.2.trans hx5) HSZ.out q5 F2); clear q5 hx5))
                          go_roundw
                          case rel => exact ⟨m + 1, by go_num, by have := HMN.out; omega, hNN.out.succ HMN.out (by rw [← HN9.out]; exact HT9.out), H5.out.2⟩
                          case measure => have := HMN.out; simp [intOf]; omega
                        · have HWV : Hid (wordS v9 (verbsOf l) = F1) := hwv.trans HF.out.1.symm
                          have HWK : Hid (wordS k9 (kindsOf l) = k9) := hwk
                          clear hwv hwk
                          go_wp2_with (first
                            | (go_at_call 12; (with_reducible refine (CN0.out _ H0.out.2).mono ?_); rintro e w4 ⟨rfl, hx4⟩; have q4 := (hx4.block _ (heap_lt H0.out.1)).trans H0.out.1; obtain ⟨b0, b1, b2, b3⟩ := cells4 q4; have b4 := free_cells q4 0; have H4 := Lib.hid (put_zero (wE := wF) (H0.out.2.trans hx4) HSZ.out q4 F1); clear q4 hx4))
                          go_roundw
                          case rel => exact ⟨m + 1, by go_num, by have := HMN.out; omega, hNN.out.succ HMN.out (by rw [← HN9.out]; exact HT9.out), H4.out.2⟩
                          case measure => have := HMN.out; simp [intOf]; omega
                      · rcases HSK.out with ⟨sk1, sk2, hwk⟩ | ⟨sk1, sk2, hwk⟩
                        · have HWV : Hid (wordS v9 (verbsOf l) = v9) := hwv
                          have HWK : Hid (wordS k9 (kindsOf l) = F2) := hwk.trans HF.out.2.symm
                          clear hwv hwk
                          go_wp2_with (first
                            | (go_at_call 12; (with_reducible refine (CN1.out _ H0.out.2).mono ?_); rintro e w5 ⟨rfl, hx5⟩; have q5 := (hx5.block _ (heap_lt H0.out.1)).trans H0.out.1; obtain ⟨d0, d1, d2, d3⟩ := cells4 q5; have d4 := free_cells q5 1; have H5 := Lib.hid (put_one (wE := wF) (H0.out.2.trans hx5) HSZ.out q5 F2); clear q5 hx5))
                          go_roundw
                          case rel => exact ⟨m + 1, by go_num, by have := HMN.out; omega, hNN.out.succ HMN.out (by rw [← HN9.out]; exact HT9.out), H5.out.2⟩
                          case measure => have := HMN.out; simp [intOf]; omega
                        · have HWV : Hid (wordS v9 (verbsOf l) = v9) := hwv
                          have HWK : Hid (wordS k9 (kindsOf l) = k9) := hwk
                          clear hwv hwk
                          go_wp2_with fail
                          go_roundw
                          case rel => exact ⟨m + 1, by go_num, by have := HMN.out; omega, hNN.out.succ HMN.out (by rw [← HN9.out]; exact HT9.out), H0.out.2⟩
                          case measure => have := HMN.out; simp [intOf]; omega
                    · have tz := isEmpty_of_pos (s := n9) (by omega)
                      obtain ⟨b9, hb9⟩ : ∃ b, b = allowsL l (askOf l v9 k9 n9) := ⟨_, rfl⟩
                      have CB9 : Hid (∀ W, Ext wF W → Calls Tryd.prog 15 #[.slice A k c, (askOf l v9 k9 n9).val] W fun e w' => e = .returned (.bool b9) ∧ Ext W w') := fun W hW => by
                        rw [hb9, HN.out]
                        exact CA.out (askOf l v9 k9 n9) W hW
                      have HT9 : Hid (tryN l v9 k9 n9 = bif b9 then none else some (askOf l v9 k9 n9)) := by
                        cases b9 with
                        | true => exact tryN_yes hz hb9.symm
                        | false => exact tryN_no hz hb9.symm
                      clear hz hb9
                      cases b9 with
                      | true =>
                        rcases HSV.out with ⟨sv1, sv2, hwv⟩ | ⟨sv1, sv2, hwv⟩
                        · rcases HSK.out with ⟨sk1, sk2, hwk⟩ | ⟨sk1, sk2, hwk⟩
                          · have HWV : Hid (wordS v9 (verbsOf l) = F1) := hwv.trans HF.out.1.symm
                            have HWK : Hid (wordS k9 (kindsOf l) = F2) := hwk.trans HF.out.2.symm
                            have CA9 : Hid (∀ W, Ext wF W → Calls Tryd.prog 15 #[.slice A k c, .agg #[.string F1, .string F2, .string ⟨#[]⟩, .string n9]] W fun e w' => e = .returned (.bool true) ∧ Ext W w') := fun W hW => by
                              have h := CB9.out W hW
                              unfold askOf Ask.val at h
                              rw [HWV.out, HWK.out] at h
                              exact h
                            clear hwv hwk
                            go_wp2_with (first
                              | (go_at_call 12; (with_reducible refine (CN0.out _ H0.out.2).mono ?_); rintro e w4 ⟨rfl, hx4⟩; have q4 := (hx4.block _ (heap_lt H0.out.1)).trans H0.out.1; obtain ⟨b0, b1, b2, b3⟩ := cells4 q4; have b4 := free_cells q4 0; have H4 := Lib.hid (put_zero (wE := wF) (H0.out.2.trans hx4) HSZ.out q4 F1); clear q4 hx4)
                              | (go_at_call 12; (with_reducible refine (CN1.out _ H4.out.2).mono ?_); rintro e w5 ⟨rfl, hx5⟩; have q5 := (hx5.block _ (heap_lt H4.out.1)).trans H4.out.1; obtain ⟨d0, d1, d2, d3⟩ := cells4 q5; have d4 := free_cells q5 1; have H5 := Lib.hid (put_one (wE := wF) (H4.out.2.trans hx5) HSZ.out q5 F2); clear q5 hx5)
                              | (go_at_call 15; (with_reducible refine (CA9.out _ H5.out.2).mono ?_); rintro e w7 ⟨rfl, hx7⟩; have HX7 := Lib.hid (H5.out.2.trans hx7); clear hx7))
                            go_roundw
                            case rel => exact ⟨m + 1, by go_num, by have := HMN.out; omega, hNN.out.succ HMN.out (by rw [← HN9.out]; exact HT9.out), HX7.out⟩
                            case measure => have := HMN.out; simp [intOf]; omega
                          · have HWV : Hid (wordS v9 (verbsOf l) = F1) := hwv.trans HF.out.1.symm
                            have HWK : Hid (wordS k9 (kindsOf l) = k9) := hwk
                            have CA9 : Hid (∀ W, Ext wF W → Calls Tryd.prog 15 #[.slice A k c, .agg #[.string F1, .string k9, .string ⟨#[]⟩, .string n9]] W fun e w' => e = .returned (.bool true) ∧ Ext W w') := fun W hW => by
                              have h := CB9.out W hW
                              unfold askOf Ask.val at h
                              rw [HWV.out, HWK.out] at h
                              exact h
                            clear hwv hwk
                            go_wp2_with (first
                              | (go_at_call 12; (with_reducible refine (CN0.out _ H0.out.2).mono ?_); rintro e w4 ⟨rfl, hx4⟩; have q4 := (hx4.block _ (heap_lt H0.out.1)).trans H0.out.1; obtain ⟨b0, b1, b2, b3⟩ := cells4 q4; have b4 := free_cells q4 0; have H4 := Lib.hid (put_zero (wE := wF) (H0.out.2.trans hx4) HSZ.out q4 F1); clear q4 hx4)
                              | (go_at_call 15; (with_reducible refine (CA9.out _ H4.out.2).mono ?_); rintro e w7 ⟨rfl, hx7⟩; have HX7 := Lib.hid (H4.out.2.trans hx7); clear hx7))
                            go_roundw
                            case rel => exact ⟨m + 1, by go_num, by have := HMN.out; omega, hNN.out.succ HMN.out (by rw [← HN9.out]; exact HT9.out), HX7.out⟩
                            case measure => have := HMN.out; simp [intOf]; omega
                        · rcases HSK.out with ⟨sk1, sk2, hwk⟩ | ⟨sk1, sk2, hwk⟩
                          · have HWV : Hid (wordS v9 (verbsOf l) = v9) := hwv
                            have HWK : Hid (wordS k9 (kindsOf l) = F2) := hwk.trans HF.out.2.symm
                            have CA9 : Hid (∀ W, Ext wF W → Calls Tryd.prog 15 #[.slice A k c, .agg #[.string v9, .string F2, .string ⟨#[]⟩, .string n9]] W fun e w' => e = .returned (.bool true) ∧ Ext W w') := fun W hW => by
                              have h := CB9.out W hW
                              unfold askOf Ask.val at h
                              rw [HWV.out, HWK.out] at h
                              exact h
                            clear hwv hwk
                            go_wp2_with (first
                              | (go_at_call 12; (with_reducible refine (CN1.out _ H0.out.2).mono ?_); rintro e w5 ⟨rfl, hx5⟩; have q5 := (hx5.block _ (heap_lt H0.out.1)).trans H0.out.1; obtain ⟨d0, d1, d2, d3⟩ := cells4 q5; have d4 := free_cells q5 1; have H5 := Lib.hid (put_one (wE := wF) (H0.out.2.trans hx5) HSZ.out q5 F2); clear q5 hx5)
                              | (go_at_call 15; (with_reducible refine (CA9.out _ H5.out.2).mono ?_); rintro e w7 ⟨rfl, hx7⟩; have HX7 := Lib.hid (H5.out.2.trans hx7); clear hx7))
                            go_roundw
                            case rel => exact ⟨m + 1, by go_num, by have := HMN.out; omega, hNN.out.succ HMN.out (by rw [← HN9.out]; exact HT9.out), HX7.out⟩
                            case measure => have := HMN.out; simp [intOf]; omega
                          · have HWV : Hid (wordS v9 (verbsOf l) = v9) := hwv
                            have HWK : Hid (wordS k9 (kindsOf l) = k9) := hwk
                            have CA9 : Hid (∀ W, Ext wF W → Calls Tryd.prog 15 #[.slice A k c, .agg #[.string v9, .string k9, .string ⟨#[]⟩, .string n9]] W fun e w' => e = .returned (.bool true) ∧ Ext W w') := fun W hW => by
                              have h := CB9.out W hW
                              unfold askOf Ask.val at h
                              rw [HWV.out, HWK.out] at h
                              exact h
                            clear hwv hwk
                            go_wp2_with (first
                              | (go_at_call 15; (with_reducible refine (CA9.out _ H0.out.2).mono ?_); rintro e w7 ⟨rfl, hx7⟩; have HX7 := Lib.hid (H0.out.2.trans hx7); clear hx7))
                            go_roundw
                            case rel => exact ⟨m + 1, by go_num, by have := HMN.out; omega, hNN.out.succ HMN.out (by rw [← HN9.out]; exact HT9.out), HX7.out⟩
                            case measure => have := HMN.out; simp [intOf]; omega
                      | false =>
                        have HB : Hid (beyondL l r = some (askOf l v9 k9 n9)) := by
                          unfold Hid beyondL
                          rw [HNR.out]
                          exact hNV.out.hit HIV.out (by rw [← HV9.out]; exact hNK.out.hit HJK.out (by rw [← HK9.out]; exact hNN.out.hit HMN.out (by rw [← HN9.out]; exact HT9.out)))
                        rcases HSV.out with ⟨sv1, sv2, hwv⟩ | ⟨sv1, sv2, hwv⟩
                        · rcases HSK.out with ⟨sk1, sk2, hwk⟩ | ⟨sk1, sk2, hwk⟩
                          · have HWV : Hid (wordS v9 (verbsOf l) = F1) := hwv.trans HF.out.1.symm
                            have HWK : Hid (wordS k9 (kindsOf l) = F2) := hwk.trans HF.out.2.symm
                            have CA9 : Hid (∀ W, Ext wF W → Calls Tryd.prog 15 #[.slice A k c, .agg #[.string F1, .string F2, .string ⟨#[]⟩, .string n9]] W fun e w' => e = .returned (.bool false) ∧ Ext W w') := fun W hW => by
                              have h := CB9.out W hW
                              unfold askOf Ask.val at h
                              rw [HWV.out, HWK.out] at h
                              exact h
                            clear hwv hwk
                            go_wp2_with (first
                              | (go_at_call 12; (with_reducible refine (CN0.out _ H0.out.2).mono ?_); rintro e w4 ⟨rfl, hx4⟩; have q4 := (hx4.block _ (heap_lt H0.out.1)).trans H0.out.1; obtain ⟨b0, b1, b2, b3⟩ := cells4 q4; have b4 := free_cells q4 0; have H4 := Lib.hid (put_zero (wE := wF) (H0.out.2.trans hx4) HSZ.out q4 F1); clear q4 hx4)
                              | (go_at_call 12; (with_reducible refine (CN1.out _ H4.out.2).mono ?_); rintro e w5 ⟨rfl, hx5⟩; have q5 := (hx5.block _ (heap_lt H4.out.1)).trans H4.out.1; obtain ⟨d0, d1, d2, d3⟩ := cells4 q5; have d4 := free_cells q5 1; have H5 := Lib.hid (put_one (wE := wF) (H4.out.2.trans hx5) HSZ.out q5 F2); clear q5 hx5)
                              | (go_at_call 15; (with_reducible refine (CA9.out _ H5.out.2).mono ?_); rintro e w7 ⟨rfl, hx7⟩; have HX7 := Lib.hid (H5.out.2.trans hx7); obtain ⟨s0, s1, s2, s3⟩ := cells4 (FW.out w7 (H5.out.2.trans hx7)).2.1; obtain ⟨a0, a1, a2, a3⟩ := cells4 ((hx7.block _ (heap_lt H5.out.1)).trans H5.out.1); have f0 := free_cells (FW.out w7 (H5.out.2.trans hx7)).2.1 0; have f1 := free_cells (FW.out w7 (H5.out.2.trans hx7)).2.1 1; have f2 := free_cells (FW.out w7 (H5.out.2.trans hx7)).2.1 2; have f3 := free_cells (FW.out w7 (H5.out.2.trans hx7)).2.1 3; clear hx7))
                            obtain ⟨t1, t2⟩ := put_ask (askOf l v9 k9 n9) (FW.out w7 HX7.out).2.1 (FW.out w7 HX7.out).2.2.2 (Nat.le_succ _)
                            unfold askOf at t1 t2
                            rw [HWV.out, HWK.out] at t1 t2
                            refine bodyPost_ret (results_ask rfl _ _ (w.heap.size + 1) rfl t1) rfl ?_
                            exact ⟨by rw [HB.out]; unfold askOf; rw [HWV.out, HWK.out]; rfl, t2⟩
                          · have HWV : Hid (wordS v9 (verbsOf l) = F1) := hwv.trans HF.out.1.symm
                            have HWK : Hid (wordS k9 (kindsOf l) = k9) := hwk
                            have CA9 : Hid (∀ W, Ext wF W → Calls Tryd.prog 15 #[.slice A k c, .agg #[.string F1, .string k9, .string ⟨#[]⟩, .string n9]] W fun e w' => e = .returned (.bool false) ∧ Ext W w') := fun W hW => by
                              have h := CB9.out W hW
                              unfold askOf Ask.val at h
                              rw [HWV.out, HWK.out] at h
                              exact h
                            clear hwv hwk
                            go_wp2_with (first
                              | (go_at_call 12; (with_reducible refine (CN0.out _ H0.out.2).mono ?_); rintro e w4 ⟨rfl, hx4⟩; have q4 := (hx4.block _ (heap_lt H0.out.1)).trans H0.out.1; obtain ⟨b0, b1, b2, b3⟩ := cells4 q4; have b4 := free_cells q4 0; have H4 := Lib.hid (put_zero (wE := wF) (H0.out.2.trans hx4) HSZ.out q4 F1); clear q4 hx4)
                              | (go_at_call 15; (with_reducible refine (CA9.out _ H4.out.2).mono ?_); rintro e w7 ⟨rfl, hx7⟩; have HX7 := Lib.hid (H4.out.2.trans hx7); obtain ⟨s0, s1, s2, s3⟩ := cells4 (FW.out w7 (H4.out.2.trans hx7)).2.1; obtain ⟨a0, a1, a2, a3⟩ := cells4 ((hx7.block _ (heap_lt H4.out.1)).trans H4.out.1); have f0 := free_cells (FW.out w7 (H4.out.2.trans hx7)).2.1 0; have f1 := free_cells (FW.out w7 (H4.out.2.trans hx7)).2.1 1; have f2 := free_cells (FW.out w7 (H4.out.2.trans hx7)).2.1 2; have f3 := free_cells (FW.out w7 (H4.out.2.trans hx7)).2.1 3; clear hx7))
                            obtain ⟨t1, t2⟩ := put_ask (askOf l v9 k9 n9) (FW.out w7 HX7.out).2.1 (FW.out w7 HX7.out).2.2.2 (Nat.le_succ _)
                            unfold askOf at t1 t2
                            rw [HWV.out, HWK.out] at t1 t2
                            refine bodyPost_ret (results_ask rfl _ _ (w.heap.size + 1) rfl t1) rfl ?_
                            exact ⟨by rw [HB.out]; unfold askOf; rw [HWV.out, HWK.out]; rfl, t2⟩
                        · rcases HSK.out with ⟨sk1, sk2, hwk⟩ | ⟨sk1, sk2, hwk⟩
                          · have HWV : Hid (wordS v9 (verbsOf l) = v9) := hwv
                            have HWK : Hid (wordS k9 (kindsOf l) = F2) := hwk.trans HF.out.2.symm
                            have CA9 : Hid (∀ W, Ext wF W → Calls Tryd.prog 15 #[.slice A k c, .agg #[.string v9, .string F2, .string ⟨#[]⟩, .string n9]] W fun e w' => e = .returned (.bool false) ∧ Ext W w') := fun W hW => by
                              have h := CB9.out W hW
                              unfold askOf Ask.val at h
                              rw [HWV.out, HWK.out] at h
                              exact h
                            clear hwv hwk
                            go_wp2_with (first
                              | (go_at_call 12; (with_reducible refine (CN1.out _ H0.out.2).mono ?_); rintro e w5 ⟨rfl, hx5⟩; have q5 := (hx5.block _ (heap_lt H0.out.1)).trans H0.out.1; obtain ⟨d0, d1, d2, d3⟩ := cells4 q5; have d4 := free_cells q5 1; have H5 := Lib.hid (put_one (wE := wF) (H0.out.2.trans hx5) HSZ.out q5 F2); clear q5 hx5)
                              | (go_at_call 15; (with_reducible refine (CA9.out _ H5.out.2).mono ?_); rintro e w7 ⟨rfl, hx7⟩; have HX7 := Lib.hid (H5.out.2.trans hx7); obtain ⟨s0, s1, s2, s3⟩ := cells4 (FW.out w7 (H5.out.2.trans hx7)).2.1; obtain ⟨a0, a1, a2, a3⟩ := cells4 ((hx7.block _ (heap_lt H5.out.1)).trans H5.out.1); have f0 := free_cells (FW.out w7 (H5.out.2.trans hx7)).2.1 0; have f1 := free_cells (FW.out w7 (H5.out.2.trans hx7)).2.1 1; have f2 := free_cells (FW.out w7 (H5.out.2.trans hx7)).2.1 2; have f3 := free_cells (FW.out w7 (H5.out.2.trans hx7)).2.1 3; clear hx7))
                            obtain ⟨t1, t2⟩ := put_ask (askOf l v9 k9 n9) (FW.out w7 HX7.out).2.1 (FW.out w7 HX7.out).2.2.2 (Nat.le_succ _)
                            unfold askOf at t1 t2
                            rw [HWV.out, HWK.out] at t1 t2
                            refine bodyPost_ret (results_ask rfl _ _ (w.heap.size + 1) rfl t1) rfl ?_
                            exact ⟨by rw [HB.out]; unfold askOf; rw [HWV.out, HWK.out]; rfl, t2⟩
                          · have HWV : Hid (wordS v9 (verbsOf l) = v9) := hwv
                            have HWK : Hid (wordS k9 (kindsOf l) = k9) := hwk
                            have CA9 : Hid (∀ W, Ext wF W → Calls Tryd.prog 15 #[.slice A k c, .agg #[.string v9, .string k9, .string ⟨#[]⟩, .string n9]] W fun e w' => e = .returned (.bool false) ∧ Ext W w') := fun W hW => by
                              have h := CB9.out W hW
                              unfold askOf Ask.val at h
                              rw [HWV.out, HWK.out] at h
                              exact h
                            clear hwv hwk
                            go_wp2_with (first
                              | (go_at_call 15; (with_reducible refine (CA9.out _ H0.out.2).mono ?_); rintro e w7 ⟨rfl, hx7⟩; have HX7 := Lib.hid (H0.out.2.trans hx7); obtain ⟨s0, s1, s2, s3⟩ := cells4 (FW.out w7 (H0.out.2.trans hx7)).2.1; obtain ⟨a0, a1, a2, a3⟩ := cells4 ((hx7.block _ (heap_lt H0.out.1)).trans H0.out.1); have f0 := free_cells (FW.out w7 (H0.out.2.trans hx7)).2.1 0; have f1 := free_cells (FW.out w7 (H0.out.2.trans hx7)).2.1 1; have f2 := free_cells (FW.out w7 (H0.out.2.trans hx7)).2.1 2; have f3 := free_cells (FW.out w7 (H0.out.2.trans hx7)).2.1 3; clear hx7))
                            obtain ⟨t1, t2⟩ := put_ask (askOf l v9 k9 n9) (FW.out w7 HX7.out).2.1 (FW.out w7 HX7.out).2.2.2 (Nat.le_succ _)
                            unfold askOf at t1 t2
                            rw [HWV.out, HWK.out] at t1 t2
                            refine bodyPost_ret (results_ask rfl _ _ (w.heap.size + 1) rfl t1) rfl ?_
                            exact ⟨by rw [HB.out]; unfold askOf; rw [HWV.out, HWK.out]; rfl, t2⟩
                  · have HA9 : Hid (tryK l r.names v9 k9 = none) := hNN.out.all (by omega)
                    have tm : decide (m < r.names.length) = false := by simp; omega
                    clear hmn hE4 hxn
                    go_wp2_with fail
                    go_roundw
                    case rel => exact ⟨j + 1, by go_num, by have := HJK.out; omega, hNK.out.succ HJK.out (by rw [← HK9.out]; exact HA9.out), HE4.out⟩
                    case measure => have := HJK.out; simp [intOf]; omega
              · have HA9 : Hid (tryV l r.names r.kinds v9 = none) := hNK.out.all (by omega)
                have tj : decide (j < r.kinds.length) = false := by simp; omega
                clear hjk hE3 hxk
                go_wp2_with fail
                go_roundw
                case rel => exact ⟨i + 1, by go_num, by have := HIV.out; omega, hNV.out.succ HIV.out (by rw [← HV9.out]; exact HA9.out), HE3.out⟩
                case measure => have := HIV.out; simp [intOf]; omega
          · have HB : Hid (beyondL l r = none) := by
              unfold Hid beyondL
              rw [HNR.out]
              exact hNV.out.all (by omega)
            have tv : decide (i < r.verbs.length) = false := by simp; omega
            obtain ⟨s0, s1, s2, s3⟩ := cells4 (FW.out wv hE2).2.1
            have f0 := free_cells (FW.out wv hE2).2.1 0
            have f1 := free_cells (FW.out wv hE2).2.1 1
            have f2 := free_cells (FW.out wv hE2).2.1 2
            have f3 := free_cells (FW.out wv hE2).2.1 3
            clear hiv hE2 hxv
            go_wp2_with fail
            obtain ⟨t1, t2⟩ := put_ask askNone (FW.out wv HE2.out).2.1 (FW.out wv HE2.out).2.2.2 (Nat.le_succ _)
            refine bodyPost_ret (results_ask rfl _ _ (w.heap.size + 1) rfl t1) rfl ?_
            exact ⟨by rw [HB.out]; rfl, t2⟩
end Go.Proofs.YtplfimoeggecjaaDoor.Sx
