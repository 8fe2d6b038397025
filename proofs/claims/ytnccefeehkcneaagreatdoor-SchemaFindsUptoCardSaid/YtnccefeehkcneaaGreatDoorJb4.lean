/-
  The program's objects: With, a name more (printed by gen/jb3.py).
-/
import Derived.Test.YtnccefeehkcneaaGreatDoorJba
namespace Go.Proofs.YtnccefeehkcneaaGreatDoor.Jm
open Go Go.RowKit Go.Proofs.YtnccefeehkcneaaGreatDoor.Sx Go.Proofs.YtnccefeehkcneaaGreatDoor.Js Go.Proofs.YtnccefeehkcneaaGreatDoor.Gr Go.Proofs.YtnccefeehkcneaaGreatDoor.Ur
set_option maxRecDepth 100000 in
set_option maxHeartbeats 8000000 in
theorem with_nil (F : Nat → Prop) (b : Nat) (ns : List Tx) (l : List J) (t : Tx) (j : J) (w : World) (ho : ObjAt F w b ns l) (hw : ns.length = l.length) (hr : Rise ns) (hsm : l.length ≤ 1048570) (hv : PV F w j (.nilIface)) (ht : t ∉ ns) :
    Calls Tryz.prog 35 #[.pointer (some ⟨b, 0, none⟩), .string (bx t), .nilIface] w (WithPost F w (ns.insertIdx (place ns t) t) (l.insertIdx (place ns t) j)) := by
  obtain ⟨A, c, B, d, hh, hc, hd, hN, hV⟩ := ho
  have CS := Lib.hid (search_any F A ns.length c ns t w rfl hN hr (by omega))
  rw [decide_eq_false ht] at CS
  obtain ⟨p, hp⟩ : ∃ p, p = place ns t := ⟨_, rfl⟩
  have hpn : p ≤ ns.length := by rw [hp]; exact place_le ns t
  rw [← hp] at CS ⊢
  obtain ⟨NS, hNS⟩ : ∃ NS, NS = ns.map strW := ⟨_, rfl⟩
  obtain ⟨us, hus, hcu, hpu⟩ := cells_vals hV
  have hcn : CellsAt w A NS := by rw [hNS]; exact cells_names hN
  have hNl : NS.length = ns.length := by rw [hNS, List.length_map]
  have h1n : ∀ u ∈ NS, u.oneCell' = true := fun u hu => by rw [hNS] at hu; obtain ⟨x, _, rfl⟩ := List.mem_map.1 hu; rfl
  have h1u : ∀ u ∈ us, u.oneCell' = true := fun u hu => by
    obtain ⟨i, hi, rfl⟩ := List.mem_iff_getElem.1 hu
    exact (hpu i (by omega) hi).one
  obtain ⟨n, hn⟩ : ∃ n, n = ns.length := ⟨_, rfl⟩
  have hln : l.length = n := by omega
  have hbl := heap_lt hh
  have HS : Hid (∀ W, Ext w W → W.cell? ⟨b, 0, none⟩ = some (.slice A n c) ∧ W.cell? ⟨b, 1, none⟩ = some (.slice B n d)) := fun W hW => by
    have h0 : w.cell? ⟨b, 0, none⟩ = some (.slice A n c) := by rw [hn]; exact cell_of hh 0
    have h1 : w.cell? ⟨b, 1, none⟩ = some (.slice B n d) := by rw [← hln]; exact cell_of hh 1
    exact ⟨(cell_keep (hW.block b hbl)).trans h0, (cell_keep (hW.block b hbl)).trans h1⟩
  have hv1 : (.nilIface : Value).oneCell' = true := hv.one
  have CC1 : Hid (∀ W, Ext w W → Calls Tryz.prog 40 #[.slice A n c] W fun e w' => ∃ A' c', e = .returned (.slice A' n c') ∧ Ext w w' ∧ WA w w' (.slice A' n c') (one NS) ∧ Hid (∀ (b : Nat) (o : Obj), W.heap[b]? = some o → w'.heap[b]? = some o) ∧ Hid (∀ g, (Value.slice A' n c').ownBlock = some g → W.heap.size ≤ g ∧ g < w'.heap.size) ∧ W.heap.size ≤ w'.heap.size) := fun W hW =>
    (clone_strs A n c NS W (by omega) h1n (hcn.ext hW) (by omega)).mono fun e w' ⟨A', c', he, hr, hx⟩ => ⟨A', c', he, hW.trans hx, ⟨hW.trans hx, hr.low hW.size⟩, Lib.hid (ext_keeps hx), Lib.hid hr.block, hx.size⟩
  have CI1 : Hid (∀ W A' c' vb, WA w W (.slice A' n c') (one NS) → W.heap[vb]? = some (.cells #[strW t] strT' (0, 0)) → (Value.slice A' n c').ownBlock ≠ some vb → Calls Tryz.prog 89 #[.slice A' n c', .int .i64 (p : Int), .slice (some ⟨vb, 0, none⟩) 1 1] W fun e w' => ∃ A'' c'', e = .returned (.slice A'' (n + 1) c'') ∧ Ext w w' ∧ WA w w' (.slice A'' (n + 1) c'') (one (NS.insertIdx p (strW t))) ∧ Hid (∀ (b : Nat) (o : Obj), (Value.slice A' n c').ownBlock ≠ some b → W.heap[b]? = some o → w'.heap[b]? = some o) ∧ W.heap.size ≤ w'.heap.size) := fun W A' c' vb hW hvb hne =>
    (insert_strs w.heap.size A' n c' p vb NS (strW t) W hW.2 rfl hvb hne hW.1.size (by omega) (by omega)).mono fun e w' ⟨A'', c'', he, hr, hg, ho⟩ => by
      have hl : (NS.insertIdx p (strW t)).length = n + 1 := by rw [List.length_insertIdx_of_le_length (by omega), hNl, ← hn]
      rw [hl] at he hr
      have hx : Ext w w' := ext_row hW.1 hg (fun g e => (hW.2.block g e).1)
      exact ⟨A'', c'', he, hx, ⟨hx, hr⟩, Lib.hid (fun b o hb h => (hg.block b (heap_lt h) (fun e => hb e.symm)).trans h), hg.size⟩
  have CC2 : Hid (∀ W nv, WA w W nv (one (NS.insertIdx p (strW t))) → Calls Tryz.prog 87 #[.slice B n d] W fun e w' => ∃ A' c', e = .returned (.slice A' n c') ∧ Ext w w' ∧ WB w w' nv (.slice A' n c') (one (NS.insertIdx p (strW t))) (one us) ∧ Hid (∀ (b : Nat) (o : Obj), W.heap[b]? = some o → w'.heap[b]? = some o) ∧ Hid (∀ g, (Value.slice A' n c').ownBlock = some g → W.heap.size ≤ g ∧ g < w'.heap.size) ∧ W.heap.size ≤ w'.heap.size) := fun W nv hW =>
    (clone_vals B n d us W (by omega) h1u (hcu.ext hW.1) (by omega)).mono fun e w' ⟨A', c', he, hr, hx⟩ => ⟨A', c', he, hW.1.trans hx, ⟨hW.1.trans hx, hW.2.ext hx, hr.low hW.1.size, fun g e1 e2 => by have h1 := (hW.2.block g e1).2; have h2 := (hr.block g e2).1; omega⟩, Lib.hid (ext_keeps hx), Lib.hid hr.block, hx.size⟩
  have CI2 : Hid (∀ W nv A' c' vb, WB w W nv (.slice A' n c') (one (NS.insertIdx p (strW t))) (one us) → W.heap[vb]? = some (.cells #[.nilIface] valT (0, 0)) → (Value.slice A' n c').ownBlock ≠ some vb → Calls Tryz.prog 90 #[.slice A' n c', .int .i64 (p : Int), .slice (some ⟨vb, 0, none⟩) 1 1] W fun e w' => ∃ A'' c'', e = .returned (.slice A'' (n + 1) c'') ∧ Ext w w' ∧ WB w w' nv (.slice A'' (n + 1) c'') (one (NS.insertIdx p (strW t))) (one (us.insertIdx p (.nilIface))) ∧ W.heap.size ≤ w'.heap.size) := fun W nv A' c' vb hW hvb hne =>
    (insert_vals w.heap.size A' n c' p vb us (.nilIface) W hW.2.2.1 hv1 hvb hne hW.1.size (by omega) (by omega)).mono fun e w' ⟨A'', c'', he, hr, hg, ho⟩ => by
      have hl : (us.insertIdx p (.nilIface)).length = n + 1 := by rw [List.length_insertIdx_of_le_length (by omega), hus, hln]
      rw [hl] at he hr ho
      have hx : Ext w w' := ext_row hW.1 hg (fun g e => (hW.2.2.1.block g e).1)
      refine ⟨A'', c'', he, hx, ⟨hx, hW.2.1.kept hg (fun g e e2 => hW.2.2.2 g e e2), hr, fun g e1 e2 => ?_⟩, hg.size⟩
      rcases ho with ho | ho
      · exact hW.2.2.2 g e1 (ho.symm.trans e2)
      · rw [ho] at e2
        injection e2 with e2
        have := (hW.2.1.block g e1).2
        omega
  have HO : Hid (n = ns.length ∧ NS.insertIdx p (strW t) = (ns.insertIdx p t).map strW ∧ PVs F w (l.insertIdx p j) (us.insertIdx p (.nilIface)) ∧ n + 1 = (ns.insertIdx p t).length ∧ n + 1 = (l.insertIdx p j).length) :=
    ⟨hn, by rw [hNS]; exact names_ins ns t p hpn, PVs.ins ⟨hus, hpu⟩ hv (by omega), by rw [List.length_insertIdx_of_le_length (by omega)]; omega, by rw [List.length_insertIdx_of_le_length (by omega)]; omega⟩
  rw [← hn] at CS
  have z0 := (HS.out w (Below.refl _ _)).1
  have hxx : Ext w w := Below.refl _ _
  clear hn hln hus hNl hp hw hNS hcu hcn hpu h1n h1u hh hN hV hr ht hv hc hd hbl hv1 hpn
  go_enter Tryz.func35, Tryz.ntmps35
  go_wp2_with (go_at_call 88; refine CS.out.mono ?_; rintro e w' ⟨rfl, rfl⟩)
  refine wp_region_split (fun w' => w'.cell? ⟨b, 0, none⟩ = some (.slice A n c) ∧ w'.cell? ⟨b, 1, none⟩ = some (.slice B n d)) 20 (by kernel_rfl) (by kernel_rfl) (by exact HS.out _ (by repeat (first | assumption | apply ext_al | apply ext_dr))) (fun hHeld => ?_)
  simp only [List.take_succ_cons, List.take_zero, List.drop_succ_cons, List.drop_zero]
  refine wpAnyH_take (i := 0) (v := ?_) rfl (by kernel_rfl) (by kernel_rfl) (by kernel_rfl) (fun _ _ _ h => h) (Or.inl ⟨by rfl, ?_⟩) (by assumption) ?_
  rotate_left
  · intro w hSw
    (try dsimp only at hSw)
    go_simp
    (try with_reducible rfl)
  (try simp only [Act.put, List.setIfInBounds_toArray])
  refine wpAnyH_take (i := 1) (v := ?_) rfl (by kernel_rfl) (by kernel_rfl) (by kernel_rfl) (fun _ _ _ h => h) (Or.inl ⟨by rfl, ?_⟩) (by assumption) ?_
  rotate_left
  · intro w hSw
    (try dsimp only at hSw)
    go_simp
    (try with_reducible rfl)
  (try simp only [Act.put])
  refine wpAnyH_take (i := 2) (v := ?_) rfl (by kernel_rfl) (by kernel_rfl) (by kernel_rfl) (fun _ _ _ h => h) (Or.inl ⟨by rfl, ?_⟩) (by assumption) ?_
  rotate_left
  · intro w hSw
    (try dsimp only at hSw)
    go_simp
    (try with_reducible rfl)
  (try simp only [Act.put])
  refine wpAnyH_take (i := 3) (v := ?_) rfl (by kernel_rfl) (by kernel_rfl) (by kernel_rfl) (fun _ _ _ h => h) (Or.inl ⟨by rfl, ?_⟩) (by assumption) ?_
  rotate_left
  · intro w hSw
    (try dsimp only at hSw)
    go_simp
    (try with_reducible rfl)
  (try simp only [Act.put])
  refine wpAnyH_take (i := 5) (v := ?_) rfl (by kernel_rfl) (by kernel_rfl) (by kernel_rfl) (fun _ _ _ h => h) (Or.inl ⟨by rfl, ?_⟩) (by assumption) ?_
  rotate_left
  · intro w hSw
    (try dsimp only at hSw)
    go_simp
    (try with_reducible rfl)
  (try simp only [Act.put])
  refine wpAnyH_take (i := 6) (v := ?_) rfl (by kernel_rfl) (by kernel_rfl) (by kernel_rfl) (fun _ _ _ h => h) (Or.inl ⟨by rfl, ?_⟩) (by assumption) ?_
  rotate_left
  · intro w hSw
    (try dsimp only at hSw)
    go_simp
    (try with_reducible rfl)
  (try simp only [Act.put])
  refine wpAnyH_take (i := 9) (v := ?_) rfl (by kernel_rfl) (by kernel_rfl) (by kernel_rfl) (fun _ _ _ h => h) (Or.inl ⟨by rfl, ?_⟩) (by assumption) ?_
  rotate_left
  · intro w hSw
    (try dsimp only at hSw)
    go_simp
    (try with_reducible rfl)
  (try simp only [Act.put])
  refine wpAnyH_take (i := 10) (v := ?_) rfl (by kernel_rfl) (by kernel_rfl) (by kernel_rfl) (fun _ _ _ h => h) (Or.inl ⟨by rfl, ?_⟩) (by assumption) ?_
  rotate_left
  · intro w hSw
    (try dsimp only at hSw)
    go_simp
    (try with_reducible rfl)
  (try simp only [Act.put])
  refine wpAnyH_take (i := 11) (v := ?_) rfl (by kernel_rfl) (by kernel_rfl) (by kernel_rfl) (fun _ _ _ h => h) (Or.inl ⟨by rfl, ?_⟩) (by assumption) ?_
  rotate_left
  · intro w hSw
    (try dsimp only at hSw)
    go_simp
    (try with_reducible rfl)
  (try simp only [Act.put])
  refine wpAnyH_take (i := 12) (v := ?_) rfl (by kernel_rfl) (by kernel_rfl) (by kernel_rfl) (fun _ _ _ h => h) (Or.inl ⟨by rfl, ?_⟩) (by assumption) ?_
  rotate_left
  · intro w hSw
    (try dsimp only at hSw)
    go_simp
    (try with_reducible rfl)
  (try simp only [Act.put])
  refine wpAnyH_take (i := 14) (v := ?_) rfl (by kernel_rfl) (by kernel_rfl) (by kernel_rfl) (fun _ _ _ h => h) (Or.inl ⟨by rfl, ?_⟩) (by assumption) ?_
  rotate_left
  · intro w hSw
    (try dsimp only at hSw)
    go_simp
    (try with_reducible rfl)
  (try simp only [Act.put])
  refine wpAnyH_take (i := 15) (v := ?_) rfl (by kernel_rfl) (by kernel_rfl) (by kernel_rfl) (fun _ _ _ h => h) (Or.inl ⟨by rfl, ?_⟩) (by assumption) ?_
  rotate_left
  · intro w hSw
    (try dsimp only at hSw)
    go_simp
    (try with_reducible rfl)
  (try simp only [Act.put])
  refine wpAnyH_ready (rs := [4, 7, 16]) (by kernel_rfl) (by simp) ?_
  refine AllReadyH.cons rfl (fun KQ hKQ => ?_) ?_
  · skip
    go_simp; (refine Calls.mono (CC1.out _ (by repeat (first | assumption | apply ext_al | apply ext_dr))) ?_); rintro e w1 ⟨A1, c1, rfl, x1, wa1, k1, o1, s1⟩; (try dsimp only); (try simp at s1)
    refine hKQ.out _ _ (by exact HS.out _ (by repeat (first | assumption | apply ext_al | apply ext_dr))) (fun hHeld => ?_)
    clear hKQ KQ
    (try simp only [Act.put, List.setIfInBounds_toArray, List.set_cons_zero, List.set_cons_succ])
    refine wpAnyH_ready (rs := [7, 16]) (by kernel_rfl) (by simp) ?_
    refine AllReadyH.cons rfl (fun KQ hKQ => ?_) ?_
    · skip
      go_simp
      refine hKQ.out _ _ (by exact HS.out _ (by repeat (first | assumption | apply ext_al | apply ext_dr))) (fun hHeld => ?_)
      clear hKQ KQ
      (try simp only [Act.put, List.setIfInBounds_toArray, List.set_cons_zero, List.set_cons_succ])
      refine wpAnyH_ready (rs := [8, 16]) (by kernel_rfl) (by simp) ?_
      refine AllReadyH.cons rfl (fun KQ hKQ => ?_) ?_
      · skip
        go_simp; (refine Calls.mono (CI1.out _ A1 c1 _ (by repeat (first | assumption | apply WA.alloc | apply WA.drew)) (by repeat (first | exact heap_new (by simp) | refine heap_old ?_ | refine k1.out _ _ ?_ | refine k2.out _ _ (fun e => by have h := o1.out _ e; first | (simp at h; done) | (simp at h; omega) | omega) ?_ | refine k3.out _ _ ?_)) (fun e => by have h := o1.out _ e; first | (simp at h; done) | (simp at h; omega) | omega)) ?_); rintro e w2 ⟨A2, c2, rfl, x2, wa2, k2, s2⟩; (try dsimp only); (try simp at s2)
        refine hKQ.out _ _ (by exact HS.out _ (by repeat (first | assumption | apply ext_al | apply ext_dr))) (fun hHeld => ?_)
        clear hKQ KQ
        (try simp only [Act.put, List.setIfInBounds_toArray, List.set_cons_zero, List.set_cons_succ])
        refine wpAnyH_ready (rs := [13, 16]) (by kernel_rfl) (by simp) ?_
        refine AllReadyH.cons rfl (fun KQ hKQ => ?_) ?_
        · skip
          go_simp; (refine Calls.mono (CC2.out _ (.slice A2 (n + 1) c2) (by repeat (first | assumption | apply WA.alloc | apply WA.drew))) ?_); rintro e w3 ⟨A3, c3, rfl, x3, wb3, k3, o3, s3⟩; (try dsimp only); (try simp at s3)
          refine hKQ.out _ _ (by exact HS.out _ (by repeat (first | assumption | apply ext_al | apply ext_dr))) (fun hHeld => ?_)
          clear hKQ KQ
          (try simp only [Act.put, List.setIfInBounds_toArray, List.set_cons_zero, List.set_cons_succ])
          refine wpAnyH_ready (rs := [16]) (by kernel_rfl) (by simp) ?_
          refine AllReadyH.cons rfl (fun KQ hKQ => ?_) AllReadyH.nil
          go_simp
          refine hKQ.out _ _ (by exact HS.out _ (by repeat (first | assumption | apply ext_al | apply ext_dr))) (fun hHeld => ?_)
          clear hKQ KQ
          (try simp only [Act.put, List.setIfInBounds_toArray, List.set_cons_zero, List.set_cons_succ])
          refine wpAnyH_ready (rs := [17]) (by kernel_rfl) (by simp) ?_
          refine AllReadyH.cons rfl (fun KQ hKQ => ?_) AllReadyH.nil
          go_simp; (refine Calls.mono (CI2.out _ (.slice A2 (n + 1) c2) A3 c3 _ (by repeat (first | assumption | apply WB.alloc | apply WB.drew)) (by repeat (first | exact heap_new (by simp) | refine heap_old ?_ | refine k1.out _ _ ?_ | refine k2.out _ _ (fun e => by have h := o1.out _ e; first | (simp at h; done) | (simp at h; omega) | omega) ?_ | refine k3.out _ _ ?_)) (fun e => by have h := o3.out _ e; first | (simp at h; done) | (simp at h; omega) | omega)) ?_); rintro e w4 ⟨A4, c4, rfl, x4, wb4, s4⟩; (try dsimp only); (try simp at s4)
          refine hKQ.out _ _ (by exact HS.out _ (by repeat (first | assumption | apply ext_al | apply ext_dr))) (fun hHeld => ?_)
          clear hKQ KQ
          (try simp only [Act.put, List.setIfInBounds_toArray, List.set_cons_zero, List.set_cons_succ])
          refine wpAnyH_take (i := 18) (v := ?_) rfl (by kernel_rfl) (by kernel_rfl) (by kernel_rfl) (fun _ _ _ h => h) (Or.inl ⟨by rfl, ?_⟩) (by assumption) ?_
          rotate_left
          · intro w hSw
            (try dsimp only at hSw)
            go_simp
            (try with_reducible rfl)
          (try simp only [Act.put, List.setIfInBounds_toArray])
          refine wpAnyH_ready (rs := [19]) (by kernel_rfl) (by simp) ?_
          refine AllReadyH.cons rfl (fun KQ hKQ => ?_) AllReadyH.nil
          go_simp
          refine hKQ.out _ _ (by exact HS.out _ (by repeat (first | assumption | apply ext_al | apply ext_dr))) (fun hHeld => ?_)
          clear hKQ KQ
          (try simp only [Act.put, List.setIfInBounds_toArray, List.set_cons_zero, List.set_cons_succ])
          refine wpAnyH_done (by kernel_rfl) ?_ _
          refine TailQ.normal ?_
          go_wp2_with fail
          go_ret
          exact ⟨_, rfl, Nat.le_trans wb4.1.size (Nat.le_refl _), obj_new wb4 HO.out.2.1 HO.out.2.2.1 HO.out.2.2.2.1 HO.out.2.2.2.2, wb4.1.trans ((new_ext _ _).trans (by repeat (first | exact Below.refl _ _ | apply ext_dr)))⟩
        refine AllReadyH.cons rfl (fun KQ hKQ => ?_) ?_
        · skip
          go_simp
          refine hKQ.out _ _ (by exact HS.out _ (by repeat (first | assumption | apply ext_al | apply ext_dr))) (fun hHeld => ?_)
          clear hKQ KQ
          (try simp only [Act.put, List.setIfInBounds_toArray, List.set_cons_zero, List.set_cons_succ])
          refine wpAnyH_ready (rs := [13]) (by kernel_rfl) (by simp) ?_
          refine AllReadyH.cons rfl (fun KQ hKQ => ?_) AllReadyH.nil
          go_simp; (refine Calls.mono (CC2.out _ (.slice A2 (n + 1) c2) (by repeat (first | assumption | apply WA.alloc | apply WA.drew))) ?_); rintro e w3 ⟨A3, c3, rfl, x3, wb3, k3, o3, s3⟩; (try dsimp only); (try simp at s3)
          refine hKQ.out _ _ (by exact HS.out _ (by repeat (first | assumption | apply ext_al | apply ext_dr))) (fun hHeld => ?_)
          clear hKQ KQ
          (try simp only [Act.put, List.setIfInBounds_toArray, List.set_cons_zero, List.set_cons_succ])
          refine wpAnyH_ready (rs := [17]) (by kernel_rfl) (by simp) ?_
          refine AllReadyH.cons rfl (fun KQ hKQ => ?_) AllReadyH.nil
          go_simp; (refine Calls.mono (CI2.out _ (.slice A2 (n + 1) c2) A3 c3 _ (by repeat (first | assumption | apply WB.alloc | apply WB.drew)) (by repeat (first | exact heap_new (by simp) | refine heap_old ?_ | refine k1.out _ _ ?_ | refine k2.out _ _ (fun e => by have h := o1.out _ e; first | (simp at h; done) | (simp at h; omega) | omega) ?_ | refine k3.out _ _ ?_)) (fun e => by have h := o3.out _ e; first | (simp at h; done) | (simp at h; omega) | omega)) ?_); rintro e w4 ⟨A4, c4, rfl, x4, wb4, s4⟩; (try dsimp only); (try simp at s4)
          refine hKQ.out _ _ (by exact HS.out _ (by repeat (first | assumption | apply ext_al | apply ext_dr))) (fun hHeld => ?_)
          clear hKQ KQ
          (try simp only [Act.put, List.setIfInBounds_toArray, List.set_cons_zero, List.set_cons_succ])
          refine wpAnyH_take (i := 18) (v := ?_) rfl (by kernel_rfl) (by kernel_rfl) (by kernel_rfl) (fun _ _ _ h => h) (Or.inl ⟨by rfl, ?_⟩) (by assumption) ?_
          rotate_left
          · intro w hSw
            (try dsimp only at hSw)
            go_simp
            (try with_reducible rfl)
          (try simp only [Act.put, List.setIfInBounds_toArray])
          refine wpAnyH_ready (rs := [19]) (by kernel_rfl) (by simp) ?_
          refine AllReadyH.cons rfl (fun KQ hKQ => ?_) AllReadyH.nil
          go_simp
          refine hKQ.out _ _ (by exact HS.out _ (by repeat (first | assumption | apply ext_al | apply ext_dr))) (fun hHeld => ?_)
          clear hKQ KQ
          (try simp only [Act.put, List.setIfInBounds_toArray, List.set_cons_zero, List.set_cons_succ])
          refine wpAnyH_done (by kernel_rfl) ?_ _
          refine TailQ.normal ?_
          go_wp2_with fail
          go_ret
          exact ⟨_, rfl, Nat.le_trans wb4.1.size (Nat.le_refl _), obj_new wb4 HO.out.2.1 HO.out.2.2.1 HO.out.2.2.2.1 HO.out.2.2.2.2, wb4.1.trans ((new_ext _ _).trans (by repeat (first | exact Below.refl _ _ | apply ext_dr)))⟩
        exact AllReadyH.nil
      refine AllReadyH.cons rfl (fun KQ hKQ => ?_) ?_
      · skip
        go_simp
        refine hKQ.out _ _ (by exact HS.out _ (by repeat (first | assumption | apply ext_al | apply ext_dr))) (fun hHeld => ?_)
        clear hKQ KQ
        (try simp only [Act.put, List.setIfInBounds_toArray, List.set_cons_zero, List.set_cons_succ])
        refine wpAnyH_ready (rs := [8]) (by kernel_rfl) (by simp) ?_
        refine AllReadyH.cons rfl (fun KQ hKQ => ?_) AllReadyH.nil
        go_simp; (refine Calls.mono (CI1.out _ A1 c1 _ (by repeat (first | assumption | apply WA.alloc | apply WA.drew)) (by repeat (first | exact heap_new (by simp) | refine heap_old ?_ | refine k1.out _ _ ?_ | refine k2.out _ _ (fun e => by have h := o1.out _ e; first | (simp at h; done) | (simp at h; omega) | omega) ?_ | refine k3.out _ _ ?_)) (fun e => by have h := o1.out _ e; first | (simp at h; done) | (simp at h; omega) | omega)) ?_); rintro e w2 ⟨A2, c2, rfl, x2, wa2, k2, s2⟩; (try dsimp only); (try simp at s2)
        refine hKQ.out _ _ (by exact HS.out _ (by repeat (first | assumption | apply ext_al | apply ext_dr))) (fun hHeld => ?_)
        clear hKQ KQ
        (try simp only [Act.put, List.setIfInBounds_toArray, List.set_cons_zero, List.set_cons_succ])
        refine wpAnyH_ready (rs := [13]) (by kernel_rfl) (by simp) ?_
        refine AllReadyH.cons rfl (fun KQ hKQ => ?_) AllReadyH.nil
        go_simp; (refine Calls.mono (CC2.out _ (.slice A2 (n + 1) c2) (by repeat (first | assumption | apply WA.alloc | apply WA.drew))) ?_); rintro e w3 ⟨A3, c3, rfl, x3, wb3, k3, o3, s3⟩; (try dsimp only); (try simp at s3)
        refine hKQ.out _ _ (by exact HS.out _ (by repeat (first | assumption | apply ext_al | apply ext_dr))) (fun hHeld => ?_)
        clear hKQ KQ
        (try simp only [Act.put, List.setIfInBounds_toArray, List.set_cons_zero, List.set_cons_succ])
        refine wpAnyH_ready (rs := [17]) (by kernel_rfl) (by simp) ?_
        refine AllReadyH.cons rfl (fun KQ hKQ => ?_) AllReadyH.nil
        go_simp; (refine Calls.mono (CI2.out _ (.slice A2 (n + 1) c2) A3 c3 _ (by repeat (first | assumption | apply WB.alloc | apply WB.drew)) (by repeat (first | exact heap_new (by simp) | refine heap_old ?_ | refine k1.out _ _ ?_ | refine k2.out _ _ (fun e => by have h := o1.out _ e; first | (simp at h; done) | (simp at h; omega) | omega) ?_ | refine k3.out _ _ ?_)) (fun e => by have h := o3.out _ e; first | (simp at h; done) | (simp at h; omega) | omega)) ?_); rintro e w4 ⟨A4, c4, rfl, x4, wb4, s4⟩; (try dsimp only); (try simp at s4)
        refine hKQ.out _ _ (by exact HS.out _ (by repeat (first | assumption | apply ext_al | apply ext_dr))) (fun hHeld => ?_)
        clear hKQ KQ
        (try simp only [Act.put, List.setIfInBounds_toArray, List.set_cons_zero, List.set_cons_succ])
        refine wpAnyH_take (i := 18) (v := ?_) rfl (by kernel_rfl) (by kernel_rfl) (by kernel_rfl) (fun _ _ _ h => h) (Or.inl ⟨by rfl, ?_⟩) (by assumption) ?_
        rotate_left
        · intro w hSw
          (try dsimp only at hSw)
          go_simp
          (try with_reducible rfl)
        (try simp only [Act.put, List.setIfInBounds_toArray])
        refine wpAnyH_ready (rs := [19]) (by kernel_rfl) (by simp) ?_
        refine AllReadyH.cons rfl (fun KQ hKQ => ?_) AllReadyH.nil
        go_simp
        refine hKQ.out _ _ (by exact HS.out _ (by repeat (first | assumption | apply ext_al | apply ext_dr))) (fun hHeld => ?_)
        clear hKQ KQ
        (try simp only [Act.put, List.setIfInBounds_toArray, List.set_cons_zero, List.set_cons_succ])
        refine wpAnyH_done (by kernel_rfl) ?_ _
        refine TailQ.normal ?_
        go_wp2_with fail
        go_ret
        exact ⟨_, rfl, Nat.le_trans wb4.1.size (Nat.le_refl _), obj_new wb4 HO.out.2.1 HO.out.2.2.1 HO.out.2.2.2.1 HO.out.2.2.2.2, wb4.1.trans ((new_ext _ _).trans (by repeat (first | exact Below.refl _ _ | apply ext_dr)))⟩
      exact AllReadyH.nil
    refine AllReadyH.cons rfl (fun KQ hKQ => ?_) ?_
    · skip
      go_simp
      refine hKQ.out _ _ (by exact HS.out _ (by repeat (first | assumption | apply ext_al | apply ext_dr))) (fun hHeld => ?_)
      clear hKQ KQ
      (try simp only [Act.put, List.setIfInBounds_toArray, List.set_cons_zero, List.set_cons_succ])
      refine wpAnyH_ready (rs := [7]) (by kernel_rfl) (by simp) ?_
      refine AllReadyH.cons rfl (fun KQ hKQ => ?_) AllReadyH.nil
      go_simp
      refine hKQ.out _ _ (by exact HS.out _ (by repeat (first | assumption | apply ext_al | apply ext_dr))) (fun hHeld => ?_)
      clear hKQ KQ
      (try simp only [Act.put, List.setIfInBounds_toArray, List.set_cons_zero, List.set_cons_succ])
      refine wpAnyH_ready (rs := [8]) (by kernel_rfl) (by simp) ?_
      refine AllReadyH.cons rfl (fun KQ hKQ => ?_) AllReadyH.nil
      go_simp; (refine Calls.mono (CI1.out _ A1 c1 _ (by repeat (first | assumption | apply WA.alloc | apply WA.drew)) (by repeat (first | exact heap_new (by simp) | refine heap_old ?_ | refine k1.out _ _ ?_ | refine k2.out _ _ (fun e => by have h := o1.out _ e; first | (simp at h; done) | (simp at h; omega) | omega) ?_ | refine k3.out _ _ ?_)) (fun e => by have h := o1.out _ e; first | (simp at h; done) | (simp at h; omega) | omega)) ?_); rintro e w2 ⟨A2, c2, rfl, x2, wa2, k2, s2⟩; (try dsimp only); (try simp at s2)
      refine hKQ.out _ _ (by exact HS.out _ (by repeat (first | assumption | apply ext_al | apply ext_dr))) (fun hHeld => ?_)
      clear hKQ KQ
      (try simp only [Act.put, List.setIfInBounds_toArray, List.set_cons_zero, List.set_cons_succ])
      refine wpAnyH_ready (rs := [13]) (by kernel_rfl) (by simp) ?_
      refine AllReadyH.cons rfl (fun KQ hKQ => ?_) AllReadyH.nil
      go_simp; (refine Calls.mono (CC2.out _ (.slice A2 (n + 1) c2) (by repeat (first | assumption | apply WA.alloc | apply WA.drew))) ?_); rintro e w3 ⟨A3, c3, rfl, x3, wb3, k3, o3, s3⟩; (try dsimp only); (try simp at s3)
      refine hKQ.out _ _ (by exact HS.out _ (by repeat (first | assumption | apply ext_al | apply ext_dr))) (fun hHeld => ?_)
      clear hKQ KQ
      (try simp only [Act.put, List.setIfInBounds_toArray, List.set_cons_zero, List.set_cons_succ])
      refine wpAnyH_ready (rs := [17]) (by kernel_rfl) (by simp) ?_
      refine AllReadyH.cons rfl (fun KQ hKQ => ?_) AllReadyH.nil
      go_simp; (refine Calls.mono (CI2.out _ (.slice A2 (n + 1) c2) A3 c3 _ (by repeat (first | assumption | apply WB.alloc | apply WB.drew)) (by repeat (first | exact heap_new (by simp) | refine heap_old ?_ | refine k1.out _ _ ?_ | refine k2.out _ _ (fun e => by have h := o1.out _ e; first | (simp at h; done) | (simp at h; omega) | omega) ?_ | refine k3.out _ _ ?_)) (fun e => by have h := o3.out _ e; first | (simp at h; done) | (simp at h; omega) | omega)) ?_); rintro e w4 ⟨A4, c4, rfl, x4, wb4, s4⟩; (try dsimp only); (try simp at s4)
      refine hKQ.out _ _ (by exact HS.out _ (by repeat (first | assumption | apply ext_al | apply ext_dr))) (fun hHeld => ?_)
      clear hKQ KQ
      (try simp only [Act.put, List.setIfInBounds_toArray, List.set_cons_zero, List.set_cons_succ])
      refine wpAnyH_take (i := 18) (v := ?_) rfl (by kernel_rfl) (by kernel_rfl) (by kernel_rfl) (fun _ _ _ h => h) (Or.inl ⟨by rfl, ?_⟩) (by assumption) ?_
      rotate_left
      · intro w hSw
        (try dsimp only at hSw)
        go_simp
        (try with_reducible rfl)
      (try simp only [Act.put, List.setIfInBounds_toArray])
      refine wpAnyH_ready (rs := [19]) (by kernel_rfl) (by simp) ?_
      refine AllReadyH.cons rfl (fun KQ hKQ => ?_) AllReadyH.nil
      go_simp
      refine hKQ.out _ _ (by exact HS.out _ (by repeat (first | assumption | apply ext_al | apply ext_dr))) (fun hHeld => ?_)
      clear hKQ KQ
      (try simp only [Act.put, List.setIfInBounds_toArray, List.set_cons_zero, List.set_cons_succ])
      refine wpAnyH_done (by kernel_rfl) ?_ _
      refine TailQ.normal ?_
      go_wp2_with fail
      go_ret
      exact ⟨_, rfl, Nat.le_trans wb4.1.size (Nat.le_refl _), obj_new wb4 HO.out.2.1 HO.out.2.2.1 HO.out.2.2.2.1 HO.out.2.2.2.2, wb4.1.trans ((new_ext _ _).trans (by repeat (first | exact Below.refl _ _ | apply ext_dr)))⟩
    exact AllReadyH.nil
  refine AllReadyH.cons rfl (fun KQ hKQ => ?_) ?_
  · skip
    go_simp
    refine hKQ.out _ _ (by exact HS.out _ (by repeat (first | assumption | apply ext_al | apply ext_dr))) (fun hHeld => ?_)
    clear hKQ KQ
    (try simp only [Act.put, List.setIfInBounds_toArray, List.set_cons_zero, List.set_cons_succ])
    refine wpAnyH_ready (rs := [4, 16]) (by kernel_rfl) (by simp) ?_
    refine AllReadyH.cons rfl (fun KQ hKQ => ?_) ?_
    · skip
      go_simp; (refine Calls.mono (CC1.out _ (by repeat (first | assumption | apply ext_al | apply ext_dr))) ?_); rintro e w1 ⟨A1, c1, rfl, x1, wa1, k1, o1, s1⟩; (try dsimp only); (try simp at s1)
      refine hKQ.out _ _ (by exact HS.out _ (by repeat (first | assumption | apply ext_al | apply ext_dr))) (fun hHeld => ?_)
      clear hKQ KQ
      (try simp only [Act.put, List.setIfInBounds_toArray, List.set_cons_zero, List.set_cons_succ])
      refine wpAnyH_ready (rs := [8, 16]) (by kernel_rfl) (by simp) ?_
      refine AllReadyH.cons rfl (fun KQ hKQ => ?_) ?_
      · skip
        go_simp; (refine Calls.mono (CI1.out _ A1 c1 _ (by repeat (first | assumption | apply WA.alloc | apply WA.drew)) (by repeat (first | exact heap_new (by simp) | refine heap_old ?_ | refine k1.out _ _ ?_ | refine k2.out _ _ (fun e => by have h := o1.out _ e; first | (simp at h; done) | (simp at h; omega) | omega) ?_ | refine k3.out _ _ ?_)) (fun e => by have h := o1.out _ e; first | (simp at h; done) | (simp at h; omega) | omega)) ?_); rintro e w2 ⟨A2, c2, rfl, x2, wa2, k2, s2⟩; (try dsimp only); (try simp at s2)
        refine hKQ.out _ _ (by exact HS.out _ (by repeat (first | assumption | apply ext_al | apply ext_dr))) (fun hHeld => ?_)
        clear hKQ KQ
        (try simp only [Act.put, List.setIfInBounds_toArray, List.set_cons_zero, List.set_cons_succ])
        refine wpAnyH_ready (rs := [13, 16]) (by kernel_rfl) (by simp) ?_
        refine AllReadyH.cons rfl (fun KQ hKQ => ?_) ?_
        · skip
          go_simp; (refine Calls.mono (CC2.out _ (.slice A2 (n + 1) c2) (by repeat (first | assumption | apply WA.alloc | apply WA.drew))) ?_); rintro e w3 ⟨A3, c3, rfl, x3, wb3, k3, o3, s3⟩; (try dsimp only); (try simp at s3)
          refine hKQ.out _ _ (by exact HS.out _ (by repeat (first | assumption | apply ext_al | apply ext_dr))) (fun hHeld => ?_)
          clear hKQ KQ
          (try simp only [Act.put, List.setIfInBounds_toArray, List.set_cons_zero, List.set_cons_succ])
          refine wpAnyH_ready (rs := [16]) (by kernel_rfl) (by simp) ?_
          refine AllReadyH.cons rfl (fun KQ hKQ => ?_) AllReadyH.nil
          go_simp
          refine hKQ.out _ _ (by exact HS.out _ (by repeat (first | assumption | apply ext_al | apply ext_dr))) (fun hHeld => ?_)
          clear hKQ KQ
          (try simp only [Act.put, List.setIfInBounds_toArray, List.set_cons_zero, List.set_cons_succ])
          refine wpAnyH_ready (rs := [17]) (by kernel_rfl) (by simp) ?_
          refine AllReadyH.cons rfl (fun KQ hKQ => ?_) AllReadyH.nil
          go_simp; (refine Calls.mono (CI2.out _ (.slice A2 (n + 1) c2) A3 c3 _ (by repeat (first | assumption | apply WB.alloc | apply WB.drew)) (by repeat (first | exact heap_new (by simp) | refine heap_old ?_ | refine k1.out _ _ ?_ | refine k2.out _ _ (fun e => by have h := o1.out _ e; first | (simp at h; done) | (simp at h; omega) | omega) ?_ | refine k3.out _ _ ?_)) (fun e => by have h := o3.out _ e; first | (simp at h; done) | (simp at h; omega) | omega)) ?_); rintro e w4 ⟨A4, c4, rfl, x4, wb4, s4⟩; (try dsimp only); (try simp at s4)
          refine hKQ.out _ _ (by exact HS.out _ (by repeat (first | assumption | apply ext_al | apply ext_dr))) (fun hHeld => ?_)
          clear hKQ KQ
          (try simp only [Act.put, List.setIfInBounds_toArray, List.set_cons_zero, List.set_cons_succ])
          refine wpAnyH_take (i := 18) (v := ?_) rfl (by kernel_rfl) (by kernel_rfl) (by kernel_rfl) (fun _ _ _ h => h) (Or.inl ⟨by rfl, ?_⟩) (by assumption) ?_
          rotate_left
          · intro w hSw
            (try dsimp only at hSw)
            go_simp
            (try with_reducible rfl)
          (try simp only [Act.put, List.setIfInBounds_toArray])
          refine wpAnyH_ready (rs := [19]) (by kernel_rfl) (by simp) ?_
          refine AllReadyH.cons rfl (fun KQ hKQ => ?_) AllReadyH.nil
          go_simp
          refine hKQ.out _ _ (by exact HS.out _ (by repeat (first | assumption | apply ext_al | apply ext_dr))) (fun hHeld => ?_)
          clear hKQ KQ
          (try simp only [Act.put, List.setIfInBounds_toArray, List.set_cons_zero, List.set_cons_succ])
          refine wpAnyH_done (by kernel_rfl) ?_ _
          refine TailQ.normal ?_
          go_wp2_with fail
          go_ret
          exact ⟨_, rfl, Nat.le_trans wb4.1.size (Nat.le_refl _), obj_new wb4 HO.out.2.1 HO.out.2.2.1 HO.out.2.2.2.1 HO.out.2.2.2.2, wb4.1.trans ((new_ext _ _).trans (by repeat (first | exact Below.refl _ _ | apply ext_dr)))⟩
        refine AllReadyH.cons rfl (fun KQ hKQ => ?_) ?_
        · skip
          go_simp
          refine hKQ.out _ _ (by exact HS.out _ (by repeat (first | assumption | apply ext_al | apply ext_dr))) (fun hHeld => ?_)
          clear hKQ KQ
          (try simp only [Act.put, List.setIfInBounds_toArray, List.set_cons_zero, List.set_cons_succ])
          refine wpAnyH_ready (rs := [13]) (by kernel_rfl) (by simp) ?_
          refine AllReadyH.cons rfl (fun KQ hKQ => ?_) AllReadyH.nil
          go_simp; (refine Calls.mono (CC2.out _ (.slice A2 (n + 1) c2) (by repeat (first | assumption | apply WA.alloc | apply WA.drew))) ?_); rintro e w3 ⟨A3, c3, rfl, x3, wb3, k3, o3, s3⟩; (try dsimp only); (try simp at s3)
          refine hKQ.out _ _ (by exact HS.out _ (by repeat (first | assumption | apply ext_al | apply ext_dr))) (fun hHeld => ?_)
          clear hKQ KQ
          (try simp only [Act.put, List.setIfInBounds_toArray, List.set_cons_zero, List.set_cons_succ])
          refine wpAnyH_ready (rs := [17]) (by kernel_rfl) (by simp) ?_
          refine AllReadyH.cons rfl (fun KQ hKQ => ?_) AllReadyH.nil
          go_simp; (refine Calls.mono (CI2.out _ (.slice A2 (n + 1) c2) A3 c3 _ (by repeat (first | assumption | apply WB.alloc | apply WB.drew)) (by repeat (first | exact heap_new (by simp) | refine heap_old ?_ | refine k1.out _ _ ?_ | refine k2.out _ _ (fun e => by have h := o1.out _ e; first | (simp at h; done) | (simp at h; omega) | omega) ?_ | refine k3.out _ _ ?_)) (fun e => by have h := o3.out _ e; first | (simp at h; done) | (simp at h; omega) | omega)) ?_); rintro e w4 ⟨A4, c4, rfl, x4, wb4, s4⟩; (try dsimp only); (try simp at s4)
          refine hKQ.out _ _ (by exact HS.out _ (by repeat (first | assumption | apply ext_al | apply ext_dr))) (fun hHeld => ?_)
          clear hKQ KQ
          (try simp only [Act.put, List.setIfInBounds_toArray, List.set_cons_zero, List.set_cons_succ])
          refine wpAnyH_take (i := 18) (v := ?_) rfl (by kernel_rfl) (by kernel_rfl) (by kernel_rfl) (fun _ _ _ h => h) (Or.inl ⟨by rfl, ?_⟩) (by assumption) ?_
          rotate_left
          · intro w hSw
            (try dsimp only at hSw)
            go_simp
            (try with_reducible rfl)
          (try simp only [Act.put, List.setIfInBounds_toArray])
          refine wpAnyH_ready (rs := [19]) (by kernel_rfl) (by simp) ?_
          refine AllReadyH.cons rfl (fun KQ hKQ => ?_) AllReadyH.nil
          go_simp
          refine hKQ.out _ _ (by exact HS.out _ (by repeat (first | assumption | apply ext_al | apply ext_dr))) (fun hHeld => ?_)
          clear hKQ KQ
          (try simp only [Act.put, List.setIfInBounds_toArray, List.set_cons_zero, List.set_cons_succ])
          refine wpAnyH_done (by kernel_rfl) ?_ _
          refine TailQ.normal ?_
          go_wp2_with fail
          go_ret
          exact ⟨_, rfl, Nat.le_trans wb4.1.size (Nat.le_refl _), obj_new wb4 HO.out.2.1 HO.out.2.2.1 HO.out.2.2.2.1 HO.out.2.2.2.2, wb4.1.trans ((new_ext _ _).trans (by repeat (first | exact Below.refl _ _ | apply ext_dr)))⟩
        exact AllReadyH.nil
      refine AllReadyH.cons rfl (fun KQ hKQ => ?_) ?_
      · skip
        go_simp
        refine hKQ.out _ _ (by exact HS.out _ (by repeat (first | assumption | apply ext_al | apply ext_dr))) (fun hHeld => ?_)
        clear hKQ KQ
        (try simp only [Act.put, List.setIfInBounds_toArray, List.set_cons_zero, List.set_cons_succ])
        refine wpAnyH_ready (rs := [8]) (by kernel_rfl) (by simp) ?_
        refine AllReadyH.cons rfl (fun KQ hKQ => ?_) AllReadyH.nil
        go_simp; (refine Calls.mono (CI1.out _ A1 c1 _ (by repeat (first | assumption | apply WA.alloc | apply WA.drew)) (by repeat (first | exact heap_new (by simp) | refine heap_old ?_ | refine k1.out _ _ ?_ | refine k2.out _ _ (fun e => by have h := o1.out _ e; first | (simp at h; done) | (simp at h; omega) | omega) ?_ | refine k3.out _ _ ?_)) (fun e => by have h := o1.out _ e; first | (simp at h; done) | (simp at h; omega) | omega)) ?_); rintro e w2 ⟨A2, c2, rfl, x2, wa2, k2, s2⟩; (try dsimp only); (try simp at s2)
        refine hKQ.out _ _ (by exact HS.out _ (by repeat (first | assumption | apply ext_al | apply ext_dr))) (fun hHeld => ?_)
        clear hKQ KQ
        (try simp only [Act.put, List.setIfInBounds_toArray, List.set_cons_zero, List.set_cons_succ])
        refine wpAnyH_ready (rs := [13]) (by kernel_rfl) (by simp) ?_
        refine AllReadyH.cons rfl (fun KQ hKQ => ?_) AllReadyH.nil
        go_simp; (refine Calls.mono (CC2.out _ (.slice A2 (n + 1) c2) (by repeat (first | assumption | apply WA.alloc | apply WA.drew))) ?_); rintro e w3 ⟨A3, c3, rfl, x3, wb3, k3, o3, s3⟩; (try dsimp only); (try simp at s3)
        refine hKQ.out _ _ (by exact HS.out _ (by repeat (first | assumption | apply ext_al | apply ext_dr))) (fun hHeld => ?_)
        clear hKQ KQ
        (try simp only [Act.put, List.setIfInBounds_toArray, List.set_cons_zero, List.set_cons_succ])
        refine wpAnyH_ready (rs := [17]) (by kernel_rfl) (by simp) ?_
        refine AllReadyH.cons rfl (fun KQ hKQ => ?_) AllReadyH.nil
        go_simp; (refine Calls.mono (CI2.out _ (.slice A2 (n + 1) c2) A3 c3 _ (by repeat (first | assumption | apply WB.alloc | apply WB.drew)) (by repeat (first | exact heap_new (by simp) | refine heap_old ?_ | refine k1.out _ _ ?_ | refine k2.out _ _ (fun e => by have h := o1.out _ e; first | (simp at h; done) | (simp at h; omega) | omega) ?_ | refine k3.out _ _ ?_)) (fun e => by have h := o3.out _ e; first | (simp at h; done) | (simp at h; omega) | omega)) ?_); rintro e w4 ⟨A4, c4, rfl, x4, wb4, s4⟩; (try dsimp only); (try simp at s4)
        refine hKQ.out _ _ (by exact HS.out _ (by repeat (first | assumption | apply ext_al | apply ext_dr))) (fun hHeld => ?_)
        clear hKQ KQ
        (try simp only [Act.put, List.setIfInBounds_toArray, List.set_cons_zero, List.set_cons_succ])
        refine wpAnyH_take (i := 18) (v := ?_) rfl (by kernel_rfl) (by kernel_rfl) (by kernel_rfl) (fun _ _ _ h => h) (Or.inl ⟨by rfl, ?_⟩) (by assumption) ?_
        rotate_left
        · intro w hSw
          (try dsimp only at hSw)
          go_simp
          (try with_reducible rfl)
        (try simp only [Act.put, List.setIfInBounds_toArray])
        refine wpAnyH_ready (rs := [19]) (by kernel_rfl) (by simp) ?_
        refine AllReadyH.cons rfl (fun KQ hKQ => ?_) AllReadyH.nil
        go_simp
        refine hKQ.out _ _ (by exact HS.out _ (by repeat (first | assumption | apply ext_al | apply ext_dr))) (fun hHeld => ?_)
        clear hKQ KQ
        (try simp only [Act.put, List.setIfInBounds_toArray, List.set_cons_zero, List.set_cons_succ])
        refine wpAnyH_done (by kernel_rfl) ?_ _
        refine TailQ.normal ?_
        go_wp2_with fail
        go_ret
        exact ⟨_, rfl, Nat.le_trans wb4.1.size (Nat.le_refl _), obj_new wb4 HO.out.2.1 HO.out.2.2.1 HO.out.2.2.2.1 HO.out.2.2.2.2, wb4.1.trans ((new_ext _ _).trans (by repeat (first | exact Below.refl _ _ | apply ext_dr)))⟩
      exact AllReadyH.nil
    refine AllReadyH.cons rfl (fun KQ hKQ => ?_) ?_
    · skip
      go_simp
      refine hKQ.out _ _ (by exact HS.out _ (by repeat (first | assumption | apply ext_al | apply ext_dr))) (fun hHeld => ?_)
      clear hKQ KQ
      (try simp only [Act.put, List.setIfInBounds_toArray, List.set_cons_zero, List.set_cons_succ])
      refine wpAnyH_ready (rs := [4]) (by kernel_rfl) (by simp) ?_
      refine AllReadyH.cons rfl (fun KQ hKQ => ?_) AllReadyH.nil
      go_simp; (refine Calls.mono (CC1.out _ (by repeat (first | assumption | apply ext_al | apply ext_dr))) ?_); rintro e w1 ⟨A1, c1, rfl, x1, wa1, k1, o1, s1⟩; (try dsimp only); (try simp at s1)
      refine hKQ.out _ _ (by exact HS.out _ (by repeat (first | assumption | apply ext_al | apply ext_dr))) (fun hHeld => ?_)
      clear hKQ KQ
      (try simp only [Act.put, List.setIfInBounds_toArray, List.set_cons_zero, List.set_cons_succ])
      refine wpAnyH_ready (rs := [8]) (by kernel_rfl) (by simp) ?_
      refine AllReadyH.cons rfl (fun KQ hKQ => ?_) AllReadyH.nil
      go_simp; (refine Calls.mono (CI1.out _ A1 c1 _ (by repeat (first | assumption | apply WA.alloc | apply WA.drew)) (by repeat (first | exact heap_new (by simp) | refine heap_old ?_ | refine k1.out _ _ ?_ | refine k2.out _ _ (fun e => by have h := o1.out _ e; first | (simp at h; done) | (simp at h; omega) | omega) ?_ | refine k3.out _ _ ?_)) (fun e => by have h := o1.out _ e; first | (simp at h; done) | (simp at h; omega) | omega)) ?_); rintro e w2 ⟨A2, c2, rfl, x2, wa2, k2, s2⟩; (try dsimp only); (try simp at s2)
      refine hKQ.out _ _ (by exact HS.out _ (by repeat (first | assumption | apply ext_al | apply ext_dr))) (fun hHeld => ?_)
      clear hKQ KQ
      (try simp only [Act.put, List.setIfInBounds_toArray, List.set_cons_zero, List.set_cons_succ])
      refine wpAnyH_ready (rs := [13]) (by kernel_rfl) (by simp) ?_
      refine AllReadyH.cons rfl (fun KQ hKQ => ?_) AllReadyH.nil
      go_simp; (refine Calls.mono (CC2.out _ (.slice A2 (n + 1) c2) (by repeat (first | assumption | apply WA.alloc | apply WA.drew))) ?_); rintro e w3 ⟨A3, c3, rfl, x3, wb3, k3, o3, s3⟩; (try dsimp only); (try simp at s3)
      refine hKQ.out _ _ (by exact HS.out _ (by repeat (first | assumption | apply ext_al | apply ext_dr))) (fun hHeld => ?_)
      clear hKQ KQ
      (try simp only [Act.put, List.setIfInBounds_toArray, List.set_cons_zero, List.set_cons_succ])
      refine wpAnyH_ready (rs := [17]) (by kernel_rfl) (by simp) ?_
      refine AllReadyH.cons rfl (fun KQ hKQ => ?_) AllReadyH.nil
      go_simp; (refine Calls.mono (CI2.out _ (.slice A2 (n + 1) c2) A3 c3 _ (by repeat (first | assumption | apply WB.alloc | apply WB.drew)) (by repeat (first | exact heap_new (by simp) | refine heap_old ?_ | refine k1.out _ _ ?_ | refine k2.out _ _ (fun e => by have h := o1.out _ e; first | (simp at h; done) | (simp at h; omega) | omega) ?_ | refine k3.out _ _ ?_)) (fun e => by have h := o3.out _ e; first | (simp at h; done) | (simp at h; omega) | omega)) ?_); rintro e w4 ⟨A4, c4, rfl, x4, wb4, s4⟩; (try dsimp only); (try simp at s4)
      refine hKQ.out _ _ (by exact HS.out _ (by repeat (first | assumption | apply ext_al | apply ext_dr))) (fun hHeld => ?_)
      clear hKQ KQ
      (try simp only [Act.put, List.setIfInBounds_toArray, List.set_cons_zero, List.set_cons_succ])
      refine wpAnyH_take (i := 18) (v := ?_) rfl (by kernel_rfl) (by kernel_rfl) (by kernel_rfl) (fun _ _ _ h => h) (Or.inl ⟨by rfl, ?_⟩) (by assumption) ?_
      rotate_left
      · intro w hSw
        (try dsimp only at hSw)
        go_simp
        (try with_reducible rfl)
      (try simp only [Act.put, List.setIfInBounds_toArray])
      refine wpAnyH_ready (rs := [19]) (by kernel_rfl) (by simp) ?_
      refine AllReadyH.cons rfl (fun KQ hKQ => ?_) AllReadyH.nil
      go_simp
      refine hKQ.out _ _ (by exact HS.out _ (by repeat (first | assumption | apply ext_al | apply ext_dr))) (fun hHeld => ?_)
      clear hKQ KQ
      (try simp only [Act.put, List.setIfInBounds_toArray, List.set_cons_zero, List.set_cons_succ])
      refine wpAnyH_done (by kernel_rfl) ?_ _
      refine TailQ.normal ?_
      go_wp2_with fail
      go_ret
      exact ⟨_, rfl, Nat.le_trans wb4.1.size (Nat.le_refl _), obj_new wb4 HO.out.2.1 HO.out.2.2.1 HO.out.2.2.2.1 HO.out.2.2.2.2, wb4.1.trans ((new_ext _ _).trans (by repeat (first | exact Below.refl _ _ | apply ext_dr)))⟩
    exact AllReadyH.nil
  refine AllReadyH.cons rfl (fun KQ hKQ => ?_) ?_
  · skip
    go_simp
    refine hKQ.out _ _ (by exact HS.out _ (by repeat (first | assumption | apply ext_al | apply ext_dr))) (fun hHeld => ?_)
    clear hKQ KQ
    (try simp only [Act.put, List.setIfInBounds_toArray, List.set_cons_zero, List.set_cons_succ])
    refine wpAnyH_ready (rs := [4, 7]) (by kernel_rfl) (by simp) ?_
    refine AllReadyH.cons rfl (fun KQ hKQ => ?_) ?_
    · skip
      go_simp; (refine Calls.mono (CC1.out _ (by repeat (first | assumption | apply ext_al | apply ext_dr))) ?_); rintro e w1 ⟨A1, c1, rfl, x1, wa1, k1, o1, s1⟩; (try dsimp only); (try simp at s1)
      refine hKQ.out _ _ (by exact HS.out _ (by repeat (first | assumption | apply ext_al | apply ext_dr))) (fun hHeld => ?_)
      clear hKQ KQ
      (try simp only [Act.put, List.setIfInBounds_toArray, List.set_cons_zero, List.set_cons_succ])
      refine wpAnyH_ready (rs := [7]) (by kernel_rfl) (by simp) ?_
      refine AllReadyH.cons rfl (fun KQ hKQ => ?_) AllReadyH.nil
      go_simp
      refine hKQ.out _ _ (by exact HS.out _ (by repeat (first | assumption | apply ext_al | apply ext_dr))) (fun hHeld => ?_)
      clear hKQ KQ
      (try simp only [Act.put, List.setIfInBounds_toArray, List.set_cons_zero, List.set_cons_succ])
      refine wpAnyH_ready (rs := [8]) (by kernel_rfl) (by simp) ?_
      refine AllReadyH.cons rfl (fun KQ hKQ => ?_) AllReadyH.nil
      go_simp; (refine Calls.mono (CI1.out _ A1 c1 _ (by repeat (first | assumption | apply WA.alloc | apply WA.drew)) (by repeat (first | exact heap_new (by simp) | refine heap_old ?_ | refine k1.out _ _ ?_ | refine k2.out _ _ (fun e => by have h := o1.out _ e; first | (simp at h; done) | (simp at h; omega) | omega) ?_ | refine k3.out _ _ ?_)) (fun e => by have h := o1.out _ e; first | (simp at h; done) | (simp at h; omega) | omega)) ?_); rintro e w2 ⟨A2, c2, rfl, x2, wa2, k2, s2⟩; (try dsimp only); (try simp at s2)
      refine hKQ.out _ _ (by exact HS.out _ (by repeat (first | assumption | apply ext_al | apply ext_dr))) (fun hHeld => ?_)
      clear hKQ KQ
      (try simp only [Act.put, List.setIfInBounds_toArray, List.set_cons_zero, List.set_cons_succ])
      refine wpAnyH_ready (rs := [13]) (by kernel_rfl) (by simp) ?_
      refine AllReadyH.cons rfl (fun KQ hKQ => ?_) AllReadyH.nil
      go_simp; (refine Calls.mono (CC2.out _ (.slice A2 (n + 1) c2) (by repeat (first | assumption | apply WA.alloc | apply WA.drew))) ?_); rintro e w3 ⟨A3, c3, rfl, x3, wb3, k3, o3, s3⟩; (try dsimp only); (try simp at s3)
      refine hKQ.out _ _ (by exact HS.out _ (by repeat (first | assumption | apply ext_al | apply ext_dr))) (fun hHeld => ?_)
      clear hKQ KQ
      (try simp only [Act.put, List.setIfInBounds_toArray, List.set_cons_zero, List.set_cons_succ])
      refine wpAnyH_ready (rs := [17]) (by kernel_rfl) (by simp) ?_
      refine AllReadyH.cons rfl (fun KQ hKQ => ?_) AllReadyH.nil
      go_simp; (refine Calls.mono (CI2.out _ (.slice A2 (n + 1) c2) A3 c3 _ (by repeat (first | assumption | apply WB.alloc | apply WB.drew)) (by repeat (first | exact heap_new (by simp) | refine heap_old ?_ | refine k1.out _ _ ?_ | refine k2.out _ _ (fun e => by have h := o1.out _ e; first | (simp at h; done) | (simp at h; omega) | omega) ?_ | refine k3.out _ _ ?_)) (fun e => by have h := o3.out _ e; first | (simp at h; done) | (simp at h; omega) | omega)) ?_); rintro e w4 ⟨A4, c4, rfl, x4, wb4, s4⟩; (try dsimp only); (try simp at s4)
      refine hKQ.out _ _ (by exact HS.out _ (by repeat (first | assumption | apply ext_al | apply ext_dr))) (fun hHeld => ?_)
      clear hKQ KQ
      (try simp only [Act.put, List.setIfInBounds_toArray, List.set_cons_zero, List.set_cons_succ])
      refine wpAnyH_take (i := 18) (v := ?_) rfl (by kernel_rfl) (by kernel_rfl) (by kernel_rfl) (fun _ _ _ h => h) (Or.inl ⟨by rfl, ?_⟩) (by assumption) ?_
      rotate_left
      · intro w hSw
        (try dsimp only at hSw)
        go_simp
        (try with_reducible rfl)
      (try simp only [Act.put, List.setIfInBounds_toArray])
      refine wpAnyH_ready (rs := [19]) (by kernel_rfl) (by simp) ?_
      refine AllReadyH.cons rfl (fun KQ hKQ => ?_) AllReadyH.nil
      go_simp
      refine hKQ.out _ _ (by exact HS.out _ (by repeat (first | assumption | apply ext_al | apply ext_dr))) (fun hHeld => ?_)
      clear hKQ KQ
      (try simp only [Act.put, List.setIfInBounds_toArray, List.set_cons_zero, List.set_cons_succ])
      refine wpAnyH_done (by kernel_rfl) ?_ _
      refine TailQ.normal ?_
      go_wp2_with fail
      go_ret
      exact ⟨_, rfl, Nat.le_trans wb4.1.size (Nat.le_refl _), obj_new wb4 HO.out.2.1 HO.out.2.2.1 HO.out.2.2.2.1 HO.out.2.2.2.2, wb4.1.trans ((new_ext _ _).trans (by repeat (first | exact Below.refl _ _ | apply ext_dr)))⟩
    refine AllReadyH.cons rfl (fun KQ hKQ => ?_) ?_
    · skip
      go_simp
      refine hKQ.out _ _ (by exact HS.out _ (by repeat (first | assumption | apply ext_al | apply ext_dr))) (fun hHeld => ?_)
      clear hKQ KQ
      (try simp only [Act.put, List.setIfInBounds_toArray, List.set_cons_zero, List.set_cons_succ])
      refine wpAnyH_ready (rs := [4]) (by kernel_rfl) (by simp) ?_
      refine AllReadyH.cons rfl (fun KQ hKQ => ?_) AllReadyH.nil
      go_simp; (refine Calls.mono (CC1.out _ (by repeat (first | assumption | apply ext_al | apply ext_dr))) ?_); rintro e w1 ⟨A1, c1, rfl, x1, wa1, k1, o1, s1⟩; (try dsimp only); (try simp at s1)
      refine hKQ.out _ _ (by exact HS.out _ (by repeat (first | assumption | apply ext_al | apply ext_dr))) (fun hHeld => ?_)
      clear hKQ KQ
      (try simp only [Act.put, List.setIfInBounds_toArray, List.set_cons_zero, List.set_cons_succ])
      refine wpAnyH_ready (rs := [8]) (by kernel_rfl) (by simp) ?_
      refine AllReadyH.cons rfl (fun KQ hKQ => ?_) AllReadyH.nil
      go_simp; (refine Calls.mono (CI1.out _ A1 c1 _ (by repeat (first | assumption | apply WA.alloc | apply WA.drew)) (by repeat (first | exact heap_new (by simp) | refine heap_old ?_ | refine k1.out _ _ ?_ | refine k2.out _ _ (fun e => by have h := o1.out _ e; first | (simp at h; done) | (simp at h; omega) | omega) ?_ | refine k3.out _ _ ?_)) (fun e => by have h := o1.out _ e; first | (simp at h; done) | (simp at h; omega) | omega)) ?_); rintro e w2 ⟨A2, c2, rfl, x2, wa2, k2, s2⟩; (try dsimp only); (try simp at s2)
      refine hKQ.out _ _ (by exact HS.out _ (by repeat (first | assumption | apply ext_al | apply ext_dr))) (fun hHeld => ?_)
      clear hKQ KQ
      (try simp only [Act.put, List.setIfInBounds_toArray, List.set_cons_zero, List.set_cons_succ])
      refine wpAnyH_ready (rs := [13]) (by kernel_rfl) (by simp) ?_
      refine AllReadyH.cons rfl (fun KQ hKQ => ?_) AllReadyH.nil
      go_simp; (refine Calls.mono (CC2.out _ (.slice A2 (n + 1) c2) (by repeat (first | assumption | apply WA.alloc | apply WA.drew))) ?_); rintro e w3 ⟨A3, c3, rfl, x3, wb3, k3, o3, s3⟩; (try dsimp only); (try simp at s3)
      refine hKQ.out _ _ (by exact HS.out _ (by repeat (first | assumption | apply ext_al | apply ext_dr))) (fun hHeld => ?_)
      clear hKQ KQ
      (try simp only [Act.put, List.setIfInBounds_toArray, List.set_cons_zero, List.set_cons_succ])
      refine wpAnyH_ready (rs := [17]) (by kernel_rfl) (by simp) ?_
      refine AllReadyH.cons rfl (fun KQ hKQ => ?_) AllReadyH.nil
      go_simp; (refine Calls.mono (CI2.out _ (.slice A2 (n + 1) c2) A3 c3 _ (by repeat (first | assumption | apply WB.alloc | apply WB.drew)) (by repeat (first | exact heap_new (by simp) | refine heap_old ?_ | refine k1.out _ _ ?_ | refine k2.out _ _ (fun e => by have h := o1.out _ e; first | (simp at h; done) | (simp at h; omega) | omega) ?_ | refine k3.out _ _ ?_)) (fun e => by have h := o3.out _ e; first | (simp at h; done) | (simp at h; omega) | omega)) ?_); rintro e w4 ⟨A4, c4, rfl, x4, wb4, s4⟩; (try dsimp only); (try simp at s4)
      refine hKQ.out _ _ (by exact HS.out _ (by repeat (first | assumption | apply ext_al | apply ext_dr))) (fun hHeld => ?_)
      clear hKQ KQ
      (try simp only [Act.put, List.setIfInBounds_toArray, List.set_cons_zero, List.set_cons_succ])
      refine wpAnyH_take (i := 18) (v := ?_) rfl (by kernel_rfl) (by kernel_rfl) (by kernel_rfl) (fun _ _ _ h => h) (Or.inl ⟨by rfl, ?_⟩) (by assumption) ?_
      rotate_left
      · intro w hSw
        (try dsimp only at hSw)
        go_simp
        (try with_reducible rfl)
      (try simp only [Act.put, List.setIfInBounds_toArray])
      refine wpAnyH_ready (rs := [19]) (by kernel_rfl) (by simp) ?_
      refine AllReadyH.cons rfl (fun KQ hKQ => ?_) AllReadyH.nil
      go_simp
      refine hKQ.out _ _ (by exact HS.out _ (by repeat (first | assumption | apply ext_al | apply ext_dr))) (fun hHeld => ?_)
      clear hKQ KQ
      (try simp only [Act.put, List.setIfInBounds_toArray, List.set_cons_zero, List.set_cons_succ])
      refine wpAnyH_done (by kernel_rfl) ?_ _
      refine TailQ.normal ?_
      go_wp2_with fail
      go_ret
      exact ⟨_, rfl, Nat.le_trans wb4.1.size (Nat.le_refl _), obj_new wb4 HO.out.2.1 HO.out.2.2.1 HO.out.2.2.2.1 HO.out.2.2.2.2, wb4.1.trans ((new_ext _ _).trans (by repeat (first | exact Below.refl _ _ | apply ext_dr)))⟩
    exact AllReadyH.nil
  exact AllReadyH.nil
end Go.Proofs.YtnccefeehkcneaaGreatDoor.Jm
