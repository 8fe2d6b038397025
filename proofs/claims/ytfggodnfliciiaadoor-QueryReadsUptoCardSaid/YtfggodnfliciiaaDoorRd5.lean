/-
  The program's choice: the walk.
-/
import Derived.Test.YtfggodnfliciiaaDoorRd4
namespace Go.Proofs.YtfggodnfliciiaaDoor.Rd
open Go Go.RowKit Go.Proofs.YtfggodnfliciiaaDoor.Sx

set_option maxRecDepth 100000 in
set_option maxHeartbeats 4000000 in
theorem choice_any (kp : Nat) (s : ByteArray) (i : Nat) (k : Tx) (w : World) (h : PIn w kp s i false) (hs : s.size ≤ 300) (hi : i ≤ s.size) :
    Calls Tryd.prog 18 #[.pointer (some ⟨kp, 0, none⟩), .agg #[.string (bx k), .int .i64 3, .slice none 0 0]] w (PartPost w kp s (choiceS k (sfx s i))) := by
  have H := Lib.hid h
  have HK := Lib.hid (heap_lt h)
  clear h
  go_enter Tryd.func18, Tryd.ntmps18
  go_upto_region 1 with fail
  obtain ⟨W1, hW⟩ : ∃ W, W = (w.alloc (.cells #[.string (bx k), .int .i64 3, .slice none 0 0] reqT)).alloc (.cells #[.string ⟨#[]⟩, .int .i64 0, .slice none 0 0] reqT) := ⟨_, rfl⟩
  have hx : Ext w W1 := by rw [hW]; exact (new_ext _ _).trans (new_ext _ _)
  have h3 : BoxQ W1 w.heap.size (bx k) 3 none 0 0 := by unfold BoxQ; rw [hW, Below.heap_alloc _ _ _ (by show _ < (w.heap.push _).size; rw [Array.size_push]; omega)]; exact heap_new rfl
  have h4 : BoxQ W1 (w.heap.size + 1) ⟨#[]⟩ 0 none 0 0 := by unfold BoxQ; rw [hW]; exact heap_new (by show _ = (w.heap.push _).size; rw [Array.size_push])
  rw [← hW]
  obtain ⟨k3, hk3⟩ : ∃ k3, k3 = w.heap.size := ⟨_, rfl⟩
  rw [← hk3] at h3 h4 ⊢
  obtain ⟨k4, hk4⟩ : ∃ k4, k4 = k3 + 1 := ⟨_, rfl⟩
  rw [← hk4] at h4 ⊢
  have H1 : Hid (PIn W1 kp s i false ∧ BoxQ W1 k3 (bx k) 3 none 0 0 ∧ BoxQ W1 k4 ⟨#[]⟩ 0 none 0 0 ∧ w.grownBy W1 (some kp)) := ⟨H.out.ext hx, h3, h4, grown_ext hx⟩
  have HKK : Hid (w.heap.size ≤ k3 ∧ w.heap.size ≤ k4 ∧ kp < k3 ∧ kp < k4 ∧ k3 ≠ k4) := by have := HK.out; unfold Hid; omega
  clear hW hx h3 h4 hk3 hk4
  have KEEP : Hid (∀ (W : World) (v : Value) (xs : List ByteArray) {b jj : Nat} {u : Value}, SRow w.heap.size W v xs → (b = k3 ∨ b = k4) → (∀ g, v.ownBlock = some g → g ≠ k3 ∧ g ≠ k4) → SRow w.heap.size (W.setCell ⟨b, jj, none⟩ u) v xs) := fun W v xs b jj u h hb hg => h.kept (grown_set W b jj u) (fun g hgg e => by have h1 := hg g hgg; injection e with e; omega)
  have CW := Lib.hid (word_any kp s i false W1 H1.out.1 hs hi)
  go_wp2_with fail
  refine Calls.mono CW.out ?_
  rintro e w2 ⟨j, rfl, hp2, hij, hjs, hsk, hg2⟩
  have H2 : Hid (PIn w2 kp s j false ∧ BoxQ w2 k3 (bx k) 3 none 0 0 ∧ BoxQ w2 k4 ⟨#[]⟩ 0 none 0 0 ∧ w.grownBy w2 (some kp)) :=
    ⟨hp2, H1.out.2.1.kept hg2 (fun e => by injection e with e; have := HKK.out; omega), H1.out.2.2.1.kept hg2 (fun e => by injection e with e; have := HKK.out; omega), grown_trans H1.out.2.2.2 hg2⟩
  have HSK := Lib.hid hsk
  clear hp2 hsk hg2 CW H1
  obtain ⟨wd, hwd⟩ : ∃ wd, wd = wordOf (sfx s i) := ⟨_, rfl⟩
  obtain ⟨bl, hbl⟩ : ∃ bl, bl = wordBl (sfx s i) := ⟨_, rfl⟩
  rw [← hwd, ← hbl]
  have HWD := Lib.hid hwd
  clear hwd hbl
  have f3 := H2.out.2.1.free 1
  have fp := H2.out.1.free 2
  obtain ⟨y0, y1, y2⟩ := H2.out.2.1.cells
  obtain ⟨p0, p1, p2⟩ := H2.out.1.cells
  have bin : ((bx wd).toList == [105, 110]) = decide (wd = inT) := bx_eq wd inT
  have bno : ((bx wd).toList == [110, 111, 116, 105, 110]) = decide (wd = notinT) := bx_eq wd notinT
  by_cases h1 : wd = inT
  · rw [decide_eq_true h1] at bin
    have HC := Lib.hid h1
    have CHL : choiceS k (sfx s i) = (listAll (wordRest (sfx s i))).map fun p => (⟨k, 1, p.1⟩, p.2) := by
      rw [choice_list (.inl (HWD.out.symm.trans h1))]
      simp only [← HWD.out, if_pos h1]
    have CHL := Lib.hid CHL
    clear h1 bno
    go_upto_region 8 with fail
    obtain ⟨W3, hW3⟩ : ∃ W3, W3 = w2.setCell ⟨k3, 1, none⟩ (.int .i64 1) := ⟨_, rfl⟩
    rw [← hW3]
    have H3 : Hid (PIn W3 kp s j false ∧ BoxQ W3 k3 (bx k) 1 none 0 0 ∧ BoxQ W3 k4 ⟨#[]⟩ 0 none 0 0 ∧ w.grownBy W3 (some kp)) := by
      rw [hW3]
      exact ⟨H2.out.1.setOther (by have := HKK.out; omega), H2.out.2.1.setKind 1, H2.out.2.2.1.setOther HKK.out.2.2.2.2, grown_new H2.out.2.2.2 HKK.out.1⟩
    clear hW3 y0 y1 y2 p0 p1 p2 f3 fp
    obtain ⟨z0, z1, z2⟩ := H3.out.1.cells
    have fz := H3.out.1.free 2
    cases bl with
    | true =>
      go_wp2_with fail
      go_quiet (fail)
      clear z0 z1 z2 fz
      obtain ⟨V3, hV3⟩ : ∃ V, V = W3.drewN nq := ⟨_, rfl⟩
      rw [← hV3]
      have HV3 : Hid (PIn V3 kp s j false ∧ BoxQ V3 k3 (bx k) 1 none 0 0 ∧ BoxQ V3 k4 ⟨#[]⟩ 0 none 0 0 ∧ w.grownBy V3 (some kp)) := by
        rw [hV3]
        exact ⟨H3.out.1, H3.out.2.1, H3.out.2.2.1, grown_trans H3.out.2.2.2 (grown_ext (ext_drewN' W3 _))⟩
      clear hV3
      have p2 := HV3.out.1.cells.2.2
      have CL := Lib.hid (list_any kp s j V3 HV3.out.1 hs hjs)
      go_wp2_with fail
      refine Calls.mono CL.out ?_
      rintro e w5 ⟨z, hz, hg5, ⟨vs, A5, c5, ho, rfl, hrow, hp5⟩ | ⟨ho, rfl, hp5⟩⟩
      · have H5 : Hid (PIn w5 kp s z false ∧ BoxQ w5 k3 (bx k) 1 none 0 0 ∧ BoxQ w5 k4 ⟨#[]⟩ 0 none 0 0 ∧ w.grownBy w5 (some kp) ∧ SRow w.heap.size w5 (.slice A5 vs.length c5) (vs.map bx)) := ⟨hp5, HV3.out.2.1.kept hg5 (fun e => by injection e with e; have := HKK.out; omega), HV3.out.2.2.1.kept hg5 (fun e => by injection e with e; have := HKK.out; omega), grown_trans HV3.out.2.2.2 hg5, hrow.low HV3.out.2.2.2.size⟩
        have HCH : Hid (choiceS k (sfx s i) = some (⟨k, 1, vs⟩, sfx s z)) := by
          unfold Hid
          rw [CHL.out, ← HSK.out, ho]
          rfl
        have HNE : Hid (∀ g, (Value.slice A5 vs.length c5).ownBlock = some g → g ≠ k3 ∧ g ≠ k4) := fun g hg => by
          have h1 := (hrow.block g hg).1
          have h2 := heap_lt (show V3.heap[k3]? = _ from HV3.out.2.1)
          have h3 := heap_lt (show V3.heap[k4]? = _ from HV3.out.2.2.1)
          omega
        clear hp5 hg5 hrow ho
        obtain ⟨V, hV⟩ : ∃ V, V = w5.setCell ⟨k3, 2, none⟩ (.slice A5 vs.length c5) := ⟨_, rfl⟩
        have HV : Hid (PIn V kp s z false ∧ BoxQ V k3 (bx k) 1 A5 vs.length c5 ∧ BoxQ V k4 ⟨#[]⟩ 0 none 0 0 ∧ w.grownBy V (some kp) ∧ SRow w.heap.size V (.slice A5 vs.length c5) (vs.map bx)) := by
          rw [hV]
          exact ⟨H5.out.1.setOther (by have := HKK.out; omega), H5.out.2.1.setVals, H5.out.2.2.1.setOther (by have := HKK.out; omega), grown_new H5.out.2.2.2.1 HKK.out.1, KEEP.out _ _ _ H5.out.2.2.2.2 (.inl rfl) HNE.out⟩
        have hV2 := hV.symm
        obtain ⟨q0, q1, q2⟩ := H5.out.2.1.cells
        have u2 := H5.out.2.1.free 2
        clear hV
        obtain ⟨y0, y1, y2⟩ := HV.out.2.1.cells
        obtain ⟨x0, x1, x2⟩ := HV.out.2.2.1.cells
        have g0 := HV.out.2.2.1.free 0
        have g1 := HV.out.2.2.1.free 1
        have g2 := HV.out.2.2.1.free 2
        obtain ⟨U, hU⟩ : ∃ U, U = ((V.setCell ⟨k4, 0, none⟩ (.string (bx k))).setCell ⟨k4, 1, none⟩ (.int .i64 1)).setCell ⟨k4, 2, none⟩ (.slice A5 vs.length c5) := ⟨_, rfl⟩
        have HU : Hid (BoxQ U k4 (bx k) 1 A5 vs.length c5 ∧ w.grownBy U (some kp) ∧ PIn U kp s z false ∧ SRow w.heap.size U (.slice A5 vs.length c5) (vs.map bx)) := by
          rw [hU]
          exact ⟨HV.out.2.2.1.setAll, grown_new (grown_new (grown_new HV.out.2.2.2.1 HKK.out.2.1) HKK.out.2.1) HKK.out.2.1, ((HV.out.1.setOther (by have := HKK.out; omega)).setOther (by have := HKK.out; omega)).setOther (by have := HKK.out; omega), KEEP.out _ _ _ (KEEP.out _ _ _ (KEEP.out _ _ _ HV.out.2.2.2.2 (.inr rfl) HNE.out) (.inr rfl) HNE.out) (.inr rfl) HNE.out⟩
        have hU2 := hU.symm
        clear hU
        go_wp2
        refine bodyPost_ret (results_r rfl _ _ k4 rfl HU.out.1) rfl ?_
        exact ⟨z, hz, HU.out.2.1, .inl ⟨⟨k, 1, vs⟩, A5, c5, HCH.out, rfl, HU.out.2.2.2, HU.out.2.2.1⟩⟩
      · have H5 : Hid (PIn w5 kp s z true ∧ BoxQ w5 k3 (bx k) 1 none 0 0 ∧ BoxQ w5 k4 ⟨#[]⟩ 0 none 0 0 ∧ w.grownBy w5 (some kp) ∧ True) := ⟨hp5, HV3.out.2.1.kept hg5 (fun e => by injection e with e; have := HKK.out; omega), HV3.out.2.2.1.kept hg5 (fun e => by injection e with e; have := HKK.out; omega), grown_trans HV3.out.2.2.2 hg5, trivial⟩
        have HCH : Hid (choiceS k (sfx s i) = none) := by
          unfold Hid
          rw [CHL.out, ← HSK.out, ho]
          rfl
        clear hp5 hg5 ho
        obtain ⟨V, hV⟩ : ∃ V, V = w5.setCell ⟨k3, 2, none⟩ (.slice none 0 0) := ⟨_, rfl⟩
        have HV : Hid (PIn V kp s z true ∧ BoxQ V k3 (bx k) 1 none 0 0 ∧ BoxQ V k4 ⟨#[]⟩ 0 none 0 0 ∧ w.grownBy V (some kp) ∧ True) := by
          rw [hV]
          exact ⟨H5.out.1.setOther (by have := HKK.out; omega), H5.out.2.1.setVals, H5.out.2.2.1.setOther (by have := HKK.out; omega), grown_new H5.out.2.2.2.1 HKK.out.1, trivial⟩
        have hV2 := hV.symm
        obtain ⟨q0, q1, q2⟩ := H5.out.2.1.cells
        have u2 := H5.out.2.1.free 2
        clear hV
        obtain ⟨y0, y1, y2⟩ := HV.out.2.1.cells
        obtain ⟨x0, x1, x2⟩ := HV.out.2.2.1.cells
        have g0 := HV.out.2.2.1.free 0
        have g1 := HV.out.2.2.1.free 1
        have g2 := HV.out.2.2.1.free 2
        obtain ⟨U, hU⟩ : ∃ U, U = ((V.setCell ⟨k4, 0, none⟩ (.string (bx k))).setCell ⟨k4, 1, none⟩ (.int .i64 1)).setCell ⟨k4, 2, none⟩ (.slice none 0 0) := ⟨_, rfl⟩
        have HU : Hid (BoxQ U k4 (bx k) 1 none 0 0 ∧ w.grownBy U (some kp) ∧ PIn U kp s z true ∧ True) := by
          rw [hU]
          exact ⟨HV.out.2.2.1.setAll, grown_new (grown_new (grown_new HV.out.2.2.2.1 HKK.out.2.1) HKK.out.2.1) HKK.out.2.1, ((HV.out.1.setOther (by have := HKK.out; omega)).setOther (by have := HKK.out; omega)).setOther (by have := HKK.out; omega), trivial⟩
        have hU2 := hU.symm
        clear hU
        go_wp2
        refine bodyPost_ret (results_r rfl _ _ k4 rfl HU.out.1) rfl ?_
        exact ⟨z, hz, HU.out.2.1, .inr ⟨HCH.out, ⟨_, _, _, _, _, rfl⟩, HU.out.2.2.1⟩⟩
    | false =>
      rcases hS : sfx s j with _ | ⟨c, q⟩
      · have HNONE : Hid (choiceS k (sfx s i) = none) := choice_end (by rw [← HSK.out]; exact hS)
        have CO : Hid (∀ n, Calls Tryd.prog 9 #[.pointer (some ⟨kp, 0, none⟩)] (W3.drewN n) fun e w' => e = .returned (.bool true) ∧ ∃ m, w' = (W3.drewN n).drewN m) := fun n => by
          have h := over_any kp s j false (W3.drewN n) H3.out.1 hjs
          rw [hS] at h
          exact h
        clear hS
        go_wp2_with fail
        go_quiet (exact Calls.quiet_of (CO.out _))
        go_upto_region 10 with fail
        clear z0 z1 z2 fz
        obtain ⟨V, hV⟩ : ∃ V, V = (W3.drewN nq).setCell ⟨kp, 2, none⟩ (.bool true) := ⟨_, rfl⟩
        rw [← hV]
        have HV : Hid (PIn V kp s j true ∧ BoxQ V k3 (bx k) 1 none 0 0 ∧ BoxQ V k4 ⟨#[]⟩ 0 none 0 0 ∧ w.grownBy V (some kp)) := by
          rw [hV]
          exact ⟨PIn.setBad (w := W3.drewN _) H3.out.1 true, BoxQ.setOther (w := W3.drewN _) H3.out.2.1 (by have := HKK.out; omega), BoxQ.setOther (w := W3.drewN _) H3.out.2.2.1 (by have := HKK.out; omega), grown_trans H3.out.2.2.2 (grown_trans (grown_ext (ext_drewN' W3 _)) (grown_set _ kp 2 _))⟩
        clear hV
        have p2 := HV.out.1.cells.2.2
        obtain ⟨y0, y1, y2⟩ := HV.out.2.1.cells
        obtain ⟨x0, x1, x2⟩ := HV.out.2.2.1.cells
        have g0 := HV.out.2.2.1.free 0
        have g1 := HV.out.2.2.1.free 1
        have g2 := HV.out.2.2.1.free 2
        obtain ⟨U, hU⟩ : ∃ U, U = ((V.setCell ⟨k4, 0, none⟩ (.string (bx k))).setCell ⟨k4, 1, none⟩ (.int .i64 1)).setCell ⟨k4, 2, none⟩ (.slice none 0 0) := ⟨_, rfl⟩
        have HU : Hid (BoxQ U k4 (bx k) 1 none 0 0 ∧ w.grownBy U (some kp) ∧ PIn U kp s j true ∧ True) := by
          rw [hU]
          exact ⟨HV.out.2.2.1.setAll, grown_new (grown_new (grown_new HV.out.2.2.2 HKK.out.2.1) HKK.out.2.1) HKK.out.2.1, ((HV.out.1.setOther (by have := HKK.out; omega)).setOther (by have := HKK.out; omega)).setOther (by have := HKK.out; omega), trivial⟩
        have hU2 := hU.symm
        clear hU
        go_wp2
        refine bodyPost_ret (results_r rfl _ _ k4 rfl HU.out.1) rfl ?_
        exact ⟨j, hjs, HU.out.2.1, .inr ⟨HNONE.out, ⟨_, _, _, _, _, rfl⟩, HU.out.2.2.1⟩⟩
      · have hlt := (sfx_step hS).1
        have hby := run_byte s j hlt
        have hcc : byteAt s j = c := by have h := sfx_cons hlt; rw [hS] at h; injection h with h _; exact h.symm
        rw [hcc] at hby
        by_cases hc : c = 40
        · have b1 : ((c.toNat : Int) != 40) = false := by rw [hc]; rfl
          have CO : Hid (∀ n, Calls Tryd.prog 9 #[.pointer (some ⟨kp, 0, none⟩)] (W3.drewN n) fun e w' => e = .returned (.bool false) ∧ ∃ m, w' = (W3.drewN n).drewN m) := fun n => by
            have h := over_any kp s j false (W3.drewN n) H3.out.1 hjs
            rw [hS] at h
            exact h
          clear hS hc hcc
          go_wp2_with fail
          go_quiet (exact Calls.quiet_of (CO.out _))
          clear z0 z1 z2 fz b1
          obtain ⟨V3, hV3⟩ : ∃ V, V = W3.drewN nq := ⟨_, rfl⟩
          rw [← hV3]
          have HV3 : Hid (PIn V3 kp s j false ∧ BoxQ V3 k3 (bx k) 1 none 0 0 ∧ BoxQ V3 k4 ⟨#[]⟩ 0 none 0 0 ∧ w.grownBy V3 (some kp)) := by
            rw [hV3]
            exact ⟨H3.out.1, H3.out.2.1, H3.out.2.2.1, grown_trans H3.out.2.2.2 (grown_ext (ext_drewN' W3 _))⟩
          clear hV3
          have p2 := HV3.out.1.cells.2.2
          have CL := Lib.hid (list_any kp s j V3 HV3.out.1 hs hjs)
          go_wp2_with fail
          refine Calls.mono CL.out ?_
          rintro e w5 ⟨z, hz, hg5, ⟨vs, A5, c5, ho, rfl, hrow, hp5⟩ | ⟨ho, rfl, hp5⟩⟩
          · have H5 : Hid (PIn w5 kp s z false ∧ BoxQ w5 k3 (bx k) 1 none 0 0 ∧ BoxQ w5 k4 ⟨#[]⟩ 0 none 0 0 ∧ w.grownBy w5 (some kp) ∧ SRow w.heap.size w5 (.slice A5 vs.length c5) (vs.map bx)) := ⟨hp5, HV3.out.2.1.kept hg5 (fun e => by injection e with e; have := HKK.out; omega), HV3.out.2.2.1.kept hg5 (fun e => by injection e with e; have := HKK.out; omega), grown_trans HV3.out.2.2.2 hg5, hrow.low HV3.out.2.2.2.size⟩
            have HCH : Hid (choiceS k (sfx s i) = some (⟨k, 1, vs⟩, sfx s z)) := by
              unfold Hid
              rw [CHL.out, ← HSK.out, ho]
              rfl
            have HNE : Hid (∀ g, (Value.slice A5 vs.length c5).ownBlock = some g → g ≠ k3 ∧ g ≠ k4) := fun g hg => by
              have h1 := (hrow.block g hg).1
              have h2 := heap_lt (show V3.heap[k3]? = _ from HV3.out.2.1)
              have h3 := heap_lt (show V3.heap[k4]? = _ from HV3.out.2.2.1)
              omega
            clear hp5 hg5 hrow ho
            obtain ⟨V, hV⟩ : ∃ V, V = w5.setCell ⟨k3, 2, none⟩ (.slice A5 vs.length c5) := ⟨_, rfl⟩
            have HV : Hid (PIn V kp s z false ∧ BoxQ V k3 (bx k) 1 A5 vs.length c5 ∧ BoxQ V k4 ⟨#[]⟩ 0 none 0 0 ∧ w.grownBy V (some kp) ∧ SRow w.heap.size V (.slice A5 vs.length c5) (vs.map bx)) := by
              rw [hV]
              exact ⟨H5.out.1.setOther (by have := HKK.out; omega), H5.out.2.1.setVals, H5.out.2.2.1.setOther (by have := HKK.out; omega), grown_new H5.out.2.2.2.1 HKK.out.1, KEEP.out _ _ _ H5.out.2.2.2.2 (.inl rfl) HNE.out⟩
            have hV2 := hV.symm
            obtain ⟨q0, q1, q2⟩ := H5.out.2.1.cells
            have u2 := H5.out.2.1.free 2
            clear hV
            obtain ⟨y0, y1, y2⟩ := HV.out.2.1.cells
            obtain ⟨x0, x1, x2⟩ := HV.out.2.2.1.cells
            have g0 := HV.out.2.2.1.free 0
            have g1 := HV.out.2.2.1.free 1
            have g2 := HV.out.2.2.1.free 2
            obtain ⟨U, hU⟩ : ∃ U, U = ((V.setCell ⟨k4, 0, none⟩ (.string (bx k))).setCell ⟨k4, 1, none⟩ (.int .i64 1)).setCell ⟨k4, 2, none⟩ (.slice A5 vs.length c5) := ⟨_, rfl⟩
            have HU : Hid (BoxQ U k4 (bx k) 1 A5 vs.length c5 ∧ w.grownBy U (some kp) ∧ PIn U kp s z false ∧ SRow w.heap.size U (.slice A5 vs.length c5) (vs.map bx)) := by
              rw [hU]
              exact ⟨HV.out.2.2.1.setAll, grown_new (grown_new (grown_new HV.out.2.2.2.1 HKK.out.2.1) HKK.out.2.1) HKK.out.2.1, ((HV.out.1.setOther (by have := HKK.out; omega)).setOther (by have := HKK.out; omega)).setOther (by have := HKK.out; omega), KEEP.out _ _ _ (KEEP.out _ _ _ (KEEP.out _ _ _ HV.out.2.2.2.2 (.inr rfl) HNE.out) (.inr rfl) HNE.out) (.inr rfl) HNE.out⟩
            have hU2 := hU.symm
            clear hU
            go_wp2
            refine bodyPost_ret (results_r rfl _ _ k4 rfl HU.out.1) rfl ?_
            exact ⟨z, hz, HU.out.2.1, .inl ⟨⟨k, 1, vs⟩, A5, c5, HCH.out, rfl, HU.out.2.2.2, HU.out.2.2.1⟩⟩
          · have H5 : Hid (PIn w5 kp s z true ∧ BoxQ w5 k3 (bx k) 1 none 0 0 ∧ BoxQ w5 k4 ⟨#[]⟩ 0 none 0 0 ∧ w.grownBy w5 (some kp) ∧ True) := ⟨hp5, HV3.out.2.1.kept hg5 (fun e => by injection e with e; have := HKK.out; omega), HV3.out.2.2.1.kept hg5 (fun e => by injection e with e; have := HKK.out; omega), grown_trans HV3.out.2.2.2 hg5, trivial⟩
            have HCH : Hid (choiceS k (sfx s i) = none) := by
              unfold Hid
              rw [CHL.out, ← HSK.out, ho]
              rfl
            clear hp5 hg5 ho
            obtain ⟨V, hV⟩ : ∃ V, V = w5.setCell ⟨k3, 2, none⟩ (.slice none 0 0) := ⟨_, rfl⟩
            have HV : Hid (PIn V kp s z true ∧ BoxQ V k3 (bx k) 1 none 0 0 ∧ BoxQ V k4 ⟨#[]⟩ 0 none 0 0 ∧ w.grownBy V (some kp) ∧ True) := by
              rw [hV]
              exact ⟨H5.out.1.setOther (by have := HKK.out; omega), H5.out.2.1.setVals, H5.out.2.2.1.setOther (by have := HKK.out; omega), grown_new H5.out.2.2.2.1 HKK.out.1, trivial⟩
            have hV2 := hV.symm
            obtain ⟨q0, q1, q2⟩ := H5.out.2.1.cells
            have u2 := H5.out.2.1.free 2
            clear hV
            obtain ⟨y0, y1, y2⟩ := HV.out.2.1.cells
            obtain ⟨x0, x1, x2⟩ := HV.out.2.2.1.cells
            have g0 := HV.out.2.2.1.free 0
            have g1 := HV.out.2.2.1.free 1
            have g2 := HV.out.2.2.1.free 2
            obtain ⟨U, hU⟩ : ∃ U, U = ((V.setCell ⟨k4, 0, none⟩ (.string (bx k))).setCell ⟨k4, 1, none⟩ (.int .i64 1)).setCell ⟨k4, 2, none⟩ (.slice none 0 0) := ⟨_, rfl⟩
            have HU : Hid (BoxQ U k4 (bx k) 1 none 0 0 ∧ w.grownBy U (some kp) ∧ PIn U kp s z true ∧ True) := by
              rw [hU]
              exact ⟨HV.out.2.2.1.setAll, grown_new (grown_new (grown_new HV.out.2.2.2.1 HKK.out.2.1) HKK.out.2.1) HKK.out.2.1, ((HV.out.1.setOther (by have := HKK.out; omega)).setOther (by have := HKK.out; omega)).setOther (by have := HKK.out; omega), trivial⟩
            have hU2 := hU.symm
            clear hU
            go_wp2
            refine bodyPost_ret (results_r rfl _ _ k4 rfl HU.out.1) rfl ?_
            exact ⟨z, hz, HU.out.2.1, .inr ⟨HCH.out, ⟨_, _, _, _, _, rfl⟩, HU.out.2.2.1⟩⟩
        · have b1 : ((c.toNat : Int) != 40) = true := by
            rw [bne, show (40 : Int) = ((40 : UInt8).toNat : Int) from rfl, byte_eq]
            simp [hc]
          have HNONE : Hid (choiceS k (sfx s i) = none) := choice_bad (by rw [← HSK.out]; exact hS) hc
          have CO : Hid (∀ n, Calls Tryd.prog 9 #[.pointer (some ⟨kp, 0, none⟩)] (W3.drewN n) fun e w' => e = .returned (.bool false) ∧ ∃ m, w' = (W3.drewN n).drewN m) := fun n => by
            have h := over_any kp s j false (W3.drewN n) H3.out.1 hjs
            rw [hS] at h
            exact h
          clear hS hc hcc
          go_wp2_with fail
          go_quiet (exact Calls.quiet_of (CO.out _))
          go_upto_region 10 with fail
          clear z0 z1 z2 fz b1
          obtain ⟨V, hV⟩ : ∃ V, V = (W3.drewN nq).setCell ⟨kp, 2, none⟩ (.bool true) := ⟨_, rfl⟩
          rw [← hV]
          have HV : Hid (PIn V kp s j true ∧ BoxQ V k3 (bx k) 1 none 0 0 ∧ BoxQ V k4 ⟨#[]⟩ 0 none 0 0 ∧ w.grownBy V (some kp)) := by
            rw [hV]
            exact ⟨PIn.setBad (w := W3.drewN _) H3.out.1 true, BoxQ.setOther (w := W3.drewN _) H3.out.2.1 (by have := HKK.out; omega), BoxQ.setOther (w := W3.drewN _) H3.out.2.2.1 (by have := HKK.out; omega), grown_trans H3.out.2.2.2 (grown_trans (grown_ext (ext_drewN' W3 _)) (grown_set _ kp 2 _))⟩
          clear hV
          have p2 := HV.out.1.cells.2.2
          obtain ⟨y0, y1, y2⟩ := HV.out.2.1.cells
          obtain ⟨x0, x1, x2⟩ := HV.out.2.2.1.cells
          have g0 := HV.out.2.2.1.free 0
          have g1 := HV.out.2.2.1.free 1
          have g2 := HV.out.2.2.1.free 2
          obtain ⟨U, hU⟩ : ∃ U, U = ((V.setCell ⟨k4, 0, none⟩ (.string (bx k))).setCell ⟨k4, 1, none⟩ (.int .i64 1)).setCell ⟨k4, 2, none⟩ (.slice none 0 0) := ⟨_, rfl⟩
          have HU : Hid (BoxQ U k4 (bx k) 1 none 0 0 ∧ w.grownBy U (some kp) ∧ PIn U kp s j true ∧ True) := by
            rw [hU]
            exact ⟨HV.out.2.2.1.setAll, grown_new (grown_new (grown_new HV.out.2.2.2 HKK.out.2.1) HKK.out.2.1) HKK.out.2.1, ((HV.out.1.setOther (by have := HKK.out; omega)).setOther (by have := HKK.out; omega)).setOther (by have := HKK.out; omega), trivial⟩
          have hU2 := hU.symm
          clear hU
          go_wp2
          refine bodyPost_ret (results_r rfl _ _ k4 rfl HU.out.1) rfl ?_
          exact ⟨j, hjs, HU.out.2.1, .inr ⟨HNONE.out, ⟨_, _, _, _, _, rfl⟩, HU.out.2.2.1⟩⟩
  · rw [decide_eq_false h1] at bin
    by_cases h2 : wd = notinT
    · rw [decide_eq_true h2] at bno
      have CHL : choiceS k (sfx s i) = (listAll (wordRest (sfx s i))).map fun p => (⟨k, 2, p.1⟩, p.2) := by
        rw [choice_list (.inr (HWD.out.symm.trans h2))]
        simp only [← HWD.out, if_neg h1]
      have CHL := Lib.hid CHL
      clear h1 h2
      go_upto_region 8 with fail
      obtain ⟨W3, hW3⟩ : ∃ W3, W3 = w2.setCell ⟨k3, 1, none⟩ (.int .i64 2) := ⟨_, rfl⟩
      rw [← hW3]
      have H3 : Hid (PIn W3 kp s j false ∧ BoxQ W3 k3 (bx k) 2 none 0 0 ∧ BoxQ W3 k4 ⟨#[]⟩ 0 none 0 0 ∧ w.grownBy W3 (some kp)) := by
        rw [hW3]
        exact ⟨H2.out.1.setOther (by have := HKK.out; omega), H2.out.2.1.setKind 2, H2.out.2.2.1.setOther HKK.out.2.2.2.2, grown_new H2.out.2.2.2 HKK.out.1⟩
      clear hW3 y0 y1 y2 p0 p1 p2 f3 fp
      obtain ⟨z0, z1, z2⟩ := H3.out.1.cells
      have fz := H3.out.1.free 2
      cases bl with
      | true =>
        go_wp2_with fail
        go_quiet (fail)
        clear z0 z1 z2 fz
        obtain ⟨V3, hV3⟩ : ∃ V, V = W3.drewN nq := ⟨_, rfl⟩
        rw [← hV3]
        have HV3 : Hid (PIn V3 kp s j false ∧ BoxQ V3 k3 (bx k) 2 none 0 0 ∧ BoxQ V3 k4 ⟨#[]⟩ 0 none 0 0 ∧ w.grownBy V3 (some kp)) := by
          rw [hV3]
          exact ⟨H3.out.1, H3.out.2.1, H3.out.2.2.1, grown_trans H3.out.2.2.2 (grown_ext (ext_drewN' W3 _))⟩
        clear hV3
        have p2 := HV3.out.1.cells.2.2
        have CL := Lib.hid (list_any kp s j V3 HV3.out.1 hs hjs)
        go_wp2_with fail
        refine Calls.mono CL.out ?_
        rintro e w5 ⟨z, hz, hg5, ⟨vs, A5, c5, ho, rfl, hrow, hp5⟩ | ⟨ho, rfl, hp5⟩⟩
        · have H5 : Hid (PIn w5 kp s z false ∧ BoxQ w5 k3 (bx k) 2 none 0 0 ∧ BoxQ w5 k4 ⟨#[]⟩ 0 none 0 0 ∧ w.grownBy w5 (some kp) ∧ SRow w.heap.size w5 (.slice A5 vs.length c5) (vs.map bx)) := ⟨hp5, HV3.out.2.1.kept hg5 (fun e => by injection e with e; have := HKK.out; omega), HV3.out.2.2.1.kept hg5 (fun e => by injection e with e; have := HKK.out; omega), grown_trans HV3.out.2.2.2 hg5, hrow.low HV3.out.2.2.2.size⟩
          have HCH : Hid (choiceS k (sfx s i) = some (⟨k, 2, vs⟩, sfx s z)) := by
            unfold Hid
            rw [CHL.out, ← HSK.out, ho]
            rfl
          have HNE : Hid (∀ g, (Value.slice A5 vs.length c5).ownBlock = some g → g ≠ k3 ∧ g ≠ k4) := fun g hg => by
            have h1 := (hrow.block g hg).1
            have h2 := heap_lt (show V3.heap[k3]? = _ from HV3.out.2.1)
            have h3 := heap_lt (show V3.heap[k4]? = _ from HV3.out.2.2.1)
            omega
          clear hp5 hg5 hrow ho
          obtain ⟨V, hV⟩ : ∃ V, V = w5.setCell ⟨k3, 2, none⟩ (.slice A5 vs.length c5) := ⟨_, rfl⟩
          have HV : Hid (PIn V kp s z false ∧ BoxQ V k3 (bx k) 2 A5 vs.length c5 ∧ BoxQ V k4 ⟨#[]⟩ 0 none 0 0 ∧ w.grownBy V (some kp) ∧ SRow w.heap.size V (.slice A5 vs.length c5) (vs.map bx)) := by
            rw [hV]
            exact ⟨H5.out.1.setOther (by have := HKK.out; omega), H5.out.2.1.setVals, H5.out.2.2.1.setOther (by have := HKK.out; omega), grown_new H5.out.2.2.2.1 HKK.out.1, KEEP.out _ _ _ H5.out.2.2.2.2 (.inl rfl) HNE.out⟩
          have hV2 := hV.symm
          obtain ⟨q0, q1, q2⟩ := H5.out.2.1.cells
          have u2 := H5.out.2.1.free 2
          clear hV
          obtain ⟨y0, y1, y2⟩ := HV.out.2.1.cells
          obtain ⟨x0, x1, x2⟩ := HV.out.2.2.1.cells
          have g0 := HV.out.2.2.1.free 0
          have g1 := HV.out.2.2.1.free 1
          have g2 := HV.out.2.2.1.free 2
          obtain ⟨U, hU⟩ : ∃ U, U = ((V.setCell ⟨k4, 0, none⟩ (.string (bx k))).setCell ⟨k4, 1, none⟩ (.int .i64 2)).setCell ⟨k4, 2, none⟩ (.slice A5 vs.length c5) := ⟨_, rfl⟩
          have HU : Hid (BoxQ U k4 (bx k) 2 A5 vs.length c5 ∧ w.grownBy U (some kp) ∧ PIn U kp s z false ∧ SRow w.heap.size U (.slice A5 vs.length c5) (vs.map bx)) := by
            rw [hU]
            exact ⟨HV.out.2.2.1.setAll, grown_new (grown_new (grown_new HV.out.2.2.2.1 HKK.out.2.1) HKK.out.2.1) HKK.out.2.1, ((HV.out.1.setOther (by have := HKK.out; omega)).setOther (by have := HKK.out; omega)).setOther (by have := HKK.out; omega), KEEP.out _ _ _ (KEEP.out _ _ _ (KEEP.out _ _ _ HV.out.2.2.2.2 (.inr rfl) HNE.out) (.inr rfl) HNE.out) (.inr rfl) HNE.out⟩
          have hU2 := hU.symm
          clear hU
          go_wp2
          refine bodyPost_ret (results_r rfl _ _ k4 rfl HU.out.1) rfl ?_
          exact ⟨z, hz, HU.out.2.1, .inl ⟨⟨k, 2, vs⟩, A5, c5, HCH.out, rfl, HU.out.2.2.2, HU.out.2.2.1⟩⟩
        · have H5 : Hid (PIn w5 kp s z true ∧ BoxQ w5 k3 (bx k) 2 none 0 0 ∧ BoxQ w5 k4 ⟨#[]⟩ 0 none 0 0 ∧ w.grownBy w5 (some kp) ∧ True) := ⟨hp5, HV3.out.2.1.kept hg5 (fun e => by injection e with e; have := HKK.out; omega), HV3.out.2.2.1.kept hg5 (fun e => by injection e with e; have := HKK.out; omega), grown_trans HV3.out.2.2.2 hg5, trivial⟩
          have HCH : Hid (choiceS k (sfx s i) = none) := by
            unfold Hid
            rw [CHL.out, ← HSK.out, ho]
            rfl
          clear hp5 hg5 ho
          obtain ⟨V, hV⟩ : ∃ V, V = w5.setCell ⟨k3, 2, none⟩ (.slice none 0 0) := ⟨_, rfl⟩
          have HV : Hid (PIn V kp s z true ∧ BoxQ V k3 (bx k) 2 none 0 0 ∧ BoxQ V k4 ⟨#[]⟩ 0 none 0 0 ∧ w.grownBy V (some kp) ∧ True) := by
            rw [hV]
            exact ⟨H5.out.1.setOther (by have := HKK.out; omega), H5.out.2.1.setVals, H5.out.2.2.1.setOther (by have := HKK.out; omega), grown_new H5.out.2.2.2.1 HKK.out.1, trivial⟩
          have hV2 := hV.symm
          obtain ⟨q0, q1, q2⟩ := H5.out.2.1.cells
          have u2 := H5.out.2.1.free 2
          clear hV
          obtain ⟨y0, y1, y2⟩ := HV.out.2.1.cells
          obtain ⟨x0, x1, x2⟩ := HV.out.2.2.1.cells
          have g0 := HV.out.2.2.1.free 0
          have g1 := HV.out.2.2.1.free 1
          have g2 := HV.out.2.2.1.free 2
          obtain ⟨U, hU⟩ : ∃ U, U = ((V.setCell ⟨k4, 0, none⟩ (.string (bx k))).setCell ⟨k4, 1, none⟩ (.int .i64 2)).setCell ⟨k4, 2, none⟩ (.slice none 0 0) := ⟨_, rfl⟩
          have HU : Hid (BoxQ U k4 (bx k) 2 none 0 0 ∧ w.grownBy U (some kp) ∧ PIn U kp s z true ∧ True) := by
            rw [hU]
            exact ⟨HV.out.2.2.1.setAll, grown_new (grown_new (grown_new HV.out.2.2.2.1 HKK.out.2.1) HKK.out.2.1) HKK.out.2.1, ((HV.out.1.setOther (by have := HKK.out; omega)).setOther (by have := HKK.out; omega)).setOther (by have := HKK.out; omega), trivial⟩
          have hU2 := hU.symm
          clear hU
          go_wp2
          refine bodyPost_ret (results_r rfl _ _ k4 rfl HU.out.1) rfl ?_
          exact ⟨z, hz, HU.out.2.1, .inr ⟨HCH.out, ⟨_, _, _, _, _, rfl⟩, HU.out.2.2.1⟩⟩
      | false =>
        rcases hS : sfx s j with _ | ⟨c, q⟩
        · have HNONE : Hid (choiceS k (sfx s i) = none) := choice_end (by rw [← HSK.out]; exact hS)
          have CO : Hid (∀ n, Calls Tryd.prog 9 #[.pointer (some ⟨kp, 0, none⟩)] (W3.drewN n) fun e w' => e = .returned (.bool true) ∧ ∃ m, w' = (W3.drewN n).drewN m) := fun n => by
            have h := over_any kp s j false (W3.drewN n) H3.out.1 hjs
            rw [hS] at h
            exact h
          clear hS
          go_wp2_with fail
          go_quiet (exact Calls.quiet_of (CO.out _))
          go_upto_region 10 with fail
          clear z0 z1 z2 fz
          obtain ⟨V, hV⟩ : ∃ V, V = (W3.drewN nq).setCell ⟨kp, 2, none⟩ (.bool true) := ⟨_, rfl⟩
          rw [← hV]
          have HV : Hid (PIn V kp s j true ∧ BoxQ V k3 (bx k) 2 none 0 0 ∧ BoxQ V k4 ⟨#[]⟩ 0 none 0 0 ∧ w.grownBy V (some kp)) := by
            rw [hV]
            exact ⟨PIn.setBad (w := W3.drewN _) H3.out.1 true, BoxQ.setOther (w := W3.drewN _) H3.out.2.1 (by have := HKK.out; omega), BoxQ.setOther (w := W3.drewN _) H3.out.2.2.1 (by have := HKK.out; omega), grown_trans H3.out.2.2.2 (grown_trans (grown_ext (ext_drewN' W3 _)) (grown_set _ kp 2 _))⟩
          clear hV
          have p2 := HV.out.1.cells.2.2
          obtain ⟨y0, y1, y2⟩ := HV.out.2.1.cells
          obtain ⟨x0, x1, x2⟩ := HV.out.2.2.1.cells
          have g0 := HV.out.2.2.1.free 0
          have g1 := HV.out.2.2.1.free 1
          have g2 := HV.out.2.2.1.free 2
          obtain ⟨U, hU⟩ : ∃ U, U = ((V.setCell ⟨k4, 0, none⟩ (.string (bx k))).setCell ⟨k4, 1, none⟩ (.int .i64 2)).setCell ⟨k4, 2, none⟩ (.slice none 0 0) := ⟨_, rfl⟩
          have HU : Hid (BoxQ U k4 (bx k) 2 none 0 0 ∧ w.grownBy U (some kp) ∧ PIn U kp s j true ∧ True) := by
            rw [hU]
            exact ⟨HV.out.2.2.1.setAll, grown_new (grown_new (grown_new HV.out.2.2.2 HKK.out.2.1) HKK.out.2.1) HKK.out.2.1, ((HV.out.1.setOther (by have := HKK.out; omega)).setOther (by have := HKK.out; omega)).setOther (by have := HKK.out; omega), trivial⟩
          have hU2 := hU.symm
          clear hU
          go_wp2
          refine bodyPost_ret (results_r rfl _ _ k4 rfl HU.out.1) rfl ?_
          exact ⟨j, hjs, HU.out.2.1, .inr ⟨HNONE.out, ⟨_, _, _, _, _, rfl⟩, HU.out.2.2.1⟩⟩
        · have hlt := (sfx_step hS).1
          have hby := run_byte s j hlt
          have hcc : byteAt s j = c := by have h := sfx_cons hlt; rw [hS] at h; injection h with h _; exact h.symm
          rw [hcc] at hby
          by_cases hc : c = 40
          · have b1 : ((c.toNat : Int) != 40) = false := by rw [hc]; rfl
            have CO : Hid (∀ n, Calls Tryd.prog 9 #[.pointer (some ⟨kp, 0, none⟩)] (W3.drewN n) fun e w' => e = .returned (.bool false) ∧ ∃ m, w' = (W3.drewN n).drewN m) := fun n => by
              have h := over_any kp s j false (W3.drewN n) H3.out.1 hjs
              rw [hS] at h
              exact h
            clear hS hc hcc
            go_wp2_with fail
            go_quiet (exact Calls.quiet_of (CO.out _))
            clear z0 z1 z2 fz b1
            obtain ⟨V3, hV3⟩ : ∃ V, V = W3.drewN nq := ⟨_, rfl⟩
            rw [← hV3]
            have HV3 : Hid (PIn V3 kp s j false ∧ BoxQ V3 k3 (bx k) 2 none 0 0 ∧ BoxQ V3 k4 ⟨#[]⟩ 0 none 0 0 ∧ w.grownBy V3 (some kp)) := by
              rw [hV3]
              exact ⟨H3.out.1, H3.out.2.1, H3.out.2.2.1, grown_trans H3.out.2.2.2 (grown_ext (ext_drewN' W3 _))⟩
            clear hV3
            have p2 := HV3.out.1.cells.2.2
            have CL := Lib.hid (list_any kp s j V3 HV3.out.1 hs hjs)
            go_wp2_with fail
            refine Calls.mono CL.out ?_
            rintro e w5 ⟨z, hz, hg5, ⟨vs, A5, c5, ho, rfl, hrow, hp5⟩ | ⟨ho, rfl, hp5⟩⟩
            · have H5 : Hid (PIn w5 kp s z false ∧ BoxQ w5 k3 (bx k) 2 none 0 0 ∧ BoxQ w5 k4 ⟨#[]⟩ 0 none 0 0 ∧ w.grownBy w5 (some kp) ∧ SRow w.heap.size w5 (.slice A5 vs.length c5) (vs.map bx)) := ⟨hp5, HV3.out.2.1.kept hg5 (fun e => by injection e with e; have := HKK.out; omega), HV3.out.2.2.1.kept hg5 (fun e => by injection e with e; have := HKK.out; omega), grown_trans HV3.out.2.2.2 hg5, hrow.low HV3.out.2.2.2.size⟩
              have HCH : Hid (choiceS k (sfx s i) = some (⟨k, 2, vs⟩, sfx s z)) := by
                unfold Hid
                rw [CHL.out, ← HSK.out, ho]
                rfl
              have HNE : Hid (∀ g, (Value.slice A5 vs.length c5).ownBlock = some g → g ≠ k3 ∧ g ≠ k4) := fun g hg => by
                have h1 := (hrow.block g hg).1
                have h2 := heap_lt (show V3.heap[k3]? = _ from HV3.out.2.1)
                have h3 := heap_lt (show V3.heap[k4]? = _ from HV3.out.2.2.1)
                omega
              clear hp5 hg5 hrow ho
              obtain ⟨V, hV⟩ : ∃ V, V = w5.setCell ⟨k3, 2, none⟩ (.slice A5 vs.length c5) := ⟨_, rfl⟩
              have HV : Hid (PIn V kp s z false ∧ BoxQ V k3 (bx k) 2 A5 vs.length c5 ∧ BoxQ V k4 ⟨#[]⟩ 0 none 0 0 ∧ w.grownBy V (some kp) ∧ SRow w.heap.size V (.slice A5 vs.length c5) (vs.map bx)) := by
                rw [hV]
                exact ⟨H5.out.1.setOther (by have := HKK.out; omega), H5.out.2.1.setVals, H5.out.2.2.1.setOther (by have := HKK.out; omega), grown_new H5.out.2.2.2.1 HKK.out.1, KEEP.out _ _ _ H5.out.2.2.2.2 (.inl rfl) HNE.out⟩
              have hV2 := hV.symm
              obtain ⟨q0, q1, q2⟩ := H5.out.2.1.cells
              have u2 := H5.out.2.1.free 2
              clear hV
              obtain ⟨y0, y1, y2⟩ := HV.out.2.1.cells
              obtain ⟨x0, x1, x2⟩ := HV.out.2.2.1.cells
              have g0 := HV.out.2.2.1.free 0
              have g1 := HV.out.2.2.1.free 1
              have g2 := HV.out.2.2.1.free 2
              obtain ⟨U, hU⟩ : ∃ U, U = ((V.setCell ⟨k4, 0, none⟩ (.string (bx k))).setCell ⟨k4, 1, none⟩ (.int .i64 2)).setCell ⟨k4, 2, none⟩ (.slice A5 vs.length c5) := ⟨_, rfl⟩
              have HU : Hid (BoxQ U k4 (bx k) 2 A5 vs.length c5 ∧ w.grownBy U (some kp) ∧ PIn U kp s z false ∧ SRow w.heap.size U (.slice A5 vs.length c5) (vs.map bx)) := by
                rw [hU]
                exact ⟨HV.out.2.2.1.setAll, grown_new (grown_new (grown_new HV.out.2.2.2.1 HKK.out.2.1) HKK.out.2.1) HKK.out.2.1, ((HV.out.1.setOther (by have := HKK.out; omega)).setOther (by have := HKK.out; omega)).setOther (by have := HKK.out; omega), KEEP.out _ _ _ (KEEP.out _ _ _ (KEEP.out _ _ _ HV.out.2.2.2.2 (.inr rfl) HNE.out) (.inr rfl) HNE.out) (.inr rfl) HNE.out⟩
              have hU2 := hU.symm
              clear hU
              go_wp2
              refine bodyPost_ret (results_r rfl _ _ k4 rfl HU.out.1) rfl ?_
              exact ⟨z, hz, HU.out.2.1, .inl ⟨⟨k, 2, vs⟩, A5, c5, HCH.out, rfl, HU.out.2.2.2, HU.out.2.2.1⟩⟩
            · have H5 : Hid (PIn w5 kp s z true ∧ BoxQ w5 k3 (bx k) 2 none 0 0 ∧ BoxQ w5 k4 ⟨#[]⟩ 0 none 0 0 ∧ w.grownBy w5 (some kp) ∧ True) := ⟨hp5, HV3.out.2.1.kept hg5 (fun e => by injection e with e; have := HKK.out; omega), HV3.out.2.2.1.kept hg5 (fun e => by injection e with e; have := HKK.out; omega), grown_trans HV3.out.2.2.2 hg5, trivial⟩
              have HCH : Hid (choiceS k (sfx s i) = none) := by
                unfold Hid
                rw [CHL.out, ← HSK.out, ho]
                rfl
              clear hp5 hg5 ho
              obtain ⟨V, hV⟩ : ∃ V, V = w5.setCell ⟨k3, 2, none⟩ (.slice none 0 0) := ⟨_, rfl⟩
              have HV : Hid (PIn V kp s z true ∧ BoxQ V k3 (bx k) 2 none 0 0 ∧ BoxQ V k4 ⟨#[]⟩ 0 none 0 0 ∧ w.grownBy V (some kp) ∧ True) := by
                rw [hV]
                exact ⟨H5.out.1.setOther (by have := HKK.out; omega), H5.out.2.1.setVals, H5.out.2.2.1.setOther (by have := HKK.out; omega), grown_new H5.out.2.2.2.1 HKK.out.1, trivial⟩
              have hV2 := hV.symm
              obtain ⟨q0, q1, q2⟩ := H5.out.2.1.cells
              have u2 := H5.out.2.1.free 2
              clear hV
              obtain ⟨y0, y1, y2⟩ := HV.out.2.1.cells
              obtain ⟨x0, x1, x2⟩ := HV.out.2.2.1.cells
              have g0 := HV.out.2.2.1.free 0
              have g1 := HV.out.2.2.1.free 1
              have g2 := HV.out.2.2.1.free 2
              obtain ⟨U, hU⟩ : ∃ U, U = ((V.setCell ⟨k4, 0, none⟩ (.string (bx k))).setCell ⟨k4, 1, none⟩ (.int .i64 2)).setCell ⟨k4, 2, none⟩ (.slice none 0 0) := ⟨_, rfl⟩
              have HU : Hid (BoxQ U k4 (bx k) 2 none 0 0 ∧ w.grownBy U (some kp) ∧ PIn U kp s z true ∧ True) := by
                rw [hU]
                exact ⟨HV.out.2.2.1.setAll, grown_new (grown_new (grown_new HV.out.2.2.2.1 HKK.out.2.1) HKK.out.2.1) HKK.out.2.1, ((HV.out.1.setOther (by have := HKK.out; omega)).setOther (by have := HKK.out; omega)).setOther (by have := HKK.out; omega), trivial⟩
              have hU2 := hU.symm
              clear hU
              go_wp2
              refine bodyPost_ret (results_r rfl _ _ k4 rfl HU.out.1) rfl ?_
              exact ⟨z, hz, HU.out.2.1, .inr ⟨HCH.out, ⟨_, _, _, _, _, rfl⟩, HU.out.2.2.1⟩⟩
          · have b1 : ((c.toNat : Int) != 40) = true := by
              rw [bne, show (40 : Int) = ((40 : UInt8).toNat : Int) from rfl, byte_eq]
              simp [hc]
            have HNONE : Hid (choiceS k (sfx s i) = none) := choice_bad (by rw [← HSK.out]; exact hS) hc
            have CO : Hid (∀ n, Calls Tryd.prog 9 #[.pointer (some ⟨kp, 0, none⟩)] (W3.drewN n) fun e w' => e = .returned (.bool false) ∧ ∃ m, w' = (W3.drewN n).drewN m) := fun n => by
              have h := over_any kp s j false (W3.drewN n) H3.out.1 hjs
              rw [hS] at h
              exact h
            clear hS hc hcc
            go_wp2_with fail
            go_quiet (exact Calls.quiet_of (CO.out _))
            go_upto_region 10 with fail
            clear z0 z1 z2 fz b1
            obtain ⟨V, hV⟩ : ∃ V, V = (W3.drewN nq).setCell ⟨kp, 2, none⟩ (.bool true) := ⟨_, rfl⟩
            rw [← hV]
            have HV : Hid (PIn V kp s j true ∧ BoxQ V k3 (bx k) 2 none 0 0 ∧ BoxQ V k4 ⟨#[]⟩ 0 none 0 0 ∧ w.grownBy V (some kp)) := by
              rw [hV]
              exact ⟨PIn.setBad (w := W3.drewN _) H3.out.1 true, BoxQ.setOther (w := W3.drewN _) H3.out.2.1 (by have := HKK.out; omega), BoxQ.setOther (w := W3.drewN _) H3.out.2.2.1 (by have := HKK.out; omega), grown_trans H3.out.2.2.2 (grown_trans (grown_ext (ext_drewN' W3 _)) (grown_set _ kp 2 _))⟩
            clear hV
            have p2 := HV.out.1.cells.2.2
            obtain ⟨y0, y1, y2⟩ := HV.out.2.1.cells
            obtain ⟨x0, x1, x2⟩ := HV.out.2.2.1.cells
            have g0 := HV.out.2.2.1.free 0
            have g1 := HV.out.2.2.1.free 1
            have g2 := HV.out.2.2.1.free 2
            obtain ⟨U, hU⟩ : ∃ U, U = ((V.setCell ⟨k4, 0, none⟩ (.string (bx k))).setCell ⟨k4, 1, none⟩ (.int .i64 2)).setCell ⟨k4, 2, none⟩ (.slice none 0 0) := ⟨_, rfl⟩
            have HU : Hid (BoxQ U k4 (bx k) 2 none 0 0 ∧ w.grownBy U (some kp) ∧ PIn U kp s j true ∧ True) := by
              rw [hU]
              exact ⟨HV.out.2.2.1.setAll, grown_new (grown_new (grown_new HV.out.2.2.2 HKK.out.2.1) HKK.out.2.1) HKK.out.2.1, ((HV.out.1.setOther (by have := HKK.out; omega)).setOther (by have := HKK.out; omega)).setOther (by have := HKK.out; omega), trivial⟩
            have hU2 := hU.symm
            clear hU
            go_wp2
            refine bodyPost_ret (results_r rfl _ _ k4 rfl HU.out.1) rfl ?_
            exact ⟨j, hjs, HU.out.2.1, .inr ⟨HNONE.out, ⟨_, _, _, _, _, rfl⟩, HU.out.2.2.1⟩⟩
    · rw [decide_eq_false h2] at bno
      have HNONE : Hid (choiceS k (sfx s i) = none) := choice_other (by rw [← HWD.out]; exact h1) (by rw [← HWD.out]; exact h2)
      clear h1 h2
      go_upto_region 8 with fail
      obtain ⟨W3, hW3⟩ : ∃ W3, W3 = w2.setCell ⟨kp, 2, none⟩ (.bool true) := ⟨_, rfl⟩
      rw [← hW3]
      have H3 : Hid (PIn W3 kp s j true ∧ BoxQ W3 k3 (bx k) 3 none 0 0 ∧ BoxQ W3 k4 ⟨#[]⟩ 0 none 0 0 ∧ w.grownBy W3 (some kp)) := by
        rw [hW3]
        exact ⟨H2.out.1.setBad true, H2.out.2.1.setOther (by have := HKK.out; omega), H2.out.2.2.1.setOther (by have := HKK.out; omega), grown_trans H2.out.2.2.2 (grown_set _ kp 2 _)⟩
      clear hW3 y0 y1 y2 p0 p1 p2 f3 fp
      obtain ⟨z0, z1, z2⟩ := H3.out.1.cells
      have fz := H3.out.1.free 2
      cases bl with
      | true =>
        go_wp2_with fail
        go_quiet (fail)
        clear z0 z1 z2 fz
        obtain ⟨V, hV⟩ : ∃ V, V = W3.drewN nq := ⟨_, rfl⟩
        rw [← hV]
        have HV : Hid (PIn V kp s j true ∧ BoxQ V k3 (bx k) 3 none 0 0 ∧ BoxQ V k4 ⟨#[]⟩ 0 none 0 0 ∧ w.grownBy V (some kp)) := by
          rw [hV]
          exact ⟨H3.out.1, H3.out.2.1, H3.out.2.2.1, grown_trans H3.out.2.2.2 (grown_ext (ext_drewN' W3 _))⟩
        clear hV
        have p2 := HV.out.1.cells.2.2
        obtain ⟨y0, y1, y2⟩ := HV.out.2.1.cells
        obtain ⟨x0, x1, x2⟩ := HV.out.2.2.1.cells
        have g0 := HV.out.2.2.1.free 0
        have g1 := HV.out.2.2.1.free 1
        have g2 := HV.out.2.2.1.free 2
        obtain ⟨U, hU⟩ : ∃ U, U = ((V.setCell ⟨k4, 0, none⟩ (.string (bx k))).setCell ⟨k4, 1, none⟩ (.int .i64 3)).setCell ⟨k4, 2, none⟩ (.slice none 0 0) := ⟨_, rfl⟩
        have HU : Hid (BoxQ U k4 (bx k) 3 none 0 0 ∧ w.grownBy U (some kp) ∧ PIn U kp s j true ∧ True) := by
          rw [hU]
          exact ⟨HV.out.2.2.1.setAll, grown_new (grown_new (grown_new HV.out.2.2.2 HKK.out.2.1) HKK.out.2.1) HKK.out.2.1, ((HV.out.1.setOther (by have := HKK.out; omega)).setOther (by have := HKK.out; omega)).setOther (by have := HKK.out; omega), trivial⟩
        have hU2 := hU.symm
        clear hU
        go_wp2
        refine bodyPost_ret (results_r rfl _ _ k4 rfl HU.out.1) rfl ?_
        exact ⟨j, hjs, HU.out.2.1, .inr ⟨HNONE.out, ⟨_, _, _, _, _, rfl⟩, HU.out.2.2.1⟩⟩
      | false =>
        rcases hS : sfx s j with _ | ⟨c, q⟩
        · skip
          have CO : Hid (∀ n, Calls Tryd.prog 9 #[.pointer (some ⟨kp, 0, none⟩)] (W3.drewN n) fun e w' => e = .returned (.bool true) ∧ ∃ m, w' = (W3.drewN n).drewN m) := fun n => by
            have h := over_any kp s j true (W3.drewN n) H3.out.1 hjs
            rw [hS] at h
            exact h
          clear hS
          go_wp2_with fail
          go_quiet (exact Calls.quiet_of (CO.out _))
          go_upto_region 10 with fail
          clear z0 z1 z2 fz
          obtain ⟨V, hV⟩ : ∃ V, V = (W3.drewN nq).setCell ⟨kp, 2, none⟩ (.bool true) := ⟨_, rfl⟩
          rw [← hV]
          have HV : Hid (PIn V kp s j true ∧ BoxQ V k3 (bx k) 3 none 0 0 ∧ BoxQ V k4 ⟨#[]⟩ 0 none 0 0 ∧ w.grownBy V (some kp)) := by
            rw [hV]
            exact ⟨PIn.setBad (w := W3.drewN _) H3.out.1 true, BoxQ.setOther (w := W3.drewN _) H3.out.2.1 (by have := HKK.out; omega), BoxQ.setOther (w := W3.drewN _) H3.out.2.2.1 (by have := HKK.out; omega), grown_trans H3.out.2.2.2 (grown_trans (grown_ext (ext_drewN' W3 _)) (grown_set _ kp 2 _))⟩
          clear hV
          have p2 := HV.out.1.cells.2.2
          obtain ⟨y0, y1, y2⟩ := HV.out.2.1.cells
          obtain ⟨x0, x1, x2⟩ := HV.out.2.2.1.cells
          have g0 := HV.out.2.2.1.free 0
          have g1 := HV.out.2.2.1.free 1
          have g2 := HV.out.2.2.1.free 2
          obtain ⟨U, hU⟩ : ∃ U, U = ((V.setCell ⟨k4, 0, none⟩ (.string (bx k))).setCell ⟨k4, 1, none⟩ (.int .i64 3)).setCell ⟨k4, 2, none⟩ (.slice none 0 0) := ⟨_, rfl⟩
          have HU : Hid (BoxQ U k4 (bx k) 3 none 0 0 ∧ w.grownBy U (some kp) ∧ PIn U kp s j true ∧ True) := by
            rw [hU]
            exact ⟨HV.out.2.2.1.setAll, grown_new (grown_new (grown_new HV.out.2.2.2 HKK.out.2.1) HKK.out.2.1) HKK.out.2.1, ((HV.out.1.setOther (by have := HKK.out; omega)).setOther (by have := HKK.out; omega)).setOther (by have := HKK.out; omega), trivial⟩
          have hU2 := hU.symm
          clear hU
          go_wp2
          refine bodyPost_ret (results_r rfl _ _ k4 rfl HU.out.1) rfl ?_
          exact ⟨j, hjs, HU.out.2.1, .inr ⟨HNONE.out, ⟨_, _, _, _, _, rfl⟩, HU.out.2.2.1⟩⟩
        · have hlt := (sfx_step hS).1
          have hby := run_byte s j hlt
          have hcc : byteAt s j = c := by have h := sfx_cons hlt; rw [hS] at h; injection h with h _; exact h.symm
          rw [hcc] at hby
          by_cases hc : c = 40
          · have b1 : ((c.toNat : Int) != 40) = false := by rw [hc]; rfl
            have CO : Hid (∀ n, Calls Tryd.prog 9 #[.pointer (some ⟨kp, 0, none⟩)] (W3.drewN n) fun e w' => e = .returned (.bool false) ∧ ∃ m, w' = (W3.drewN n).drewN m) := fun n => by
              have h := over_any kp s j true (W3.drewN n) H3.out.1 hjs
              rw [hS] at h
              exact h
            clear hS hc hcc
            go_wp2_with fail
            go_quiet (exact Calls.quiet_of (CO.out _))
            clear z0 z1 z2 fz b1
            obtain ⟨V, hV⟩ : ∃ V, V = W3.drewN nq := ⟨_, rfl⟩
            rw [← hV]
            have HV : Hid (PIn V kp s j true ∧ BoxQ V k3 (bx k) 3 none 0 0 ∧ BoxQ V k4 ⟨#[]⟩ 0 none 0 0 ∧ w.grownBy V (some kp)) := by
              rw [hV]
              exact ⟨H3.out.1, H3.out.2.1, H3.out.2.2.1, grown_trans H3.out.2.2.2 (grown_ext (ext_drewN' W3 _))⟩
            clear hV
            have p2 := HV.out.1.cells.2.2
            obtain ⟨y0, y1, y2⟩ := HV.out.2.1.cells
            obtain ⟨x0, x1, x2⟩ := HV.out.2.2.1.cells
            have g0 := HV.out.2.2.1.free 0
            have g1 := HV.out.2.2.1.free 1
            have g2 := HV.out.2.2.1.free 2
            obtain ⟨U, hU⟩ : ∃ U, U = ((V.setCell ⟨k4, 0, none⟩ (.string (bx k))).setCell ⟨k4, 1, none⟩ (.int .i64 3)).setCell ⟨k4, 2, none⟩ (.slice none 0 0) := ⟨_, rfl⟩
            have HU : Hid (BoxQ U k4 (bx k) 3 none 0 0 ∧ w.grownBy U (some kp) ∧ PIn U kp s j true ∧ True) := by
              rw [hU]
              exact ⟨HV.out.2.2.1.setAll, grown_new (grown_new (grown_new HV.out.2.2.2 HKK.out.2.1) HKK.out.2.1) HKK.out.2.1, ((HV.out.1.setOther (by have := HKK.out; omega)).setOther (by have := HKK.out; omega)).setOther (by have := HKK.out; omega), trivial⟩
            have hU2 := hU.symm
            clear hU
            go_wp2
            refine bodyPost_ret (results_r rfl _ _ k4 rfl HU.out.1) rfl ?_
            exact ⟨j, hjs, HU.out.2.1, .inr ⟨HNONE.out, ⟨_, _, _, _, _, rfl⟩, HU.out.2.2.1⟩⟩
          · have b1 : ((c.toNat : Int) != 40) = true := by
              rw [bne, show (40 : Int) = ((40 : UInt8).toNat : Int) from rfl, byte_eq]
              simp [hc]
            skip
            have CO : Hid (∀ n, Calls Tryd.prog 9 #[.pointer (some ⟨kp, 0, none⟩)] (W3.drewN n) fun e w' => e = .returned (.bool false) ∧ ∃ m, w' = (W3.drewN n).drewN m) := fun n => by
              have h := over_any kp s j true (W3.drewN n) H3.out.1 hjs
              rw [hS] at h
              exact h
            clear hS hc hcc
            go_wp2_with fail
            go_quiet (exact Calls.quiet_of (CO.out _))
            go_upto_region 10 with fail
            clear z0 z1 z2 fz b1
            obtain ⟨V, hV⟩ : ∃ V, V = (W3.drewN nq).setCell ⟨kp, 2, none⟩ (.bool true) := ⟨_, rfl⟩
            rw [← hV]
            have HV : Hid (PIn V kp s j true ∧ BoxQ V k3 (bx k) 3 none 0 0 ∧ BoxQ V k4 ⟨#[]⟩ 0 none 0 0 ∧ w.grownBy V (some kp)) := by
              rw [hV]
              exact ⟨PIn.setBad (w := W3.drewN _) H3.out.1 true, BoxQ.setOther (w := W3.drewN _) H3.out.2.1 (by have := HKK.out; omega), BoxQ.setOther (w := W3.drewN _) H3.out.2.2.1 (by have := HKK.out; omega), grown_trans H3.out.2.2.2 (grown_trans (grown_ext (ext_drewN' W3 _)) (grown_set _ kp 2 _))⟩
            clear hV
            have p2 := HV.out.1.cells.2.2
            obtain ⟨y0, y1, y2⟩ := HV.out.2.1.cells
            obtain ⟨x0, x1, x2⟩ := HV.out.2.2.1.cells
            have g0 := HV.out.2.2.1.free 0
            have g1 := HV.out.2.2.1.free 1
            have g2 := HV.out.2.2.1.free 2
            obtain ⟨U, hU⟩ : ∃ U, U = ((V.setCell ⟨k4, 0, none⟩ (.string (bx k))).setCell ⟨k4, 1, none⟩ (.int .i64 3)).setCell ⟨k4, 2, none⟩ (.slice none 0 0) := ⟨_, rfl⟩
            have HU : Hid (BoxQ U k4 (bx k) 3 none 0 0 ∧ w.grownBy U (some kp) ∧ PIn U kp s j true ∧ True) := by
              rw [hU]
              exact ⟨HV.out.2.2.1.setAll, grown_new (grown_new (grown_new HV.out.2.2.2 HKK.out.2.1) HKK.out.2.1) HKK.out.2.1, ((HV.out.1.setOther (by have := HKK.out; omega)).setOther (by have := HKK.out; omega)).setOther (by have := HKK.out; omega), trivial⟩
            have hU2 := hU.symm
            clear hU
            go_wp2
            refine bodyPost_ret (results_r rfl _ _ k4 rfl HU.out.1) rfl ?_
            exact ⟨j, hjs, HU.out.2.1, .inr ⟨HNONE.out, ⟨_, _, _, _, _, rfl⟩, HU.out.2.2.1⟩⟩
end Go.Proofs.YtfggodnfliciiaaDoor.Rd
