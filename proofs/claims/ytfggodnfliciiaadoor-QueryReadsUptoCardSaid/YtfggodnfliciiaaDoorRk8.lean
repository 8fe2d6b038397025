/-
  The reference's reqOf: the walk.
-/
import Derived.Test.YtfggodnfliciiaaDoorRk7
namespace Go.Proofs.YtfggodnfliciiaaDoor.Rd
open Go Go.RowKit Go.Proofs.YtfggodnfliciiaaDoor.Sx

set_option maxRecDepth 100000 in
set_option maxHeartbeats 8000000 in
theorem reqOf_rest {w : World} {A : Option Addr} {c : Nat} {ts : List Tok} {b : Bool} {s : Tx} (h : SgR w.heap.size w (.slice A ts.length c) ts) (ha : At ts 0 b s) (hts : ts.length ≤ 301) (hnw : (∀ r, skip s ≠ 33 :: r) → ∀ x r, wordRest s = x :: r → isW x = false) :
    Calls Tryd.prog 14 #[.slice A ts.length c] w (RqPost w ts s) := by
  have HV := Lib.hid h
  have HA := Lib.hid ha
  have HNW := Lib.hid hnw
  clear h ha hnw
  go_enter Tryd.func14, Tryd.ntmps14
  go_upto_region 4 with fail
  obtain ⟨W1, hW⟩ : ∃ W, W = ((w.alloc (.cells #[.slice A ts.length c] sgsT)).alloc (.cells #[.string ⟨#[]⟩, .int .i64 0, .slice none 0 0] reqT)).alloc (.cells #[.int .i64 0] 3) := ⟨_, rfl⟩
  have hs0 : (w.alloc (.cells #[.slice A ts.length c] sgsT)).heap.size = w.heap.size + 1 := by simp
  have hs1 : ((w.alloc (.cells #[.slice A ts.length c] sgsT)).alloc (.cells #[.string ⟨#[]⟩, .int .i64 0, .slice none 0 0] reqT)).heap.size = w.heap.size + 2 := by simp
  have h1 : LIn W1 w.heap.size (.slice A ts.length c) := by
    unfold LIn
    rw [hW, Below.heap_alloc _ _ _ (by omega), Below.heap_alloc _ _ _ (by omega)]
    exact heap_new rfl
  have h2 : BoxQ W1 (w.heap.size + 1) ⟨#[]⟩ 0 none 0 0 := by
    unfold BoxQ
    rw [hW, Below.heap_alloc _ _ _ (by omega)]
    exact heap_new hs0.symm
  have h4 : NIn W1 (w.heap.size + 2) 0 := by
    unfold NIn
    rw [hW]
    exact heap_new hs1.symm
  have hx : Ext w W1 := by rw [hW]; exact ((new_ext _ _).trans (new_ext _ _)).trans (new_ext _ _)
  rw [← hW]
  obtain ⟨k1, hk1⟩ : ∃ k1, k1 = w.heap.size := ⟨_, rfl⟩
  rw [← hk1]
  rw [← hk1] at h1 h2 h4 hs0 hs1
  obtain ⟨k2, hk2⟩ : ∃ k2, k2 = k1 + 1 := ⟨_, rfl⟩
  rw [← hk2]
  rw [← hk2] at h2
  obtain ⟨k4, hk4⟩ : ∃ k4, k4 = k2 + 1 := ⟨_, rfl⟩
  rw [← hk4]
  rw [show k1 + 2 = k4 by omega] at h4
  have H1 : Hid (Rs w W1 k1 k2 k4 (.slice A ts.length c) 0) := ⟨h1, h4, h2, hx, by omega, by omega, by omega, by omega, by omega, by omega⟩
  clear hW hs0 hs1 h1 h2 h4 hx hk1 hk2 hk4
  have NX : Hid (∀ (V : World) (i : Nat) (p : ByteArray), p.size ≤ 2 → i ≤ ts.length → Rs w V k1 k2 k4 (.slice A ts.length c) i → Calls Tryd.prog 23 #[.string p, .pointer (some ⟨k4, 0, none⟩), .pointer (some ⟨k1, 0, none⟩)] V (NextPost V k4 ts i p)) := fun V i p hp hi h =>
    rnext_any p hp (HV.out.below h.2.2.2.1 (Nat.le_refl _)) h.1 h.2.1 (by omega) h.2.2.2.2.2.2.1 h.2.2.2.1.size h.2.2.2.2.2.2.2.2.1 (by omega)
  have WD : Hid (∀ (V : World) (i : Nat) (b : Bool) (S : Tx), Rs w V k1 k2 k4 (.slice A ts.length c) i → At ts i b S → Calls Tryd.prog 22 #[.pointer (some ⟨k1, 0, none⟩), .pointer (some ⟨k4, 0, none⟩)] V fun e w' => ∃ i' b', e = .returned (.string (bx (wordOf S))) ∧ Rs w w' k1 k2 k4 (.slice A ts.length c) i' ∧ At ts i' b' (wordRest S) ∧ (wordOf S ≠ [] → b' = wordBl S) ∧ i ≤ i' ∧ V.grownBy w' (some k4)) := fun V i b S h ha =>
    (rword_any (HV.out.below h.2.2.2.1 (Nat.le_refl _)) h.1 h.2.1 ha h.2.2.2.2.2.2.1 h.2.2.2.1.size h.2.2.2.2.2.2.2.2.1).mono fun e w' ⟨i', b', h1, h2, h3, h4, h5, h6⟩ => ⟨i', b', h1, h.go h2 h6, h3, h4, h5, h6⟩
  have EN : Hid (∀ (V : World) (i : Nat) (b : Bool) (S : Tx), Rs w V k1 k2 k4 (.slice A ts.length c) i → At ts i b S → Calls Tryd.prog 24 #[.slice A ts.length c, .int .i64 (i : Int)] V fun e w' => e = .returned (.int .i64 (endI S i)) ∧ w' = V) := fun V i b S h ha =>
    end_any (HV.out.below h.2.2.2.1 (Nat.le_refl _)) ha
  have C1 := Lib.hid (NX.out W1 0 ⟨#[33]⟩ (by decide) (Nat.zero_le _) H1.out)
  by_cases hq : ∃ r, skip s = 33 :: r
  · obtain ⟨r, hr⟩ := hq
    have hall : allAt ts 0 ⟨#[33]⟩ = true := by rw [all_1 HA.out (by decide), hr]; rfl
    have HAT : Hid (At ts 1 false r) := (HA.out.sign hr (by decide)).2.2
    have HPS : Hid (partS s = some (⟨wordOf r, 4, []⟩, wordRest r)) := part_not hr
    unfold NextPost at C1
    rw [hall] at C1
    clear hr hall
    go_wp2_with fail
    refine Calls.mono C1.out ?_
    rintro e w2 ⟨rfl, hn2, hg2⟩
    have H2 : Hid (Rs w w2 k1 k2 k4 (.slice A ts.length c) 1) := H1.out.go hn2 hg2
    clear hn2 hg2 C1
    go_upto_region 6 with fail
    obtain ⟨W3, hW⟩ : ∃ W, W = w2.alloc (.cells #[.string ⟨#[]⟩, .int .i64 4, .slice none 0 0] reqT) := ⟨_, rfl⟩
    obtain ⟨k7, hk7⟩ : ∃ k, k = w2.heap.size := ⟨_, rfl⟩
    rw [← hW, ← hk7]
    have H3 : Hid (Rs w W3 k1 k2 k4 (.slice A ts.length c) 1 ∧ BoxQ W3 k7 ⟨#[]⟩ 4 none 0 0 ∧ w.heap.size ≤ k7 ∧ k7 ≠ k1 ∧ k7 ≠ k2 ∧ k7 ≠ k4) := by
      have hx : Ext w2 W3 := by rw [hW]; exact new_ext _ _
      have hb : BoxQ W3 k7 ⟨#[]⟩ 4 none 0 0 := by unfold BoxQ; rw [hW]; exact heap_new hk7
      have a1 := heap_lt (show w2.heap[k1]? = _ from H2.out.1)
      have a2 := heap_lt (show w2.heap[k2]? = _ from H2.out.2.2.1)
      have a4 := heap_lt (show w2.heap[k4]? = _ from H2.out.2.1)
      exact ⟨H2.out.ext hx, hb, by rw [hk7]; exact H2.out.2.2.2.1.size, by omega, by omega, by omega⟩
    clear hW hk7
    have CW := Lib.hid (WD.out W3 1 false r H3.out.1 HAT.out)
    go_wp2_with fail
    refine Calls.mono CW.out ?_
    rintro e w4 ⟨m, b', rfl, hR4, hA4, _, _, hg4⟩
    have H4 : Hid (Rs w w4 k1 k2 k4 (.slice A ts.length c) m ∧ BoxQ w4 k7 ⟨#[]⟩ 4 none 0 0 ∧ At ts m b' (wordRest r)) := ⟨hR4, H3.out.2.1.kept hg4 (fun e => by injection e with e; have := H3.out.2.2; omega), hA4⟩
    clear hR4 hA4 hg4 CW
    obtain ⟨y0, y1, y2⟩ := H4.out.2.1.cells
    have f0 := H4.out.2.1.free 0
    obtain ⟨W5, hW5⟩ : ∃ W5, W5 = w4.setCell ⟨k7, 0, none⟩ (.string (bx (wordOf r))) := ⟨_, rfl⟩
    have H5 : Hid (Rs w W5 k1 k2 k4 (.slice A ts.length c) m ∧ BoxQ W5 k7 (bx (wordOf r)) 4 none 0 0) := by
      rw [hW5]
      exact ⟨H4.out.1.other H3.out.2.2.1 H3.out.2.2.2.1 H3.out.2.2.2.2.1 H3.out.2.2.2.2.2, H4.out.2.1.setKey _⟩
    have e5 := hW5.symm
    clear hW5
    go_upto_region 7 with fail
    clear e5 y0 y1 y2 f0
    obtain ⟨wd, hwd⟩ : ∃ wd, wd = wordOf r := ⟨_, rfl⟩
    rw [← hwd] at H5 HPS
    try rw [← hwd]
    clear hwd
    obtain ⟨en, hen⟩ : ∃ en, en = endI (wordRest r) m := ⟨_, rfl⟩
    have CE : Hid (∀ wk, Ext W5 wk → Calls Tryd.prog 24 #[.slice A ts.length c, .int .i64 (m : Int)] wk fun e w' => e = .returned (.int .i64 en) ∧ w' = wk) := fun wk hk => by rw [hen]; exact EN.out wk m b' (wordRest r) (H5.out.1.ext hk) H4.out.2.2
    obtain ⟨y0, y1, y2⟩ := H5.out.2.cells
    obtain ⟨x0, x1, x2⟩ := H5.out.1.2.2.1.cells
    have l0 := H5.out.1.1.cell
    have n0 := H5.out.1.2.1.cell
    have g0 := H5.out.1.2.2.1.free 0
    have g1 := H5.out.1.2.2.1.free 1
    have g2 := H5.out.1.2.2.1.free 2
    have hxx : Ext W5 W5 := Below.refl _ _
    have HEN := Lib.hid hen
    clear hen
    go_region_law (go_simp; go_at_call 24; with_reducible refine (CE.out _ (by first | assumption | exact hxx.drew)).mono ?_; rintro e w' ⟨rfl, rfl⟩)
    all_goals
      go_wp2_with fail
      refine bodyPost_ret (results_s rfl _ _ k2 rfl (show BoxQ (World.drew _) k2 _ _ _ _ _ from (H5.out.1.put (key := bx wd) (kd := 4) (A := none) (n := 0) (c := 0)).1)) rfl ?_
      exact rq_end (p := ⟨wd, 4, []⟩) ((H5.out.1.put (key := bx wd) (kd := 4) (A := none) (n := 0) (c := 0)).2.drew) HPS.out H4.out.2.2 SRow.nil rfl HEN.out
  · have hall : allAt ts 0 ⟨#[33]⟩ = false := by
      rw [all_1 HA.out (by decide)]
      unfold headIs
      cases hs : skip s with
      | nil => rfl
      | cons x r =>
        simp only
        rw [beq_eq_false_iff_ne]
        exact fun e => hq ⟨r, by rw [hs, e]⟩
    have HNX : Hid (∀ x r, wordRest s = x :: r → isW x = false) := HNW.out (fun r e => hq ⟨r, e⟩)
    have HPT : Hid (partS s = tailS (wordOf s) (wordBl s) (wordRest s)) := part_tail (fun r e => hq ⟨r, e⟩)
    unfold NextPost at C1
    rw [hall] at C1
    clear hq hall
    go_wp2_with fail
    refine Calls.mono C1.out ?_
    rintro e w2 ⟨rfl, hn2, hg2⟩
    have H2 : Hid (Rs w w2 k1 k2 k4 (.slice A ts.length c) 0) := H1.out.go hn2 hg2
    clear hn2 hg2 C1
    go_upto_region 9 with fail
    obtain ⟨W3, hW⟩ : ∃ W, W = w2.alloc (.cells #[.string ⟨#[]⟩, .int .i64 3, .slice none 0 0] reqT) := ⟨_, rfl⟩
    obtain ⟨k8, hk8⟩ : ∃ k, k = w2.heap.size := ⟨_, rfl⟩
    rw [← hW, ← hk8]
    have H3 : Hid (Rp w W3 k1 k2 k4 (.slice A ts.length c) 0 k8 ⟨#[]⟩ 3 none 0 0) := by
      have hx : Ext w2 W3 := by rw [hW]; exact new_ext _ _
      have hb : BoxQ W3 k8 ⟨#[]⟩ 3 none 0 0 := by unfold BoxQ; rw [hW]; exact heap_new hk8
      have a1 := heap_lt (show w2.heap[k1]? = _ from H2.out.1)
      have a2 := heap_lt (show w2.heap[k2]? = _ from H2.out.2.2.1)
      have a4 := heap_lt (show w2.heap[k4]? = _ from H2.out.2.1)
      exact ⟨H2.out.ext hx, hb, by rw [hk8]; exact H2.out.2.2.2.1.size, by omega, by omega, by omega⟩
    clear hW hk8 H2
    have CW := Lib.hid (WD.out W3 0 b s H3.out.1 HA.out)
    go_wp2_with fail
    refine Calls.mono CW.out ?_
    rintro e w4 ⟨i1, b1, rfl, hR4, hA4, hb1, _, hg4⟩
    have H4 : Hid (Rp w w4 k1 k2 k4 (.slice A ts.length c) i1 k8 ⟨#[]⟩ 3 none 0 0 ∧ At ts i1 b1 (wordRest s) ∧ (wordOf s ≠ [] → b1 = wordBl s)) := ⟨H3.out.go hR4 hg4, hA4, hb1⟩
    clear hR4 hA4 hg4 CW hb1 H3
    obtain ⟨k, hk⟩ : ∃ k, k = wordOf s := ⟨_, rfl⟩
    obtain ⟨S3, hS3⟩ : ∃ S3, S3 = wordRest s := ⟨_, rfl⟩
    obtain ⟨bl, hbl⟩ : ∃ bl, bl = wordBl s := ⟨_, rfl⟩
    rw [← hS3] at HNX
    have HSK : Hid (skip S3 = S3) := by rw [hS3]; exact skip_skip _
    rw [← hk, ← hbl, ← hS3] at HPT
    rw [← hk, ← hbl, ← hS3] at H4
    rw [← hk]
    clear hk hS3 hbl
    obtain ⟨y0, y1, y2⟩ := H4.out.1.2.1.cells
    have f0 := H4.out.1.2.1.free 0
    obtain ⟨W5, hW5⟩ : ∃ W5, W5 = w4.setCell ⟨k8, 0, none⟩ (.string (bx k)) := ⟨_, rfl⟩
    have H5 : Hid (Rp w W5 k1 k2 k4 (.slice A ts.length c) i1 k8 (bx k) 3 none 0 0 ∧ i1 ≤ ts.length) := by
      rw [hW5]
      exact ⟨H4.out.1.setK _, Nat.le_of_lt H4.out.2.1.lt⟩
    have e5 := hW5.symm
    clear hW5
    go_upto_region 10 with fail
    clear e5 y0 y1 y2 f0
    have C2 := Lib.hid (NX.out W5 i1 ⟨#[61, 61]⟩ (by decide) H5.out.2 H5.out.1.1)
    have h2 := all_2 (c := 61) (d := 61) H4.out.2.1 (by decide) (by decide) (by decide) (by decide) (by decide)
    rw [HSK.out] at h2
    by_cases h22 : ∃ r, S3 = 61 :: 61 :: r
    · obtain ⟨r, hr⟩ := h22
      have HPS : Hid (partS s = some (⟨k, 1, [wordOf r]⟩, wordRest r)) := by unfold Hid; rw [HPT.out, hr]; rfl
      have HAT : Hid (At ts (i1 + 2) false r) := H4.out.2.1.two (by rw [HSK.out]; exact hr) (by decide) (by decide) (by decide)
      have hall : allAt ts i1 ⟨#[61, 61]⟩ = true := by rw [h2, hr]; rfl
      unfold NextPost at C2
      rw [hall] at C2
      clear hr hall h2
      go_wp2_with fail
      refine Calls.mono C2.out ?_
      rintro e w6 ⟨rfl, hn6, hg6⟩
      have H6 : Hid (Rp w w6 k1 k2 k4 (.slice A ts.length c) (i1 + 2) k8 (bx k) 3 none 0 0) := H5.out.1.go (H5.out.1.1.go hn6 hg6) hg6
      clear hn6 hg6 C2
      have f1 := H6.out.2.1.free 1
      obtain ⟨y0, y1, y2⟩ := H6.out.2.1.cells
      obtain ⟨W7, hW7⟩ : ∃ W7, W7 = w6.setCell ⟨k8, 1, none⟩ (.int .i64 1) := ⟨_, rfl⟩
      have H7 : Hid (Rp w W7 k1 k2 k4 (.slice A ts.length c) (i1 + 2) k8 (bx k) 1 none 0 0) := by rw [hW7]; exact H6.out.kind 1
      have e7 := hW7.symm
      clear hW7
      have CW := Lib.hid (WD.out W7 (i1 + 2) false r H7.out.1 HAT.out)
      go_upto_region 13 with fail
      clear e7 y0 y1 y2 f1
      go_wp2_with fail
      refine Calls.mono CW.out ?_
      rintro e w8 ⟨m8, b9, rfl, hR8, hA8, _, _, hg8⟩
      have H8 : Hid (Rp w w8 k1 k2 k4 (.slice A ts.length c) m8 k8 (bx k) 1 none 0 0 ∧ At ts m8 b9 (wordRest r)) := ⟨H7.out.go hR8 hg8, hA8⟩
      clear hR8 hA8 hg8 CW
      obtain ⟨wd, hwd⟩ : ∃ wd, wd = wordOf r := ⟨_, rfl⟩
      rw [← hwd] at HPS
      rw [← hwd]
      clear hwd
      obtain ⟨W9, hW9⟩ : ∃ W9, W9 = w8.alloc (.cells #[.string (bx wd)] strT) := ⟨_, rfl⟩
      obtain ⟨kv, hkv⟩ : ∃ kv, kv = w8.heap.size := ⟨_, rfl⟩
      obtain ⟨W10, hW10⟩ : ∃ W10, W10 = W9.setCell ⟨k8, 2, none⟩ (.slice (some ⟨kv, 0, none⟩) 1 1) := ⟨_, rfl⟩
      have HF : Hid (Rp w W10 k1 k2 k4 (.slice A ts.length c) m8 k8 (bx k) 1 (some ⟨kv, 0, none⟩) 1 1 ∧ At ts m8 b9 (wordRest r) ∧ SRow w.heap.size W10 (.slice (some ⟨kv, 0, none⟩) 1 1) ([wd].map bx) ∧ ∀ g, (Value.slice (some ⟨kv, 0, none⟩) 1 1).ownBlock = some g → g ≠ k2) := by
        have hx : Ext w8 W9 := by rw [hW9]; exact new_ext _ _
        have h7 := heap_lt (show w8.heap[k8]? = _ from H8.out.1.2.1)
        have h2 := heap_lt (show w8.heap[k2]? = _ from H8.out.1.1.2.2.1)
        have hrow : SRow w.heap.size W9 (.slice (some ⟨kv, 0, none⟩) 1 1) [bx wd] := row_one (by rw [hkv]; exact H8.out.1.1.2.2.2.1.size) (by rw [hW9]; exact heap_new hkv)
        rw [hW10]
        exact ⟨(H8.out.1.ext hx).vals, H8.out.2, srow_store hrow (fun g hg => by simp [Value.ownBlock] at hg; omega), fun g hg => by simp [Value.ownBlock] at hg; omega⟩
      have H9 : Hid (BoxQ W9 k8 (bx k) 1 none 0 0) := by
        have hx : Ext w8 W9 := by rw [hW9]; exact new_ext _ _
        exact (H8.out.1.ext hx).2.1
      obtain ⟨y0, y1, y2⟩ := H9.out.cells
      have f2 := H9.out.free 2
      have e9 := hW9.symm
      have e10 := hW10.symm
      have HKV := Lib.hid hkv
      clear hW9 hW10 hkv
      go_upto_region 27 with fail
      try rw [← HKV.out]
      try rw [e9]
      try rw [e10]
      clear e9 e10 y0 y1 y2 f2
      obtain ⟨en, hen⟩ : ∃ en, en = endI (wordRest r) m8 := ⟨_, rfl⟩
      have CE : Hid (∀ wk, Ext W10 wk → Calls Tryd.prog 24 #[.slice A ts.length c, .int .i64 ((m8 : Nat) : Int)] wk fun e w' => e = .returned (.int .i64 en) ∧ w' = wk) := fun wk hk => by rw [hen]; exact EN.out wk m8 b9 (wordRest r) (HF.out.1.1.ext hk) HF.out.2.1
      obtain ⟨y0, y1, y2⟩ := HF.out.1.2.1.cells
      obtain ⟨x0, x1, x2⟩ := HF.out.1.1.2.2.1.cells
      have l0 := HF.out.1.1.1.cell
      have n0 := HF.out.1.1.2.1.cell
      have g0 := HF.out.1.1.2.2.1.free 0
      have g1 := HF.out.1.1.2.2.1.free 1
      have g2 := HF.out.1.1.2.2.1.free 2
      have hxx : Ext W10 W10 := Below.refl _ _
      have HEN := Lib.hid hen
      clear hen
      go_region_law (go_simp; go_at_call 24; with_reducible refine (CE.out _ (by first | assumption | exact hxx.drew)).mono ?_; rintro e w' ⟨rfl, rfl⟩)
      all_goals
        go_wp2_with fail
        refine bodyPost_ret (results_s rfl _ _ k2 rfl (show BoxQ (World.drew _) k2 _ _ _ _ _ from (HF.out.1.1.put (key := bx k) (kd := 1) (A := (some ⟨kv, 0, none⟩)) (n := 1) (c := 1)).1)) rfl ?_
        exact rq_end (p := ⟨k, 1, [wd]⟩) ((HF.out.1.1.put (key := bx k) (kd := 1) (A := (some ⟨kv, 0, none⟩)) (n := 1) (c := 1)).2.drew) HPS.out HF.out.2.1 (srow_stores HF.out.2.2.1 HF.out.2.2.2) rfl HEN.out
    · have hall : allAt ts i1 ⟨#[61, 61]⟩ = false := by
        rw [h2]
        cases hS : S3 with
        | nil => rfl
        | cons x r =>
          simp only
          by_cases hx : x = 61
          · have hd : ¬ r.head? = some 61 := fun e => by
              cases r with
              | nil => cases e
              | cons y q => injection e with e; exact h22 ⟨q, by rw [hS, hx, e]⟩
            rw [decide_eq_false hd, Bool.and_false]
          · rw [beq_eq_false_iff_ne.2 hx, Bool.false_and]
      unfold NextPost at C2
      rw [hall] at C2
      clear hall h2
      go_wp2_with fail
      refine Calls.mono C2.out ?_
      rintro e w55 ⟨rfl, hn55, hg55⟩
      have H55 : Hid (Rp w w55 k1 k2 k4 (.slice A ts.length c) i1 k8 (bx k) 3 none 0 0) := H5.out.1.go (H5.out.1.1.go hn55 hg55) hg55
      clear hn55 hg55 C2
      have C1 := Lib.hid (NX.out w55 i1 ⟨#[61]⟩ (by decide) H5.out.2 H55.out.1)
      have h1 := all_1 (c := 61) H4.out.2.1 (by decide)
      rw [HSK.out] at h1
      by_cases h21 : ∃ r, S3 = 61 :: r
      · obtain ⟨r, hr⟩ := h21
        have hd : r.head? ≠ some 61 := fun e => by
          cases r with
          | nil => cases e
          | cons y q => injection e with e; exact h22 ⟨q, by rw [hr, e]⟩
        have HPS : Hid (partS s = some (⟨k, 1, [wordOf r]⟩, wordRest r)) := by unfold Hid; rw [HPT.out, hr]; exact tail_one k bl hd
        have HAT : Hid (At ts (i1 + 1) false r) := (H4.out.2.1.sign (by rw [HSK.out]; exact hr) (by decide)).2.2
        have hall : allAt ts i1 ⟨#[61]⟩ = true := by rw [h1, hr]; rfl
        unfold NextPost at C1
        rw [hall] at C1
        clear hr hall h1 hd h22
        go_wp2_with fail
        refine Calls.mono C1.out ?_
        rintro e w6 ⟨rfl, hn6, hg6⟩
        have H6 : Hid (Rp w w6 k1 k2 k4 (.slice A ts.length c) (i1 + 1) k8 (bx k) 3 none 0 0) := H55.out.go (H55.out.1.go hn6 hg6) hg6
        clear hn6 hg6 C1
        have f1 := H6.out.2.1.free 1
        obtain ⟨y0, y1, y2⟩ := H6.out.2.1.cells
        obtain ⟨W7, hW7⟩ : ∃ W7, W7 = w6.setCell ⟨k8, 1, none⟩ (.int .i64 1) := ⟨_, rfl⟩
        have H7 : Hid (Rp w W7 k1 k2 k4 (.slice A ts.length c) (i1 + 1) k8 (bx k) 1 none 0 0) := by rw [hW7]; exact H6.out.kind 1
        have e7 := hW7.symm
        clear hW7
        have CW := Lib.hid (WD.out W7 (i1 + 1) false r H7.out.1 HAT.out)
        go_upto_region 13 with fail
        clear e7 y0 y1 y2 f1
        go_wp2_with fail
        refine Calls.mono CW.out ?_
        rintro e w8 ⟨m8, b9, rfl, hR8, hA8, _, _, hg8⟩
        have H8 : Hid (Rp w w8 k1 k2 k4 (.slice A ts.length c) m8 k8 (bx k) 1 none 0 0 ∧ At ts m8 b9 (wordRest r)) := ⟨H7.out.go hR8 hg8, hA8⟩
        clear hR8 hA8 hg8 CW
        obtain ⟨wd, hwd⟩ : ∃ wd, wd = wordOf r := ⟨_, rfl⟩
        rw [← hwd] at HPS
        rw [← hwd]
        clear hwd
        obtain ⟨W9, hW9⟩ : ∃ W9, W9 = w8.alloc (.cells #[.string (bx wd)] strT) := ⟨_, rfl⟩
        obtain ⟨kv, hkv⟩ : ∃ kv, kv = w8.heap.size := ⟨_, rfl⟩
        obtain ⟨W10, hW10⟩ : ∃ W10, W10 = W9.setCell ⟨k8, 2, none⟩ (.slice (some ⟨kv, 0, none⟩) 1 1) := ⟨_, rfl⟩
        have HF : Hid (Rp w W10 k1 k2 k4 (.slice A ts.length c) m8 k8 (bx k) 1 (some ⟨kv, 0, none⟩) 1 1 ∧ At ts m8 b9 (wordRest r) ∧ SRow w.heap.size W10 (.slice (some ⟨kv, 0, none⟩) 1 1) ([wd].map bx) ∧ ∀ g, (Value.slice (some ⟨kv, 0, none⟩) 1 1).ownBlock = some g → g ≠ k2) := by
          have hx : Ext w8 W9 := by rw [hW9]; exact new_ext _ _
          have h7 := heap_lt (show w8.heap[k8]? = _ from H8.out.1.2.1)
          have h2 := heap_lt (show w8.heap[k2]? = _ from H8.out.1.1.2.2.1)
          have hrow : SRow w.heap.size W9 (.slice (some ⟨kv, 0, none⟩) 1 1) [bx wd] := row_one (by rw [hkv]; exact H8.out.1.1.2.2.2.1.size) (by rw [hW9]; exact heap_new hkv)
          rw [hW10]
          exact ⟨(H8.out.1.ext hx).vals, H8.out.2, srow_store hrow (fun g hg => by simp [Value.ownBlock] at hg; omega), fun g hg => by simp [Value.ownBlock] at hg; omega⟩
        have H9 : Hid (BoxQ W9 k8 (bx k) 1 none 0 0) := by
          have hx : Ext w8 W9 := by rw [hW9]; exact new_ext _ _
          exact (H8.out.1.ext hx).2.1
        obtain ⟨y0, y1, y2⟩ := H9.out.cells
        have f2 := H9.out.free 2
        have e9 := hW9.symm
        have e10 := hW10.symm
        have HKV := Lib.hid hkv
        clear hW9 hW10 hkv
        go_upto_region 27 with fail
        try rw [← HKV.out]
        try rw [e9]
        try rw [e10]
        clear e9 e10 y0 y1 y2 f2
        obtain ⟨en, hen⟩ : ∃ en, en = endI (wordRest r) m8 := ⟨_, rfl⟩
        have CE : Hid (∀ wk, Ext W10 wk → Calls Tryd.prog 24 #[.slice A ts.length c, .int .i64 ((m8 : Nat) : Int)] wk fun e w' => e = .returned (.int .i64 en) ∧ w' = wk) := fun wk hk => by rw [hen]; exact EN.out wk m8 b9 (wordRest r) (HF.out.1.1.ext hk) HF.out.2.1
        obtain ⟨y0, y1, y2⟩ := HF.out.1.2.1.cells
        obtain ⟨x0, x1, x2⟩ := HF.out.1.1.2.2.1.cells
        have l0 := HF.out.1.1.1.cell
        have n0 := HF.out.1.1.2.1.cell
        have g0 := HF.out.1.1.2.2.1.free 0
        have g1 := HF.out.1.1.2.2.1.free 1
        have g2 := HF.out.1.1.2.2.1.free 2
        have hxx : Ext W10 W10 := Below.refl _ _
        have HEN := Lib.hid hen
        clear hen
        go_region_law (go_simp; go_at_call 24; with_reducible refine (CE.out _ (by first | assumption | exact hxx.drew)).mono ?_; rintro e w' ⟨rfl, rfl⟩)
        all_goals
          go_wp2_with fail
          refine bodyPost_ret (results_s rfl _ _ k2 rfl (show BoxQ (World.drew _) k2 _ _ _ _ _ from (HF.out.1.1.put (key := bx k) (kd := 1) (A := (some ⟨kv, 0, none⟩)) (n := 1) (c := 1)).1)) rfl ?_
          exact rq_end (p := ⟨k, 1, [wd]⟩) ((HF.out.1.1.put (key := bx k) (kd := 1) (A := (some ⟨kv, 0, none⟩)) (n := 1) (c := 1)).2.drew) HPS.out HF.out.2.1 (srow_stores HF.out.2.2.1 HF.out.2.2.2) rfl HEN.out
      · have hall : allAt ts i1 ⟨#[61]⟩ = false := by
          rw [h1]
          unfold headIs
          cases hS : S3 with
          | nil => rfl
          | cons x r =>
            simp only
            rw [beq_eq_false_iff_ne]
            exact fun e => h21 ⟨r, by rw [hS, e]⟩
        unfold NextPost at C1
        rw [hall] at C1
        clear hall h1 h22
        go_wp2_with fail
        refine Calls.mono C1.out ?_
        rintro e w56 ⟨rfl, hn56, hg56⟩
        have H56 : Hid (Rp w w56 k1 k2 k4 (.slice A ts.length c) i1 k8 (bx k) 3 none 0 0) := H55.out.go (H55.out.1.go hn56 hg56) hg56
        clear hn56 hg56 C1
        have C3 := Lib.hid (NX.out w56 i1 ⟨#[33, 61]⟩ (by decide) H5.out.2 H56.out.1)
        have h3 := all_2 (c := 33) (d := 61) H4.out.2.1 (by decide) (by decide) (by decide) (by decide) (by decide)
        rw [HSK.out] at h3
        by_cases h33 : ∃ r, S3 = 33 :: 61 :: r
        · obtain ⟨r, hr⟩ := h33
          have HPS : Hid (partS s = some (⟨k, 2, [wordOf r]⟩, wordRest r)) := by unfold Hid; rw [HPT.out, hr]; rfl
          have HAT : Hid (At ts (i1 + 2) false r) := H4.out.2.1.two (by rw [HSK.out]; exact hr) (by decide) (by decide) (by decide)
          have hall : allAt ts i1 ⟨#[33, 61]⟩ = true := by rw [h3, hr]; rfl
          unfold NextPost at C3
          rw [hall] at C3
          clear hr hall h3 h21
          go_wp2_with fail
          refine Calls.mono C3.out ?_
          rintro e w6 ⟨rfl, hn6, hg6⟩
          have H6 : Hid (Rp w w6 k1 k2 k4 (.slice A ts.length c) (i1 + 2) k8 (bx k) 3 none 0 0) := H56.out.go (H56.out.1.go hn6 hg6) hg6
          clear hn6 hg6 C3
          have f1 := H6.out.2.1.free 1
          obtain ⟨y0, y1, y2⟩ := H6.out.2.1.cells
          obtain ⟨W7, hW7⟩ : ∃ W7, W7 = w6.setCell ⟨k8, 1, none⟩ (.int .i64 2) := ⟨_, rfl⟩
          have H7 : Hid (Rp w W7 k1 k2 k4 (.slice A ts.length c) (i1 + 2) k8 (bx k) 2 none 0 0) := by rw [hW7]; exact H6.out.kind 2
          have e7 := hW7.symm
          clear hW7
          have CW := Lib.hid (WD.out W7 (i1 + 2) false r H7.out.1 HAT.out)
          go_upto_region 16 with fail
          clear e7 y0 y1 y2 f1
          go_wp2_with fail
          refine Calls.mono CW.out ?_
          rintro e w8 ⟨m8, b9, rfl, hR8, hA8, _, _, hg8⟩
          have H8 : Hid (Rp w w8 k1 k2 k4 (.slice A ts.length c) m8 k8 (bx k) 2 none 0 0 ∧ At ts m8 b9 (wordRest r)) := ⟨H7.out.go hR8 hg8, hA8⟩
          clear hR8 hA8 hg8 CW
          obtain ⟨wd, hwd⟩ : ∃ wd, wd = wordOf r := ⟨_, rfl⟩
          rw [← hwd] at HPS
          rw [← hwd]
          clear hwd
          obtain ⟨W9, hW9⟩ : ∃ W9, W9 = w8.alloc (.cells #[.string (bx wd)] strT) := ⟨_, rfl⟩
          obtain ⟨kv, hkv⟩ : ∃ kv, kv = w8.heap.size := ⟨_, rfl⟩
          obtain ⟨W10, hW10⟩ : ∃ W10, W10 = W9.setCell ⟨k8, 2, none⟩ (.slice (some ⟨kv, 0, none⟩) 1 1) := ⟨_, rfl⟩
          have HF : Hid (Rp w W10 k1 k2 k4 (.slice A ts.length c) m8 k8 (bx k) 2 (some ⟨kv, 0, none⟩) 1 1 ∧ At ts m8 b9 (wordRest r) ∧ SRow w.heap.size W10 (.slice (some ⟨kv, 0, none⟩) 1 1) ([wd].map bx) ∧ ∀ g, (Value.slice (some ⟨kv, 0, none⟩) 1 1).ownBlock = some g → g ≠ k2) := by
            have hx : Ext w8 W9 := by rw [hW9]; exact new_ext _ _
            have h7 := heap_lt (show w8.heap[k8]? = _ from H8.out.1.2.1)
            have h2 := heap_lt (show w8.heap[k2]? = _ from H8.out.1.1.2.2.1)
            have hrow : SRow w.heap.size W9 (.slice (some ⟨kv, 0, none⟩) 1 1) [bx wd] := row_one (by rw [hkv]; exact H8.out.1.1.2.2.2.1.size) (by rw [hW9]; exact heap_new hkv)
            rw [hW10]
            exact ⟨(H8.out.1.ext hx).vals, H8.out.2, srow_store hrow (fun g hg => by simp [Value.ownBlock] at hg; omega), fun g hg => by simp [Value.ownBlock] at hg; omega⟩
          have H9 : Hid (BoxQ W9 k8 (bx k) 2 none 0 0) := by
            have hx : Ext w8 W9 := by rw [hW9]; exact new_ext _ _
            exact (H8.out.1.ext hx).2.1
          obtain ⟨y0, y1, y2⟩ := H9.out.cells
          have f2 := H9.out.free 2
          have e9 := hW9.symm
          have e10 := hW10.symm
          have HKV := Lib.hid hkv
          clear hW9 hW10 hkv
          go_upto_region 27 with fail
          try rw [← HKV.out]
          try rw [e9]
          try rw [e10]
          clear e9 e10 y0 y1 y2 f2
          obtain ⟨en, hen⟩ : ∃ en, en = endI (wordRest r) m8 := ⟨_, rfl⟩
          have CE : Hid (∀ wk, Ext W10 wk → Calls Tryd.prog 24 #[.slice A ts.length c, .int .i64 ((m8 : Nat) : Int)] wk fun e w' => e = .returned (.int .i64 en) ∧ w' = wk) := fun wk hk => by rw [hen]; exact EN.out wk m8 b9 (wordRest r) (HF.out.1.1.ext hk) HF.out.2.1
          obtain ⟨y0, y1, y2⟩ := HF.out.1.2.1.cells
          obtain ⟨x0, x1, x2⟩ := HF.out.1.1.2.2.1.cells
          have l0 := HF.out.1.1.1.cell
          have n0 := HF.out.1.1.2.1.cell
          have g0 := HF.out.1.1.2.2.1.free 0
          have g1 := HF.out.1.1.2.2.1.free 1
          have g2 := HF.out.1.1.2.2.1.free 2
          have hxx : Ext W10 W10 := Below.refl _ _
          have HEN := Lib.hid hen
          clear hen
          go_region_law (go_simp; go_at_call 24; with_reducible refine (CE.out _ (by first | assumption | exact hxx.drew)).mono ?_; rintro e w' ⟨rfl, rfl⟩)
          all_goals
            go_wp2_with fail
            refine bodyPost_ret (results_s rfl _ _ k2 rfl (show BoxQ (World.drew _) k2 _ _ _ _ _ from (HF.out.1.1.put (key := bx k) (kd := 2) (A := (some ⟨kv, 0, none⟩)) (n := 1) (c := 1)).1)) rfl ?_
            exact rq_end (p := ⟨k, 2, [wd]⟩) ((HF.out.1.1.put (key := bx k) (kd := 2) (A := (some ⟨kv, 0, none⟩)) (n := 1) (c := 1)).2.drew) HPS.out HF.out.2.1 (srow_stores HF.out.2.2.1 HF.out.2.2.2) rfl HEN.out
        · have hall : allAt ts i1 ⟨#[33, 61]⟩ = false := by
            rw [h3]
            cases hS : S3 with
            | nil => rfl
            | cons x r =>
              simp only
              by_cases hx : x = 33
              · have hd : ¬ r.head? = some 61 := fun e => by
                  cases r with
                  | nil => cases e
                  | cons y q => injection e with e; exact h33 ⟨q, by rw [hS, hx, e]⟩
                rw [decide_eq_false hd, Bool.and_false]
              · rw [beq_eq_false_iff_ne.2 hx, Bool.false_and]
          unfold NextPost at C3
          rw [hall] at C3
          clear hall h3
          go_wp2_with fail
          refine Calls.mono C3.out ?_
          rintro e w57 ⟨rfl, hn57, hg57⟩
          have H57 : Hid (Rp w w57 k1 k2 k4 (.slice A ts.length c) i1 k8 (bx k) 3 none 0 0) := H56.out.go (H56.out.1.go hn57 hg57) hg57
          clear hn57 hg57 C3
          have hw : ¬ ∃ x r, S3 = x :: r ∧ isW x = true := fun ⟨x, r, e, h⟩ => by rw [HNX.out x r e] at h; cases h
          have hword : ts[i1]?.map (fun t => t.word) = some false := by
            have hi := H4.out.2.1.lt
            rw [List.getElem?_eq_getElem hi]
            cases hS : S3 with
            | nil => obtain ⟨_, h1, _⟩ := H4.out.2.1.end_ (by rw [HSK.out]; exact hS); rw [h1]; rfl
            | cons x r =>
              have hx : isW x = false := by
                cases hxw : isW x with
                | false => rfl
                | true => exact absurd ⟨x, r, hS, hxw⟩ hw
              obtain ⟨_, h1, _⟩ := H4.out.2.1.sign (by rw [HSK.out]; exact hS) hx
              rw [h1]
              rfl
          have hi := H4.out.2.1.lt
          obtain ⟨bb, off, hA, _, _, t1, t2⟩ := (HV.out.below H57.out.1.2.2.2.1 (Nat.le_refl _)).at_ hi
          have hwf : ts[i1].word = false := by rw [List.getElem?_eq_getElem hi] at hword; simpa using hword
          rw [hwf] at t1
          obtain ⟨tb, htb⟩ : ∃ tb, tb = ts[i1].blank := ⟨_, rfl⟩
          rw [← htb] at t2
          have hiI : (i1 : Int) < (ts.length : Int) := by omega
          have hi0 : (0 : Int) ≤ (i1 : Int) := by omega
          have l0 := H57.out.1.1.cell
          have n0 := H57.out.1.2.1.cell
          subst hA
          have HF : Hid (Rp w w57 k1 k2 k4 (.slice (some ⟨bb, off, none⟩) ts.length c) i1 k8 (bx k) 3 none 0 0 ∧ At ts i1 b1 S3 ∧ SRow w.heap.size w57 (.slice none 0 0) (([] : List Tx).map bx) ∧ ∀ g, (Value.slice none 0 0).ownBlock = some g → g ≠ k2) := ⟨H57.out, H4.out.2.1, SRow.nil, fun g hg => by simp [Value.ownBlock] at hg⟩
          have HPS : Hid ((sepAt S3 = true ∧ partS s = some (⟨k, 3, []⟩, S3)) ∨ (sepAt S3 = false ∧ partS s = none)) := by
            unfold Hid
            rw [HPT.out]
            unfold sepAt
            rw [HSK.out]
            cases hS : S3 with
            | nil => exact .inl ⟨rfl, rfl⟩
            | cons x r =>
              by_cases h44 : x = 44
              · exact .inl ⟨by rw [h44]; rfl, by rw [h44]; rfl⟩
              · refine .inr ⟨by simp only; rw [beq_eq_false_iff_ne]; exact h44, ?_⟩
                rw [tail_else k bl h44 (fun e => h21 ⟨r, by rw [hS, e]⟩) (fun e => by
                  cases r with
                  | nil => cases e.2
                  | cons y q => injection e.2 with e2; exact h33 ⟨q, by rw [hS, e.1, e2]⟩)]
                have hx : isW x = false := by
                  cases hxw : isW x with
                  | false => rfl
                  | true => exact absurd ⟨x, r, hS, hxw⟩ hw
                have hsk : skip (x :: r) = x :: r := by rw [← hS]; exact HSK.out
                have hwo : wordOf (x :: r) = [] := by unfold wordOf; rw [hsk]; exact (runW_stop hx).1
                split
                · exact choice_other (by rw [hwo]; intro e; cases e) (by rw [hwo]; intro e; cases e)
                · rfl
          clear hw hword hwf htb h21 h33
          cases tb with
          | true =>
            go_upto_region 27 with fail
            clear l0 n0 t1 t2 hiI hi0
            obtain ⟨en, hen⟩ : ∃ en, en = endI S3 i1 := ⟨_, rfl⟩
            have CE : Hid (∀ wk, Ext w57 wk → Calls Tryd.prog 24 #[.slice (some ⟨bb, off, none⟩) ts.length c, .int .i64 ((i1 : Nat) : Int)] wk fun e w' => e = .returned (.int .i64 en) ∧ w' = wk) := fun wk hk => by rw [hen]; exact EN.out wk i1 b1 S3 (HF.out.1.1.ext hk) HF.out.2.1
            obtain ⟨y0, y1, y2⟩ := HF.out.1.2.1.cells
            obtain ⟨x0, x1, x2⟩ := HF.out.1.1.2.2.1.cells
            have l0 := HF.out.1.1.1.cell
            have n0 := HF.out.1.1.2.1.cell
            have g0 := HF.out.1.1.2.2.1.free 0
            have g1 := HF.out.1.1.2.2.1.free 1
            have g2 := HF.out.1.1.2.2.1.free 2
            have hxx : Ext w57 w57 := Below.refl _ _
            have HEN := Lib.hid hen
            clear hen
            go_region_law (go_simp; go_at_call 24; with_reducible refine (CE.out _ (by first | assumption | exact hxx.drew)).mono ?_; rintro e w' ⟨rfl, rfl⟩)
            all_goals
              go_wp2_with fail
              refine bodyPost_ret (results_s rfl _ _ k2 rfl (show BoxQ (World.drew _) k2 _ _ _ _ _ from (HF.out.1.1.put (key := bx k) (kd := 3) (A := none) (n := 0) (c := 0)).1)) rfl ?_
              rcases HPS.out with ⟨_, hps⟩ | ⟨hsep, hps⟩
              · exact rq_end (p := ⟨k, 3, []⟩) ((HF.out.1.1.put (key := bx k) (kd := 3) (A := none) (n := 0) (c := 0)).2.drew) hps HF.out.2.1 (srow_stores HF.out.2.2.1 HF.out.2.2.2) rfl HEN.out
              · rw [HEN.out, endI_no hsep]; exact rq_bad ((HF.out.1.1.put (key := bx k) (kd := 3) (A := none) (n := 0) (c := 0)).2.drew) (.inl hps)
          | false =>
            go_upto_region 27 with fail
            clear l0 n0 t1 t2 hiI hi0
            obtain ⟨en, hen⟩ : ∃ en, en = endI S3 i1 := ⟨_, rfl⟩
            have CE : Hid (∀ wk, Ext w57 wk → Calls Tryd.prog 24 #[.slice (some ⟨bb, off, none⟩) ts.length c, .int .i64 ((i1 : Nat) : Int)] wk fun e w' => e = .returned (.int .i64 en) ∧ w' = wk) := fun wk hk => by rw [hen]; exact EN.out wk i1 b1 S3 (HF.out.1.1.ext hk) HF.out.2.1
            obtain ⟨y0, y1, y2⟩ := HF.out.1.2.1.cells
            obtain ⟨x0, x1, x2⟩ := HF.out.1.1.2.2.1.cells
            have l0 := HF.out.1.1.1.cell
            have n0 := HF.out.1.1.2.1.cell
            have g0 := HF.out.1.1.2.2.1.free 0
            have g1 := HF.out.1.1.2.2.1.free 1
            have g2 := HF.out.1.1.2.2.1.free 2
            have hxx : Ext w57 w57 := Below.refl _ _
            have HEN := Lib.hid hen
            clear hen
            go_region_law (go_simp; go_at_call 24; with_reducible refine (CE.out _ (by first | assumption | exact hxx.drew)).mono ?_; rintro e w' ⟨rfl, rfl⟩)
            all_goals
              go_wp2_with fail
              refine bodyPost_ret (results_s rfl _ _ k2 rfl (show BoxQ (World.drew _) k2 _ _ _ _ _ from (HF.out.1.1.put (key := bx k) (kd := 3) (A := none) (n := 0) (c := 0)).1)) rfl ?_
              rcases HPS.out with ⟨_, hps⟩ | ⟨hsep, hps⟩
              · exact rq_end (p := ⟨k, 3, []⟩) ((HF.out.1.1.put (key := bx k) (kd := 3) (A := none) (n := 0) (c := 0)).2.drew) hps HF.out.2.1 (srow_stores HF.out.2.2.1 HF.out.2.2.2) rfl HEN.out
              · rw [HEN.out, endI_no hsep]; exact rq_bad ((HF.out.1.1.put (key := bx k) (kd := 3) (A := none) (n := 0) (c := 0)).2.drew) (.inl hps)
end Go.Proofs.YtfggodnfliciiaaDoor.Rd
