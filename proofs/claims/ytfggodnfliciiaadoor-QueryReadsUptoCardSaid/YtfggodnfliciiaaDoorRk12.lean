/-
  The reference's reqOf where another word stands behind the key (printed by gen/rk9.py).
-/
import Derived.Test.YtfggodnfliciiaaDoorRk9
namespace Go.Proofs.YtfggodnfliciiaaDoor.Rd
open Go Go.RowKit Go.Proofs.YtfggodnfliciiaaDoor.Sx

set_option maxRecDepth 100000 in
set_option maxHeartbeats 8000000 in
theorem reqOf_odd {w : World} {A : Option Addr} {c : Nat} {ts : List Tok} {b : Bool} {s : Tx} (h : SgR w.heap.size w (.slice A ts.length c) ts) (ha : At ts 0 b s) (hts : ts.length ≤ 301) (h33 : ∀ r, skip s ≠ 33 :: r) {x : UInt8} {q0 : Tx} (hw3 : wordRest s = x :: q0) (hxw : isW x = true) (hc : wordOf (wordRest s) ≠ inT ∧ wordOf (wordRest s) ≠ notinT) :
    Calls Tryd.prog 14 #[.slice A ts.length c] w (RqPost w ts s) := by
  have HV := Lib.hid h
  have HA := Lib.hid ha
  have H33 := Lib.hid h33
  have HW3 := Lib.hid hw3
  have HXW := Lib.hid hxw
  have HC := Lib.hid hc
  clear h ha h33 hw3 hxw hc
  go_enter Tryd.func14, Tryd.ntmps14
  go_upto_region 4 with fail
  obtain ⟨W1, hW⟩ : ∃ W, W = ((w.alloc (.cells #[.slice A ts.length c] sgsT)).alloc (.cells #[.string ⟨#[]⟩, .int .i64 0, .slice none 0 0] reqT)).alloc (.cells #[.int .i64 0] 3) := ⟨_, rfl⟩
  have hs0 : (w.alloc (.cells #[.slice A ts.length c] sgsT)).heap.size = w.heap.size + 1 := by simp
  have hs1 : ((w.alloc (.cells #[.slice A ts.length c] sgsT)).alloc (.cells #[.string ⟨#[]⟩, .int .i64 0, .slice none 0 0] reqT)).heap.size = w.heap.size + 2 := by simp
  have h1 : LIn W1 w.heap.size (.slice A ts.length c) := by
    unfold LIn
    rw [hW, Below.heap_alloc _ _ _ (by omega), Below.heap_alloc _ _ _ (by omega)]
    exact heap_new rfl
  have h2 : BoxQ W1 (w.heap.size + 1) ⟨#[]⟩ 0 none 0 0 := by
    unfold BoxQ
    rw [hW, Below.heap_alloc _ _ _ (by omega)]
    exact heap_new hs0.symm
  have h4 : NIn W1 (w.heap.size + 2) 0 := by
    unfold NIn
    rw [hW]
    exact heap_new hs1.symm
  have hx : Ext w W1 := by rw [hW]; exact ((new_ext _ _).trans (new_ext _ _)).trans (new_ext _ _)
  rw [← hW]
  obtain ⟨k1, hk1⟩ : ∃ k1, k1 = w.heap.size := ⟨_, rfl⟩
  rw [← hk1]
  rw [← hk1] at h1 h2 h4 hs0 hs1
  obtain ⟨k2, hk2⟩ : ∃ k2, k2 = k1 + 1 := ⟨_, rfl⟩
  rw [← hk2]
  rw [← hk2] at h2
  obtain ⟨k4, hk4⟩ : ∃ k4, k4 = k2 + 1 := ⟨_, rfl⟩
  rw [← hk4]
  rw [show k1 + 2 = k4 by omega] at h4
  have H1 : Hid (Rs w W1 k1 k2 k4 (.slice A ts.length c) 0) := ⟨h1, h4, h2, hx, by omega, by omega, by omega, by omega, by omega, by omega⟩
  clear hW hs0 hs1 h1 h2 h4 hx hk1 hk2 hk4
  have NX : Hid (∀ (V : World) (i : Nat) (p : ByteArray), p.size ≤ 2 → i ≤ ts.length → Rs w V k1 k2 k4 (.slice A ts.length c) i → Calls Tryd.prog 23 #[.string p, .pointer (some ⟨k4, 0, none⟩), .pointer (some ⟨k1, 0, none⟩)] V (NextPost V k4 ts i p)) := fun V i p hp hi h =>
    rnext_any p hp (HV.out.below h.2.2.2.1 (Nat.le_refl _)) h.1 h.2.1 (by omega) h.2.2.2.2.2.2.1 h.2.2.2.1.size h.2.2.2.2.2.2.2.2.1 (by omega)
  have WD : Hid (∀ (V : World) (i : Nat) (b : Bool) (S : Tx), Rs w V k1 k2 k4 (.slice A ts.length c) i → At ts i b S → Calls Tryd.prog 22 #[.pointer (some ⟨k1, 0, none⟩), .pointer (some ⟨k4, 0, none⟩)] V fun e w' => ∃ i' b', e = .returned (.string (bx (wordOf S))) ∧ Rs w w' k1 k2 k4 (.slice A ts.length c) i' ∧ At ts i' b' (wordRest S) ∧ (wordOf S ≠ [] → b' = wordBl S) ∧ i ≤ i' ∧ V.grownBy w' (some k4)) := fun V i b S h ha =>
    (rword_any (HV.out.below h.2.2.2.1 (Nat.le_refl _)) h.1 h.2.1 ha h.2.2.2.2.2.2.1 h.2.2.2.1.size h.2.2.2.2.2.2.2.2.1).mono fun e w' ⟨i', b', h1, h2, h3, h4, h5, h6⟩ => ⟨i', b', h1, h.go h2 h6, h3, h4, h5, h6⟩
  have EN : Hid (∀ (V : World) (i : Nat) (b : Bool) (S : Tx), Rs w V k1 k2 k4 (.slice A ts.length c) i → At ts i b S → Calls Tryd.prog 24 #[.slice A ts.length c, .int .i64 (i : Int)] V fun e w' => e = .returned (.int .i64 (endI S i)) ∧ w' = V) := fun V i b S h ha =>
    end_any (HV.out.below h.2.2.2.1 (Nat.le_refl _)) ha
  have C1 := Lib.hid (NX.out W1 0 ⟨#[33]⟩ (by decide) (Nat.zero_le _) H1.out)
  have hall : allAt ts 0 ⟨#[33]⟩ = false := by
    rw [all_1 HA.out (by decide)]
    unfold headIs
    cases hs : skip s with
    | nil => rfl
    | cons x r =>
      simp only
      rw [beq_eq_false_iff_ne]
      exact fun e => H33.out r (by rw [hs, e])
  have HPT : Hid (partS s = tailS (wordOf s) (wordBl s) (wordRest s)) := part_tail H33.out
  unfold NextPost at C1
  rw [hall] at C1
  clear hall
  go_wp2_with fail
  refine Calls.mono C1.out ?_
  rintro e w2 ⟨rfl, hn2, hg2⟩
  have H2 : Hid (Rs w w2 k1 k2 k4 (.slice A ts.length c) 0) := H1.out.go hn2 hg2
  clear hn2 hg2 C1
  go_upto_region 9 with fail
  obtain ⟨W3, hW⟩ : ∃ W, W = w2.alloc (.cells #[.string ⟨#[]⟩, .int .i64 3, .slice none 0 0] reqT) := ⟨_, rfl⟩
  obtain ⟨k8, hk8⟩ : ∃ k, k = w2.heap.size := ⟨_, rfl⟩
  rw [← hW, ← hk8]
  have H3 : Hid (Rp w W3 k1 k2 k4 (.slice A ts.length c) 0 k8 ⟨#[]⟩ 3 none 0 0) := by
    have hx : Ext w2 W3 := by rw [hW]; exact new_ext _ _
    have hb : BoxQ W3 k8 ⟨#[]⟩ 3 none 0 0 := by unfold BoxQ; rw [hW]; exact heap_new hk8
    have a1 := heap_lt (show w2.heap[k1]? = _ from H2.out.1)
    have a2 := heap_lt (show w2.heap[k2]? = _ from H2.out.2.2.1)
    have a4 := heap_lt (show w2.heap[k4]? = _ from H2.out.2.1)
    exact ⟨H2.out.ext hx, hb, by rw [hk8]; exact H2.out.2.2.2.1.size, by omega, by omega, by omega⟩
  clear hW hk8 H2
  have CW := Lib.hid (WD.out W3 0 b s H3.out.1 HA.out)
  go_wp2_with fail
  refine Calls.mono CW.out ?_
  rintro e w4 ⟨i1, b1, rfl, hR4, hA4, hb1, _, hg4⟩
  have H4 : Hid (Rp w w4 k1 k2 k4 (.slice A ts.length c) i1 k8 ⟨#[]⟩ 3 none 0 0 ∧ At ts i1 b1 (wordRest s) ∧ (wordOf s ≠ [] → b1 = wordBl s)) := ⟨H3.out.go hR4 hg4, hA4, hb1⟩
  clear hR4 hA4 hg4 CW hb1 H3
  obtain ⟨k, hk⟩ : ∃ k, k = wordOf s := ⟨_, rfl⟩
  obtain ⟨S3, hS3⟩ : ∃ S3, S3 = wordRest s := ⟨_, rfl⟩
  obtain ⟨bl, hbl⟩ : ∃ bl, bl = wordBl s := ⟨_, rfl⟩
  have HCC := HC.out
  rw [← hS3] at HCC
  have HC := Lib.hid HCC
  clear HCC
  have HS3 : Hid (S3 = x :: q0) := by rw [hS3]; exact HW3.out
  have HBL : Hid (bl = true ∧ k ≠ []) := by rw [hbl, hk]; exact word_after HW3.out HXW.out
  have HSK : Hid (skip S3 = S3) := by rw [hS3]; exact skip_skip _
  rw [← hk, ← hbl, ← hS3] at HPT
  rw [← hk, ← hbl, ← hS3] at H4
  rw [← hk]
  clear hk hS3 hbl
  obtain ⟨y0, y1, y2⟩ := H4.out.1.2.1.cells
  have f0 := H4.out.1.2.1.free 0
  obtain ⟨W5, hW5⟩ : ∃ W5, W5 = w4.setCell ⟨k8, 0, none⟩ (.string (bx k)) := ⟨_, rfl⟩
  have H5 : Hid (Rp w W5 k1 k2 k4 (.slice A ts.length c) i1 k8 (bx k) 3 none 0 0 ∧ i1 ≤ ts.length) := by
    rw [hW5]
    exact ⟨H4.out.1.setK _, Nat.le_of_lt H4.out.2.1.lt⟩
  have e5 := hW5.symm
  clear hW5
  go_upto_region 10 with fail
  clear e5 y0 y1 y2 f0
  have HX61 : Hid ((x == 61) = false) := by unfold Hid; rw [beq_eq_false_iff_ne]; exact fun e => by have := HXW.out; rw [e] at this; revert this; decide
  have HX33 : Hid ((x == 33) = false) := by unfold Hid; rw [beq_eq_false_iff_ne]; exact fun e => by have := HXW.out; rw [e] at this; revert this; decide
  have HX44 : Hid (x ≠ 44) := fun e => by have := HXW.out; rw [e] at this; revert this; decide
  have C2 := Lib.hid (NX.out W5 i1 ⟨#[61, 61]⟩ (by decide) H5.out.2 H5.out.1.1)
  have hall : allAt ts i1 ⟨#[61, 61]⟩ = false := by
    rw [all_2 (c := 61) (d := 61) H4.out.2.1 (by decide) (by decide) (by decide) (by decide) (by decide), HSK.out, HS3.out]
    show ((x == 61) && _) = false
    rw [HX61.out]; exact Bool.false_and _
  unfold NextPost at C2
  rw [hall] at C2
  clear hall
  go_wp2_with fail
  refine Calls.mono C2.out ?_
  rintro e w55 ⟨rfl, hn, hg⟩
  have H55 : Hid (Rp w w55 k1 k2 k4 (.slice A ts.length c) i1 k8 (bx k) 3 none 0 0) := H5.out.1.go (H5.out.1.1.go hn hg) hg
  clear hn hg C2
  have C1 := Lib.hid (NX.out w55 i1 ⟨#[61]⟩ (by decide) H5.out.2 H55.out.1)
  have hall : allAt ts i1 ⟨#[61]⟩ = false := by
    rw [all_1 (c := 61) H4.out.2.1 (by decide), HSK.out, HS3.out]
    show (x == 61) = false
    rw [HX61.out]
  unfold NextPost at C1
  rw [hall] at C1
  clear hall
  go_wp2_with fail
  refine Calls.mono C1.out ?_
  rintro e w56 ⟨rfl, hn, hg⟩
  have H56 : Hid (Rp w w56 k1 k2 k4 (.slice A ts.length c) i1 k8 (bx k) 3 none 0 0) := H55.out.go (H55.out.1.go hn hg) hg
  clear hn hg C1
  have C3 := Lib.hid (NX.out w56 i1 ⟨#[33, 61]⟩ (by decide) H5.out.2 H56.out.1)
  have hall : allAt ts i1 ⟨#[33, 61]⟩ = false := by
    rw [all_2 (c := 33) (d := 61) H4.out.2.1 (by decide) (by decide) (by decide) (by decide) (by decide), HSK.out, HS3.out]
    show ((x == 33) && _) = false
    rw [HX33.out]; exact Bool.false_and _
  unfold NextPost at C3
  rw [hall] at C3
  clear hall
  go_wp2_with fail
  refine Calls.mono C3.out ?_
  rintro e w57 ⟨rfl, hn, hg⟩
  have H57 : Hid (Rp w w57 k1 k2 k4 (.slice A ts.length c) i1 k8 (bx k) 3 none 0 0) := H56.out.go (H56.out.1.go hn hg) hg
  clear hn hg C3
  have HPC : Hid (partS s = choiceS k S3) := by
    unfold Hid
    rw [HPT.out, HS3.out, tail_else k bl HX44.out (fun e => by have := HX61.out; rw [e] at this; revert this; decide) (fun e => by have := HX33.out; rw [e.1] at this; revert this; decide), HBL.out.1, if_pos rfl]
  have HW0 : Hid (At ts i1 true S3) := by have h := H4.out.2.1; rw [H4.out.2.2 HBL.out.2, HBL.out.1] at h; exact h
  obtain ⟨hi, hti, _⟩ := HW0.out.word (by rw [HSK.out]; exact HS3.out) HXW.out
  obtain ⟨bb, off, hA, _, t0, t1, t2⟩ := (HV.out.below H57.out.1.2.2.2.1 (Nat.le_refl _)).at_ hi
  rw [hti] at t0 t1 t2
  simp only [Bool.true_or] at t0 t1 t2
  obtain ⟨wd, hwd⟩ : ∃ wd, wd = wordOf S3 := ⟨_, rfl⟩
  rw [← hwd] at t0
  have HWD := Lib.hid hwd
  have hiI : (i1 : Int) < (ts.length : Int) := by omega
  have hi0 : (0 : Int) ≤ (i1 : Int) := by omega
  have l0 := H57.out.1.1.cell
  have n0 := H57.out.1.2.1.cell
  subst hA
  have tin : ((bx wd).toList == [105, 110]) = decide (wd = inT) := bx_eq _ _
  have tno : ((bx wd).toList == [110, 111, 116, 105, 110]) = decide (wd = notinT) := bx_eq _ _
  clear hti hwd hi
  have hn : wd ≠ inT ∧ wd ≠ notinT := by rw [HWD.out]; exact HC.out
  · rw [decide_eq_false hn.1] at tin
    rw [decide_eq_false hn.2] at tno
    have HF : Hid (partS s = none ∧ sepAt S3 = false) := ⟨by rw [HPC.out]; exact choice_other (by rw [← HWD.out]; exact hn.1) (by rw [← HWD.out]; exact hn.2), by unfold sepAt; rw [HSK.out, HS3.out]; simp only; rw [beq_eq_false_iff_ne]; exact HX44.out⟩
    clear hn
    go_upto_region 27 with fail
    clear l0 n0 t0 t1 t2 hiI hi0 tin tno
    have CE : Hid (∀ wk, Ext w57 wk → Calls Tryd.prog 24 #[.slice (some ⟨bb, off, none⟩) ts.length c, .int .i64 ((i1 : Nat) : Int)] wk fun e w' => e = .returned (.int .i64 (-1)) ∧ w' = wk) := fun wk hk => by have := EN.out wk i1 true S3 (H57.out.1.ext hk) HW0.out; rw [endI_no HF.out.2] at this; exact this
    obtain ⟨y0, y1, y2⟩ := H57.out.2.1.cells
    obtain ⟨x0, x1, x2⟩ := H57.out.1.2.2.1.cells
    have l0 := H57.out.1.1.cell
    have n0 := H57.out.1.2.1.cell
    have g0 := H57.out.1.2.2.1.free 0
    have g1 := H57.out.1.2.2.1.free 1
    have g2 := H57.out.1.2.2.1.free 2
    have hxx : Ext w57 w57 := Below.refl _ _
    go_region_law (go_simp; go_at_call 24; with_reducible refine (CE.out _ (by first | assumption | exact hxx.drew)).mono ?_; rintro e w' ⟨rfl, rfl⟩)
    all_goals
      go_wp2_with fail
      refine bodyPost_ret (results_s rfl _ _ k2 rfl (show BoxQ (World.drew _) k2 _ _ _ _ _ from (H57.out.1.put (key := bx k) (kd := 3) (A := none) (n := 0) (c := 0)).1)) rfl ?_
      exact rq_bad ((H57.out.1.put (key := bx k) (kd := 3) (A := none) (n := 0) (c := 0)).2.drew) (.inl HF.out.1)
end Go.Proofs.YtfggodnfliciiaaDoor.Rd
