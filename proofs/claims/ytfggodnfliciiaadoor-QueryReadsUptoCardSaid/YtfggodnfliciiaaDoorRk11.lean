/-
  The reference's reqOf where the word notin stands behind the key (printed by gen/rk9.py).
-/
import Derived.Test.YtfggodnfliciiaaDoorRk9
namespace Go.Proofs.YtfggodnfliciiaaDoor.Rd
open Go Go.RowKit Go.Proofs.YtfggodnfliciiaaDoor.Sx

set_option maxRecDepth 100000 in
set_option maxHeartbeats 8000000 in
theorem reqOf_notin {w : World} {A : Option Addr} {c : Nat} {ts : List Tok} {b : Bool} {s : Tx} (h : SgR w.heap.size w (.slice A ts.length c) ts) (ha : At ts 0 b s) (hts : ts.length ≤ 301) (h33 : ∀ r, skip s ≠ 33 :: r) {x : UInt8} {q0 : Tx} (hw3 : wordRest s = x :: q0) (hxw : isW x = true) (hc : wordOf (wordRest s) = notinT) :
    Calls Tryd.prog 14 #[.slice A ts.length c] w (RqPost w ts s) := by
  have HV := Lib.hid h
  have HA := Lib.hid ha
  have H33 := Lib.hid h33
  have HW3 := Lib.hid hw3
  have HXW := Lib.hid hxw
  have HC := Lib.hid hc
  clear h ha h33 hw3 hxw hc
  go_enter Tryd.func14, Tryd.ntmps14
  go_upto_region 4 with fail
  obtain ⟨W1, hW⟩ : ∃ W, W = ((w.alloc (.cells #[.slice A ts.length c] sgsT)).alloc (.cells #[.string ⟨#[]⟩, .int .i64 0, .slice none 0 0] reqT)).alloc (.cells #[.int .i64 0] 3) := ⟨_, rfl⟩
  have hs0 : (w.alloc (.cells #[.slice A ts.length c] sgsT)).heap.size = w.heap.size + 1 := by simp
  have hs1 : ((w.alloc (.cells #[.slice A ts.length c] sgsT)).alloc (.cells #[.string ⟨#[]⟩, .int .i64 0, .slice none 0 0] reqT)).heap.size = w.heap.size + 2 := by simp
  have h1 : LIn W1 w.heap.size (.slice A ts.length c) := by
    unfold LIn
    rw [hW, Below.heap_alloc _ _ _ (by omega), Below.heap_alloc _ _ _ (by omega)]
    exact heap_new rfl
  have h2 : BoxQ W1 (w.heap.size + 1) ⟨#[]⟩ 0 none 0 0 := by
    unfold BoxQ
    rw [hW, Below.heap_alloc _ _ _ (by omega)]
    exact heap_new hs0.symm
  have h4 : NIn W1 (w.heap.size + 2) 0 := by
    unfold NIn
    rw [hW]
    exact heap_new hs1.symm
  have hx : Ext w W1 := by rw [hW]; exact ((new_ext _ _).trans (new_ext _ _)).trans (new_ext _ _)
  rw [← hW]
  obtain ⟨k1, hk1⟩ : ∃ k1, k1 = w.heap.size := ⟨_, rfl⟩
  rw [← hk1]
  rw [← hk1] at h1 h2 h4 hs0 hs1
  obtain ⟨k2, hk2⟩ : ∃ k2, k2 = k1 + 1 := ⟨_, rfl⟩
  rw [← hk2]
  rw [← hk2] at h2
  obtain ⟨k4, hk4⟩ : ∃ k4, k4 = k2 + 1 := ⟨_, rfl⟩
  rw [← hk4]
  rw [show k1 + 2 = k4 by omega] at h4
  have H1 : Hid (Rs w W1 k1 k2 k4 (.slice A ts.length c) 0) := ⟨h1, h4, h2, hx, by omega, by omega, by omega, by omega, by omega, by omega⟩
  clear hW hs0 hs1 h1 h2 h4 hx hk1 hk2 hk4
  have NX : Hid (∀ (V : World) (i : Nat) (p : ByteArray), p.size ≤ 2 → i ≤ ts.length → Rs w V k1 k2 k4 (.slice A ts.length c) i → Calls Tryd.prog 23 #[.string p, .pointer (some ⟨k4, 0, none⟩), .pointer (some ⟨k1, 0, none⟩)] V (NextPost V k4 ts i p)) := fun V i p hp hi h =>
    rnext_any p hp (HV.out.below h.2.2.2.1 (Nat.le_refl _)) h.1 h.2.1 (by omega) h.2.2.2.2.2.2.1 h.2.2.2.1.size h.2.2.2.2.2.2.2.2.1 (by omega)
  have WD : Hid (∀ (V : World) (i : Nat) (b : Bool) (S : Tx), Rs w V k1 k2 k4 (.slice A ts.length c) i → At ts i b S → Calls Tryd.prog 22 #[.pointer (some ⟨k1, 0, none⟩), .pointer (some ⟨k4, 0, none⟩)] V fun e w' => ∃ i' b', e = .returned (.string (bx (wordOf S))) ∧ Rs w w' k1 k2 k4 (.slice A ts.length c) i' ∧ At ts i' b' (wordRest S) ∧ (wordOf S ≠ [] → b' = wordBl S) ∧ i ≤ i' ∧ V.grownBy w' (some k4)) := fun V i b S h ha =>
    (rword_any (HV.out.below h.2.2.2.1 (Nat.le_refl _)) h.1 h.2.1 ha h.2.2.2.2.2.2.1 h.2.2.2.1.size h.2.2.2.2.2.2.2.2.1).mono fun e w' ⟨i', b', h1, h2, h3, h4, h5, h6⟩ => ⟨i', b', h1, h.go h2 h6, h3, h4, h5, h6⟩
  have EN : Hid (∀ (V : World) (i : Nat) (b : Bool) (S : Tx), Rs w V k1 k2 k4 (.slice A ts.length c) i → At ts i b S → Calls Tryd.prog 24 #[.slice A ts.length c, .int .i64 (i : Int)] V fun e w' => e = .returned (.int .i64 (endI S i)) ∧ w' = V) := fun V i b S h ha =>
    end_any (HV.out.below h.2.2.2.1 (Nat.le_refl _)) ha
  have C1 := Lib.hid (NX.out W1 0 ⟨#[33]⟩ (by decide) (Nat.zero_le _) H1.out)
  have hall : allAt ts 0 ⟨#[33]⟩ = false := by
    rw [all_1 HA.out (by decide)]
    unfold headIs
    cases hs : skip s with
    | nil => rfl
    | cons x r =>
      simp only
      rw [beq_eq_false_iff_ne]
      exact fun e => H33.out r (by rw [hs, e])
  have HPT : Hid (partS s = tailS (wordOf s) (wordBl s) (wordRest s)) := part_tail H33.out
  unfold NextPost at C1
  rw [hall] at C1
  clear hall
  go_wp2_with fail
  refine Calls.mono C1.out ?_
  rintro e w2 ⟨rfl, hn2, hg2⟩
  have H2 : Hid (Rs w w2 k1 k2 k4 (.slice A ts.length c) 0) := H1.out.go hn2 hg2
  clear hn2 hg2 C1
  go_upto_region 9 with fail
  obtain ⟨W3, hW⟩ : ∃ W, W = w2.alloc (.cells #[.string ⟨#[]⟩, .int .i64 3, .slice none 0 0] reqT) := ⟨_, rfl⟩
  obtain ⟨k8, hk8⟩ : ∃ k, k = w2.heap.size := ⟨_, rfl⟩
  rw [← hW, ← hk8]
  have H3 : Hid (Rp w W3 k1 k2 k4 (.slice A ts.length c) 0 k8 ⟨#[]⟩ 3 none 0 0) := by
    have hx : Ext w2 W3 := by rw [hW]; exact new_ext _ _
    have hb : BoxQ W3 k8 ⟨#[]⟩ 3 none 0 0 := by unfold BoxQ; rw [hW]; exact heap_new hk8
    have a1 := heap_lt (show w2.heap[k1]? = _ from H2.out.1)
    have a2 := heap_lt (show w2.heap[k2]? = _ from H2.out.2.2.1)
    have a4 := heap_lt (show w2.heap[k4]? = _ from H2.out.2.1)
    exact ⟨H2.out.ext hx, hb, by rw [hk8]; exact H2.out.2.2.2.1.size, by omega, by omega, by omega⟩
  clear hW hk8 H2
  have CW := Lib.hid (WD.out W3 0 b s H3.out.1 HA.out)
  go_wp2_with fail
  refine Calls.mono CW.out ?_
  rintro e w4 ⟨i1, b1, rfl, hR4, hA4, hb1, _, hg4⟩
  have H4 : Hid (Rp w w4 k1 k2 k4 (.slice A ts.length c) i1 k8 ⟨#[]⟩ 3 none 0 0 ∧ At ts i1 b1 (wordRest s) ∧ (wordOf s ≠ [] → b1 = wordBl s)) := ⟨H3.out.go hR4 hg4, hA4, hb1⟩
  clear hR4 hA4 hg4 CW hb1 H3
  obtain ⟨k, hk⟩ : ∃ k, k = wordOf s := ⟨_, rfl⟩
  obtain ⟨S3, hS3⟩ : ∃ S3, S3 = wordRest s := ⟨_, rfl⟩
  obtain ⟨bl, hbl⟩ : ∃ bl, bl = wordBl s := ⟨_, rfl⟩
  have HCC := HC.out
  rw [← hS3] at HCC
  have HC := Lib.hid HCC
  clear HCC
  have HS3 : Hid (S3 = x :: q0) := by rw [hS3]; exact HW3.out
  have HBL : Hid (bl = true ∧ k ≠ []) := by rw [hbl, hk]; exact word_after HW3.out HXW.out
  have HSK : Hid (skip S3 = S3) := by rw [hS3]; exact skip_skip _
  rw [← hk, ← hbl, ← hS3] at HPT
  rw [← hk, ← hbl, ← hS3] at H4
  rw [← hk]
  clear hk hS3 hbl
  obtain ⟨y0, y1, y2⟩ := H4.out.1.2.1.cells
  have f0 := H4.out.1.2.1.free 0
  obtain ⟨W5, hW5⟩ : ∃ W5, W5 = w4.setCell ⟨k8, 0, none⟩ (.string (bx k)) := ⟨_, rfl⟩
  have H5 : Hid (Rp w W5 k1 k2 k4 (.slice A ts.length c) i1 k8 (bx k) 3 none 0 0 ∧ i1 ≤ ts.length) := by
    rw [hW5]
    exact ⟨H4.out.1.setK _, Nat.le_of_lt H4.out.2.1.lt⟩
  have e5 := hW5.symm
  clear hW5
  go_upto_region 10 with fail
  clear e5 y0 y1 y2 f0
  have HX61 : Hid ((x == 61) = false) := by unfold Hid; rw [beq_eq_false_iff_ne]; exact fun e => by have := HXW.out; rw [e] at this; revert this; decide
  have HX33 : Hid ((x == 33) = false) := by unfold Hid; rw [beq_eq_false_iff_ne]; exact fun e => by have := HXW.out; rw [e] at this; revert this; decide
  have HX44 : Hid (x ≠ 44) := fun e => by have := HXW.out; rw [e] at this; revert this; decide
  have C2 := Lib.hid (NX.out W5 i1 ⟨#[61, 61]⟩ (by decide) H5.out.2 H5.out.1.1)
  have hall : allAt ts i1 ⟨#[61, 61]⟩ = false := by
    rw [all_2 (c := 61) (d := 61) H4.out.2.1 (by decide) (by decide) (by decide) (by decide) (by decide), HSK.out, HS3.out]
    show ((x == 61) && _) = false
    rw [HX61.out]; exact Bool.false_and _
  unfold NextPost at C2
  rw [hall] at C2
  clear hall
  go_wp2_with fail
  refine Calls.mono C2.out ?_
  rintro e w55 ⟨rfl, hn, hg⟩
  have H55 : Hid (Rp w w55 k1 k2 k4 (.slice A ts.length c) i1 k8 (bx k) 3 none 0 0) := H5.out.1.go (H5.out.1.1.go hn hg) hg
  clear hn hg C2
  have C1 := Lib.hid (NX.out w55 i1 ⟨#[61]⟩ (by decide) H5.out.2 H55.out.1)
  have hall : allAt ts i1 ⟨#[61]⟩ = false := by
    rw [all_1 (c := 61) H4.out.2.1 (by decide), HSK.out, HS3.out]
    show (x == 61) = false
    rw [HX61.out]
  unfold NextPost at C1
  rw [hall] at C1
  clear hall
  go_wp2_with fail
  refine Calls.mono C1.out ?_
  rintro e w56 ⟨rfl, hn, hg⟩
  have H56 : Hid (Rp w w56 k1 k2 k4 (.slice A ts.length c) i1 k8 (bx k) 3 none 0 0) := H55.out.go (H55.out.1.go hn hg) hg
  clear hn hg C1
  have C3 := Lib.hid (NX.out w56 i1 ⟨#[33, 61]⟩ (by decide) H5.out.2 H56.out.1)
  have hall : allAt ts i1 ⟨#[33, 61]⟩ = false := by
    rw [all_2 (c := 33) (d := 61) H4.out.2.1 (by decide) (by decide) (by decide) (by decide) (by decide), HSK.out, HS3.out]
    show ((x == 33) && _) = false
    rw [HX33.out]; exact Bool.false_and _
  unfold NextPost at C3
  rw [hall] at C3
  clear hall
  go_wp2_with fail
  refine Calls.mono C3.out ?_
  rintro e w57 ⟨rfl, hn, hg⟩
  have H57 : Hid (Rp w w57 k1 k2 k4 (.slice A ts.length c) i1 k8 (bx k) 3 none 0 0) := H56.out.go (H56.out.1.go hn hg) hg
  clear hn hg C3
  have HPC : Hid (partS s = choiceS k S3) := by
    unfold Hid
    rw [HPT.out, HS3.out, tail_else k bl HX44.out (fun e => by have := HX61.out; rw [e] at this; revert this; decide) (fun e => by have := HX33.out; rw [e.1] at this; revert this; decide), HBL.out.1, if_pos rfl]
  have HW0 : Hid (At ts i1 true S3) := by have h := H4.out.2.1; rw [H4.out.2.2 HBL.out.2, HBL.out.1] at h; exact h
  obtain ⟨hi, hti, _⟩ := HW0.out.word (by rw [HSK.out]; exact HS3.out) HXW.out
  obtain ⟨bb, off, hA, _, t0, t1, t2⟩ := (HV.out.below H57.out.1.2.2.2.1 (Nat.le_refl _)).at_ hi
  rw [hti] at t0 t1 t2
  simp only [Bool.true_or] at t0 t1 t2
  obtain ⟨wd, hwd⟩ : ∃ wd, wd = wordOf S3 := ⟨_, rfl⟩
  rw [← hwd] at t0
  have HWD := Lib.hid hwd
  have hiI : (i1 : Int) < (ts.length : Int) := by omega
  have hi0 : (0 : Int) ≤ (i1 : Int) := by omega
  have l0 := H57.out.1.1.cell
  have n0 := H57.out.1.2.1.cell
  subst hA
  have tin : ((bx wd).toList == [105, 110]) = decide (wd = inT) := bx_eq _ _
  have tno : ((bx wd).toList == [110, 111, 116, 105, 110]) = decide (wd = notinT) := bx_eq _ _
  clear hti hwd hi
  have hno : wd = notinT := HWD.out.trans HC.out
  have hin : ¬ wd = inT := by rw [hno]; decide
  · have f1 := H57.out.2.1.free 1
    obtain ⟨y0, y1, y2⟩ := H57.out.2.1.cells
    obtain ⟨W7, hW7⟩ : ∃ W7, W7 = w57.setCell ⟨k8, 1, none⟩ (.int .i64 1) := ⟨_, rfl⟩
    have H7 : Hid (Rp w W7 k1 k2 k4 (.slice (some ⟨bb, off, none⟩) ts.length c) i1 k8 (bx k) 1 none 0 0) := by rw [hW7]; exact H57.out.kind 1
    have e7 := hW7.symm
    clear hW7
    have CW := Lib.hid (WD.out W7 i1 true S3 H7.out.1 HW0.out)
    rw [← HWD.out] at CW
    have HPD : Hid (partS s = (listAll (wordRest S3)).map fun p => (⟨k, 2, p.1⟩, p.2)) := by
      unfold Hid
      rw [HPC.out, choice_list (.inr (HWD.out.symm.trans hno)), ← HWD.out]
      rw [if_neg hin]
    rw [decide_eq_false hin] at tin
    rw [decide_eq_true hno] at tno
    clear hno hin
    go_upto_region 19 with fail
    clear e7 y0 y1 y2 f1 l0 n0 t0 t1 t2
    go_wp2_with fail
    refine Calls.mono CW.out ?_
    rintro e w8 ⟨m8, b9, rfl, hR8, hA8, _, _, hg8⟩
    have H8 : Hid (Lq w w8 k1 k2 k4 (.slice (some ⟨bb, off, none⟩) ts.length c) m8 k8 (bx k) 1 none 0 0 [] ∧ At ts m8 b9 (wordRest S3)) := ⟨⟨H7.out.go hR8 hg8, rfl, SRow.nil, Away.nil⟩, hA8⟩
    clear hR8 hA8 hg8 CW
    have f1 := H8.out.1.1.2.1.free 1
    obtain ⟨y0, y1, y2⟩ := H8.out.1.1.2.1.cells
    obtain ⟨W9, hW9⟩ : ∃ W9, W9 = w8.setCell ⟨k8, 1, none⟩ (.int .i64 2) := ⟨_, rfl⟩
    have H9 : Hid (Lq w W9 k1 k2 k4 (.slice (some ⟨bb, off, none⟩) ts.length c) m8 k8 (bx k) 2 none 0 0 [] ∧ At ts m8 b9 (wordRest S3)) := by rw [hW9]; exact ⟨⟨H8.out.1.1.kind 2, rfl, SRow.nil, Away.nil⟩, H8.out.2⟩
    have e9 := hW9.symm
    clear hW9
    go_upto_region 21 with fail
    clear e9 y0 y1 y2 f1 H8 tin tno
    obtain ⟨S4, hS4⟩ : ∃ S4, S4 = wordRest S3 := ⟨_, rfl⟩
    have HS4 : Hid (skip S4 = S4) := by rw [hS4]; exact skip_skip _
    rw [← hS4] at H9 HPD
    clear hS4
    have C1 := Lib.hid (NX.out W9 m8 ⟨#[40]⟩ (by decide) (Nat.le_of_lt H9.out.2.lt) H9.out.1.1.1)
    have h1 := all_1 (c := 40) H9.out.2 (by decide)
    rw [HS4.out] at h1
    by_cases h40 : ∃ r, S4 = 40 :: r
    · obtain ⟨S5, hr⟩ := h40
      have HAT : Hid (At ts (m8 + 1) false S5) := (H9.out.2.sign (by rw [HS4.out]; exact hr) (by decide)).2.2
      have HPL : Hid (partS s = (listS S5 []).map fun p => (⟨k, 2, p.1⟩, p.2)) := by
        unfold Hid
        rw [HPD.out]
        unfold listAll
        rw [HS4.out, hr]
        simp only [if_true]
      have hall : allAt ts m8 ⟨#[40]⟩ = true := by rw [h1, hr]; rfl
      unfold NextPost at C1
      rw [hall] at C1
      clear hr hall h1 HPD
      go_wp2_with fail
      refine Calls.mono C1.out ?_
      rintro e wa ⟨rfl, hna, hga⟩
      have Ha : Hid (Lq w wa k1 k2 k4 (.slice (some ⟨bb, off, none⟩) ts.length c) (m8 + 1) k8 (bx k) 2 none 0 0 []) := H9.out.1.go (H9.out.1.1.1.go hna hga) hga
      clear hna hga C1
      go_wp2_with fail
      go_loopw [99] (fun _ wr => ∃ (acc : List Tx) (n i : Nat) (A2 : Option Addr) (c2 : Nat) (b2 : Bool) (S : Tx), Hid (Lq w wr k1 k2 k4 (.slice (some ⟨bb, off, none⟩) ts.length c) i k8 (bx k) 2 A2 n c2 acc ∧ At ts i b2 S ∧ listS S5 [] = listS S acc ∧ n ≤ i)) (fun _ wr => ts.length - nAt wr k4)
      case atStart => exact ⟨[], 0, m8 + 1, none, 0, false, S5, Ha.out, HAT.out, rfl, Nat.zero_le _⟩
      case round =>
        obtain ⟨acc, n, i, A2, c2, b2, S, hR⟩ := hrel
        have hil := hR.out.2.1.lt
        have hni : n ≤ 301 := by have := hR.out.2.2.2; omega
        have CW : Hid (∀ wk, Ext wr wk → Calls Tryd.prog 22 #[.pointer (some ⟨k1, 0, none⟩), .pointer (some ⟨k4, 0, none⟩)] wk fun e w' => ∃ i' b', e = .returned (.string (bx (wordOf S))) ∧ Hid (Lq w w' k1 k2 k4 (.slice (some ⟨bb, off, none⟩) ts.length c) i' k8 (bx k) 2 A2 n c2 acc ∧ At ts i' b' (wordRest S) ∧ i ≤ i') ∧ w'.cell? ⟨k8, 2, none⟩ = some (.slice A2 n c2) ∧ w'.frozen? ⟨k8, 2, none⟩ = false ∧ k8 < w'.heap.size) := fun wk hk =>
          (WD.out wk i b2 S (hR.out.1.1.ext hk).1 hR.out.2.1).mono fun e w' ⟨i', b', h1, h2, h3, _, h5, h6⟩ => ⟨i', b', h1, ⟨(hR.out.1.ext hk).go h2 h6, h3, h5⟩, ((hR.out.1.ext hk).go h2 h6).1.2.1.cells.2.2, ((hR.out.1.ext hk).go h2 h6).1.2.1.free 2, heap_lt (show w'.heap[k8]? = _ from ((hR.out.1.ext hk).go h2 h6).1.2.1)⟩
        obtain ⟨wd2, hwd2⟩ : ∃ wd2, wd2 = wordOf S := ⟨_, rfl⟩
        obtain ⟨S6, hS6⟩ : ∃ S6, S6 = wordRest S := ⟨_, rfl⟩
        have HSK6 : Hid (skip S6 = S6) := by rw [hS6]; exact skip_skip _
        rw [← hwd2, ← hS6] at CW
        have HWD2 := Lib.hid hwd2
        have HS6 := Lib.hid hS6
        clear hwd2 hS6 hil
        obtain ⟨y0, y1, y2⟩ := hR.out.1.1.2.1.cells
        have f2 := hR.out.1.1.2.1.free 2
        have hxx : Ext wr wr := Below.refl _ _
        go_wp2_with fail
        go_region_law (first
          | (go_simp; go_at_call 22; with_reducible refine (CW.out _ (by first | assumption | exact hxx.drew)).mono ?_; rintro e w5 ⟨i5, b5, rfl, H5b, z2, z3, z4⟩)
          | (refine step_append_srs rfl _ _ (by rfl) w.heap.size n 1 _ _ _ (acc.map bx) [bx wd2] (by rfl) (by rfl) (H5b.out.1.src _).1 (strSrc_one (heap_new rfl)) (H5b.out.1.src (.cells #[] 0)).2.1 rfl (by omega) (by omega) (H5b.out.1.src _).2.2 ?_; intro A9 c9 w9 j1 j2 j3; obtain ⟨HL9, f9, g9⟩ := H5b.out.1.app j1 j2 j3; clear j1 j2 j3))
        all_goals
          obtain ⟨W10, hW10⟩ : ∃ W10, W10 = w9.setCell ⟨k8, 2, none⟩ (.slice A9 (n + 1) c9) := ⟨_, rfl⟩
          rw [← hW10] at HL9
          go_wp2_with fail
          rw [← hW10]
          clear hW10 z2 z3 z4 f9 g9 y0 y1 y2 f2
          have CN := Lib.hid (NX.out W10 i5 ⟨#[41]⟩ (by decide) (Nat.le_of_lt H5b.out.2.1.lt) HL9.out.1.1)
          have h41 := all_1 (c := 41) H5b.out.2.1 (by decide)
          rw [HSK6.out] at h41
          have HLS : Hid (listS S5 [] = listS S acc) := hR.out.2.2.1
          have hiB : i5 < ts.length := H5b.out.2.1.lt
          by_cases hS41 : ∃ q, S6 = 41 :: q
          · obtain ⟨q, hq⟩ := hS41
            have hall : allAt ts i5 ⟨#[41]⟩ = true := by rw [h41, hq]; rfl
            have HPS : Hid (partS s = some (⟨k, 2, acc ++ [wd2]⟩, skip q)) := by
              unfold Hid
              rw [HPL.out, HLS.out, listS_close (by rw [← HS6.out]; exact hq), ← HWD2.out]
              rfl
            have HA7 : Hid (At ts (i5 + 1) (false || hb q) (skip q)) := ((H5b.out.2.1.sign (by rw [HSK6.out]; exact hq) (by decide)).2.2).skip
            clear hq h41 hiB
            unfold NextPost at CN
            rw [hall] at CN
            clear hall
            go_wp2_with fail
            refine Calls.mono CN.out ?_
            rintro e w11 ⟨rfl, hn, hg⟩
            have Hw11 : Hid (Lq w w11 k1 k2 k4 (.slice (some ⟨bb, off, none⟩) ts.length c) (i5 + 1) k8 (bx k) 2 A9 (n + 1) c9 (acc ++ [wd2])) := HL9.out.go (HL9.out.1.1.go hn hg) hg
            clear hn hg CN

            go_upto_region 27 with fail
            obtain ⟨en, hen⟩ : ∃ en, en = endI (skip q) (i5 + 1) := ⟨_, rfl⟩
            have CE : Hid (∀ wk, Ext w11 wk → Calls Tryd.prog 24 #[.slice (some ⟨bb, off, none⟩) ts.length c, .int .i64 ((i5 + 1 : Nat) : Int)] wk fun e w' => e = .returned (.int .i64 en) ∧ w' = wk) := fun wk hk => by rw [hen]; exact EN.out wk (i5 + 1) _ (skip q) (Hw11.out.1.1.ext hk) HA7.out
            obtain ⟨j, hj⟩ : ∃ j, j = i5 + 1 := ⟨_, rfl⟩
            rw [← hj] at CE hen HA7 Hw11
            clear hj
            obtain ⟨y0, y1, y2⟩ := Hw11.out.1.2.1.cells
            obtain ⟨x0, x1, x2⟩ := Hw11.out.1.1.2.2.1.cells
            have l0 := Hw11.out.1.1.1.cell
            have n0 := Hw11.out.1.1.2.1.cell
            have g0 := Hw11.out.1.1.2.2.1.free 0
            have g1 := Hw11.out.1.1.2.2.1.free 1
            have g2 := Hw11.out.1.1.2.2.1.free 2
            have hxx1 : Ext w11 w11 := Below.refl _ _
            have HEN := Lib.hid hen
            clear hen
            go_region_law (go_simp; go_at_call 24; with_reducible refine (CE.out _ (by first | assumption | exact hxx1.drew)).mono ?_; rintro e w' ⟨rfl, rfl⟩)
            all_goals
              go_wp2_with fail
              refine bodyPost_ret (results_s rfl _ _ k2 rfl (show BoxQ (World.drew _) k2 _ _ _ _ _ from (Hw11.out.1.1.put (key := bx k) (kd := 2) (A := A9) (n := n + 1) (c := c9)).1)) rfl ?_
              exact rq_end (p := ⟨k, 2, acc ++ [wd2]⟩) ((Hw11.out.1.1.put (key := bx k) (kd := 2) (A := A9) (n := n + 1) (c := c9)).2.drew) HPS.out HA7.out (srow_stores Hw11.out.2.2.1 (fun g e => (Hw11.out.2.2.2 g e).2.1)) Hw11.out.2.1.symm HEN.out
          · have hall : allAt ts i5 ⟨#[41]⟩ = false := by
              rw [h41]
              unfold headIs
              cases hS : S6 with
              | nil => rfl
              | cons x r =>
                simp only
                rw [beq_eq_false_iff_ne]
                exact fun e => hS41 ⟨r, by rw [hS, e]⟩
            clear h41
            unfold NextPost at CN
            rw [hall] at CN
            clear hall
            go_wp2_with fail
            refine Calls.mono CN.out ?_
            rintro e w11 ⟨rfl, hn, hg⟩
            have Hw11 : Hid (Lq w w11 k1 k2 k4 (.slice (some ⟨bb, off, none⟩) ts.length c) i5 k8 (bx k) 2 A9 (n + 1) c9 (acc ++ [wd2])) := HL9.out.go (HL9.out.1.1.go hn hg) hg
            clear hn hg CN

            have l0 := Hw11.out.1.1.1.cell
            have n0 := Hw11.out.1.1.2.1.cell
            have b0 : (0 : Int) ≤ (i5 : Int) := by omega
            have b1 : (i5 : Int) < (ts.length : Int) := by omega
            have bw : IntKind.i64.wrap ((ts.length : Int) - 1) = (ts.length : Int) - 1 := IntWalk.i64_in _ (by omega)
            by_cases hnil : S6 = []
            · have te : ((i5 : Int) == (ts.length : Int) - 1) = true := by
                obtain ⟨_, _, h3⟩ := H5b.out.2.1.end_ (by rw [HSK6.out]; exact hnil)
                rw [beq_iff_eq]
                omega
              have HNO : Hid (partS s = none) := by
                unfold Hid
                rw [HPL.out, HLS.out, listS_end (by rw [← HS6.out]; exact hnil)]
                rfl
              clear hnil hS41
              obtain ⟨y0, y1, y2⟩ := Hw11.out.1.2.1.cells
              obtain ⟨x0, x1, x2⟩ := Hw11.out.1.1.2.2.1.cells
              have g0 := Hw11.out.1.1.2.2.1.free 0
              have g1 := Hw11.out.1.1.2.2.1.free 1
              have g2 := Hw11.out.1.1.2.2.1.free 2
              go_wp2_with fail
              refine bodyPost_ret (results_s rfl _ _ k2 rfl (show BoxQ _ k2 _ _ _ _ _ from (Hw11.out.1.1.put (key := bx k) (kd := 2) (A := A9) (n := n + 1) (c := c9)).1)) rfl ?_
              exact rq_bad ((Hw11.out.1.1.put (key := bx k) (kd := 2) (A := A9) (n := n + 1) (c := c9)).2) (.inl HNO.out)

            · have te : ((i5 : Int) == (ts.length : Int) - 1) = false := by
                have h3 := H5b.out.2.1.more (by rw [HSK6.out]; exact hnil)
                rw [beq_eq_false_iff_ne]
                omega
              have CN := Lib.hid (NX.out w11 i5 ⟨#[44]⟩ (by decide) (Nat.le_of_lt H5b.out.2.1.lt) Hw11.out.1.1)
              have h44 := all_1 (c := 44) H5b.out.2.1 (by decide)
              rw [HSK6.out] at h44
              by_cases hS44 : ∃ q, S6 = 44 :: q
              · obtain ⟨q, hq⟩ := hS44
                have hall : allAt ts i5 ⟨#[44]⟩ = true := by rw [h44, hq]; rfl
                have HLN : Hid (listS S5 [] = listS q (acc ++ [wd2])) := by
                  unfold Hid
                  rw [HLS.out, listS_comma (by rw [← HS6.out]; exact hq), ← HWD2.out]
                have HA7 : Hid (At ts (i5 + 1) false q) := (H5b.out.2.1.sign (by rw [HSK6.out]; exact hq) (by decide)).2.2
                clear hq h44 hnil hS41
                unfold NextPost at CN
                rw [hall] at CN
                clear hall
                go_wp2_with fail
                refine Calls.mono CN.out ?_
                rintro e w12 ⟨rfl, hn, hg⟩
                have Hw12 : Hid (Lq w w12 k1 k2 k4 (.slice (some ⟨bb, off, none⟩) ts.length c) (i5 + 1) k8 (bx k) 2 A9 (n + 1) c9 (acc ++ [wd2])) := Hw11.out.go (Hw11.out.1.1.go hn hg) hg
                clear hn hg CN

                go_wp2_with fail
                go_roundw
                case rel => exact ⟨acc ++ [wd2], n + 1, i5 + 1, A9, c9, false, q, Hw12.out, HA7.out, HLN.out, by have := hR.out.2.2.2; have := H5b.out.2.2; omega⟩
                case measure =>
                  have h1 := H5b.out.2.2
                  have h2 := H5b.out.2.1.lt
                  rw [hR.out.1.1.1.2.1.nAt, Hw12.out.1.1.2.1.nAt]
                  omega
              · have hall : allAt ts i5 ⟨#[44]⟩ = false := by
                  rw [h44]
                  unfold headIs
                  cases hS : S6 with
                  | nil => exact absurd hS hnil
                  | cons x r =>
                    simp only
                    rw [beq_eq_false_iff_ne]
                    exact fun e => hS44 ⟨r, by rw [hS, e]⟩
                have HNO : Hid (partS s = none) := by
                  unfold Hid
                  cases hS : S6 with
                  | nil => exact absurd hS hnil
                  | cons x r =>
                    rw [HPL.out, HLS.out, listS_bad (by rw [← HS6.out]; exact hS) (fun e => hS44 ⟨r, by rw [hS, e]⟩) (fun e => hS41 ⟨r, by rw [hS, e]⟩)]
                    rfl
                clear h44 hnil hS41 hS44
                unfold NextPost at CN
                rw [hall] at CN
                clear hall
                go_wp2_with fail
                refine Calls.mono CN.out ?_
                rintro e w12 ⟨rfl, hn, hg⟩
                have Hw12 : Hid (Lq w w12 k1 k2 k4 (.slice (some ⟨bb, off, none⟩) ts.length c) i5 k8 (bx k) 2 A9 (n + 1) c9 (acc ++ [wd2])) := Hw11.out.go (Hw11.out.1.1.go hn hg) hg
                clear hn hg CN

                obtain ⟨y0, y1, y2⟩ := Hw12.out.1.2.1.cells
                obtain ⟨x0, x1, x2⟩ := Hw12.out.1.1.2.2.1.cells
                have g0 := Hw12.out.1.1.2.2.1.free 0
                have g1 := Hw12.out.1.1.2.2.1.free 1
                have g2 := Hw12.out.1.1.2.2.1.free 2
                go_wp2_with fail
                refine bodyPost_ret (results_s rfl _ _ k2 rfl (show BoxQ _ k2 _ _ _ _ _ from (Hw12.out.1.1.put (key := bx k) (kd := 2) (A := A9) (n := n + 1) (c := c9)).1)) rfl ?_
                exact rq_bad ((Hw12.out.1.1.put (key := bx k) (kd := 2) (A := A9) (n := n + 1) (c := c9)).2) (.inl HNO.out)

    · have hall : allAt ts m8 ⟨#[40]⟩ = false := by
        rw [h1]
        unfold headIs
        cases hS : S4 with
        | nil => rfl
        | cons x r =>
          simp only
          rw [beq_eq_false_iff_ne]
          exact fun e => h40 ⟨r, by rw [hS, e]⟩
      have HNO : Hid (partS s = none) := by
        unfold Hid
        rw [HPD.out]
        unfold listAll
        rw [HS4.out]
        cases hS : S4 with
        | nil => rfl
        | cons x r =>
          simp only
          rw [if_neg (fun e => h40 ⟨r, by rw [hS, e]⟩)]
          rfl
      unfold NextPost at C1
      rw [hall] at C1
      clear h40 hall h1
      go_wp2_with fail
      refine Calls.mono C1.out ?_
      rintro e wa ⟨rfl, hna, hga⟩
      have Ha : Hid (Rp w wa k1 k2 k4 (.slice (some ⟨bb, off, none⟩) ts.length c) m8 k8 (bx k) 2 none 0 0) := H9.out.1.1.go (H9.out.1.1.1.go hna hga) hga
      clear hna hga C1
      obtain ⟨y0, y1, y2⟩ := Ha.out.2.1.cells
      obtain ⟨x0, x1, x2⟩ := Ha.out.1.2.2.1.cells
      have g0 := Ha.out.1.2.2.1.free 0
      have g1 := Ha.out.1.2.2.1.free 1
      have g2 := Ha.out.1.2.2.1.free 2
      go_wp2_with fail
      refine bodyPost_ret (results_s rfl _ _ k2 rfl (show BoxQ _ k2 _ _ _ _ _ from (Ha.out.1.put (key := bx k) (kd := 2) (A := none) (n := 0) (c := 0)).1)) rfl ?_
      exact rq_bad ((Ha.out.1.put (key := bx k) (kd := 2) (A := none) (n := 0) (c := 0)).2) (.inl HNO.out)
end Go.Proofs.YtfggodnfliciiaaDoor.Rd
