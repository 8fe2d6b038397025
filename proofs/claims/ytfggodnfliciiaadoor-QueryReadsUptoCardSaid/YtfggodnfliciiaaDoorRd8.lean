/-
  The program's Parse: the walk.
-/
import Derived.Test.YtfggodnfliciiaaDoorRd7
import Derived.Test.YtfggodnfliciiaaDoorQck2
namespace Go.Proofs.YtfggodnfliciiaaDoor.Rd
open Go Go.RowKit Go.Proofs.YtfggodnfliciiaaDoor.Sx

theorem listS_rest : ∀ (m : Nat) {s : Tx} {acc vs : List Tx} {r : Tx}, s.length ≤ m → listS s acc = some (vs, r) → r.length ≤ s.length
  | m, s, acc, vs, r, hm, h => by
    have hw := wordRest_len s
    cases hs : wordRest s with
    | nil => rw [listS_end hs] at h; cases h
    | cons c q =>
      rw [hs] at hw
      simp at hw
      by_cases h44 : c = 44
      · subst h44
        rw [listS_comma hs] at h
        cases m with
        | zero => omega
        | succ m =>
          have := listS_rest m (s := q) (by omega) h
          omega
      · by_cases h41 : c = 41
        · subst h41
          rw [listS_close hs] at h
          injection h with h
          injection h with e1 e2
          rw [← e2]
          have := skip_len q
          omega
        · rw [listS_bad hs h44 h41] at h
          cases h
theorem choice_rest {k s r : Tx} {p : Pt} (h : choiceS k s = some (p, r)) : r.length ≤ s.length := by
  unfold choiceS at h
  split at h
  · have hw := wordRest_len s
    split at h
    · cases h
    · rename_i c q hq
      rw [hq] at hw
      simp at hw
      split at h
      · obtain ⟨x, hx, e⟩ := Option.map_eq_some_iff.1 h
        injection e with e1 e2
        have := listS_rest q.length (Nat.le_refl _) (vs := x.1) (r := x.2) hx
        rw [← e2]
        omega
      · cases h
  · cases h
theorem tail_rest {k s r : Tx} {bl : Bool} {p : Pt} (h : tailS k bl s = some (p, r)) : r.length ≤ s.length := by
  cases s with
  | nil => injection h with h; injection h with _ e; rw [← e]; exact Nat.le_refl _
  | cons c q =>
    by_cases h44 : c = 44
    · subst h44; injection h with h; injection h with _ e; rw [← e]; exact Nat.le_refl _
    · by_cases h61 : c = 61
      · subst h61
        by_cases hd : q.head? = some 61
        · obtain ⟨q2, rfl⟩ : ∃ q2, q = 61 :: q2 := by
            cases q with
            | nil => cases hd
            | cons d q2 => injection hd with hd; exact ⟨q2, by rw [hd]⟩
          rw [tail_two] at h
          injection h with h; injection h with _ e; rw [← e]
          have := wordRest_len q2
          simp
          omega
        · rw [tail_one k bl hd] at h
          injection h with h; injection h with _ e; rw [← e]
          have := wordRest_len q
          simp
          omega
      · by_cases h33 : c = 33 ∧ q.head? = some 61
        · obtain ⟨e33, hd⟩ := h33
          obtain ⟨q2, rfl⟩ : ∃ q2, q = 61 :: q2 := by
            cases q with
            | nil => cases hd
            | cons d q2 => injection hd with hd; exact ⟨q2, by rw [hd]⟩
          subst e33
          rw [tail_ne] at h
          injection h with h; injection h with _ e; rw [← e]
          have := wordRest_len q2
          simp
          omega
        · rw [tail_else k bl h44 h61 h33] at h
          split at h
          · exact choice_rest h
          · cases h
theorem part_rest {s r : Tx} {p : Pt} (h : partS s = some (p, r)) : r.length ≤ s.length := by
  unfold partS at h
  have hk := skip_len s
  split at h
  · injection h with h; injection h with _ e; rw [← e]; exact Nat.zero_le _
  · rename_i c q hq
    rw [hq] at hk
    simp at hk
    split at h
    · injection h with h; injection h with _ e; rw [← e]
      have := wordRest_len q
      omega
    · exact Nat.le_trans (tail_rest h) (wordRest_len s)
theorem part_skip (s : Tx) : partS (skip s) = partS s := by
  unfold partS
  rw [skip_skip, (wordOf_skip s).1, (wordOf_skip s).2.1, (wordOf_skip s).2.2]
theorem Reads.skip {s : Tx} {acc : List Pt} {o : Option (List Pt)} (h : Reads (Rd.skip s) acc o) : Reads s acc o := by
  cases h with
  | bad h1 => exact .bad (by rw [← part_skip]; exact h1)
  | last h1 => exact .last (by rw [← part_skip]; exact h1)
  | junk h1 hc => exact .junk (by rw [← part_skip]; exact h1) hc
  | more h1 h2 => exact .more (by rw [← part_skip]; exact h1) h2
/-- What Parse hands back, on both sides. -/
def ParsePost (w : World) (s : ByteArray) (e : Ending) (w' : World) : Prop := ∃ l err A c, e = .returned (.tuple #[.slice A l.length c, .int .i64 err]) ∧ ReqsR w'.heap.size w' (.slice A l.length c) l ∧ Out s l err ∧ Ext w w'
theorem reqs_nil {B : Nat} {w : World} : ReqsR B w (.slice none 0 0) [] := ⟨by simp, none, 0, rfl, fun i hi => by simp at hi⟩
theorem parse_nil {w w' : World} {s : ByteArray} {err : Int} (h : Out s [] err) (hx : Ext w w') : ParsePost w s (.returned (.tuple #[.slice none 0 0, .int .i64 err])) w' := ⟨[], err, none, 0, rfl, reqs_nil, h, hx⟩

theorem grown_ownR {w w1 w2 : World} {kp : Nat} {v : Value} {L : List Rw} (h : w.grownBy w1 (some kp)) (hr : RRow reqT w.heap.size w1 v L) (hg : w1.grownBy w2 v.ownBlock) : w.grownBy w2 (some kp) :=
  ⟨hg.os.trans h.os, hg.tape.trans h.tape, hg.output.trans h.output, Nat.le_trans h.size hg.size, fun k hk hne => (hg.block k (Nat.lt_of_lt_of_le hk h.size) (fun e => by have := (hr.block k e.symm).1; omega)).trans (h.block k hk hne)⟩
theorem parse_good {w w' : World} {s : ByteArray} {ps : List Pt} {n : Nat} {A : Option Addr} {c : Nat} (hn : ps.length = n) (h : Out s (ps.map toReq) 0) (hr : ReqsR w'.heap.size w' (.slice A n c) (ps.map toReq)) (hx : Ext w w') : ParsePost w s (.returned (.tuple #[.slice A n c, .int .i64 0])) w' := by
  have hl : (ps.map toReq).length = n := by rw [List.length_map]; exact hn
  exact ⟨ps.map toReq, 0, A, c, by rw [hl], by rw [hl]; exact hr, h, hx⟩

set_option maxRecDepth 100000 in
set_option maxHeartbeats 8000000 in
theorem parse_any (s : ByteArray) (w : World) (hs0 : s.size ≤ 1048576) (hm : MaxC w) :
    Calls Tryd.prog 4 #[.string s] w (ParsePost w s) := by
  have HM := Lib.hid hm
  clear hm
  by_cases hs : s.size ≤ 300
  · have b0 : decide ((300 : Int) < (s.size : Int)) = false := decide_eq_false (by omega)
    go_enter Tryd.func4, Tryd.ntmps4
    go_upto_region 4 with fail
    obtain ⟨W1, hW⟩ : ∃ W, W = w.alloc (.cells #[.string s, .int .i64 0, .bool false] pT) := ⟨_, rfl⟩
    obtain ⟨kp, hkp⟩ : ∃ kp, kp = w.heap.size := ⟨_, rfl⟩
    rw [← hW, ← hkp]
    have H1 : Hid (PIn W1 kp s 0 false ∧ Ext w W1 ∧ w.heap.size ≤ kp ∧ kp < W1.heap.size) := by
      have hb : PIn W1 kp s 0 false := by unfold PIn; rw [hW]; exact heap_new hkp
      exact ⟨hb, by rw [hW]; exact new_ext _ _, by omega, heap_lt hb⟩
    clear hW hkp b0
    have CB := Lib.hid (blanks_any kp s 0 false W1 H1.out.1 hs (Nat.zero_le _))
    go_wp2_with fail
    refine Calls.mono CB.out ?_
    rintro e w2 ⟨a, rfl, hp2, _, has, hsk, hg2⟩
    have H2 : Hid (PIn w2 kp s a false ∧ W1.grownBy w2 (some kp) ∧ sfx s a = skip (sfx s 0)) := ⟨hp2, hg2, hsk⟩
    clear hp2 hg2 hsk CB
    have CO := Lib.hid (over_any kp s a false w2 H2.out.1 has)
    cases hov : (sfx s a).isEmpty with
    | true =>
      rw [hov] at CO
      have HO : Hid (Out s [] 0) := .inr (.inl ⟨hs, by rw [← H2.out.2.2]; exact List.isEmpty_iff.1 hov, rfl, rfl⟩)
      clear hov
      go_wp2_with fail
      refine Calls.mono CO.out ?_
      rintro e w3 ⟨rfl, m, rfl⟩
      go_wp2
      go_ret2
      exact parse_nil HO.out ((ext_of_grown H1.out.2.1 H2.out.2.1 H1.out.2.2.1).trans (ext_drewN' _ _))
    | false =>
      rw [hov] at CO
      have HNE : Hid (skip (sfx s 0) ≠ []) := by rw [← H2.out.2.2]; exact fun e => by rw [e] at hov; cases hov
      clear hov
      go_wp2_with fail
      refine Calls.mono CO.out ?_
      rintro e w3 ⟨rfl, m, hw3⟩
      have H3 : Hid (PIn w3 kp s a false ∧ W1.grownBy w3 (some kp)) := by
        rw [hw3]
        exact ⟨H2.out.1, grown_trans H2.out.2.1 (grown_ext (ext_drewN' _ _))⟩
      clear hw3 CO
      go_wp2_with fail
      go_loopw [5] (fun o wr => ∃ (ps : List Pt) (n : Nat) (A : Option Addr) (c : Nat) (L : List Rw) (j : Nat), j ≤ s.size ∧ n ≤ j ∧ o = .slice A n c ∧ Hid (ps.length = n ∧ PRow wr kp W1.heap.size (.slice A n c) L ps ∧ (∀ p ∈ ps, Small 300 p) ∧ PIn wr kp s j false ∧ W1.grownBy wr (some kp) ∧ ∀ o, Reads (sfx s j) ps o → Reads (sfx s 0) [] o)) (fun _ wr => s.size - atOf wr kp)
      case atStart => exact ⟨[], 0, none, 0, [], a, has, Nat.zero_le _, rfl, rfl, PRow.nil, fun p hp => by simp at hp, H3.out.1, H3.out.2, fun o h => by rw [H2.out.2.2] at h; exact h.skip⟩
      case round =>
        obtain ⟨ps, n, A, c, L, j, hj, hnj, rfl, hR⟩ := hrel
        have CP := Lib.hid (part_any kp s j wr hR.out.2.2.2.1 hs hj)
        go_wp2_with fail
        refine Calls.mono CP.out ?_
        rintro e w4 ⟨k, hk, hg4, ⟨p, A4, c4, ho, rfl, hrow, hp4⟩ | ⟨ho, ⟨key, kd, A4, n4, c4, rfl⟩, hp4⟩⟩
        · obtain ⟨t, ht⟩ : ∃ t : Rw, t = ⟨bx p.key, p.kind, A4, p.vals.length, c4⟩ := ⟨_, rfl⟩
          have hkb : kp < W1.heap.size := H1.out.2.2.2
          have H5 : Hid (PRow (w4.alloc (.cells #[.string (bx p.key), .int .i64 p.kind, .slice A4 p.vals.length c4] reqT)) kp W1.heap.size (.slice A n c) L ps ∧ PIn (w4.alloc (.cells #[.string (bx p.key), .int .i64 p.kind, .slice A4 p.vals.length c4] reqT)) kp s k false ∧ W1.grownBy (w4.alloc (.cells #[.string (bx p.key), .int .i64 p.kind, .slice A4 p.vals.length c4] reqT)) (some kp) ∧ partIn (w4.alloc (.cells #[.string (bx p.key), .int .i64 p.kind, .slice A4 p.vals.length c4] reqT)) kp W1.heap.size (.slice A n c) t p ∧ Small 300 p ∧ L.length = n ∧ RSrc (w4.alloc (.cells #[.string (bx p.key), .int .i64 p.kind, .slice A4 p.vals.length c4] reqT)) (.slice (some ⟨w4.heap.size, 0, none⟩) 1 1) [t]) := by
            have hx : Ext w4 (w4.alloc (.cells #[.string (bx p.key), .int .i64 p.kind, .slice A4 p.vals.length c4] reqT)) := new_ext _ _
            have hg5 : wr.grownBy (w4.alloc (.cells #[.string (bx p.key), .int .i64 p.kind, .slice A4 p.vals.length c4] reqT)) (some kp) := grown_trans hg4 (grown_ext hx)
            refine ⟨hR.out.2.1.kept hg5 hkb, hp4.ext hx, grown_trans hR.out.2.2.2.2.1 hg5, ?_, part_small (by rw [sfx_len]; omega) ho, by rw [hR.out.2.1.2.1, hR.out.1], ?_⟩
            · rw [ht]
              refine ⟨rfl, rfl, rfl, (hrow.low hR.out.2.2.2.2.1.size).ext hx, fun g hg => ⟨?_, fun e => ?_⟩⟩
              · have h1 := (hrow.block g hg).1
                have h2 := hR.out.2.2.2.2.1.size
                omega
              · have h1 := (hrow.block g hg).1
                have h2 := (hR.out.2.1.1.block g e).2
                omega
            · rw [ht]
              exact RSrc.of_block (L := [⟨bx p.key, p.kind, A4, p.vals.length, c4⟩]) (et := reqT) (c := 1) (heap_new rfl)
          have HPS := Lib.hid ho
          clear ht hrow hp4 hg4 ho CP
          have HP2 : Hid (∀ w9, (w4.alloc (.cells #[.string (bx p.key), .int .i64 p.kind, .slice A4 p.vals.length c4] reqT)).grownBy w9 (Value.slice A n c).ownBlock → w9.cell? ⟨kp, 2, none⟩ = some (.bool false)) := fun w9 g9 => (H5.out.2.1.kept g9 (fun e => by have := (H5.out.1.1.block _ e).1; omega)).cells.2.2
          go_wp2_with (at_builtin; refine append_parts qTyOk rfl _ _ (by rfl) W1.heap.size n 1 _ (.slice A n c) (.slice (some ⟨w4.heap.size, 0, none⟩) 1 1) L [t] (by rfl) (by rfl) H5.out.1.1 H5.out.2.2.2.2.2.2 H5.out.2.2.2.2.2.1 rfl (by omega) H5.out.2.2.1.size ?_; intro A9 c9 w9 h9 g9 o9; have p2 := HP2.out _ g9)
          have H9 : Hid (PRow w9 kp W1.heap.size (.slice A9 (n + 1) c9) (L ++ [t]) (ps ++ [p]) ∧ PIn w9 kp s k false ∧ W1.grownBy w9 (some kp) ∧ (ps ++ [p]).length = n + 1 ∧ ∀ q ∈ ps ++ [p], Small 300 q) := by
            refine ⟨H5.out.1.more H5.out.2.2.1.size g9 h9 o9 H5.out.2.2.2.1, H5.out.2.1.kept g9 (fun e => ?_), grown_ownR H5.out.2.2.1 H5.out.1.1 g9, by rw [List.length_append, hR.out.1]; rfl, fun q hq => ?_⟩
            · have := (H5.out.1.1.block _ e).1
              omega
            · rcases List.mem_append.1 hq with hq | hq
              · exact hR.out.2.2.1 q hq
              · rw [List.mem_singleton] at hq
                rw [hq]
                exact H5.out.2.2.2.2.1
          clear h9 g9 o9 H5 HP2
          have CO := Lib.hid (over_any kp s k false w9 H9.out.2.1 hk)
          rcases hS : sfx s k with _ | ⟨d, q⟩
          · rw [hS] at HPS CO
            have HRD : Hid (Reads (sfx s 0) [] (some (ps ++ [p]))) := hR.out.2.2.2.2.2 _ (.last HPS.out)
            clear hS
            go_wp2_with fail
            refine Calls.mono CO.out ?_
            rintro e w10 ⟨rfl, m, hw10⟩
            have H10 : Hid (PRow w10 kp W1.heap.size (.slice A9 (n + 1) c9) (L ++ [t]) (ps ++ [p]) ∧ Ext w w10) := by
              rw [hw10]
              exact ⟨H9.out.1.kept (grown_ext (ext_drewN' _ _)) hkb, (ext_of_grown H1.out.2.1 H9.out.2.2.1 H1.out.2.2.1).trans (ext_drewN' _ _)⟩
            clear hw10 CO p2
            have HQ : Hid (ReqsR w10.heap.size w10 (.slice A9 (n + 1) c9) ((ps ++ [p]).map toReq)) := H10.out.1.reqs (by rw [H9.out.2.2.2.1]; omega) H9.out.2.2.2.2
            have CQ := Lib.hid (qcheck_any w10.heap.size (.slice A9 (n + 1) c9) ((ps ++ [p]).map toReq) w10 (Nat.le_refl _) HQ.out (HM.out.ext H10.out.2))
            go_wp2_with fail
            refine Calls.mono CQ.out ?_
            rintro e w11 ⟨rfl, hx11⟩
            have H11 : Hid (ReqsR w11.heap.size w11 (.slice A9 (n + 1) c9) ((ps ++ [p]).map toReq) ∧ Ext w w11) := ⟨HQ.out.below hx11 hx11.size, H10.out.2.trans hx11⟩
            clear hx11 CQ
            obtain ⟨er, her⟩ : ∃ er, er = checkQ ((ps ++ [p]).map toReq) := ⟨_, rfl⟩
            rw [← her]
            by_cases h0 : er = 0
            · have HO : Hid (Out s ((ps ++ [p]).map toReq) 0) := .inr (.inr ⟨hs, HNE.out, .inr ⟨ps ++ [p], HRD.out, .inl ⟨her.symm.trans h0, rfl, rfl⟩⟩⟩)
              subst h0
              clear her
              go_wp2
              go_ret2
              exact parse_good H9.out.2.2.2.1 HO.out H11.out.1 H11.out.2
            · have HO : Hid (Out s [] er) := .inr (.inr ⟨hs, HNE.out, .inr ⟨ps ++ [p], HRD.out, .inr ⟨fun e => h0 (her.trans e), rfl, her⟩⟩⟩)
              have b1 : (er != 0) = true := by simp [h0]
              have b2 : (er == 0) = false := by simp [h0]
              clear her h0
              go_wp2
              go_ret2
              exact parse_nil HO.out H11.out.2
          · rw [hS] at HPS CO
            have hkl : k + (q.length + 1) = s.size := by
              have h1 := sfx_len s k
              rw [hS] at h1
              simp at h1
              omega
            have hjk : j ≤ k := by
              have h1 := part_rest HPS.out
              rw [sfx_len] at h1
              simp at h1
              omega
            by_cases h44 : d = 44
            · have HT := Lib.hid (sfx_step hS)
              have HRD : Hid (∀ o, Reads q (ps ++ [p]) o → Reads (sfx s 0) [] o) := fun o h => hR.out.2.2.2.2.2 _ (.more (by rw [HPS.out, h44]) h)
              have HSN := Lib.hid hS
              have HD := Lib.hid h44
              clear hS h44
              go_wp2_with fail
              refine Calls.mono CO.out ?_
              rintro e w10 ⟨rfl, m, hw10⟩
              have H10 : Hid (PRow w10 kp W1.heap.size (.slice A9 (n + 1) c9) (L ++ [t]) (ps ++ [p]) ∧ PIn w10 kp s k false ∧ W1.grownBy w10 (some kp)) := by
                rw [hw10]
                exact ⟨H9.out.1.kept (grown_ext (ext_drewN' _ _)) hkb, H9.out.2.1, grown_trans H9.out.2.2.1 (grown_ext (ext_drewN' _ _))⟩
              clear hw10 CO p2
              have p2 := H10.out.2.1.cells.2.2
              have CH := Lib.hid (has_any kp s k false ⟨#[44]⟩ w10 H10.out.2.1 hk hs (by decide))
              rw [HSN.out, pre_one, HD.out] at CH
              go_wp2_with fail
              refine Calls.mono CH.out ?_
              rintro e w11 ⟨rfl, hp11, hg11⟩
              have H11 : Hid (PRow w11 kp W1.heap.size (.slice A9 (n + 1) c9) (L ++ [t]) (ps ++ [p]) ∧ PIn w11 kp s (k + 1) false ∧ W1.grownBy w11 (some kp)) := ⟨H10.out.1.kept hg11 hkb, hp11, grown_trans H10.out.2.2 hg11⟩
              clear hp11 hg11 CH p2
              go_wp2
              go_roundw
              case rel => exact ⟨ps ++ [p], n + 1, A9, c9, L ++ [t], k + 1, HT.out.1, by omega, rfl, H9.out.2.2.2.1, H11.out.1, H9.out.2.2.2.2, H11.out.2.1, H11.out.2.2, by rw [HT.out.2]; exact HRD.out⟩
              case measure =>
                have h1 := HT.out.1
                rw [hR.out.2.2.2.1.atOf, H11.out.2.1.atOf]
                omega
            · have HRD : Hid (Reads (sfx s 0) [] none) := hR.out.2.2.2.2.2 _ (.junk HPS.out h44)
              have HO : Hid (Out s [] 3) := .inr (.inr ⟨hs, HNE.out, .inl ⟨HRD.out, rfl, rfl⟩⟩)
              have HSN := Lib.hid hS
              have HD : Hid (((44 : UInt8) == d) = false) := by unfold Hid; rw [beq_eq_false_iff_ne]; exact fun e => h44 e.symm
              clear hS h44
              go_wp2_with fail
              refine Calls.mono CO.out ?_
              rintro e w10 ⟨rfl, m, hw10⟩
              have H10 : Hid (PIn w10 kp s k false ∧ W1.grownBy w10 (some kp)) := by
                rw [hw10]
                exact ⟨H9.out.2.1, grown_trans H9.out.2.2.1 (grown_ext (ext_drewN' _ _))⟩
              clear hw10 CO p2
              have p2 := H10.out.1.cells.2.2
              have CH := Lib.hid (has_any kp s k false ⟨#[44]⟩ w10 H10.out.1 hk hs (by decide))
              rw [HSN.out, pre_one, HD.out] at CH
              go_wp2_with fail
              refine Calls.mono CH.out ?_
              rintro e w11 ⟨rfl, hp11, hg11⟩
              have HX := Lib.hid (ext_of_grown H1.out.2.1 (grown_trans H10.out.2 hg11) H1.out.2.2.1)
              clear hp11 hg11 CH p2
              go_wp2
              go_ret2
              exact parse_nil HO.out HX.out
        · obtain ⟨t, ht⟩ : ∃ t : Rw, t = ⟨key, kd, A4, n4, c4⟩ := ⟨_, rfl⟩
          have hkb : kp < W1.heap.size := H1.out.2.2.2
          have H5 : Hid (RRow reqT W1.heap.size (w4.alloc (.cells #[.string key, .int .i64 kd, .slice A4 n4 c4] reqT)) (.slice A n c) L ∧ PIn (w4.alloc (.cells #[.string key, .int .i64 kd, .slice A4 n4 c4] reqT)) kp s k true ∧ W1.grownBy (w4.alloc (.cells #[.string key, .int .i64 kd, .slice A4 n4 c4] reqT)) (some kp) ∧ L.length = n ∧ RSrc (w4.alloc (.cells #[.string key, .int .i64 kd, .slice A4 n4 c4] reqT)) (.slice (some ⟨w4.heap.size, 0, none⟩) 1 1) [t]) := by
            have hx : Ext w4 (w4.alloc (.cells #[.string key, .int .i64 kd, .slice A4 n4 c4] reqT)) := new_ext _ _
            have hg5 : wr.grownBy (w4.alloc (.cells #[.string key, .int .i64 kd, .slice A4 n4 c4] reqT)) (some kp) := grown_trans hg4 (grown_ext hx)
            refine ⟨(hR.out.2.1.kept hg5 hkb).1, hp4.ext hx, grown_trans hR.out.2.2.2.2.1 hg5, by rw [hR.out.2.1.2.1, hR.out.1], ?_⟩
            rw [ht]
            exact RSrc.of_block (L := [⟨key, kd, A4, n4, c4⟩]) (et := reqT) (c := 1) (heap_new rfl)
          have HRD : Hid (Reads (sfx s 0) [] none) := hR.out.2.2.2.2.2 _ (.bad ho)
          have HO : Hid (Out s [] 3) := .inr (.inr ⟨hs, HNE.out, .inl ⟨HRD.out, rfl, rfl⟩⟩)
          clear ht hp4 hg4 ho CP
          have HP2 : Hid (∀ w9, (w4.alloc (.cells #[.string key, .int .i64 kd, .slice A4 n4 c4] reqT)).grownBy w9 (Value.slice A n c).ownBlock → w9.cell? ⟨kp, 2, none⟩ = some (.bool true)) := fun w9 g9 => (H5.out.2.1.kept g9 (fun e => by have := (H5.out.1.block _ e).1; omega)).cells.2.2
          go_wp2_with (at_builtin; refine append_parts qTyOk rfl _ _ (by rfl) W1.heap.size n 1 _ (.slice A n c) (.slice (some ⟨w4.heap.size, 0, none⟩) 1 1) L [t] (by rfl) (by rfl) H5.out.1 H5.out.2.2.2.2 H5.out.2.2.2.1 rfl (by omega) H5.out.2.2.1.size ?_; intro A9 c9 w9 h9 g9 o9; have p2 := HP2.out _ g9)
          have H9 : Hid (PIn w9 kp s k true ∧ W1.grownBy w9 (some kp)) := by
            refine ⟨H5.out.2.1.kept g9 (fun e => ?_), grown_ownR H5.out.2.2.1 H5.out.1 g9⟩
            have := (H5.out.1.block _ e).1
            omega
          have HX := Lib.hid (ext_of_grown H1.out.2.1 H9.out.2 H1.out.2.2.1)
          clear h9 g9 o9 H5 HP2
          go_wp2
          go_ret2
          exact parse_nil HO.out HX.out
  · have b0 : decide ((300 : Int) < (s.size : Int)) = true := decide_eq_true (by omega)
    have HO : Hid (Out s [] 2) := .inl ⟨by omega, rfl, rfl⟩
    go_enter Tryd.func4, Tryd.ntmps4
    go_wp2
    go_ret2
    exact parse_nil HO.out (Below.refl _ _)
end Go.Proofs.YtfggodnfliciiaaDoor.Rd
