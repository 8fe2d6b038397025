/-
  The reference's reqOf, all cases; QueryParse.
-/
import Derived.Test.YtfggodnfliciiaaDoorRk8
import Derived.Test.YtfggodnfliciiaaDoorRk10
import Derived.Test.YtfggodnfliciiaaDoorRk11
import Derived.Test.YtfggodnfliciiaaDoorRk12
import Derived.Test.YtfggodnfliciiaaDoorRqck
namespace Go.Proofs.YtfggodnfliciiaaDoor.Rd
open Go Go.RowKit Go.Proofs.YtfggodnfliciiaaDoor.Sx

theorem reqOf_any {w : World} {A : Option Addr} {c : Nat} {ts : List Tok} {b : Bool} {s : Tx} (h : SgR w.heap.size w (.slice A ts.length c) ts) (ha : At ts 0 b s) (hts : ts.length ≤ 301) :
    Calls Tryd.prog 14 #[.slice A ts.length c] w (RqPost w ts s) := by
  by_cases h33 : ∀ r, skip s ≠ 33 :: r
  · by_cases hw : ∃ x q, wordRest s = x :: q ∧ isW x = true
    · obtain ⟨x, q, h3, hx⟩ := hw
      by_cases hin : wordOf (wordRest s) = inT
      · exact reqOf_in h ha hts h33 h3 hx hin
      · by_cases hno : wordOf (wordRest s) = notinT
        · exact reqOf_notin h ha hts h33 h3 hx hno
        · exact reqOf_odd h ha hts h33 h3 hx ⟨hin, hno⟩
    · refine reqOf_rest h ha hts fun _ x r e => ?_
      cases hx : isW x with
      | false => rfl
      | true => exact absurd ⟨x, r, e, hx⟩ hw
  · exact reqOf_rest h ha hts fun h => absurd h h33
/-! ### What is left behind a part has no blank ahead -/
theorem listS_skips : ∀ (m : Nat) {s : Tx} {acc vs : List Tx} {r : Tx}, s.length ≤ m → listS s acc = some (vs, r) → skip r = r
  | m, s, acc, vs, r, hm, h => by
    have hw := wordRest_len s
    cases hs : wordRest s with
    | nil => rw [listS_end hs] at h; cases h
    | cons c q =>
      rw [hs] at hw
      simp at hw
      by_cases h44 : c = 44
      · subst h44
        rw [listS_comma hs] at h
        cases m with
        | zero => omega
        | succ m => exact listS_skips m (s := q) (by omega) h
      · by_cases h41 : c = 41
        · subst h41
          rw [listS_close hs] at h
          injection h with h
          injection h with e1 e2
          rw [← e2]
          exact skip_skip q
        · rw [listS_bad hs h44 h41] at h
          cases h
theorem choice_skips {k s r : Tx} {p : Pt} (h : choiceS k s = some (p, r)) : skip r = r := by
  unfold choiceS at h
  split at h
  · split at h
    · cases h
    · split at h
      · obtain ⟨x, hx, e⟩ := Option.map_eq_some_iff.1 h
        injection e with e1 e2
        rw [← e2]
        exact listS_skips _ (Nat.le_refl _) (vs := x.1) (r := x.2) hx
      · cases h
  · cases h
theorem tail_skips {k s r : Tx} {bl : Bool} {p : Pt} (hs : skip s = s) (h : tailS k bl s = some (p, r)) : skip r = r := by
  cases s with
  | nil => injection h with h; injection h with _ e; rw [← e]; rfl
  | cons c q =>
    by_cases h44 : c = 44
    · subst h44; injection h with h; injection h with _ e; rw [← e]; exact hs
    · by_cases h61 : c = 61
      · subst h61
        by_cases hd : q.head? = some 61
        · obtain ⟨q2, rfl⟩ : ∃ q2, q = 61 :: q2 := by
            cases q with
            | nil => cases hd
            | cons d q2 => injection hd with hd; exact ⟨q2, by rw [hd]⟩
          rw [tail_two] at h
          injection h with h; injection h with _ e; rw [← e]
          exact skip_skip _
        · rw [tail_one k bl hd] at h
          injection h with h; injection h with _ e; rw [← e]
          exact skip_skip _
      · by_cases h33 : c = 33 ∧ q.head? = some 61
        · obtain ⟨e33, hd⟩ := h33
          obtain ⟨q2, rfl⟩ : ∃ q2, q = 61 :: q2 := by
            cases q with
            | nil => cases hd
            | cons d q2 => injection hd with hd; exact ⟨q2, by rw [hd]⟩
          subst e33
          rw [tail_ne] at h
          injection h with h; injection h with _ e; rw [← e]
          exact skip_skip _
        · rw [tail_else k bl h44 h61 h33] at h
          split at h
          · exact choice_skips h
          · cases h
theorem part_skips {s r : Tx} {p : Pt} (h : partS s = some (p, r)) : skip r = r := by
  unfold partS at h
  split at h
  · injection h with h; injection h with _ e; rw [← e]; rfl
  · split at h
    · injection h with h; injection h with _ e; rw [← e]; exact skip_skip _
    · exact tail_skips (skip_skip _) h
theorem At.drop {ts : List Tok} {i j : Nat} {b : Bool} {s : Tx} (h : At ts (i + j) b s) : At (ts.drop i) j b s := by
  unfold At
  rw [List.drop_drop]
  exact h
theorem krow_cap {et base : Nat} {w : World} {A : Option Addr} {n c : Nat} {L : List Kw} (h : KRow et base w (.slice A n c) L) : n ≤ c := by
  rcases h with ⟨hv, rfl⟩ | ⟨g, c', rest, hv, _, _, hm, _⟩
  · injection hv with e1 e2 e3; omega
  · injection hv with e1 e2 e3; omega
/-- Where QueryParse stands at its loop's head: the signs that are left. -/
def Lf (B : Nat) (w wr : World) (A : Option Addr) (n c : Nat) (ts : List Tok) (s0 : Tx) (ps : List Pt) : Prop :=
  SgR B wr (.slice A n c) ts ∧ ts.length = n ∧ n ≤ c ∧ n ≤ 301 ∧ Ext w wr ∧ ((ts = [] ∧ Reads s0 [] (some ps)) ∨ ∃ b s, At ts 0 b s ∧ s.length ≤ 300 ∧ ∀ o, Reads s ps o → Reads s0 [] o)
theorem ext_row {w V V' : World} {row : Option Nat} (h : Ext w V) (hg : V.grownBy V' row) (hr : ∀ g, row = some g → w.heap.size ≤ g) : Ext w V' :=
  ⟨hg.os.trans h.os, hg.tape.trans h.tape, hg.output.trans h.output, Nat.le_trans h.size hg.size, fun j hj => (hg.block j (Nat.lt_of_lt_of_le hj h.size) (fun e => by have := hr j e.symm; omega)).trans (h.block j hj)⟩
theorem below_row {B : Nat} {V V' : World} {row : Option Nat} (hB : B ≤ V.heap.size) (hg : V.grownBy V' row) (hr : ∀ g, row = some g → B ≤ g) : Below B V V' :=
  ⟨hg.os, hg.tape, hg.output, hg.size, fun j hj => hg.block j (Nat.lt_of_lt_of_le hj hB) (fun e => by have := hr j e.symm; omega)⟩
def slen (v : Value) : Nat := match v with | .slice _ n _ => n | _ => 0

set_option maxRecDepth 100000 in
set_option maxHeartbeats 8000000 in
theorem qparse_any (s : ByteArray) (w : World) (hs0 : s.size ≤ 1048576) (hm : MaxC w) :
    Calls Tryd.prog 5 #[.string s] w (ParsePost w s) := by
  have HM := Lib.hid hm
  clear hm
  by_cases hs : s.size ≤ 300
  · have b0 : decide ((300 : Int) < (s.size : Int)) = false := decide_eq_false (by omega)
    have CS := Lib.hid (signs_any s w hs)
    go_enter Tryd.func5, Tryd.ntmps5
    go_wp2_with fail
    refine Calls.mono CS.out ?_
    rintro e w1 ⟨A, c, rfl, hk1, hx1⟩
    obtain ⟨ts, hts⟩ : ∃ ts, ts = toks false (sfx s 0) := ⟨_, rfl⟩
    have hlen : ts.length ≤ 300 := by
      have h1 := toks_len false _ (sfx s 0) (Nat.le_refl _)
      rw [← hts, sfx_len] at h1
      omega
    rw [← hts] at hk1
    rw [← hts]
    have HT := Lib.hid hts
    have H1 : Hid (KRow sgT w.heap.size w1 (.slice A ts.length c) (ts.map kw) ∧ Ext w w1) := ⟨hk1, hx1⟩
    clear hk1 hx1 hts CS b0
    by_cases hnil : ts = []
    · have HO : Hid (Out s [] 0) := .inr (.inl ⟨hs, toks_empty.1 (HT.out.symm.trans hnil), rfl, rfl⟩)
      obtain ⟨n, hn⟩ : ∃ n, n = ts.length := ⟨_, rfl⟩
      have hn0 : n = 0 := by rw [hn, hnil]; rfl
      rw [← hn]
      clear hn hnil
      subst hn0
      go_wp2
      go_ret2
      exact parse_nil HO.out H1.out.2
    · have HNE : Hid (skip (sfx s 0) ≠ []) := fun e => hnil (HT.out.trans (toks_empty.2 e))
      obtain ⟨n, hn⟩ : ∃ n, n = ts.length := ⟨_, rfl⟩
      have hpos : 0 < n := by rw [hn]; exact List.length_pos_iff.2 hnil
      rw [← hn] at H1 hlen
      rw [← hn]
      have HN := Lib.hid hn
      have b1 : ((n : Int) == 0) = false := by rw [beq_eq_false_iff_ne]; omega
      have HXA : Hid (Ext w (w1.alloc (.cells #[.string ⟨#[44]⟩, .bool false, .bool false] sgT)) ∧ KRow sgT w.heap.size (w1.alloc (.cells #[.string ⟨#[44]⟩, .bool false, .bool false] sgT)) (.slice A n c) (ts.map kw) ∧ KSrc (w1.alloc (.cells #[.string ⟨#[44]⟩, .bool false, .bool false] sgT)) (.slice (some ⟨w1.heap.size, 0, none⟩) 1 1) [kw comma] ∧ (ts.map kw).length = n) := by
        refine ⟨H1.out.2.trans (new_ext _ _), H1.out.1.ext (new_ext _ _), ?_, by rw [List.length_map]; exact HN.out.symm⟩
        exact KSrc.of_block (L := [⟨⟨#[44]⟩, false, false⟩]) (et := sgT) (c := 1) (heap_new rfl)
      clear hn hnil
      go_wp2_with (at_builtin; refine append_toks sgTyOk rfl _ _ (by rfl) w.heap.size n 1 _ (.slice A n c) (.slice (some ⟨w1.heap.size, 0, none⟩) 1 1) (ts.map kw) [kw comma] (by rfl) (by rfl) HXA.out.2.1 HXA.out.2.2.1 HXA.out.2.2.2 rfl (by omega) HXA.out.1.size ?_; intro A2 c2 w2 h2 g2 _)
      have H2 : Hid (Lf w2.heap.size w w2 A2 (n + 1) c2 (ts ++ [comma]) (sfx s 0) [] ∧ w.heap.size < w2.heap.size) := by
        have hx2 : Ext w w2 := Below.trans HXA.out.1 (grown_fresh HXA.out.2.1 g2 HXA.out.1.size)
        have hl : (ts ++ [comma]).length = n + 1 := by rw [List.length_append, ← HN.out]; rfl
        have h2' : KRow sgT w.heap.size w2 (.slice A2 (n + 1) c2) ((ts ++ [comma]).map kw) := by rw [List.map_append]; exact h2
        refine ⟨⟨h2'.sg (by rw [hl]; omega), hl, krow_cap h2, by omega, hx2, .inr ⟨false, sfx s 0, ?_, by rw [sfx_len]; omega, fun o h => h⟩⟩, ?_⟩
        · unfold At; rw [List.drop_zero, HT.out]
        · have h3 := g2.size
          have h4 : (w1.alloc (.cells #[.string ⟨#[44]⟩, .bool false, .bool false] sgT)).heap.size = w1.heap.size + 1 := by simp
          have h5 := H1.out.2.size
          exact Nat.lt_of_lt_of_le (Nat.lt_succ_of_le h5) (Nat.le_trans (Nat.le_of_eq h4.symm) h3)
      clear h2 g2 HXA H1 HT HN b1 hpos hlen
      obtain ⟨kp, hkp⟩ : ∃ kp, kp = w.heap.size := ⟨_, rfl⟩
      have HKP : Hid (kp < w2.heap.size) := by rw [hkp]; exact H2.out.2
      clear hkp
      have hB : (ts ++ [comma]).length ≤ 301 := by have h1 := H2.out.1.2.1; have h2 := H2.out.1.2.2.2.1; omega
      obtain ⟨n0, hn0⟩ : ∃ n0, n0 = n + 1 := ⟨_, rfl⟩
      rw [← hn0] at H2
      go_wp2_with fail
      rw [← hn0]
      clear hn0
      go_loopw [4, 5] (fun l o wr => ∃ (A : Option Addr) (n c : Nat) (ts : List Tok) (ps : List Pt) (k : Nat) (A5 : Option Addr) (c5 : Nat) (L : List Rw), l = .slice A n c ∧ o = .slice A5 k c5 ∧ k + n ≤ 301 ∧ Hid (Lf w2.heap.size w wr A n c ts (sfx s 0) ps ∧ PRow wr kp w2.heap.size (.slice A5 k c5) L ps ∧ ps.length = k ∧ (∀ p ∈ ps, Small 300 p) ∧ Ext w2 wr)) (fun l _ _ => slen l)
      case atStart => exact ⟨A2, n0, c2, ts ++ [comma], [], 0, none, 0, [], rfl, rfl, by have := H2.out.1.2.2.2.1; omega, H2.out.1, PRow.nil, rfl, fun p hp => by simp at hp, Below.refl _ _⟩
      case round =>
        obtain ⟨A, n, c, ts, ps, k, A5, c5, L, rfl, rfl, hkn, hR⟩ := hrel
        by_cases h0 : n = 0
        · have HRD : Hid (Reads (sfx s 0) [] (some ps)) := by
            rcases hR.out.1.2.2.2.2.2 with ⟨_, h⟩ | ⟨b, s', h, _⟩
            · exact h
            · have h1 := h.lt
              have h2 := hR.out.1.2.1
              omega
          subst h0
          have HQ : Hid (ReqsR wr.heap.size wr (.slice A5 k c5) (ps.map toReq)) := hR.out.2.1.reqs (by rw [hR.out.2.2.1]; omega) hR.out.2.2.2.1
          have CQ := Lib.hid (rqcheck_any wr.heap.size (.slice A5 k c5) (ps.map toReq) wr (Nat.le_refl _) HQ.out (HM.out.ext hR.out.1.2.2.2.2.1))
          go_wp2_with fail
          refine Calls.mono CQ.out ?_
          rintro e w11 ⟨rfl, hx11⟩
          have H11 : Hid (ReqsR w11.heap.size w11 (.slice A5 k c5) (ps.map toReq) ∧ Ext w w11) := ⟨HQ.out.below hx11 hx11.size, hR.out.1.2.2.2.2.1.trans hx11⟩
          clear hx11 CQ
          obtain ⟨er, her⟩ : ∃ er, er = checkQ (ps.map toReq) := ⟨_, rfl⟩
          rw [← her]
          by_cases h0 : er = 0
          · have HO : Hid (Out s (ps.map toReq) 0) := .inr (.inr ⟨hs, HNE.out, .inr ⟨ps, HRD.out, .inl ⟨her.symm.trans h0, rfl, rfl⟩⟩⟩)
            subst h0
            clear her
            go_wp2
            go_ret2
            exact parse_good hR.out.2.2.1 HO.out H11.out.1 H11.out.2
          · have HO : Hid (Out s [] er) := .inr (.inr ⟨hs, HNE.out, .inr ⟨ps, HRD.out, .inr ⟨fun e => h0 (her.trans e), rfl, her⟩⟩⟩)
            have b1 : (er != 0) = true := by simp [h0]
            have b2 : (er == 0) = false := by simp [h0]
            clear her h0
            go_wp2
            go_ret2
            exact parse_nil HO.out H11.out.2
        · have hn1 : 0 < n := by omega
          obtain ⟨bb, s', HAT, hs', HRD⟩ : ∃ b s', Hid (At ts 0 b s') ∧ s'.length ≤ 300 ∧ Hid (∀ o, Reads s' ps o → Reads (sfx s 0) [] o) := by
            rcases hR.out.1.2.2.2.2.2 with ⟨h, _⟩ | ⟨b, s', h1, h2, h3⟩
            · have h2 := hR.out.1.2.1
              rw [h] at h2
              simp at h2
              omega
            · exact ⟨b, s', h1, h2, h3⟩
          have CQ : Hid (Calls Tryd.prog 14 #[.slice A n c] wr (RqPost wr ts s')) := by
            have h1 := hR.out.1.1.below (Below.refl _ wr) hR.out.2.2.2.2.size
            rw [← hR.out.1.2.1] at h1
            have h := reqOf_any h1 HAT.out (by have h1 := hR.out.1.2.1; have h2 := hR.out.1.2.2.2.1; omega)
            rw [hR.out.1.2.1] at h
            exact h
          clear h0
          go_wp2_with fail
          refine Calls.mono CQ.out ?_
          rintro e w3 ⟨hx3, ⟨p, r, m, b', A3, c3, hp, hsep, rfl, hat, hrow⟩ | ⟨hbad, key, kd, A3, n3, c3, rfl⟩⟩
          · have H3 : Hid (partS s' = some (p, r) ∧ sepAt r = true ∧ At ts m b' r) := ⟨hp, hsep, hat⟩
            have hmn : m + 1 ≤ n := by have h1 := hat.lt; have h2 := hR.out.1.2.1; omega
            obtain ⟨A', hsl, hsg⟩ := sg_drop (ts := ts) (A := A) (c := c) (w := w3) (B := w2.heap.size) (by have h := hR.out.1.1.below ((hx3 : Below wr.heap.size wr w3).mono hR.out.2.2.2.2.size) (Nat.le_refl _); rw [← hR.out.1.2.1] at h; exact h) (m + 1) (by rw [hR.out.1.2.1]; exact hmn) (by rw [hR.out.1.2.1]; exact hR.out.1.2.2.1)
            rw [hR.out.1.2.1, show ((m + 1 : Nat) : Int) = (m : Int) + 1 by omega] at hsl
            rw [hR.out.1.2.1] at hsg
            have HSG := Lib.hid hsg
            have bm : decide ((m : Int) < 0) = false := decide_eq_false (by omega)
            obtain ⟨t, ht⟩ : ∃ t : Rw, t = ⟨bx p.key, p.kind, A3, p.vals.length, c3⟩ := ⟨_, rfl⟩
            obtain ⟨W4, hW4⟩ : ∃ W4, W4 = w3.alloc (.cells #[.string (bx p.key), .int .i64 p.kind, .slice A3 p.vals.length c3] reqT) := ⟨_, rfl⟩
            have HW4 := Lib.hid hW4
            have H5 : Hid (PRow (W4.alloc (.cells #[.string (bx p.key), .int .i64 p.kind, .slice A3 p.vals.length c3] reqT)) kp w2.heap.size (.slice A5 k c5) L ps ∧ Ext wr (W4.alloc (.cells #[.string (bx p.key), .int .i64 p.kind, .slice A3 p.vals.length c3] reqT)) ∧ w2.heap.size ≤ (W4.alloc (.cells #[.string (bx p.key), .int .i64 p.kind, .slice A3 p.vals.length c3] reqT)).heap.size ∧ partIn (W4.alloc (.cells #[.string (bx p.key), .int .i64 p.kind, .slice A3 p.vals.length c3] reqT)) kp w2.heap.size (.slice A5 k c5) t p ∧ Small 300 p ∧ L.length = k ∧ RSrc (W4.alloc (.cells #[.string (bx p.key), .int .i64 p.kind, .slice A3 p.vals.length c3] reqT)) (.slice (some ⟨W4.heap.size, 0, none⟩) 1 1) [t]) := by
              have hx : Ext w3 (W4.alloc (.cells #[.string (bx p.key), .int .i64 p.kind, .slice A3 p.vals.length c3] reqT)) := by rw [hW4]; exact (new_ext _ _).trans (new_ext _ _)
              have hx5 : Ext wr (W4.alloc (.cells #[.string (bx p.key), .int .i64 p.kind, .slice A3 p.vals.length c3] reqT)) := hx3.trans hx
              refine ⟨hR.out.2.1.kept (grown_ext hx5) HKP.out, hx5, (hR.out.2.2.2.2.trans hx5).size, ?_, part_small hs' hp, by rw [hR.out.2.1.2.1, hR.out.2.2.1], ?_⟩
              · rw [ht]
                refine ⟨rfl, rfl, rfl, (hrow.low hR.out.2.2.2.2.size).ext hx, fun g hg => ⟨?_, fun e => ?_⟩⟩
                · have h1 := (hrow.block g hg).1
                  have h2 := hR.out.2.2.2.2.size
                  have h3 := HKP.out
                  omega
                · have h1 := (hrow.block g hg).1
                  have h2 := (hR.out.2.1.1.block g e).2
                  omega
              · rw [ht]
                exact RSrc.of_block (L := [⟨bx p.key, p.kind, A3, p.vals.length, c3⟩]) (et := reqT) (c := 1) (heap_new rfl)
            have HX3 : Hid (w2.heap.size ≤ w3.heap.size) := (hR.out.2.2.2.2.trans hx3).size
            clear ht hrow hp hsep hat hx3 CQ hsg
            have hb4 : BoxQ W4 w3.heap.size (bx p.key) p.kind A3 p.vals.length c3 := by unfold BoxQ; rw [hW4]; exact heap_new rfl
            obtain ⟨y0, y1, y2⟩ := hb4.cells
            have hW4' := hW4.symm
            clear hW4 hb4
            go_wp2_with (at_builtin; refine append_parts qTyOk rfl _ _ (by rfl) w2.heap.size k 1 _ (.slice A5 k c5) (.slice (some ⟨W4.heap.size, 0, none⟩) 1 1) L [t] (by rfl) (by rfl) H5.out.1.1 H5.out.2.2.2.2.2.2 H5.out.2.2.2.2.2.1 rfl (by omega) H5.out.2.2.1 ?_; intro A9 c9 w9 h9 g9 o9)
            have H9 : Hid (Lf w2.heap.size w w9 A' (n - (m + 1)) (c - (m + 1)) (ts.drop (m + 1)) (sfx s 0) (ps ++ [p]) ∧ PRow w9 kp w2.heap.size (.slice A9 (k + 1) c9) (L ++ [t]) (ps ++ [p]) ∧ (ps ++ [p]).length = k + 1 ∧ (∀ q ∈ ps ++ [p], Small 300 q) ∧ Ext w2 w9) := by
              have hrow : ∀ g, (Value.slice A5 k c5).ownBlock = some g → w2.heap.size ≤ g := fun g e => (H5.out.1.1.block g e).1
              have hx9 : Ext w2 w9 := ext_row (hR.out.2.2.2.2.trans H5.out.2.1) g9 hrow
              have hb9 : Below w2.heap.size w3 w9 := by
                have h1 : Ext w3 (W4.alloc (.cells #[.string (bx p.key), .int .i64 p.kind, .slice A3 p.vals.length c3] reqT)) := by rw [HW4.out]; exact (new_ext _ _).trans (new_ext _ _)
                exact (h1.mono HX3.out).trans (below_row H5.out.2.2.1 g9 hrow)
              have hl : (ts.drop (m + 1)).length = n - (m + 1) := by rw [List.length_drop, hR.out.1.2.1]
              refine ⟨⟨HSG.out.below hb9 (Nat.le_refl _), hl, by have := hR.out.1.2.2.1; omega, by have := hR.out.1.2.2.2.1; omega, H2.out.1.2.2.2.2.1.trans hx9, ?_⟩, H5.out.1.more H5.out.2.2.1 g9 h9 o9 H5.out.2.2.2.1, by rw [List.length_append, hR.out.2.2.1]; rfl, fun q hq => ?_, hx9⟩
              · obtain ⟨hp, hsep, hat⟩ := H3.out
                have hsk := part_skips hp
                unfold sepAt at hsep
                rw [hsk] at hsep
                cases r with
                | nil =>
                  obtain ⟨_, _, h3⟩ := hat.end_ rfl
                  exact .inl ⟨List.drop_eq_nil_iff.2 (by omega), HRD.out _ (.last hp)⟩
                | cons d q =>
                  have hd : d = 44 := by simpa using hsep
                  subst hd
                  obtain ⟨_, _, h3⟩ := hat.sign hsk sep_word
                  refine .inr ⟨false, q, At.drop h3, ?_, fun o h => HRD.out _ (.more hp h)⟩
                  have h4 := part_rest hp
                  simp at h4
                  omega
              · rcases List.mem_append.1 hq with hq | hq
                · exact hR.out.2.2.2.1 q hq
                · rw [List.mem_singleton] at hq
                  rw [hq]
                  exact H5.out.2.2.2.2.1
            clear h9 g9 o9
            go_roundw
            case rel => exact ⟨A', n - (m + 1), c - (m + 1), ts.drop (m + 1), ps ++ [p], k + 1, A9, c9, L ++ [t], rfl, rfl, by omega, H9.out⟩
            case measure => show n - (m + 1) < n; omega
          · have HO : Hid (Out s [] 3) := .inr (.inr ⟨hs, HNE.out, .inl ⟨HRD.out _ (by
              rcases hbad with h | ⟨p, r, h, hsep⟩
              · exact .bad h
              · have hsk := part_skips h
                unfold sepAt at hsep
                rw [hsk] at hsep
                cases r with
                | nil => cases hsep
                | cons d q => exact .junk h (fun e => by rw [e] at hsep; cases hsep)), rfl, rfl⟩⟩)
            have HX := Lib.hid (hR.out.1.2.2.2.2.1.trans hx3)
            clear hbad hx3 CQ
            go_wp2
            go_ret2
            exact parse_nil HO.out (HX.out.trans (new_ext _ _))
  · have b0 : decide ((300 : Int) < (s.size : Int)) = true := decide_eq_true (by omega)
    have HO : Hid (Out s [] 2) := .inl ⟨by omega, rfl, rfl⟩
    go_enter Tryd.func5, Tryd.ntmps5
    go_wp2
    go_ret2
    exact parse_nil HO.out (Below.refl _ _)
end Go.Proofs.YtfggodnfliciiaaDoor.Rd
