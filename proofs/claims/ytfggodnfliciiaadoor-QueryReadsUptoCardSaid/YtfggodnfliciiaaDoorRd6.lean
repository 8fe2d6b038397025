/-
  The program's part: the walk (printed by gen/rd6.py).
-/
import Derived.Test.YtfggodnfliciiaaDoorRd5
namespace Go.Proofs.YtfggodnfliciiaaDoor.Rd
open Go Go.RowKit Go.Proofs.YtfggodnfliciiaaDoor.Sx

theorem wordOf_skip (s : Tx) : wordOf (skip s) = wordOf s ∧ wordBl (skip s) = wordBl s ∧ wordRest (skip s) = wordRest s := by unfold wordOf wordBl wordRest; rw [skip_skip]; exact ⟨rfl, rfl, rfl⟩
theorem part_not {s r : Tx} (h : skip s = 33 :: r) : partS s = some (⟨wordOf r, 4, []⟩, wordRest r) := by unfold partS; rw [h]; rfl
theorem part_tail {s : Tx} (h : ∀ r, skip s ≠ 33 :: r) : partS s = tailS (wordOf s) (wordBl s) (wordRest s) := by
  unfold partS
  cases hs : skip s with
  | nil =>
    have e : wordOf s = [] ∧ wordRest s = [] := by unfold wordOf wordRest; rw [hs]; exact ⟨rfl, rfl⟩
    rw [e.1, e.2]
    rfl
  | cons c r =>
    have hc : c ≠ 33 := fun e => h r (by rw [hs, e])
    simp only
    rw [if_neg hc]
theorem tail_end (k : Tx) (bl : Bool) : tailS k bl [] = some (⟨k, 3, []⟩, []) := rfl
theorem tail_comma (k : Tx) (bl : Bool) (r : Tx) : tailS k bl (44 :: r) = some (⟨k, 3, []⟩, 44 :: r) := rfl
theorem tail_two (k : Tx) (bl : Bool) (r : Tx) : tailS k bl (61 :: 61 :: r) = some (⟨k, 1, [wordOf r]⟩, wordRest r) := rfl
theorem tail_one (k : Tx) (bl : Bool) {r : Tx} (h : r.head? ≠ some 61) : tailS k bl (61 :: r) = some (⟨k, 1, [wordOf r]⟩, wordRest r) := by
  cases r with
  | nil => rfl
  | cons d r2 =>
    have hd : d ≠ 61 := fun e => h (by rw [e]; rfl)
    show (if d = 61 then _ else _) = _
    rw [if_neg hd]
theorem tail_ne (k : Tx) (bl : Bool) (r : Tx) : tailS k bl (33 :: 61 :: r) = some (⟨k, 2, [wordOf r]⟩, wordRest r) := rfl
theorem tail_else (k : Tx) (bl : Bool) {c : UInt8} {r : Tx} (h1 : c ≠ 44) (h2 : c ≠ 61) (h3 : ¬ (c = 33 ∧ r.head? = some 61)) : tailS k bl (c :: r) = if bl then choiceS k (c :: r) else none := by
  show (if c = 44 then _ else _) = _
  rw [if_neg h1, if_neg h2, if_neg h3]
theorem pre_two {a b c d : UInt8} {r : Tx} : pre ⟨#[a, b]⟩ (c :: d :: r) = (a == c && b == d) := by
  unfold pre Lib.hasPrefix
  simp [List.isPrefixOf]
theorem pre_two_one {a b c : UInt8} : pre ⟨#[a, b]⟩ [c] = false := by
  unfold pre Lib.hasPrefix
  simp [List.isPrefixOf]
theorem pre_two_no {a b c : UInt8} {r : Tx} (h : a ≠ c) : pre ⟨#[a, b]⟩ (c :: r) = false := by
  have h2 : (a == c) = false := by simpa using h
  unfold pre Lib.hasPrefix
  simp [List.isPrefixOf, h2]
theorem pre_two_head {a b c : UInt8} {r : Tx} (h : r.head? ≠ some b) : pre ⟨#[a, b]⟩ (c :: r) = false := by
  cases r with
  | nil => exact pre_two_one
  | cons d r =>
    rw [pre_two]
    have : (b == d) = false := by
      rw [beq_eq_false_iff_ne]
      exact fun e => h (by rw [e]; rfl)
    rw [this, Bool.and_false]
theorem row_one {base : Nat} {w : World} {g : Nat} {s : ByteArray} (hb : base ≤ g) (h : w.heap[g]? = some (.cells #[.string s] strT (0, 0))) : SRow base w (.slice (some ⟨g, 0, none⟩) 1 1) [s] :=
  .inr ⟨g, [], rfl, hb, h, by unfold maxLen; simp⟩
/-- Where the part stands: the parser, its box, the result's box. -/
def St (w V : World) (kp : Nat) (s : ByteArray) (j : Nat) (bd : Bool) (k7 : Nat) (key : ByteArray) (kd : Int) (A : Option Addr) (n c : Nat) (k2 : Nat) : Prop :=
  PIn V kp s j bd ∧ BoxQ V k7 key kd A n c ∧ BoxQ V k2 ⟨#[]⟩ 0 none 0 0 ∧ w.grownBy V (some kp) ∧ kp < w.heap.size ∧ w.heap.size ≤ k7 ∧ w.heap.size ≤ k2 ∧ k7 ≠ k2
section
variable {w V V' : World} {kp : Nat} {s : ByteArray} {j j' : Nat} {bd bd' : Bool} {k7 : Nat} {key : ByteArray} {kd : Int} {A A' : Option Addr} {n c n' c' : Nat} {k2 : Nat}
theorem St.go (h : St w V kp s j bd k7 key kd A n c k2) (hp : PIn V' kp s j' bd') (hg : V.grownBy V' (some kp)) : St w V' kp s j' bd' k7 key kd A n c k2 := by
  obtain ⟨h1, h2, h3, h4, h5, h6, h7, h8⟩ := h
  exact ⟨hp, h2.kept hg (fun e => by injection e with e; omega), h3.kept hg (fun e => by injection e with e; omega), grown_trans h4 hg, h5, h6, h7, h8⟩
theorem St.ext (h : St w V kp s j bd k7 key kd A n c k2) (hx : Ext V V') : St w V' kp s j bd k7 key kd A n c k2 := h.go (h.1.ext hx) (grown_ext hx)
theorem St.kind (h : St w V kp s j bd k7 key kd A n c k2) (z : Int) : St w (V.setCell ⟨k7, 1, none⟩ (.int .i64 z)) kp s j bd k7 key z A n c k2 := by
  obtain ⟨h1, h2, h3, h4, h5, h6, h7, h8⟩ := h
  exact ⟨h1.setOther (by omega), h2.setKind z, h3.setOther (by omega), grown_new h4 h6, h5, h6, h7, h8⟩
theorem St.vals (h : St w V kp s j bd k7 key kd A n c k2) : St w (V.setCell ⟨k7, 2, none⟩ (.slice A' n' c')) kp s j bd k7 key kd A' n' c' k2 := by
  obtain ⟨h1, h2, h3, h4, h5, h6, h7, h8⟩ := h
  exact ⟨h1.setOther (by omega), h2.setVals, h3.setOther (by omega), grown_new h4 h6, h5, h6, h7, h8⟩
theorem St.bad (h : St w V kp s j bd k7 key kd A n c k2) : St w (V.setCell ⟨kp, 2, none⟩ (.bool true)) kp s j true k7 key kd A n c k2 := by
  have h0 := h
  obtain ⟨h1, h2, h3, h4, h5, h6, h7, h8⟩ := h
  exact h0.go (h1.setBad true) (grown_set _ kp 2 _)
theorem St.ret (h : St w V kp s j bd k7 key kd A n c k2) {key' : ByteArray} {kd' : Int} : BoxQ (((V.setCell ⟨k2, 0, none⟩ (.string key')).setCell ⟨k2, 1, none⟩ (.int .i64 kd')).setCell ⟨k2, 2, none⟩ (.slice A' n' c')) k2 key' kd' A' n' c' ∧
    w.grownBy (((V.setCell ⟨k2, 0, none⟩ (.string key')).setCell ⟨k2, 1, none⟩ (.int .i64 kd')).setCell ⟨k2, 2, none⟩ (.slice A' n' c')) (some kp) ∧ PIn (((V.setCell ⟨k2, 0, none⟩ (.string key')).setCell ⟨k2, 1, none⟩ (.int .i64 kd')).setCell ⟨k2, 2, none⟩ (.slice A' n' c')) kp s j bd := by
  obtain ⟨h1, h2, h3, h4, h5, h6, h7, h8⟩ := h
  exact ⟨h3.setAll, grown_new (grown_new (grown_new h4 h7) h7) h7, ((h1.setOther (by omega)).setOther (by omega)).setOther (by omega)⟩
end
theorem srow_stores {base k : Nat} {V : World} {v : Value} {xs : List ByteArray} (h : SRow base V v xs) (hne : ∀ g, v.ownBlock = some g → g ≠ k) {i1 i2 i3 : Nat} {u1 u2 u3 : Value} : SRow base (((V.setCell ⟨k, i1, none⟩ u1).setCell ⟨k, i2, none⟩ u2).setCell ⟨k, i3, none⟩ u3) v xs := by
  have hs : ∀ (W : World) (i : Nat) (u : Value), SRow base W v xs → SRow base (W.setCell ⟨k, i, none⟩ u) v xs := fun W i u h => h.kept (grown_set W k i u) (fun g hg e => hne g hg (by injection e with e; exact e.symm))
  exact hs _ _ _ (hs _ _ _ (hs _ _ _ h))
theorem srow_store {base k : Nat} {V : World} {v : Value} {xs : List ByteArray} (h : SRow base V v xs) (hne : ∀ g, v.ownBlock = some g → g ≠ k) {i1 : Nat} {u1 : Value} : SRow base (V.setCell ⟨k, i1, none⟩ u1) v xs :=
  h.kept (grown_set V k i1 u1) (fun g hg e => hne g hg (by injection e with e; exact e.symm))

set_option maxRecDepth 100000 in
set_option maxHeartbeats 8000000 in
theorem part_any (kp : Nat) (s : ByteArray) (i : Nat) (w : World) (h : PIn w kp s i false) (hs : s.size ≤ 300) (hi : i ≤ s.size) :
    Calls Tryd.prog 10 #[.pointer (some ⟨kp, 0, none⟩)] w (PartPost w kp s (partS (sfx s i))) := by
  have H := Lib.hid h
  have HK := Lib.hid (heap_lt h)
  clear h
  go_enter Tryd.func10, Tryd.ntmps10
  go_upto_region 1 with fail
  obtain ⟨W1, hW⟩ : ∃ W, W = w.alloc (.cells #[.string ⟨#[]⟩, .int .i64 0, .slice none 0 0] reqT) := ⟨_, rfl⟩
  obtain ⟨k2, hk2⟩ : ∃ k2, k2 = w.heap.size := ⟨_, rfl⟩
  rw [← hW, ← hk2]
  have H1 : Hid (PIn W1 kp s i false ∧ BoxQ W1 k2 ⟨#[]⟩ 0 none 0 0 ∧ w.grownBy W1 (some kp) ∧ w.heap.size ≤ k2 ∧ kp < k2 ∧ k2 < W1.heap.size) := by
    have hx : Ext w W1 := by rw [hW]; exact new_ext _ _
    have hb : BoxQ W1 k2 ⟨#[]⟩ 0 none 0 0 := by unfold BoxQ; rw [hW]; exact heap_new hk2
    exact ⟨H.out.ext hx, hb, grown_ext hx, by omega, by rw [hk2]; exact HK.out, heap_lt hb⟩
  clear hW hk2
  have CB := Lib.hid (blanks_any kp s i false W1 H1.out.1 hs hi)
  go_wp2_with fail
  refine Calls.mono CB.out ?_
  rintro e w2 ⟨a, rfl, hp2, hia, has, hsk, hg2⟩
  have H2 : Hid (PIn w2 kp s a false ∧ BoxQ w2 k2 ⟨#[]⟩ 0 none 0 0 ∧ w.grownBy w2 (some kp)) := ⟨hp2, H1.out.2.1.kept hg2 (fun e => by injection e with e; have := H1.out; omega), grown_trans H1.out.2.2.1 hg2⟩
  have HSA := Lib.hid hsk
  have HKK : Hid (kp < w.heap.size ∧ w.heap.size ≤ k2 ∧ k2 < w2.heap.size) := ⟨HK.out, H1.out.2.2.2.1, Nat.lt_of_lt_of_le H1.out.2.2.2.2.2 hg2.size⟩
  clear hp2 hg2 hsk CB H1
  have HN := Lib.hid (has_any kp s a false ⟨#[33]⟩ w2 H2.out.1 has hs (by decide))
  by_cases hq : ∃ r, sfx s a = 33 :: r
  · obtain ⟨r, hr⟩ := hq
    have HPS : Hid (partS (sfx s i) = some (⟨wordOf r, 4, []⟩, wordRest r)) := part_not (by rw [← HSA.out]; exact hr)
    have HT := Lib.hid (sfx_step hr)
    rw [hr, pre_one] at HN
    clear hr
    go_wp2_with fail
    refine Calls.mono HN.out ?_
    rintro e w3 ⟨rfl, hp3, hg3⟩
    have H3 : Hid (PIn w3 kp s (a + 1) false ∧ BoxQ w3 k2 ⟨#[]⟩ 0 none 0 0 ∧ w.grownBy w3 (some kp)) := ⟨hp3, H2.out.2.1.kept hg3 (fun e => by injection e with e; have := HKK.out; omega), grown_trans H2.out.2.2 hg3⟩
    clear hp3 hg3 HN
    have CW := Lib.hid (word_any kp s (a + 1) false w3 H3.out.1 hs HT.out.1)
    rw [HT.out.2] at CW
    go_wp2_with fail
    refine Calls.mono CW.out ?_
    rintro e w4 ⟨j, rfl, hp4, _, hjs, hsj, hg4⟩
    have H4 : Hid (PIn w4 kp s j false ∧ BoxQ w4 k2 ⟨#[]⟩ 0 none 0 0 ∧ w.grownBy w4 (some kp) ∧ sfx s j = wordRest r) := ⟨hp4, H3.out.2.1.kept hg4 (fun e => by injection e with e; have := HKK.out; omega), grown_trans H3.out.2.2 hg4, hsj⟩
    clear hp4 hg4 CW hsj
    obtain ⟨x0, x1, x2⟩ := H4.out.2.1.cells
    have g0 := H4.out.2.1.free 0
    have g1 := H4.out.2.1.free 1
    have g2 := H4.out.2.1.free 2
    obtain ⟨U, hU⟩ : ∃ U, U = ((w4.setCell ⟨k2, 0, none⟩ (.string (bx (wordOf r)))).setCell ⟨k2, 1, none⟩ (.int .i64 4)).setCell ⟨k2, 2, none⟩ (.slice none 0 0) := ⟨_, rfl⟩
    have HU : Hid (BoxQ U k2 (bx (wordOf r)) 4 none 0 0 ∧ w.grownBy U (some kp) ∧ PIn U kp s j false) := by
      rw [hU]
      exact ⟨H4.out.2.1.setAll, grown_new (grown_new (grown_new H4.out.2.2.1 HKK.out.2.1) HKK.out.2.1) HKK.out.2.1, ((H4.out.1.setOther (by have := HKK.out; omega)).setOther (by have := HKK.out; omega)).setOther (by have := HKK.out; omega)⟩
    have hU2 := hU.symm
    clear hU
    go_wp2
    refine bodyPost_ret (results_r rfl _ _ k2 rfl HU.out.1) rfl ?_
    exact ⟨j, hjs, HU.out.2.1, .inl ⟨⟨wordOf r, 4, []⟩, none, 0, by rw [HPS.out, H4.out.2.2.2], rfl, SRow.nil, HU.out.2.2⟩⟩
  · have HNP : Hid (pre ⟨#[33]⟩ (sfx s a) = false) := by
      unfold Hid
      rcases hS : sfx s a with _ | ⟨c, r⟩
      · exact pre_nil
      · rw [pre_one, beq_eq_false_iff_ne]
        exact fun e => hq ⟨r, by rw [hS, ← e]⟩
    have HPT : Hid (partS (sfx s i) = tailS (wordOf (sfx s i)) (wordBl (sfx s i)) (wordRest (sfx s i))) := part_tail (fun r e => hq ⟨r, by rw [HSA.out]; exact e⟩)
    rw [HNP.out] at HN
    clear hq HNP
    go_wp2_with fail
    refine Calls.mono HN.out ?_
    rintro e w3 ⟨rfl, hp3, hg3⟩
    have H3 : Hid (PIn w3 kp s a false ∧ BoxQ w3 k2 ⟨#[]⟩ 0 none 0 0 ∧ w.grownBy w3 (some kp) ∧ k2 < w3.heap.size) := ⟨hp3, H2.out.2.1.kept hg3 (fun e => by injection e with e; have := HKK.out; omega), grown_trans H2.out.2.2 hg3, Nat.lt_of_lt_of_le HKK.out.2.2 hg3.size⟩
    clear hp3 hg3 HN
    have CW := Lib.hid (word_any kp s a false w3 H3.out.1 hs has)
    rw [HSA.out, (wordOf_skip _).1, (wordOf_skip _).2.1, (wordOf_skip _).2.2] at CW
    go_wp2_with fail
    refine Calls.mono CW.out ?_
    rintro e w4 ⟨j, rfl, hp4, _, hjs, hsj, hg4⟩
    have H4 : Hid (PIn w4 kp s j false ∧ BoxQ w4 k2 ⟨#[]⟩ 0 none 0 0 ∧ w.grownBy w4 (some kp) ∧ k2 < w4.heap.size) := ⟨hp4, H3.out.2.1.kept hg4 (fun e => by injection e with e; have := HKK.out; omega), grown_trans H3.out.2.2.1 hg4, Nat.lt_of_lt_of_le H3.out.2.2.2 hg4.size⟩
    obtain ⟨k, hk⟩ : ∃ k, k = wordOf (sfx s i) := ⟨_, rfl⟩
    obtain ⟨bl, hbl⟩ : ∃ bl, bl = wordBl (sfx s i) := ⟨_, rfl⟩
    rw [← hk, ← hbl, ← hsj] at HPT
    rw [← hk, ← hbl]
    clear hp4 hg4 CW hsj hk hbl
    go_upto_region 8 with fail
    obtain ⟨W5, hW⟩ : ∃ W, W = w4.alloc (.cells #[.string (bx k), .int .i64 3, .slice none 0 0] reqT) := ⟨_, rfl⟩
    obtain ⟨k7, hk7⟩ : ∃ k7, k7 = w4.heap.size := ⟨_, rfl⟩
    rw [← hW, ← hk7]
    have H5 : Hid (St w W5 kp s j false k7 (bx k) 3 none 0 0 k2) := by
      have hx : Ext w4 W5 := by rw [hW]; exact new_ext _ _
      have hb : BoxQ W5 k7 (bx k) 3 none 0 0 := by unfold BoxQ; rw [hW]; exact heap_new hk7
      exact ⟨H4.out.1.ext hx, hb, (hx.block _ (heap_lt H4.out.2.1)).trans H4.out.2.1, grown_trans H4.out.2.2.1 (grown_ext hx), HKK.out.1, by rw [hk7]; exact H4.out.2.2.1.size, HKK.out.2.1, by have := H4.out.2.2.2; omega⟩
    clear hW hk7 H4 H3 H2
    obtain ⟨z0, z1, z2⟩ := H5.out.1.cells
    rcases hS : sfx s j with _ | ⟨c, r⟩
    · have HPS : Hid (partS (sfx s i) = some (⟨k, 3, []⟩, sfx s j)) := by unfold Hid; rw [HPT.out, hS]; rfl
      have CO : Hid (∀ n, Calls Tryd.prog 9 #[.pointer (some ⟨kp, 0, none⟩)] (W5.drewN n) fun e w' => e = .returned (.bool true) ∧ ∃ m, w' = (W5.drewN n).drewN m) := fun n => by
        have h := over_any kp s j false (W5.drewN n) H5.out.1 hjs
        rw [hS] at h
        exact h
      clear hS
      go_wp2_with fail
      go_quiet (exact Calls.quiet_of (CO.out _))
      clear z0 z1 z2
      obtain ⟨V, hV⟩ : ∃ V, V = W5.drewN nq := ⟨_, rfl⟩
      rw [← hV]
      have HV : Hid (St w V kp s j false k7 (bx k) 3 none 0 0 k2) := by rw [hV]; exact H5.out.ext (ext_drewN' W5 _)
      clear hV
      obtain ⟨y0, y1, y2⟩ := HV.out.2.1.cells
      obtain ⟨x0, x1, x2⟩ := HV.out.2.2.1.cells
      have g0 := HV.out.2.2.1.free 0
      have g1 := HV.out.2.2.1.free 1
      have g2 := HV.out.2.2.1.free 2
      obtain ⟨U, hU⟩ : ∃ U, U = ((V.setCell ⟨k2, 0, none⟩ (.string (bx k))).setCell ⟨k2, 1, none⟩ (.int .i64 3)).setCell ⟨k2, 2, none⟩ (.slice none 0 0) := ⟨_, rfl⟩
      have HU : Hid ((BoxQ U k2 (bx k) 3 none 0 0 ∧ w.grownBy U (some kp) ∧ PIn U kp s j false)) := by
        rw [hU]
        exact HV.out.ret
      have hU2 := hU.symm
      clear hU
      go_wp2
      refine bodyPost_ret (results_r rfl _ _ k2 rfl HU.out.1) rfl ?_
      exact ⟨j, hjs, HU.out.2.1, .inl ⟨⟨k, 3, []⟩, none, 0, HPS.out, rfl, SRow.nil, HU.out.2.2⟩⟩
    · have hlt := (sfx_step hS).1
      have hby := run_byte s j hlt
      have hcc : byteAt s j = c := by have h := sfx_cons hlt; rw [hS] at h; injection h with h _; exact h.symm
      rw [hcc] at hby
      have CO : Hid (∀ n, Calls Tryd.prog 9 #[.pointer (some ⟨kp, 0, none⟩)] (W5.drewN n) fun e w' => e = .returned (.bool false) ∧ ∃ m, w' = (W5.drewN n).drewN m) := fun n => by
        have h := over_any kp s j false (W5.drewN n) H5.out.1 hjs
        rw [hS] at h
        exact h
      by_cases hc : c = 44
      · have b1 : ((c.toNat : Int) == 44) = true := by rw [hc]; rfl
        have HPS : Hid (partS (sfx s i) = some (⟨k, 3, []⟩, sfx s j)) := by unfold Hid; rw [HPT.out, hS, hc]; rfl
        clear hS hc hcc
        go_wp2_with fail
        go_quiet (exact Calls.quiet_of (CO.out _))
        clear hby b1
        clear z0 z1 z2
        obtain ⟨V, hV⟩ : ∃ V, V = W5.drewN nq := ⟨_, rfl⟩
        rw [← hV]
        have HV : Hid (St w V kp s j false k7 (bx k) 3 none 0 0 k2) := by rw [hV]; exact H5.out.ext (ext_drewN' W5 _)
        clear hV
        obtain ⟨y0, y1, y2⟩ := HV.out.2.1.cells
        obtain ⟨x0, x1, x2⟩ := HV.out.2.2.1.cells
        have g0 := HV.out.2.2.1.free 0
        have g1 := HV.out.2.2.1.free 1
        have g2 := HV.out.2.2.1.free 2
        obtain ⟨U, hU⟩ : ∃ U, U = ((V.setCell ⟨k2, 0, none⟩ (.string (bx k))).setCell ⟨k2, 1, none⟩ (.int .i64 3)).setCell ⟨k2, 2, none⟩ (.slice none 0 0) := ⟨_, rfl⟩
        have HU : Hid ((BoxQ U k2 (bx k) 3 none 0 0 ∧ w.grownBy U (some kp) ∧ PIn U kp s j false)) := by
          rw [hU]
          exact HV.out.ret
        have hU2 := hU.symm
        clear hU
        go_wp2
        refine bodyPost_ret (results_r rfl _ _ k2 rfl HU.out.1) rfl ?_
        exact ⟨j, hjs, HU.out.2.1, .inl ⟨⟨k, 3, []⟩, none, 0, HPS.out, rfl, SRow.nil, HU.out.2.2⟩⟩
      · have b1 : ((c.toNat : Int) == 44) = false := by rw [show (44 : Int) = ((44 : UInt8).toNat : Int) from rfl, byte_eq]; simp [hc]
        clear hcc
        go_wp2_with fail
        go_quiet (exact Calls.quiet_of (CO.out _))
        clear z0 z1 z2 hby b1 CO
        obtain ⟨V, hV⟩ : ∃ V, V = W5.drewN nq := ⟨_, rfl⟩
        rw [← hV]
        have HV : Hid (St w V kp s j false k7 (bx k) 3 none 0 0 k2) := by rw [hV]; exact H5.out.ext (ext_drewN' W5 _)
        clear hV H5
        have HE2 := Lib.hid (has_any kp s j false ⟨#[61, 61]⟩ V HV.out.1 hjs hs (by decide))
        rw [hS] at HE2
        have HC := Lib.hid hc
        have HS := Lib.hid hS
        clear hc
        by_cases h61 : c = 61
        · by_cases hd : r.head? = some 61
          · obtain ⟨r2, rfl⟩ : ∃ r2, r = 61 :: r2 := by
              cases r with
              | nil => cases hd
              | cons d r2 => injection hd with hd; exact ⟨r2, by rw [hd]⟩
            clear hd
            have HPS : Hid (partS (sfx s i) = some (⟨k, 1, [wordOf r2]⟩, wordRest r2)) := by unfold Hid; rw [HPT.out, HS.out, h61]; rfl
            have HT : Hid (j + 2 ≤ s.size ∧ sfx s (j + 2) = r2) := by
              have h1 := sfx_step HS.out
              have h2 := sfx_step h1.2
              exact ⟨h2.1, h2.2⟩
            rw [pre_two, h61] at HE2
            clear hS h61
            go_wp2_with fail
            refine Calls.mono HE2.out ?_
            rintro e w6 ⟨rfl, hp6, hg6⟩
            have H6 : Hid (St w w6 kp s (j + 2) false k7 (bx k) 3 none 0 0 k2) := HV.out.go hp6 hg6
            clear hp6 hg6 HE2
            have f1 := H6.out.2.1.free 1
            obtain ⟨y0, y1, y2⟩ := H6.out.2.1.cells
            obtain ⟨W7, hW7⟩ : ∃ W7, W7 = w6.setCell ⟨k7, 1, none⟩ (.int .i64 1) := ⟨_, rfl⟩
            have H7 : Hid (St w W7 kp s (j + 2) false k7 (bx k) 1 none 0 0 k2) := by rw [hW7]; exact H6.out.kind 1
            have e7 := hW7.symm
            clear hW7
            have CW := Lib.hid (word_any kp s (j + 2) false W7 H7.out.1 hs HT.out.1)
            rw [HT.out.2] at CW
            go_upto_region 16 with fail
            clear e7 y0 y1 y2 f1
            obtain ⟨y0, y1, y2⟩ := H7.out.2.1.cells
            go_wp2_with fail
            refine Calls.mono CW.out ?_
            rintro e w8 ⟨q, rfl, hp8, _, hqs, hsq, hg8⟩
            have H8 : Hid (St w w8 kp s q false k7 (bx k) 1 none 0 0 k2 ∧ sfx s q = wordRest r2) := ⟨H7.out.go hp8 hg8, hsq⟩
            clear hp8 hg8 hsq CW y0 y1 y2
            obtain ⟨wd, hwd⟩ : ∃ wd, wd = wordOf r2 := ⟨_, rfl⟩
            rw [← hwd] at HPS
            rw [← hwd]
            clear hwd
            obtain ⟨W9, hW9⟩ : ∃ W9, W9 = w8.alloc (.cells #[.string (bx wd)] strT) := ⟨_, rfl⟩
            obtain ⟨kv, hkv⟩ : ∃ kv, kv = w8.heap.size := ⟨_, rfl⟩
            obtain ⟨W10, hW10⟩ : ∃ W10, W10 = W9.setCell ⟨k7, 2, none⟩ (.slice (some ⟨kv, 0, none⟩) 1 1) := ⟨_, rfl⟩
            have H10 : Hid (St w W10 kp s q false k7 (bx k) 1 (some ⟨kv, 0, none⟩) 1 1 k2 ∧ SRow w.heap.size W10 (.slice (some ⟨kv, 0, none⟩) 1 1) [bx wd] ∧ kv ≠ k2) := by
              have hx : Ext w8 W9 := by rw [hW9]; exact new_ext _ _
              have h7 := heap_lt (show w8.heap[k7]? = _ from H8.out.1.2.1)
              have h2 := heap_lt (show w8.heap[k2]? = _ from H8.out.1.2.2.1)
              have hrow : SRow w.heap.size W9 (.slice (some ⟨kv, 0, none⟩) 1 1) [bx wd] := row_one (by rw [hkv]; exact H8.out.1.2.2.2.1.size) (by rw [hW9]; exact heap_new hkv)
              rw [hW10]
              exact ⟨(H8.out.1.ext hx).vals, srow_store hrow (fun g hg => by simp [Value.ownBlock] at hg; omega), by omega⟩
            have H9 : Hid (BoxQ W9 k7 (bx k) 1 none 0 0) := by
              have hx : Ext w8 W9 := by rw [hW9]; exact new_ext _ _
              exact (H8.out.1.ext hx).2.1
            obtain ⟨y0, y1, y2⟩ := H9.out.cells
            have f2 := H9.out.free 2
            have e9 := hW9.symm
            have e10 := hW10.symm
            have HKV := Lib.hid hkv
            clear hW9 hW10 hkv
            go_upto_region 18 with fail
            go_upto_region 19 with fail
            try rw [← HKV.out]
            try rw [e9]
            try rw [e10]
            clear e9 e10 y0 y1 y2 f2
            obtain ⟨y0, y1, y2⟩ := H10.out.1.2.1.cells
            obtain ⟨x0, x1, x2⟩ := H10.out.1.2.2.1.cells
            have g0 := H10.out.1.2.2.1.free 0
            have g1 := H10.out.1.2.2.1.free 1
            have g2 := H10.out.1.2.2.1.free 2
            obtain ⟨U, hU⟩ : ∃ U, U = ((W10.setCell ⟨k2, 0, none⟩ (.string (bx k))).setCell ⟨k2, 1, none⟩ (.int .i64 1)).setCell ⟨k2, 2, none⟩ (.slice (some ⟨kv, 0, none⟩) 1 1) := ⟨_, rfl⟩
            have HU : Hid ((BoxQ U k2 (bx k) 1 (some ⟨kv, 0, none⟩) 1 1 ∧ w.grownBy U (some kp) ∧ PIn U kp s q false) ∧ SRow w.heap.size U (.slice (some ⟨kv, 0, none⟩) 1 1) [bx wd]) := by
              rw [hU]
              exact ⟨H10.out.1.ret, srow_stores H10.out.2.1 (fun g hg => by have h := H10.out.2.2; simp [Value.ownBlock] at hg; omega)⟩
            have hU2 := hU.symm
            clear hU
            go_wp2
            refine bodyPost_ret (results_r rfl _ _ k2 rfl HU.out.1.1) rfl ?_
            exact ⟨q, hqs, HU.out.1.2.1, .inl ⟨⟨k, 1, [wd]⟩, some ⟨kv, 0, none⟩, 1, by rw [HPS.out, H8.out.2], rfl, HU.out.2, HU.out.1.2.2⟩⟩
          · have HPS : Hid (partS (sfx s i) = some (⟨k, 1, [wordOf r]⟩, wordRest r)) := by unfold Hid; rw [HPT.out, HS.out, h61]; exact tail_one k bl hd
            have HT : Hid (j + 1 ≤ s.size ∧ sfx s (j + 1) = r) := sfx_step HS.out
            rw [pre_two_head hd] at HE2
            have H61 := Lib.hid h61
            clear hS h61 hd
            go_wp2_with fail
            refine Calls.mono HE2.out ?_
            rintro e w5 ⟨rfl, hp5, hg5⟩
            have HV5 : Hid (St w w5 kp s j false k7 (bx k) 3 none 0 0 k2) := HV.out.go hp5 hg5
            clear hp5 hg5 HE2
            have HE1 := Lib.hid (has_any kp s j false ⟨#[61]⟩ w5 HV5.out.1 hjs hs (by decide))
            rw [HS.out, pre_one, H61.out] at HE1
            go_wp2_with fail
            refine Calls.mono HE1.out ?_
            rintro e w6 ⟨rfl, hp6, hg6⟩
            have H6 : Hid (St w w6 kp s (j + 1) false k7 (bx k) 3 none 0 0 k2) := HV5.out.go hp6 hg6
            clear hp6 hg6 HE1
            have f1 := H6.out.2.1.free 1
            obtain ⟨y0, y1, y2⟩ := H6.out.2.1.cells
            obtain ⟨W7, hW7⟩ : ∃ W7, W7 = w6.setCell ⟨k7, 1, none⟩ (.int .i64 1) := ⟨_, rfl⟩
            have H7 : Hid (St w W7 kp s (j + 1) false k7 (bx k) 1 none 0 0 k2) := by rw [hW7]; exact H6.out.kind 1
            have e7 := hW7.symm
            clear hW7
            have CW := Lib.hid (word_any kp s (j + 1) false W7 H7.out.1 hs HT.out.1)
            rw [HT.out.2] at CW
            go_upto_region 16 with fail
            clear e7 y0 y1 y2 f1
            obtain ⟨y0, y1, y2⟩ := H7.out.2.1.cells
            go_wp2_with fail
            refine Calls.mono CW.out ?_
            rintro e w8 ⟨q, rfl, hp8, _, hqs, hsq, hg8⟩
            have H8 : Hid (St w w8 kp s q false k7 (bx k) 1 none 0 0 k2 ∧ sfx s q = wordRest r) := ⟨H7.out.go hp8 hg8, hsq⟩
            clear hp8 hg8 hsq CW y0 y1 y2
            obtain ⟨wd, hwd⟩ : ∃ wd, wd = wordOf r := ⟨_, rfl⟩
            rw [← hwd] at HPS
            rw [← hwd]
            clear hwd
            obtain ⟨W9, hW9⟩ : ∃ W9, W9 = w8.alloc (.cells #[.string (bx wd)] strT) := ⟨_, rfl⟩
            obtain ⟨kv, hkv⟩ : ∃ kv, kv = w8.heap.size := ⟨_, rfl⟩
            obtain ⟨W10, hW10⟩ : ∃ W10, W10 = W9.setCell ⟨k7, 2, none⟩ (.slice (some ⟨kv, 0, none⟩) 1 1) := ⟨_, rfl⟩
            have H10 : Hid (St w W10 kp s q false k7 (bx k) 1 (some ⟨kv, 0, none⟩) 1 1 k2 ∧ SRow w.heap.size W10 (.slice (some ⟨kv, 0, none⟩) 1 1) [bx wd] ∧ kv ≠ k2) := by
              have hx : Ext w8 W9 := by rw [hW9]; exact new_ext _ _
              have h7 := heap_lt (show w8.heap[k7]? = _ from H8.out.1.2.1)
              have h2 := heap_lt (show w8.heap[k2]? = _ from H8.out.1.2.2.1)
              have hrow : SRow w.heap.size W9 (.slice (some ⟨kv, 0, none⟩) 1 1) [bx wd] := row_one (by rw [hkv]; exact H8.out.1.2.2.2.1.size) (by rw [hW9]; exact heap_new hkv)
              rw [hW10]
              exact ⟨(H8.out.1.ext hx).vals, srow_store hrow (fun g hg => by simp [Value.ownBlock] at hg; omega), by omega⟩
            have H9 : Hid (BoxQ W9 k7 (bx k) 1 none 0 0) := by
              have hx : Ext w8 W9 := by rw [hW9]; exact new_ext _ _
              exact (H8.out.1.ext hx).2.1
            obtain ⟨y0, y1, y2⟩ := H9.out.cells
            have f2 := H9.out.free 2
            have e9 := hW9.symm
            have e10 := hW10.symm
            have HKV := Lib.hid hkv
            clear hW9 hW10 hkv
            go_upto_region 18 with fail
            go_upto_region 19 with fail
            try rw [← HKV.out]
            try rw [e9]
            try rw [e10]
            clear e9 e10 y0 y1 y2 f2
            obtain ⟨y0, y1, y2⟩ := H10.out.1.2.1.cells
            obtain ⟨x0, x1, x2⟩ := H10.out.1.2.2.1.cells
            have g0 := H10.out.1.2.2.1.free 0
            have g1 := H10.out.1.2.2.1.free 1
            have g2 := H10.out.1.2.2.1.free 2
            obtain ⟨U, hU⟩ : ∃ U, U = ((W10.setCell ⟨k2, 0, none⟩ (.string (bx k))).setCell ⟨k2, 1, none⟩ (.int .i64 1)).setCell ⟨k2, 2, none⟩ (.slice (some ⟨kv, 0, none⟩) 1 1) := ⟨_, rfl⟩
            have HU : Hid ((BoxQ U k2 (bx k) 1 (some ⟨kv, 0, none⟩) 1 1 ∧ w.grownBy U (some kp) ∧ PIn U kp s q false) ∧ SRow w.heap.size U (.slice (some ⟨kv, 0, none⟩) 1 1) [bx wd]) := by
              rw [hU]
              exact ⟨H10.out.1.ret, srow_stores H10.out.2.1 (fun g hg => by have h := H10.out.2.2; simp [Value.ownBlock] at hg; omega)⟩
            have hU2 := hU.symm
            clear hU
            go_wp2
            refine bodyPost_ret (results_r rfl _ _ k2 rfl HU.out.1.1) rfl ?_
            exact ⟨q, hqs, HU.out.1.2.1, .inl ⟨⟨k, 1, [wd]⟩, some ⟨kv, 0, none⟩, 1, by rw [HPS.out, H8.out.2], rfl, HU.out.2, HU.out.1.2.2⟩⟩
        · rw [pre_two_no (fun e => h61 e.symm)] at HE2
          have H61 := Lib.hid h61
          clear hS h61
          go_wp2_with fail
          refine Calls.mono HE2.out ?_
          rintro e w5 ⟨rfl, hp5, hg5⟩
          have HV5 : Hid (St w w5 kp s j false k7 (bx k) 3 none 0 0 k2) := HV.out.go hp5 hg5
          clear hp5 hg5 HE2
          have HE1 := Lib.hid (has_any kp s j false ⟨#[61]⟩ w5 HV5.out.1 hjs hs (by decide))
          rw [HS.out, pre_one, beq_eq_false_iff_ne.2 (fun e => H61.out e.symm)] at HE1
          go_wp2_with fail
          refine Calls.mono HE1.out ?_
          rintro e w55 ⟨rfl, hp55, hg55⟩
          have HV55 : Hid (St w w55 kp s j false k7 (bx k) 3 none 0 0 k2) := HV5.out.go hp55 hg55
          clear hp55 hg55 HE1
          have HEN := Lib.hid (has_any kp s j false ⟨#[33, 61]⟩ w55 HV55.out.1 hjs hs (by decide))
          rw [HS.out] at HEN
          by_cases h33 : c = 33 ∧ r.head? = some 61
          · obtain ⟨h33, hd⟩ := h33
            obtain ⟨r2, rfl⟩ : ∃ r2, r = 61 :: r2 := by
              cases r with
              | nil => cases hd
              | cons d r2 => injection hd with hd; exact ⟨r2, by rw [hd]⟩
            have HPS : Hid (partS (sfx s i) = some (⟨k, 2, [wordOf r2]⟩, wordRest r2)) := by unfold Hid; rw [HPT.out, HS.out, h33]; rfl
            have HT : Hid (j + 2 ≤ s.size ∧ sfx s (j + 2) = r2) := by
              have h1 := sfx_step HS.out
              have h2 := sfx_step h1.2
              exact ⟨h2.1, h2.2⟩
            rw [pre_two, h33] at HEN
            clear h33 hd
            go_wp2_with fail
            refine Calls.mono HEN.out ?_
            rintro e w6 ⟨rfl, hp6, hg6⟩
            have H6 : Hid (St w w6 kp s (j + 2) false k7 (bx k) 3 none 0 0 k2) := HV55.out.go hp6 hg6
            clear hp6 hg6 HEN
            have f1 := H6.out.2.1.free 1
            obtain ⟨y0, y1, y2⟩ := H6.out.2.1.cells
            obtain ⟨W7, hW7⟩ : ∃ W7, W7 = w6.setCell ⟨k7, 1, none⟩ (.int .i64 2) := ⟨_, rfl⟩
            have H7 : Hid (St w W7 kp s (j + 2) false k7 (bx k) 2 none 0 0 k2) := by rw [hW7]; exact H6.out.kind 2
            have e7 := hW7.symm
            clear hW7
            have CW := Lib.hid (word_any kp s (j + 2) false W7 H7.out.1 hs HT.out.1)
            rw [HT.out.2] at CW
            go_upto_region 16 with fail
            clear e7 y0 y1 y2 f1
            obtain ⟨y0, y1, y2⟩ := H7.out.2.1.cells
            go_wp2_with fail
            refine Calls.mono CW.out ?_
            rintro e w8 ⟨q, rfl, hp8, _, hqs, hsq, hg8⟩
            have H8 : Hid (St w w8 kp s q false k7 (bx k) 2 none 0 0 k2 ∧ sfx s q = wordRest r2) := ⟨H7.out.go hp8 hg8, hsq⟩
            clear hp8 hg8 hsq CW y0 y1 y2
            obtain ⟨wd, hwd⟩ : ∃ wd, wd = wordOf r2 := ⟨_, rfl⟩
            rw [← hwd] at HPS
            rw [← hwd]
            clear hwd
            obtain ⟨W9, hW9⟩ : ∃ W9, W9 = w8.alloc (.cells #[.string (bx wd)] strT) := ⟨_, rfl⟩
            obtain ⟨kv, hkv⟩ : ∃ kv, kv = w8.heap.size := ⟨_, rfl⟩
            obtain ⟨W10, hW10⟩ : ∃ W10, W10 = W9.setCell ⟨k7, 2, none⟩ (.slice (some ⟨kv, 0, none⟩) 1 1) := ⟨_, rfl⟩
            have H10 : Hid (St w W10 kp s q false k7 (bx k) 2 (some ⟨kv, 0, none⟩) 1 1 k2 ∧ SRow w.heap.size W10 (.slice (some ⟨kv, 0, none⟩) 1 1) [bx wd] ∧ kv ≠ k2) := by
              have hx : Ext w8 W9 := by rw [hW9]; exact new_ext _ _
              have h7 := heap_lt (show w8.heap[k7]? = _ from H8.out.1.2.1)
              have h2 := heap_lt (show w8.heap[k2]? = _ from H8.out.1.2.2.1)
              have hrow : SRow w.heap.size W9 (.slice (some ⟨kv, 0, none⟩) 1 1) [bx wd] := row_one (by rw [hkv]; exact H8.out.1.2.2.2.1.size) (by rw [hW9]; exact heap_new hkv)
              rw [hW10]
              exact ⟨(H8.out.1.ext hx).vals, srow_store hrow (fun g hg => by simp [Value.ownBlock] at hg; omega), by omega⟩
            have H9 : Hid (BoxQ W9 k7 (bx k) 2 none 0 0) := by
              have hx : Ext w8 W9 := by rw [hW9]; exact new_ext _ _
              exact (H8.out.1.ext hx).2.1
            obtain ⟨y0, y1, y2⟩ := H9.out.cells
            have f2 := H9.out.free 2
            have e9 := hW9.symm
            have e10 := hW10.symm
            have HKV := Lib.hid hkv
            clear hW9 hW10 hkv
            go_upto_region 18 with fail
            go_upto_region 19 with fail
            try rw [← HKV.out]
            try rw [e9]
            try rw [e10]
            clear e9 e10 y0 y1 y2 f2
            obtain ⟨y0, y1, y2⟩ := H10.out.1.2.1.cells
            obtain ⟨x0, x1, x2⟩ := H10.out.1.2.2.1.cells
            have g0 := H10.out.1.2.2.1.free 0
            have g1 := H10.out.1.2.2.1.free 1
            have g2 := H10.out.1.2.2.1.free 2
            obtain ⟨U, hU⟩ : ∃ U, U = ((W10.setCell ⟨k2, 0, none⟩ (.string (bx k))).setCell ⟨k2, 1, none⟩ (.int .i64 2)).setCell ⟨k2, 2, none⟩ (.slice (some ⟨kv, 0, none⟩) 1 1) := ⟨_, rfl⟩
            have HU : Hid ((BoxQ U k2 (bx k) 2 (some ⟨kv, 0, none⟩) 1 1 ∧ w.grownBy U (some kp) ∧ PIn U kp s q false) ∧ SRow w.heap.size U (.slice (some ⟨kv, 0, none⟩) 1 1) [bx wd]) := by
              rw [hU]
              exact ⟨H10.out.1.ret, srow_stores H10.out.2.1 (fun g hg => by have h := H10.out.2.2; simp [Value.ownBlock] at hg; omega)⟩
            have hU2 := hU.symm
            clear hU
            go_wp2
            refine bodyPost_ret (results_r rfl _ _ k2 rfl HU.out.1.1) rfl ?_
            exact ⟨q, hqs, HU.out.1.2.1, .inl ⟨⟨k, 2, [wd]⟩, some ⟨kv, 0, none⟩, 1, by rw [HPS.out, H8.out.2], rfl, HU.out.2, HU.out.1.2.2⟩⟩
          · have HNP : Hid (pre ⟨#[33, 61]⟩ (c :: r) = false) := by
              by_cases hc3 : c = 33
              · exact pre_two_head (fun e => h33 ⟨hc3, e⟩)
              · exact pre_two_no (fun e => hc3 e.symm)
            have HPS : Hid (partS (sfx s i) = if bl then choiceS k (sfx s j) else none) := by unfold Hid; rw [HPT.out, HS.out]; exact tail_else k bl HC.out H61.out h33
            rw [HNP.out] at HEN
            clear h33
            go_wp2_with fail
            refine Calls.mono HEN.out ?_
            rintro e w6 ⟨rfl, hp6, hg6⟩
            have H6 : Hid (St w w6 kp s j false k7 (bx k) 3 none 0 0 k2) := HV55.out.go hp6 hg6
            clear hp6 hg6 HEN
            cases bl with
            | true =>
              have CCH := Lib.hid (choice_any kp s j k w6 H6.out.1 hs hjs)
              obtain ⟨y0, y1, y2⟩ := H6.out.2.1.cells
              go_wp2_with fail
              refine Calls.mono CCH.out ?_
              rintro e w7 ⟨z, hz, hg7, ⟨p, A7, c7, ho, rfl, hrow, hp7⟩ | ⟨ho, ⟨key7, kd7, A7, n7, c7, rfl⟩, hp7⟩⟩
              · have H7 : Hid (St w w7 kp s z false k7 (bx k) 3 none 0 0 k2 ∧ SRow w.heap.size w7 (.slice A7 p.vals.length c7) (p.vals.map bx) ∧ (∀ g, (Value.slice A7 p.vals.length c7).ownBlock = some g → g ≠ k2)) := ⟨H6.out.go hp7 hg7, hrow.low H6.out.2.2.2.1.size, fun g hg => by
                  have h1 := (hrow.block g hg).1
                  have h2 := heap_lt (show w6.heap[k2]? = _ from H6.out.2.2.1)
                  omega⟩
                have HCH : Hid (partS (sfx s i) = some (p, sfx s z)) := by unfold Hid; rw [HPS.out]; exact ho
                clear ho hrow hp7 hg7 y0 y1 y2 CCH
                obtain ⟨y0, y1, y2⟩ := H7.out.1.2.1.cells
                obtain ⟨x0, x1, x2⟩ := H7.out.1.2.2.1.cells
                have g0 := H7.out.1.2.2.1.free 0
                have g1 := H7.out.1.2.2.1.free 1
                have g2 := H7.out.1.2.2.1.free 2
                obtain ⟨U, hU⟩ : ∃ U, U = ((w7.setCell ⟨k2, 0, none⟩ (.string (bx p.key))).setCell ⟨k2, 1, none⟩ (.int .i64 p.kind)).setCell ⟨k2, 2, none⟩ (.slice A7 p.vals.length c7) := ⟨_, rfl⟩
                have HU : Hid ((BoxQ U k2 (bx p.key) p.kind A7 p.vals.length c7 ∧ w.grownBy U (some kp) ∧ PIn U kp s z false) ∧ SRow w.heap.size U (.slice A7 p.vals.length c7) (p.vals.map bx)) := by
                  rw [hU]
                  exact ⟨H7.out.1.ret, srow_stores H7.out.2.1 H7.out.2.2⟩
                have hU2 := hU.symm
                clear hU
                go_wp2
                refine bodyPost_ret (results_r rfl _ _ k2 rfl HU.out.1.1) rfl ?_
                exact ⟨z, hz, HU.out.1.2.1, .inl ⟨p, A7, c7, HCH.out, rfl, HU.out.2, HU.out.1.2.2⟩⟩
              · have H7 : Hid (St w w7 kp s z true k7 (bx k) 3 none 0 0 k2) := H6.out.go hp7 hg7
                have HCH : Hid (partS (sfx s i) = none) := by unfold Hid; rw [HPS.out]; exact ho
                clear ho hp7 hg7 y0 y1 y2 CCH
                obtain ⟨y0, y1, y2⟩ := H7.out.2.1.cells
                obtain ⟨x0, x1, x2⟩ := H7.out.2.2.1.cells
                have g0 := H7.out.2.2.1.free 0
                have g1 := H7.out.2.2.1.free 1
                have g2 := H7.out.2.2.1.free 2
                obtain ⟨U, hU⟩ : ∃ U, U = ((w7.setCell ⟨k2, 0, none⟩ (.string key7)).setCell ⟨k2, 1, none⟩ (.int .i64 kd7)).setCell ⟨k2, 2, none⟩ (.slice A7 n7 c7) := ⟨_, rfl⟩
                have HU : Hid ((BoxQ U k2 key7 kd7 A7 n7 c7 ∧ w.grownBy U (some kp) ∧ PIn U kp s z true)) := by
                  rw [hU]
                  exact H7.out.ret
                have hU2 := hU.symm
                clear hU
                go_wp2
                refine bodyPost_ret (results_r rfl _ _ k2 rfl HU.out.1) rfl ?_
                exact ⟨z, hz, HU.out.2.1, .inr ⟨HCH.out, ⟨_, _, _, _, _, rfl⟩, HU.out.2.2⟩⟩
            | false =>
              have HCH : Hid (partS (sfx s i) = none) := HPS.out
              have fz := H6.out.1.free 2
              have z2 := H6.out.1.cells.2.2
              obtain ⟨W7, hW7⟩ : ∃ W7, W7 = w6.setCell ⟨kp, 2, none⟩ (.bool true) := ⟨_, rfl⟩
              have H7 : Hid (St w W7 kp s j true k7 (bx k) 3 none 0 0 k2) := by rw [hW7]; exact H6.out.bad
              have e7 := hW7.symm
              clear hW7
              go_upto_region 16 with fail
              clear e7 fz z2
              obtain ⟨y0, y1, y2⟩ := H7.out.2.1.cells
              obtain ⟨x0, x1, x2⟩ := H7.out.2.2.1.cells
              have g0 := H7.out.2.2.1.free 0
              have g1 := H7.out.2.2.1.free 1
              have g2 := H7.out.2.2.1.free 2
              obtain ⟨U, hU⟩ : ∃ U, U = ((W7.setCell ⟨k2, 0, none⟩ (.string (bx k))).setCell ⟨k2, 1, none⟩ (.int .i64 3)).setCell ⟨k2, 2, none⟩ (.slice none 0 0) := ⟨_, rfl⟩
              have HU : Hid ((BoxQ U k2 (bx k) 3 none 0 0 ∧ w.grownBy U (some kp) ∧ PIn U kp s j true)) := by
                rw [hU]
                exact H7.out.ret
              have hU2 := hU.symm
              clear hU
              go_wp2
              refine bodyPost_ret (results_r rfl _ _ k2 rfl HU.out.1) rfl ?_
              exact ⟨j, hjs, HU.out.2.1, .inr ⟨HCH.out, ⟨_, _, _, _, _, rfl⟩, HU.out.2.2⟩⟩
end Go.Proofs.YtfggodnfliciiaaDoor.Rd
