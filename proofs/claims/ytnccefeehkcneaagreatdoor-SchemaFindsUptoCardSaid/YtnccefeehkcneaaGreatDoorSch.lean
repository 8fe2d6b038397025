/-
  Schemas, the program's Check, both, Faults.
-/
import Derived.Test.YtnccefeehkcneaaGreatDoorScg
namespace Go.Proofs.YtnccefeehkcneaaGreatDoor.Sc
open Go Go.RowKit Go.Proofs.YtnccefeehkcneaaGreatDoor.Js Go.Proofs.YtnccefeehkcneaaGreatDoor.Sx Go.Proofs.YtnccefeehkcneaaGreatDoor.Pt Go.Proofs.YtnccefeehkcneaaGreatDoor.Jm Go.Proofs.YtnccefeehkcneaaGreatDoor.Gr Go.Proofs.YtnccefeehkcneaaGreatDoor.Ur
theorem prtR.mono {B B' : Nat} {w : World} {cs : List Value} {p : PartS} (h : prtR B w cs p) (hB : B ≤ B') : prtR B' w cs p := by
  obtain ⟨v1, v2, v3, e, h1, h2, h3, h4⟩ := h
  exact ⟨v1, v2, v3, e, SlR.below h1 (Below.refl _ _) hB fun _ _ hr => hr, h2.below (Below.refl _ _) hB, h3.below (Below.refl _ _) hB, h4⟩
theorem PartsR.mono {B B' : Nat} {w : World} {v : Value} {s : List PartS} (h : PartsR B w v s) (hB : B ≤ B') : PartsR B' w v s := SlR.below h (Below.refl _ _) hB fun _ _ hr => hr.mono hB
/-- The lengths are small. -/
def SmallS (s : List PartS) : Prop := ∀ i, i < s.length → (partAt s i).fields.length ≤ 1048576 ∧ (partAt s i).enum.length ≤ 1048576
theorem headC_few {n : Nat} (h : headC n = 0) : n ≤ 30 := by
  unfold headC at h
  exact of_decide_eq_true (need_split h (by decide)).2
theorem parts_few {s : List PartS} {l : List Nat} (h : l.foldl (partC s) (headC s.length) = 0) : s.length ≤ 30 := by
  by_cases hb : headC s.length = 0
  · exact headC_few hb
  · rw [parts_bad hb] at h
    exact absurd h hb
theorem look_open {w : World} {k : Nat} {sv : Value} (hk : k = w.heap.size) : LookI k sv w (w.alloc (.cells #[sv, .slice none 0 0] lookT (0, 0))) [] :=
  ⟨new_ext _ _, none, 0, heap_new hk, GRow.nil⟩
theorem val_of {d : ByteArray} {j : J} (h : readS d.data.toList = .ok j) : valD d = j := by unfold valD; rw [h]
set_option maxRecDepth 100000 in
set_option maxHeartbeats 8000000 in
theorem check_any (s : List PartS) (sv : Value) (w : World) (hs : PartsR w.heap.size w sv s) (hm : MaxC w) (ht : Tab10 w) (hsm : SmallS s) :
    Calls Tryz.prog 8 #[sv] w fun e w' => e = .returned (.int .i64 (checkS s)) ∧ Ext w w' := by
  obtain ⟨A0, c0, rfl⟩ := hs.slice
  have hn0 := hs.1
  obtain ⟨k, hk⟩ : ∃ k, k = w.heap.size := ⟨_, rfl⟩
  obtain ⟨w1, hw1⟩ : ∃ w1, w1 = w.alloc (.cells #[.int .i64 0] chkT (0, 0)) := ⟨_, rfl⟩
  have HC1 : Hid (ChkI k w w1 0) := ⟨by rw [hw1]; exact new_ext _ _, by rw [hw1]; exact heap_new hk⟩
  have HK : Hid (w.heap.size = k) := hk.symm
  have HS := Lib.hid hs
  have HM := Lib.hid hm
  have HT := Lib.hid ht
  have HSM := Lib.hid hsm
  obtain ⟨SN, hSN⟩ : ∃ n, n = s.length := ⟨_, rfl⟩
  have HSN := Lib.hid hSN
  have hSNs : SN ≤ 1099511627776 := by omega
  have CN : Hid (∀ (W : World) (x e : Int) (is : Bool), ChkI k w W x → Calls Tryz.prog 24 #[.pointer (some ⟨k, 0, none⟩), .bool is, .int .i64 e] W (ChkPost k w W (needS x is e))) := fun W x e is h => need_any k w W x e is HK.out h
  have CP : Hid (∀ (W : World) (i : Nat) (x : Int), i < s.length → s.length ≤ 30 → ChkI k w W x → Calls Tryz.prog 25 #[.pointer (some ⟨k, 0, none⟩), .slice A0 SN c0, .int .i64 (i : Int)] W (ChkPost k w W (partS s.length i x (partAt s i)))) := fun W i x hi hl h => by
    rw [hSN]
    exact part_any k i w W x s _ HK.out h hs hl hi (hsm i hi)
  have HHC : Hid (headC s.length = needS (needS 0 (decide (0 < SN)) 1) (decide ((SN : Int) ≤ 30)) 2) := by
    rw [show decide ((SN : Int) ≤ 30) = decide (SN ≤ 30) from decide_eq_decide.2 (by omega), hSN]
    rfl
  obtain ⟨PB, hPB⟩ : ∃ PB : Nat → Int, ∀ q, PB q = (List.range q).foldl (partC s) (headC s.length) := ⟨_, fun _ => rfl⟩
  have HPB : Hid (PB 0 = headC s.length ∧ (∀ q, q < s.length → (PB q = 0 → s.length ≤ 30 ∧ PB (q + 1) = partS s.length q (PB q) (partAt s q)) ∧ (PB q ≠ 0 → PB (q + 1) = PB q)) ∧ ∀ q, q = s.length → PB q = partsC s) := by
    refine ⟨by rw [hPB]; rfl, fun q hq => ⟨fun h => ⟨?_, ?_⟩, fun h => ?_⟩, fun q hq => by rw [hPB, hq]; rfl⟩
    · rw [hPB] at h
      exact parts_few h
    · rw [hPB (q + 1), List.range_succ, List.foldl_append, List.foldl_cons, List.foldl_nil, ← hPB]
      unfold partC
      rw [if_pos h]
    · rw [hPB (q + 1), List.range_succ, List.foldl_append, List.foldl_cons, List.foldl_nil, ← hPB]
      unfold partC
      rw [if_neg h]
  rw [← hSN] at HS ⊢
  clear hs hm ht hsm hSN hPB hn0
  go_enter Tryz.func8, Tryz.ntmps8
  go_upto_region 2 with (fail)
  rw [← hw1, ← hk]
  clear hw1 hk
  go_wp2_with fail
  refine Calls.mono (CN.out _ _ _ _ HC1.out) ?_
  rintro e w2 ⟨rfl, -, i2⟩
  have HC2 := Lib.hid i2
  clear i2
  go_wp2_with fail
  refine Calls.mono (CN.out _ _ _ _ HC2.out) ?_
  rintro e w3 ⟨rfl, -, i3⟩
  have HC3 : Hid (ChkI k w w3 (PB 0)) := by
    rw [HPB.out.1, HHC.out]
    exact i3
  clear i3
  go_wp2_with fail
  go_loopw [23] (fun ix wr => ∃ q : Nat, q ≤ SN ∧ ix = .int .i64 (q : Int) ∧ Hid (ChkI k w wr (PB q))) (fun ix _ => SN - (intOf ix).toNat)
  case atStart => exact ⟨0, Nat.zero_le _, rfl, HC3.out⟩
  case round =>
    obtain ⟨q, hq, rfl, hR⟩ := hrel
    by_cases hlt : q < SN
    · have hql : q < s.length := by rw [← HSN.out]; exact hlt
      have hltI : (q : Int) < (SN : Int) := by omega
      have HE := Lib.hid (HPB.out.2.1 q hql)
      have x0 : wr.cell? ⟨k, 0, none⟩ = some (.int .i64 (PB q)) := cell_of hR.out.2 0
      by_cases hb : PB q = 0
      · have b1 : (PB q == 0) = true := by rw [hb]; rfl
        have HE2 := Lib.hid (HE.out.1 hb)
        have C1 := Lib.hid (CP.out wr q (PB q) hql HE2.out.1 hR.out)
        clear hb
        go_wp2_with fail
        refine Calls.mono C1.out ?_
        rintro e w4 ⟨rfl, -, i4⟩
        have HC4 : Hid (ChkI k w w4 (PB (q + 1))) := by rw [HE2.out.2]; exact i4
        clear i4 x0 b1
        go_wp2_with fail
        go_roundw
        case rel => exact ⟨q + 1, hlt, by go_num, HC4.out⟩
        case measure => simp [intOf]; omega
      · have b1 : (PB q == 0) = false := by rw [beq_eq_false_iff_ne]; exact hb
        have HE2 := Lib.hid (HE.out.2 hb)
        clear hb
        go_wp2_with fail
        go_roundw
        case rel => exact ⟨q + 1, hlt, by go_num, by rw [HE2.out]; exact hR.out⟩
        case measure => simp [intOf]; omega
    · have hqN : q = SN := by omega
      have bl : decide ((q : Int) < (SN : Int)) = false := decide_eq_false (by omega)
      have bl2 : decide (q < SN) = false := decide_eq_false hlt
      have HEND := Lib.hid (HPB.out.2.2 q (by rw [hqN]; exact HSN.out))
      have HRC : Hid (ChkI k w wr (partsC s)) := by unfold Hid; rw [← HEND.out]; exact hR.out
      obtain ⟨wa, hwa⟩ : ∃ x, x = wr := ⟨_, rfl⟩
      rw [← hwa] at HRC ⊢
      clear hqN hlt hR hwa hq
      go_wp2_with fail
      clear bl bl2
      go_loopw [5] (fun ix wr => ∃ m : Nat, m ≤ SN ∧ ix = .int .i64 ((m : Int) - 1) ∧ ∃ b : Int, Hid (ChkI k w wr b ∧ defsC s m b = checkS s ∧ (b = 0 → GoodS s ∧ s.length ≤ 30))) (fun ix _ => (intOf ix + 1).toNat)
      case atStart => exact ⟨SN, Nat.le_refl _, rfl, partsC s, HRC.out, by rw [HSN.out]; rfl, fun h => ⟨parts_good h, parts_few h⟩⟩
      case round =>
        obtain ⟨m, hm, rfl, b, hR⟩ := hrel
        have x0 : wr.cell? ⟨k, 0, none⟩ = some (.int .i64 b) := cell_of hR.out.1.2 0
        cases m with
        | zero =>
          have d1 : decide (((0 : Nat) : Int) - 1 ≥ 0) = false := by decide
          have HEQ : Hid (b = checkS s) := hR.out.2.1
          go_wp2_with fail
          go_ret
          exact ⟨by rw [← HEQ.out]; rfl, hR.out.1.1⟩
        | succ i =>
          rw [show ((i + 1 : Nat) : Int) - 1 = (i : Int) by omega]
          have d1 : decide ((i : Int) ≥ 0) = true := decide_eq_true (by omega)
          by_cases hb : b = 0
          · have HB0 := Lib.hid hb
            have b1 : (b == 0) = true := by rw [hb]; rfl
            have HG := Lib.hid (hR.out.2.2 hb)
            have HDF : Hid (defsC s i (defC s i b) = checkS s) := hR.out.2.1
            have hil : i < s.length := by rw [← HSN.out]; exact hm
            have hiI : (i : Int) < (SN : Int) := by omega
            have HIL := Lib.hid hil
            have hw := HS.out.below hR.out.1.1
            have hsl := (hw.cells hil)
            rw [← part_at hil] at hsl
            obtain ⟨bb, off, c9, v1, v2, v3, hv9, hbB, ⟨-, -, -, -, -, -, -, -, y8⟩, -⟩ := hsl
            injection hv9 with e1 e2 e3
            clear e2
            subst e1 e3
            obtain ⟨df, hdf⟩ : ∃ d, d = (partAt s i).dflt := ⟨_, rfl⟩
            have HDD := Lib.hid hdf
            rw [← hdf] at y8
            clear hw hbB hdf hb hil
            by_cases hz : df.size = 0
            · have z1 := isE_zero hz
              have HS1 : Hid (defC s i b = b) := if_neg (fun h => h.2 (by rw [← HDD.out]; exact hz))
              clear hz
              go_wp2_with fail
              go_roundw
              case rel => exact ⟨i, Nat.le_of_succ_le hm, by go_num, b, hR.out.1, by rw [← HDF.out, HS1.out], fun _ => HG.out⟩
              case measure => first | (simp [intOf]; done) | (simp [intOf]; omega)
            · have z1 := isE_pos hz
              have HZ := Lib.hid hz
              obtain ⟨j, hj⟩ : ∃ j, readS df.data.toList = .ok j := by
                have h4 := (part_good (HG.out.1 i HIL.out)).2.2.2
                unfold tailS at h4
                rw [← HDD.out, if_neg hz] at h4
                by_cases hb : (partAt s i).enum.foldl docS 0 = 0
                · rw [hb, doc_zero] at h4
                  exact errOf_zero h4
                · rw [doc_bad hb] at h4
                  exact absurd h4 hb
              have HJ := Lib.hid (readS_good hj)
              have HVD := Lib.hid (val_of hj)
              have CR := Lib.hid (read_any df wr)
              rw [hj] at CR
              clear hz hj
              go_wp2_with fail
              refine Calls.mono CR.out ?_
              rintro e w4 ⟨x4, ⟨j2, y, e1, hy, rfl⟩ | ⟨er, -, e1, -⟩⟩
              · obtain rfl : j = j2 := by injection e1
                have HC4 := Lib.hid (hR.out.1.ext x4)
                have HY := Lib.hid hy
                clear e1 hy x4 x0 y8
                go_upto_region 16 with (fail)
                obtain ⟨k2, hk2⟩ : ∃ n, n = w4.heap.size := ⟨_, rfl⟩
                rw [← hk2]
                generalize hW : World.alloc w4 _ = w5
                have HL5 : Hid (LookI k2 (.slice (some ⟨bb, off, none⟩) SN c0) w4 w5 []) := by rw [← hW]; exact look_open hk2
                have HK2 : Hid (w4.heap.size = k2 ∧ k < k2) := ⟨hk2.symm, by rw [hk2]; exact heap_lt HC4.out.2⟩
                have HX5 : Hid (Ext w4 w5) := by rw [← hW]; exact new_ext _ _
                have C5 : Hid (Calls Tryz.prog 27 #[.pointer (some ⟨k2, 0, none⟩), .int .i64 (i : Int), y, .slice none 0 0] w5 (LookPost k2 (.slice (some ⟨bb, off, none⟩) SN c0) w4 w5 (faultsS s j i []))) := by
                  have h := look_val j s k2 i (.slice (some ⟨bb, off, none⟩) SN c0) y w4 w5 [] none 0 [] ⟨PartsR.mono (HS.out.below HC4.out.1) HC4.out.1.size, HG.out.1, HG.out.2, HM.out.ext HC4.out.1, HT.out.ext HC4.out.1⟩ HK2.out.1 HL5.out HIL.out (PV.keep (fun b _ hb => HX5.out.block b hb) (fun b _ hb => HL5.out.old (by have := HK2.out.1; omega)) _ _ HY.out) HJ.out.1 (fun i hi => by cases hi) (by simp; have := HJ.out.2; omega) (by simp; have := HJ.out.2; omega) (by have := HJ.out.2; omega)
                  rw [List.nil_append] at h
                  exact h
                clear hW hk2
                go_wp2_with fail
                refine Calls.mono C5.out ?_
                rintro e w6 ⟨rfl, t6, i6⟩
                obtain ⟨x6, A6, c6, h6, r6⟩ := i6
                have hck := t6.2 k (Nat.lt_of_lt_of_le (heap_lt HC4.out.2) HX5.out.size) (HL5.out.old HK2.out.2)
                have HC6 : Hid (ChkI k w w6 b) := ⟨HC4.out.1.trans x6, (hck.1.trans (HX5.out.block k (heap_lt HC4.out.2))).trans HC4.out.2⟩
                have y1 : w6.cell? ⟨k2, 1, none⟩ = some (.slice A6 (faultsS s j i []).length c6) := cell_of h6 1
                obtain ⟨M, hM⟩ : ∃ M, M = (faultsS s j i []).length := ⟨_, rfl⟩
                have HMM := Lib.hid hM
                rw [← hM] at y1
                clear t6 x6 h6 r6 hck hM
                go_wp2_with fail
                refine Calls.mono (CN.out _ _ _ _ HC6.out) ?_
                rintro e w7 ⟨rfl, -, i7⟩
                have HS1 : Hid (defC s i b = needS b ((M : Int) == 0) 19) := by
                  unfold Hid defC
                  rw [if_pos ⟨HB0.out, by rw [← HDD.out]; exact HZ.out⟩, ← HDD.out, HVD.out, ← HMM.out]
                  congr 1
                  by_cases hz : M = 0
                  · rw [hz]; rfl
                  · rw [decide_eq_false hz]; symm; rw [beq_eq_false_iff_ne]; omega
                have HC7 := Lib.hid i7
                clear i7 y1
                go_wp2_with fail
                go_roundw
                case rel => exact ⟨i, Nat.le_of_succ_le hm, by go_num, defC s i b, by rw [HS1.out]; exact HC7.out, HDF.out, fun _ => HG.out⟩
                case measure => first | (simp [intOf]; done) | (simp [intOf]; omega)
              · cases e1
          · have b1 : (b == 0) = false := by rw [beq_eq_false_iff_ne]; exact hb
            have HEQ : Hid (b = checkS s) := by
              have h := hR.out.2.1
              rw [defs_bad hb] at h
              exact h
            clear hb
            go_wp2_with fail
            go_ret
            exact ⟨by rw [← HEQ.out]; rfl, hR.out.1.1⟩
/-- What both gives: the document's value, or an error. -/
def bothS (s : List PartS) (d : ByteArray) : Res J := if checkS s ≠ 0 then .error (checkS s) else readS d.data.toList
theorem checkS_good {s : List PartS} (h : checkS s = 0) : GoodS s ∧ s.length ≤ 30 := by
  unfold checkS at h
  by_cases hb : partsC s = 0
  · exact ⟨parts_good hb, parts_few hb⟩
  · rw [defs_bad hb] at h
    exact absurd h hb
set_option maxRecDepth 100000 in
theorem both_any (s : List PartS) (sv : Value) (d : ByteArray) (w : World) (hs : PartsR w.heap.size w sv s) (hm : MaxC w) (ht : Tab10 w) (hsm : SmallS s) :
    Calls Tryz.prog 31 #[sv, .string d] w (PRead w (bothS s d)) := by
  have C1 := Lib.hid (check_any s sv w hs hm ht hsm)
  obtain ⟨A0, c0, rfl⟩ := hs.slice
  have CR : Hid (∀ W, Ext w W → Calls Tryz.prog 26 #[.string d] W (PRead W (readS d.data.toList))) := fun W _ => read_any d W
  obtain ⟨SN, hSN⟩ : ∃ n, n = s.length := ⟨_, rfl⟩
  rw [← hSN] at C1 ⊢
  obtain ⟨cc, hcc⟩ : ∃ c, c = checkS s := ⟨_, rfl⟩
  have HB : Hid ((cc ≠ 0 → bothS s d = .error cc) ∧ (cc = 0 → bothS s d = readS d.data.toList)) := by
    rw [hcc]
    exact ⟨fun h => if_pos h, fun h => if_neg (fun h2 => h2 h)⟩
  rw [← hcc] at C1
  clear hs hm ht hsm hSN hcc
  go_enter Tryz.func31, Tryz.ntmps31
  go_wp2_with fail
  refine Calls.mono C1.out ?_
  rintro e w2 ⟨rfl, x2⟩
  have X2 := Lib.hid x2
  clear x2
  by_cases hz : cc = 0
  · have b1 : (cc != 0) = false := by rw [hz]; rfl
    have HE := Lib.hid (HB.out.2 hz)
    have C2 := Lib.hid (CR.out w2 X2.out)
    clear hz
    go_wp2_with fail
    refine Calls.mono C2.out ?_
    rintro e w3 ⟨x3, ⟨j, u, e1, hu, rfl⟩ | ⟨er, hne, e1, rfl⟩⟩
    · have H3 : Hid (Ext w2 w3 ∧ readS d.data.toList = .ok j ∧ PV (fun b => w2.heap.size ≤ b) w3 j u) := ⟨x3, e1, hu⟩
      clear x3 e1 hu
      go_wp2_with fail
      go_ret2
      refine ⟨X2.out.trans H3.out.1, .inl ⟨j, u, by rw [HE.out]; exact H3.out.2.1, PV.keep (fun _ _ _ => rfl) (fun b h _ => Nat.le_trans X2.out.size h) _ _ H3.out.2.2, rfl⟩⟩
    · have H3 : Hid (Ext w2 w3 ∧ er ≠ 0 ∧ readS d.data.toList = .error er) := ⟨x3, hne, e1⟩
      clear x3 e1 hne
      go_wp2_with fail
      go_ret2
      exact ⟨X2.out.trans H3.out.1, .inr ⟨er, H3.out.2.1, by rw [HE.out]; exact H3.out.2.2, rfl⟩⟩
  · have b1 : (cc != 0) = true := by rw [bne_iff_ne]; exact hz
    have HE := Lib.hid (HB.out.1 hz)
    have HZ := Lib.hid hz
    clear hz
    go_wp2_with fail
    go_ret2
    exact ⟨X2.out, .inr ⟨cc, HZ.out, HE.out, rfl⟩⟩
/-- What Faults answers. -/
def faultsT (s : List PartS) (T : Res J) : List (ByteArray × Int) × Int := match T with
  | .error e => ([], e)
  | .ok j => (faultsS s j 0 [], 0)
def FltAt (w : World) (A : Option Addr) (fs : List (ByteArray × Int)) : Prop := ∀ i (hi : i < fs.length), ∃ g, A = some ⟨g, 0, none⟩ ∧ w.cell? ⟨g, i * 2, none⟩ = some (.string fs[i].1) ∧ w.cell? ⟨g, i * 2 + 1, none⟩ = some (.int .i64 fs[i].2)
theorem FltAt.ext {w w' : World} {A : Option Addr} {fs : List (ByteArray × Int)} (h : FltAt w A fs) (hx : Ext w w') : FltAt w' A fs := fun i hi => by
  obtain ⟨g, hA, h1, h2⟩ := h i hi
  exact ⟨g, hA, (cell_keep (hx.block g (cell_lt h1))).trans h1, (cell_keep (hx.block g (cell_lt h2))).trans h2⟩
theorem flt_grow {base : Nat} {w : World} {A : Option Addr} {n c : Nat} {fs : List (ByteArray × Int)} (h : GRow fltT 2 base w (.slice A n c) (fltsV fs)) : FltAt w A fs := fun i hi => by
  obtain ⟨g, hA, _, _, _, hcell⟩ := h.at_ (k := i) (by rw [flts_len]; exact hi)
  have e : (fltsV fs)[i]'(by rw [flts_len]; exact hi) = [.string fs[i].1, .int .i64 fs[i].2] := by simp [fltsV, fltV]
  rw [e] at hcell
  exact ⟨g, hA, by have := hcell 0 _ rfl; rwa [Nat.add_zero] at this, hcell 1 _ rfl⟩
def FltPost (R : List (ByteArray × Int) × Int) (w : World) (e : Ending) (w' : World) : Prop := Ext w w' ∧ ∃ A c, e = .returned (.tuple #[.slice A R.1.length c, .int .i64 R.2]) ∧ FltAt w' A R.1
set_option maxRecDepth 100000 in
set_option maxHeartbeats 4000000 in
theorem faults_any (s : List PartS) (sv : Value) (d : ByteArray) (w : World) (hs : PartsR w.heap.size w sv s) (hm : MaxC w) (ht : Tab10 w) (hsm : SmallS s) :
    Calls Tryz.prog 10 #[sv, .string d] w (FltPost (faultsT s (bothS s d)) w) := by
  have C1 := Lib.hid (both_any s sv d w hs hm ht hsm)
  obtain ⟨A0, c0, rfl⟩ := hs.slice
  have HS := Lib.hid hs
  have HM := Lib.hid hm
  have HT := Lib.hid ht
  have HG : Hid (∀ j, bothS s d = .ok j → GoodS s ∧ s.length ≤ 30 ∧ 0 < s.length ∧ WJ j ∧ bulkJ j ≤ 128000) := fun j h => by
    unfold bothS at h
    by_cases hz : checkS s ≠ 0
    · rw [if_pos hz] at h; cases h
    · rw [if_neg hz] at h
      have hz : checkS s = 0 := Classical.not_not.1 hz
      have hg := checkS_good hz
      have hp : 0 < s.length := by
        rcases Nat.eq_zero_or_pos s.length with h0 | h0
        · exfalso
          have : s = [] := List.length_eq_zero_iff.1 h0
          rw [this] at hz
          exact absurd hz (by decide)
        · exact h0
      exact ⟨hg.1, hg.2, hp, readS_good h⟩
  obtain ⟨SN, hSN⟩ : ∃ n, n = s.length := ⟨_, rfl⟩
  rw [← hSN] at C1 HS ⊢
  obtain ⟨T, hT⟩ : ∃ T, T = bothS s d := ⟨_, rfl⟩
  rw [← hT] at C1 HG ⊢
  clear hs hm ht hsm hSN hT
  go_enter Tryz.func10, Tryz.ntmps10
  go_wp2_with fail
  refine Calls.mono C1.out ?_
  rintro e w2 ⟨x2, ⟨j, u, e1, hu, rfl⟩ | ⟨er, hne, e1, rfl⟩⟩
  · have X2 := Lib.hid x2
    have HTE := Lib.hid e1
    have HU := Lib.hid hu
    obtain ⟨hg, hl, hp, hj⟩ := HG.out j e1
    have HGG : Hid (GoodS s ∧ s.length ≤ 30 ∧ 0 < s.length ∧ WJ j ∧ bulkJ j ≤ 128000) := ⟨hg, hl, hp, hj⟩
    clear x2 e1 hu hg hl hp hj
    go_upto_region 5 with (fail)
    obtain ⟨k2, hk2⟩ : ∃ n, n = w2.heap.size := ⟨_, rfl⟩
    rw [← hk2]
    generalize hW : World.alloc w2 _ = w5
    have HL5 : Hid (LookI k2 (.slice A0 SN c0) w2 w5 []) := by rw [← hW]; exact look_open hk2
    have HK2 : Hid (w2.heap.size = k2) := hk2.symm
    have HX5 : Hid (Ext w2 w5) := by rw [← hW]; exact new_ext _ _
    have C5 : Hid (Calls Tryz.prog 27 #[.pointer (some ⟨k2, 0, none⟩), .int .i64 ((0 : Nat) : Int), u, .slice none 0 0] w5 (LookPost k2 (.slice A0 SN c0) w2 w5 (faultsS s j 0 []))) := by
      have h := look_val j s k2 0 (.slice A0 SN c0) u w2 w5 [] none 0 [] ⟨PartsR.mono (HS.out.below X2.out) X2.out.size, HGG.out.1, HGG.out.2.1, HM.out.ext X2.out, HT.out.ext X2.out⟩ HK2.out HL5.out HGG.out.2.2.1 (PV.keep (fun b _ hb => HX5.out.block b hb) (fun b _ hb => HL5.out.old (by have := HK2.out; omega)) _ _ HU.out) HGG.out.2.2.2.1 (fun i hi => by cases hi) (by simp; have := HGG.out.2.2.2.2; omega) (by simp; have := HGG.out.2.2.2.2; omega) (by have := HGG.out.2.2.2.2; omega)
      rw [List.nil_append] at h
      exact h
    clear hW hk2
    go_wp2_with fail
    refine Calls.mono C5.out ?_
    rintro e w6 ⟨rfl, -, i6⟩
    obtain ⟨x6, A6, c6, h6, r6⟩ := i6
    have X6 := Lib.hid x6
    have HF6 := Lib.hid (flt_grow r6)
    have y1 : w6.cell? ⟨k2, 1, none⟩ = some (.slice A6 (faultsS s j 0 []).length c6) := cell_of h6 1
    obtain ⟨M, hM⟩ : ∃ M, M = (faultsS s j 0 []).length := ⟨_, rfl⟩
    have HMM := Lib.hid hM
    rw [← hM] at y1
    clear x6 h6 r6 hM
    go_wp2_with fail
    go_ret2
    refine ⟨X2.out.trans X6.out, A6, c6, ?_, ?_⟩
    · rw [HTE.out]
      show _ = Ending.returned (.tuple #[.slice A6 (faultsS s j 0 []).length c6, .int .i64 0])
      rw [← HMM.out]
      rfl
    · rw [HTE.out]
      exact HF6.out
  · have H3 : Hid (Ext w w2 ∧ er ≠ 0 ∧ T = .error er) := ⟨x2, hne, e1⟩
    have b1 : (er != 0) = true := by rw [bne_iff_ne]; exact hne
    clear x2 e1 hne
    go_wp2_with fail
    go_ret2
    exact ⟨H3.out.1, none, 0, by rw [H3.out.2.2]; rfl, by rw [H3.out.2.2]; exact fun i hi => by cases hi⟩
end Go.Proofs.YtnccefeehkcneaaGreatDoor.Sc
