/-
  The program's solve: the walk.
  The program's Solve.
  The program's Implies.
-/
import Derived.Test.YtplfimoeggecjaaGreatDoorQs14
import Derived.Test.YtplfimoeggecjaaGreatDoorQck2
import Derived.Test.YtplfimoeggecjaaGreatDoorQsA
import Derived.Deep.RegionLaw
namespace Go.Proofs.YtplfimoeggecjaaGreatDoor.Qs
open Go Go.RowKit Go.Lib Go.Proofs.YtplfimoeggecjaaGreatDoor.Sx Go.Proofs.YtplfimoeggecjaaGreatDoor.Dc

theorem srow_below {base : Nat} {w w' : World} {v : Value} {xs : List ByteArray} (h : SRow base w v xs) (hg : w.grownBy w' v.ownBlock) (hb : base ≤ w.heap.size) : Below base w w' :=
  ⟨hg.os, hg.tape, hg.output, hg.size, fun k hk => hg.block k (by omega) fun e => by have := (h.block k e.symm).1; omega⟩
theorem lrow_below {base : Nat} {w w' : World} {v : Value} {xs : List Lab} (h : LRow base w v xs) (hg : w.grownBy w' v.ownBlock) (hb : base ≤ w.heap.size) : Below base w w' :=
  ⟨hg.os, hg.tape, hg.output, hg.size, fun k hk => hg.block k (by omega) fun e => by have := (h.block k e.symm).1; omega⟩
theorem wants_1 {r : Req} (h : r.kind = 1) : wants r = true := by unfold wants; simp [h]
theorem wants_3 {r : Req} (h : r.kind = 3) : wants r = true := by unfold wants; simp [h]
theorem wants_no {r : Req} (h1 : r.kind ≠ 1) (h3 : r.kind ≠ 3) : wants r = false := by unfold wants; simp [h1, h3]

set_option maxRecDepth 100000 in
set_option maxHeartbeats 4000000 in
theorem solve_any (B : Nat) (v : Value) (l : List Req) (w : World) (hB : B ≤ w.heap.size) (hv : ReqsR B w v l) (hg : Good l) :
    Calls Tryz.prog 25 #[v] w (SolPost w l) := by
  have HV := Lib.hid hv
  have HB := Lib.hid hB
  have HG := Lib.hid hg
  have hn : l.length ≤ 9 := hg.few
  have HSZ := Lib.hid (reqs_size hv)
  obtain ⟨_, A, c, rfl, _⟩ := hv
  clear hB hg
  go_enter Tryz.func25, Tryz.ntmps25
  go_wp2_with fail
  go_loopw [4, 14] (fun o k wr => ∃ (j : Nat) (n : Nat) (A1 : Option Addr) (c1 : Nat), j ≤ l.length ∧ k = .int .i64 (j : Int) ∧ o = .slice A1 n c1 ∧ n ≤ j ∧ Hid (n = (keysB (l.take j)).length ∧ SRow w.heap.size wr (.slice A1 n c1) (keysB (l.take j)) ∧ Ext w wr)) (fun _ k _ => l.length - (intOf k).toNat)
  case atStart => exact ⟨0, 0, none, 0, Nat.zero_le _, rfl, rfl, Nat.le_refl _, rfl, SRow.nil, Below.refl _ _⟩
  case round =>
    obtain ⟨j, n, A1, c1, hj, rfl, rfl, hnj, hR⟩ := hrel
    by_cases hlt : j < l.length
    · obtain ⟨b, off, A2, c2, rfl, _, x0, x1, x2, _, _⟩ := (HV.out.below (hR.out.2.2.mono HB.out) (Nat.le_refl _)).at_ hlt
      have HY : Hid (wants l[j] = true → keysB (l.take (j + 1)) = keysB (l.take j) ++ [l[j].key]) := keysB_yes hlt
      have HNO : Hid (wants l[j] = false → keysB (l.take (j + 1)) = keysB (l.take j)) := keysB_no hlt
      obtain ⟨r, hr⟩ : ∃ r, r = l[j] := ⟨_, rfl⟩
      rw [← hr] at x0 x1 x2 HY HNO
      obtain ⟨W1, hW⟩ : ∃ W, W = wr.alloc (.cells #[.string r.key, .int .i64 r.kind, .slice A2 r.vals.length c2] reqT) := ⟨_, rfl⟩
      obtain ⟨kb, hkb⟩ : ∃ kb, kb = wr.heap.size := ⟨_, rfl⟩
      have HW := Lib.hid (And.intro hW hkb)
      have hx1 : Ext wr W1 := by rw [hW]; exact new_ext _ _
      have HX1 := Lib.hid hx1
      have hh : W1.heap[kb]? = some (.cells #[.string r.key, .int .i64 r.kind, .slice A2 r.vals.length c2] reqT (0, 0)) := by rw [hW]; exact heap_new hkb
      clear hr hW hkb hx1
      go_upto_region 5 with fail
      rw [← HW.out.1, ← HW.out.2]
      clear x0 x1 x2
      obtain ⟨z0, z1, z2⟩ := cells3' hh
      clear hh
      by_cases k1 : r.kind = 1
      · have b1 : (r.kind == 1) = true := by simp [k1]
        have HY2 := Lib.hid (HY.out (wants_1 k1))
        have HXA : Hid (Ext wr (W1.alloc (.cells #[.string r.key] strT)) ∧ Ext w (W1.alloc (.cells #[.string r.key] strT))) := ⟨HX1.out.trans (new_ext _ _), hR.out.2.2.trans (HX1.out.trans (new_ext _ _))⟩
        clear HY HNO k1
        go_wp2_with (at_builtin; refine append_str rfl _ _ (by rfl) w.heap.size W1.heap.size n r.key _ (.slice A1 n c1) (keysB (l.take j)) (by rfl) (by rfl) (hR.out.2.1.ext HXA.out.1) (heap_new rfl) hR.out.1.symm (by omega) HXA.out.2.size ?_; intro g9 c9 w9 h9 g9' _)
        have HX9 : Hid (Ext w w9) := Below.trans HXA.out.2 (srow_below (hR.out.2.1.ext HXA.out.1) g9' HXA.out.2.size)
        have H9 := Lib.hid h9
        clear h9 g9'
        go_wp2
        go_roundw
        case rel => exact ⟨j + 1, n + 1, some ⟨g9, 0, none⟩, c9, hlt, by go_num, rfl, by omega, by rw [HY2.out, List.length_append, ← hR.out.1]; rfl, by rw [HY2.out]; exact H9.out, HX9.out⟩
        case measure => simp [intOf]; omega
      · by_cases k3 : r.kind = 3
        · have b1 : (r.kind == 1) = false := by simp [k1]
          have b3 : (r.kind == 3) = true := by simp [k3]
          have HY2 := Lib.hid (HY.out (wants_3 k3))
          have HXA : Hid (Ext wr (W1.alloc (.cells #[.string r.key] strT)) ∧ Ext w (W1.alloc (.cells #[.string r.key] strT))) := ⟨HX1.out.trans (new_ext _ _), hR.out.2.2.trans (HX1.out.trans (new_ext _ _))⟩
          clear HY HNO k1 k3
          go_wp2_with (at_builtin; refine append_str rfl _ _ (by rfl) w.heap.size W1.heap.size n r.key _ (.slice A1 n c1) (keysB (l.take j)) (by rfl) (by rfl) (hR.out.2.1.ext HXA.out.1) (heap_new rfl) hR.out.1.symm (by omega) HXA.out.2.size ?_; intro g9 c9 w9 h9 g9' _)
          have HX9 : Hid (Ext w w9) := Below.trans HXA.out.2 (srow_below (hR.out.2.1.ext HXA.out.1) g9' HXA.out.2.size)
          have H9 := Lib.hid h9
          clear h9 g9'
          go_wp2
          go_roundw
          case rel => exact ⟨j + 1, n + 1, some ⟨g9, 0, none⟩, c9, hlt, by go_num, rfl, by omega, by rw [HY2.out, List.length_append, ← hR.out.1]; rfl, by rw [HY2.out]; exact H9.out, HX9.out⟩
          case measure => simp [intOf]; omega
        · have HN2 := Lib.hid (HNO.out (wants_no k1 k3))
          have b1 : (r.kind == 1) = false := by simp [k1]
          have b3 : (r.kind == 3) = false := by simp [k3]
          clear HY HNO k1 k3
          go_wp2_with fail
          go_roundw
          case rel => exact ⟨j + 1, n, A1, c1, hlt, by go_num, rfl, by omega, by rw [HN2.out]; exact hR.out.1, by rw [HN2.out]; exact hR.out.2.1.ext HX1.out, hR.out.2.2.trans HX1.out⟩
          case measure => simp [intOf]; omega
    · obtain rfl : j = l.length := by omega
      rw [List.take_length] at hR
      have hsn : n < 4611686018427387904 := by omega
      have C61 := Lib.hid (sort_own w.heap.size A1 c1 (keysB l) wr (OwnS.of_row hR.out.2.1) (by rw [← hR.out.1]; exact hsn))
      rw [← hR.out.1] at C61
      go_wp2_with fail
      refine Calls.mono C61.out ?_
      rintro e w2 ⟨rfl, hb2, hown⟩
      have C62 := Lib.hid (compact_own w.heap.size A1 c1 (sortB (keysB l)) w2 hown (by rw [sortB_len, ← hR.out.1]; exact hsn))
      rw [sortB_len, ← hR.out.1, keys_own l (keysB l) (keysB_tx l)] at C62
      have HB2 : Hid (Below w.heap.size w w2) := Below.trans hR.out.2.2 hb2
      clear hb2 hown C61
      go_wp2_with fail
      refine Calls.mono C62.out ?_
      rintro e w3 ⟨rfl, hb3, hown⟩
      have HX3 : Hid (Ext w w3) := Below.trans HB2.out hb3
      obtain ⟨m, hm⟩ : ∃ m, m = (keysS l).length := ⟨_, rfl⟩
      have hm9 : m ≤ 9 := by rw [hm]; exact Nat.le_trans (keysS_len l) hn
      rw [← hm]
      have HO := Lib.hid hown
      have HM : Hid (m = (keysS l).length) := hm
      clear hb3 hown C62 hm hR HB2 hsn hnj
      go_wp2_with fail
      go_loopw [7, 37] (fun o k wr => ∃ (j : Nat) (A5 : Option Addr) (c5 : Nat) (acc : List Lab), j ≤ m ∧ k = .int .i64 (j : Int) ∧ o = .slice A5 j c5 ∧ Hid (acc.length = j ∧ labsFor l 73 ((keysS l).take j) = some acc ∧ LRow w3.heap.size wr (.slice A5 j c5) acc ∧ Ext w3 wr)) (fun _ k _ => m - (intOf k).toNat)
      case atStart => exact ⟨0, none, 0, [], Nat.zero_le _, rfl, rfl, rfl, rfl, LRow.nil, Below.refl _ _⟩
      case round =>
        obtain ⟨j, A5, c5, acc, hj, rfl, rfl, hR⟩ := hrel
        by_cases hlt : j < m
        · have hjk : j < (keysS l).length := by rw [← HM.out]; exact hlt
          have hjx : j < ((keysS l).map bx).length := by rw [List.length_map]; exact hjk
          obtain ⟨g, rfl, _, y0⟩ := (HO.out.ext hR.out.2.2.2).cell hjx
          have HTK : Hid ((keysS l).take (j + 1) = (keysS l).take j ++ [tx ((keysS l).map bx)[j]]) := by
            unfold Hid
            rw [← List.take_append_getElem hjk, List.getElem_map, tx_bx]
          have HKZ : Hid (((keysS l).map bx)[j].size ≤ 1048576) := by
            unfold Hid
            rw [List.getElem_map]
            exact keysS_size (fun r hr => (HSZ.out r hr).1) _ (List.getElem_mem hjk)
          obtain ⟨key, hkey⟩ : ∃ key, key = ((keysS l).map bx)[j] := ⟨_, rfl⟩
          rw [← hkey] at y0 HTK HKZ
          have HXW : Hid (Ext w wr) := HX3.out.trans hR.out.2.2.2
          have C63 := Lib.hid (value_any B (.slice A l.length c) l key wr (Nat.le_trans HB.out HXW.out.size) (HV.out.below (HXW.out.mono HB.out) (Nat.le_refl _)) HKZ.out)
          clear hkey hjx
          go_wp2_with fail
          refine Calls.mono C63.out ?_
          rintro e w4 ⟨rfl, hx4⟩
          have HX4 := Lib.hid hx4
          clear hx4 y0 C63
          unfold valueP
          cases hval : valueL l (tx key) 73 with
          | none =>
            have HN : Hid (solveL l = none) := by
              have h := labs_none hR.out.2.1 hval ((keysS l).drop (j + 1))
              rw [← HTK.out, List.take_append_drop] at h
              exact h
            clear hval
            go_wp2
            go_ret2
            exact sol_none HN.out (HXW.out.trans HX4.out)
          | some x =>
            have HS : Hid (labsFor l 73 ((keysS l).take (j + 1)) = some (acc ++ [mk (tx key) x])) := by
              have h := labs_some hR.out.2.1 hval
              rw [← HTK.out] at h
              exact h
            have HXA : Hid (Ext w3 (w4.alloc (.cells #[.string key, .string (bx x)] lbT))) := hR.out.2.2.2.trans (HX4.out.trans (new_ext _ _))
            have HLR : Hid (LRow w3.heap.size (w4.alloc (.cells #[.string key, .string (bx x)] lbT)) (.slice A5 j c5) acc) := hR.out.2.2.1.ext (HX4.out.trans (new_ext _ _))
            clear hval
            go_wp2_with (at_builtin; refine append_lab rfl _ _ (by rfl) w3.heap.size j w4.heap.size (mk (tx key) x) _ (.slice A5 j c5) acc (by rfl) (by rfl) HLR.out (heap_new rfl) hR.out.1 (by omega) HXA.out.size ?_; intro A9 c9 w9 h9 g9 _)
            have HX9 : Hid (Ext w3 w9) := Below.trans HXA.out (lrow_below HLR.out g9 HXA.out.size)
            have H9 := Lib.hid h9
            clear h9 g9
            go_wp2
            go_roundw
            case rel => exact ⟨j + 1, A9, c9, acc ++ [mk (tx key) x], hlt, by go_num, rfl, by rw [List.length_append, hR.out.1]; rfl, HS.out, H9.out, HX9.out⟩
            case measure => simp [intOf]; omega
        · have HS : Hid (solveL l = some acc) := by
            have h := hR.out.2.1
            rw [List.take_of_length_le (by rw [← HM.out]; omega)] at h
            exact h
          have HXW : Hid (Ext w wr) := HX3.out.trans hR.out.2.2.2
          have HLB : Hid (LabsR wr.heap.size wr (.slice A5 j c5) acc) := by
            have h := hR.out.2.2.1.labs (by rw [hR.out.1]; omega) (labsFor_sizes (fun r hr => (HSZ.out r hr).2) (by omega) (keysS_size fun r hr => (HSZ.out r hr).1) HS.out)
            exact h
          have CA := Lib.hid (all_any' wr.heap.size (.slice A l.length c) (.slice A5 j c5) l acc wr (Nat.le_refl _) (HV.out.below (HXW.out.mono HB.out) (Nat.le_trans HB.out HXW.out.size)) HLB.out)
          have HT : Hid (allB l acc = true) := solve_all HG.out.kinds HS.out
          go_wp2_with fail
          refine Calls.mono CA.out ?_
          rintro e w4 ⟨rfl, hx4⟩
          rw [HT.out]
          have HX4 := Lib.hid hx4
          clear hx4
          go_wp2
          go_ret2
          exact sol_some HSZ.out hn HS.out ((hR.out.2.2.1.ext HX4.out).low HX3.out.size) (HXW.out.trans HX4.out)
end Go.Proofs.YtplfimoeggecjaaGreatDoor.Qs
namespace Go.Proofs.YtplfimoeggecjaaGreatDoor.Qs
open Go Go.RowKit Go.Lib Go.Proofs.YtplfimoeggecjaaGreatDoor.Sx Go.Proofs.YtplfimoeggecjaaGreatDoor.Dc

def solR (l : List Req) : Option (List Lab) := if checkQ l = 0 then solveL l else none
/-- What Solve hands back, on both sides. -/
def SolveP (w : World) (l : List Req) (e : Ending) (w' : World) : Prop := ∃ out, e = .returned (.tuple #[out, .bool (solR l).isSome, .int .i64 (checkQ l)]) ∧ LabsR w'.heap.size w' out ((solR l).getD []) ∧ Ext w w'
theorem labs_nil {B : Nat} {w : World} : LabsR B w (.slice none 0 0) [] := ⟨by simp, none, 0, rfl, fun i hi => by simp at hi⟩
theorem solve_bad {w w' : World} {l : List Req} {n : Int} (h : checkQ l = n) (h0 : n ≠ 0) (hx : Ext w w') : SolveP w l (.returned (.tuple #[.slice none 0 0, .bool false, .int .i64 n])) w' := by
  have e : solR l = none := if_neg (by rw [h]; exact h0)
  exact ⟨.slice none 0 0, by rw [e, h]; rfl, by rw [e]; exact labs_nil, hx⟩
theorem solve_no {w w' : World} {l : List Req} (h : checkQ l = 0) (hs : solveL l = none) (hx : Ext w w') : SolveP w l (.returned (.tuple #[.slice none 0 0, .bool false, .int .i64 0])) w' := by
  have e : solR l = none := by unfold solR; rw [if_pos h]; exact hs
  exact ⟨.slice none 0 0, by rw [e, h]; rfl, by rw [e]; exact labs_nil, hx⟩
theorem solve_yes {w w' : World} {l : List Req} {out : Value} {a : List Lab} (h : checkQ l = 0) (hs : solveL l = some a) (hl : LabsR w'.heap.size w' out a) (hx : Ext w w') : SolveP w l (.returned (.tuple #[out, .bool true, .int .i64 0])) w' := by
  have e : solR l = some a := by unfold solR; rw [if_pos h]; exact hs
  exact ⟨out, by rw [e, h]; rfl, by rw [e]; exact hl, hx⟩
theorem sol_labs {w w' : World} {l : List Req} {e : Ending} (h : SolPost w l e w') : ∃ out, e = .returned (.tuple #[out, .bool (solveL l).isSome]) ∧ LabsR w'.heap.size w' out ((solveL l).getD []) ∧ Ext w w' := by
  obtain ⟨out, he, hr, hz, hn, hx⟩ := h
  exact ⟨out, he, hr.labs hn hz, hx⟩

set_option maxRecDepth 100000 in
set_option maxHeartbeats 4000000 in
theorem Solve_any (B : Nat) (v : Value) (l : List Req) (w : World) (hB : B ≤ w.heap.size) (hv : ReqsR B w v l) (hm : MaxC w) :
    Calls Tryz.prog 6 #[v] w (SolveP w l) := by
  have HV := Lib.hid hv
  have HB := Lib.hid hB
  have CQ := Lib.hid (qcheck_any B v l w hB hv hm)
  clear hv hm
  go_enter Tryz.func6, Tryz.ntmps6
  go_wp2_with fail
  refine Calls.mono CQ.out ?_
  rintro e w1 ⟨rfl, hx1⟩
  have HX1 := Lib.hid hx1
  clear hx1 CQ
  by_cases h0 : checkQ l = 0
  · have H0 := Lib.hid h0
    rw [h0]
    have CS := Lib.hid (solve_any B v l w1 (Nat.le_trans HB.out HX1.out.size) (HV.out.below (HX1.out.mono HB.out) (Nat.le_refl _)) (good_of_check h0).2)
    clear h0
    go_wp2_with fail
    refine Calls.mono CS.out ?_
    intro e w2 hp
    obtain ⟨out, rfl, hl, hx2⟩ := sol_labs hp
    have HX2 : Hid (Ext w w2) := HX1.out.trans hx2
    have HL := Lib.hid hl
    clear hp hx2 hl
    cases hs : solveL l with
    | none =>
      have HS := Lib.hid hs
      clear hs
      simp only [Option.isSome_none]
      go_wp2
      go_ret3
      exact solve_no H0.out HS.out HX2.out
    | some a =>
      have HS := Lib.hid hs
      rw [hs] at HL
      clear hs
      simp only [Option.isSome_some]
      go_wp2
      go_ret3
      exact solve_yes H0.out HS.out HL.out HX2.out
  · obtain ⟨n, hn⟩ : ∃ n, n = checkQ l := ⟨_, rfl⟩
    rw [← hn] at h0
    have HN := Lib.hid hn
    have H0 := Lib.hid h0
    have b0 : (n != 0) = true := by simp [h0]
    have b1 : (n == 0) = false := by simp [h0]
    rw [← hn]
    clear h0 hn
    go_wp2
    go_ret3
    exact solve_bad HN.out.symm H0.out HX1.out
end Go.Proofs.YtplfimoeggecjaaGreatDoor.Qs
namespace Go.Proofs.YtplfimoeggecjaaGreatDoor.Qs
open Go Go.RowKit Go.Lib Go.Proofs.YtplfimoeggecjaaGreatDoor.Sx Go.Proofs.YtplfimoeggecjaaGreatDoor.Dc

def impE (a b : List Req) : Int := if checkQ a = 0 then checkQ b else checkQ a
def impR (a b : List Req) : Option (List Lab) := if impE a b = 0 then impliesL a b else none
/-- What Implies hands back, on both sides. -/
def ImpP (w : World) (a b : List Req) (e : Ending) (w' : World) : Prop := ∃ out, e = .returned (.tuple #[.bool (decide (impE a b = 0) && (impR a b).isNone), out, .int .i64 (impE a b)]) ∧ LabsR w'.heap.size w' out ((impR a b).getD []) ∧ Ext w w'
theorem imp_bad {w w' : World} {a b : List Req} {n : Int} (h : impE a b = n) (h0 : n ≠ 0) (hx : Ext w w') : ImpP w a b (.returned (.tuple #[.bool false, .slice none 0 0, .int .i64 n])) w' := by
  have e : impR a b = none := if_neg (by rw [h]; exact h0)
  exact ⟨.slice none 0 0, by rw [e, h, decide_eq_false h0]; rfl, by rw [e]; exact labs_nil, hx⟩
theorem imp_yes {w w' : World} {a b : List Req} (h : impE a b = 0) (hs : impliesL a b = none) (hx : Ext w w') : ImpP w a b (.returned (.tuple #[.bool true, .slice none 0 0, .int .i64 0])) w' := by
  have e : impR a b = none := by unfold impR; rw [if_pos h]; exact hs
  exact ⟨.slice none 0 0, by rw [e, h, decide_eq_true rfl]; rfl, by rw [e]; exact labs_nil, hx⟩
theorem imp_no {w w' : World} {a b : List Req} {out : Value} {o : List Lab} (h : impE a b = 0) (hs : impliesL a b = some o) (hl : LabsR w'.heap.size w' out o) (hx : Ext w w') : ImpP w a b (.returned (.tuple #[.bool false, out, .int .i64 0])) w' := by
  have e : impR a b = some o := by unfold impR; rw [if_pos h]; exact hs
  exact ⟨out, by rw [e, h, decide_eq_true rfl]; rfl, by rw [e]; exact hl, hx⟩
def oppS (a : List Req) (r : Req) : Bool := (solveL (a ++ [oppR r])).isSome
theorem implies_none {a b : List Req} (h : noneTo (oppS a) b b.length) : impliesL a b = none := by
  induction b with
  | nil => rfl
  | cons r b ih =>
    have h0 : oppS a r = false := h 0 (by simp) (by simp)
    unfold oppS at h0
    unfold impliesL
    cases hs : solveL (a ++ [oppR r]) with
    | some o => rw [hs] at h0; cases h0
    | none => exact ih fun i hi hl => h (i + 1) (by simp; omega) (by simp; exact hl)
theorem implies_some {a b : List Req} {j : Nat} {o : List Lab} (hj : j < b.length) (hs : solveL (a ++ [oppR b[j]]) = some o) (h : noneTo (oppS a) b j) : impliesL a b = some o := by
  induction b generalizing j with
  | nil => simp at hj
  | cons r b ih =>
    unfold impliesL
    cases j with
    | zero =>
      simp only [List.getElem_cons_zero] at hs
      rw [hs]
    | succ j =>
      have h0 : oppS a r = false := h 0 (by simp) (by omega)
      unfold oppS at h0
      simp only [List.getElem_cons_succ] at hs
      cases hs0 : solveL (a ++ [oppR r]) with
      | some o => rw [hs0] at h0; cases h0
      | none => exact ih (by simpa using hj) hs fun i hi hl => h (i + 1) (by omega) (by simp; exact hl)
theorem qTyOk : RTyOk 22 reqT := ⟨Tryz.underlying22, req_info⟩
theorem nth_append_left {L M : List Rw} {i : Nat} (h : i < L.length) : nth (L ++ M) i = nth L i := by
  unfold nth
  rw [List.getD_eq_getElem?_getD, List.getD_eq_getElem?_getD, List.getElem?_append_left h]
theorem nth_append_one {L : List Rw} {t : Rw} : nth (L ++ [t]) L.length = t := by
  unfold nth
  rw [List.getD_eq_getElem?_getD, List.getElem?_append_right (Nat.le_refl _), Nat.sub_self]
  rfl
/-- One part more. -/
theorem RepL.more {B : Nat} {w : World} {L : List Rw} {l : List Req} {t : Rw} {r : Req} (h : RepL B w L l) (ht : repR B w t r) : RepL B w (L ++ [t]) (l ++ [r]) := by
  refine ⟨by simp [h.1], fun i hi => ?_⟩
  rcases Nat.lt_or_ge i l.length with h1 | h1
  · rw [nth_append_left (by rw [h.1]; exact h1), List.getElem_append_left h1]
    exact h.2 i h1
  · have e : i = l.length := by simp at hi; omega
    subst e
    rw [List.getElem_append_right (Nat.le_refl _)]
    simp only [Nat.sub_self, List.getElem_cons_zero]
    rw [← h.1, nth_append_one]
    exact ht
theorem rrow_below {et base : Nat} {w w' : World} {v : Value} {L : List Rw} (h : RRow et base w v L) (hg : w.grownBy w' v.ownBlock) (hb : base ≤ w.heap.size) : Below base w w' :=
  ⟨hg.os, hg.tape, hg.output, hg.size, fun k hk => hg.block k (by omega) fun e => by have := (h.block k e.symm).1; omega⟩
theorem RRow.low {et base base' : Nat} {w : World} {v : Value} {L : List Rw} (h : RRow et base w v L) (hb : base' ≤ base) : RRow et base' w v L := by
  rcases h with h | ⟨g, c, rest, h1, h2, h3⟩
  · exact .inl h
  · exact .inr ⟨g, c, rest, h1, Nat.le_trans hb h2, h3⟩

set_option maxRecDepth 100000 in
set_option maxHeartbeats 4000000 in
theorem Implies_any (B : Nat) (v u : Value) (a b : List Req) (w : World) (hB : B ≤ w.heap.size) (hv : ReqsR B w v a) (hu : ReqsR B w u b) (hm : MaxC w) :
    Calls Tryz.prog 8 #[v, u] w (ImpP w a b) := by
  have HV := Lib.hid (And.intro hv (And.intro hu hm))
  have HB := Lib.hid hB
  have CQ := Lib.hid (qcheck_any B v a w hB hv hm)
  have hna := hv.1
  have hnb := hu.1
  obtain ⟨_, A, c, rfl, _⟩ := hv
  obtain ⟨_, A', c', rfl, _⟩ := hu
  clear hm
  go_enter Tryz.func8, Tryz.ntmps8
  go_wp2_with fail
  refine Calls.mono CQ.out ?_
  rintro e w1 ⟨rfl, hx1⟩
  have HX1 := Lib.hid hx1
  clear hx1 CQ
  have CQ := Lib.hid (qcheck_any B (.slice A' b.length c') b w1 (Nat.le_trans HB.out HX1.out.size) (HV.out.2.1.below (HX1.out.mono HB.out) (Nat.le_refl _)) (HV.out.2.2.ext HX1.out))
  by_cases h0 : checkQ a = 0
  · have H0 := Lib.hid h0
    have HE : Hid (impE a b = checkQ b) := if_pos h0
    rw [h0]
    clear h0
    go_wp2_with fail
    refine Calls.mono CQ.out ?_
    rintro e w2 ⟨rfl, hx2⟩
    have HX2 : Hid (Ext w w2) := HX1.out.trans hx2
    clear hx2 CQ
    by_cases h1 : checkQ b = 0
    · have H1 := Lib.hid h1
      have HE0 : Hid (impE a b = 0) := HE.out.trans h1
      rw [h1]
      have hnb8 : b.length ≤ 8 := (good_of_check h1).1
      have hna8 : a.length ≤ 8 := (good_of_check H0.out).1
      clear h1 hna hnb
      go_wp2_with fail
      go_loopw [23] (fun k wr => ∃ j : Nat, j ≤ b.length ∧ k = .int .i64 (j : Int) ∧ Hid (noneTo (oppS a) b j ∧ Ext w wr)) (fun k _ => b.length - (intOf k).toNat)
      case atStart => exact ⟨0, Nat.zero_le _, rfl, fun i hi h => by omega, HX2.out⟩
      case round =>
        obtain ⟨j, hj, rfl, hR⟩ := hrel
        by_cases hlt : j < b.length
        · obtain ⟨bb, off, A2, c2, rfl, hbB, x0, x1, x2, hkz, hst⟩ := (HV.out.2.1.below (hR.out.2.mono HB.out) (Nat.le_refl _)).at_ hlt
          have hcap := (HV.out.2.1.below (hR.out.2.mono HB.out) (Nat.le_refl _)).cap hlt x2
          have HG : Hid (Good (a ++ [oppR b[j]])) := good_opp H0.out H1.out (List.getElem_mem hlt)
          have HKD : Hid (1 ≤ b[j].kind ∧ b[j].kind ≤ 4) := (good_of_check H1.out).2.kinds _ (List.getElem_mem hlt)
          have HSOME : Hid (∀ o, solveL (a ++ [oppR b[j]]) = some o → impliesL a b = some o) := fun o h => implies_some hlt h hR.out.1
          have HNONE : Hid (solveL (a ++ [oppR b[j]]) = none → noneTo (oppS a) b (j + 1)) := fun h => noneTo_succ hR.out.1 hlt (by unfold oppS; rw [h]; rfl)
          obtain ⟨r, hr⟩ : ∃ r, r = b[j] := ⟨_, rfl⟩
          rw [← hr] at x0 x1 x2 HG HKD HSOME HNONE hkz hst hcap
          obtain ⟨W1, hW⟩ : ∃ W, W = wr.alloc (.cells #[.string r.key, .int .i64 r.kind, .slice A2 r.vals.length c2] reqT) := ⟨_, rfl⟩
          obtain ⟨kb, hkb⟩ : ∃ kb, kb = wr.heap.size := ⟨_, rfl⟩
          have HW := Lib.hid (And.intro hW hkb)
          have HX4 : Hid (Ext wr W1 ∧ Ext w W1) := by
            have h : Ext wr W1 := by rw [hW]; exact new_ext _ _
            exact ⟨h, hR.out.2.trans h⟩
          have hh : W1.heap[kb]? = some (.cells #[.string r.key, .int .i64 r.kind, .slice A2 r.vals.length c2] reqT (0, 0)) := by rw [hW]; exact heap_new hkb
          have HH : Hid (∀ wk, Ext W1 wk → wk.cell? ⟨kb, 0, none⟩ = some (.string r.key) ∧ wk.cell? ⟨kb, 1, none⟩ = some (.int .i64 r.kind) ∧ wk.cell? ⟨kb, 2, none⟩ = some (.slice A2 r.vals.length c2)) := fun wk hk => cells3' ((hk.block _ (heap_lt hh)).trans hh)
          have HT : Hid (repR B wr ⟨r.key, oppK r.kind, A2, r.vals.length, c2⟩ (oppR r)) := ⟨rfl, rfl, rfl, A2, c2, rfl, hkz, hst, hcap⟩
          clear hr hW hkb hkz hst hcap hbB
          go_upto_region 9 with fail
          rw [← HW.out.1, ← HW.out.2]
          clear x0 x1 x2 hh
          obtain ⟨z0, z1, z2⟩ := HH.out W1 (Below.refl _ _)
          obtain ⟨t, ht⟩ : ∃ t : Rw, t = ⟨r.key, oppK r.kind, A2, r.vals.length, c2⟩ := ⟨_, rfl⟩
          rw [← ht] at HT
          have CC : Hid (∀ wk, Ext W1 wk → Calls Tryz.prog 28 #[.slice A a.length c] wk fun e w' => ∃ A5 c5 L5, e = .returned (.slice A5 a.length c5) ∧ Hid (L5.length = a.length ∧ RRow reqT W1.heap.size w' (.slice A5 a.length c5) L5 ∧ RepL B w' L5 a) ∧ Ext W1 w') := fun wk hk => by
            have hwk : Ext w wk := HX4.out.2.trans hk
            refine (cloneQ_any (HV.out.1.below (hwk.mono HB.out) (Nat.le_refl _))).mono fun e w' ⟨A5, c5, L5, he, hrow, hrep, hx⟩ => ?_
            exact ⟨A5, c5, L5, he, ⟨hrep.1, hrow.low hk.size, hrep.below (hx.mono (Nat.le_trans HB.out hwk.size)) (Nat.le_refl _)⟩, hk.trans hx⟩
          have CO : Hid (∀ wk, Ext W1 wk → Calls Tryz.prog 29 #[.agg #[.string r.key, .int .i64 r.kind, .slice A2 r.vals.length c2]] wk fun e w' => e = .returned (.agg #[.string r.key, .int .i64 (oppK r.kind), .slice A2 r.vals.length c2]) ∧ Ext W1 w' ∧ Ext wk w') := fun wk hk =>
            (opposite_any r A2 r.vals.length c2 wk HKD.out).mono fun e w' ⟨h1, h2⟩ => ⟨h1, hk.trans h2, h2⟩
          have HROW : Hid (∀ (w5 w6 : World) (A5 : Option Addr) (c5 : Nat) (L5 : List Rw), Ext W1 w5 → Ext W1 w6 → Ext w5 w6 → Hid (L5.length = a.length ∧ RRow reqT W1.heap.size w5 (.slice A5 a.length c5) L5 ∧ RepL B w5 L5 a) → RRow reqT W1.heap.size (w6.alloc (.cells #[.string r.key, .int .i64 (oppK r.kind), .slice A2 r.vals.length c2] reqT)) (.slice A5 a.length c5) L5 ∧ RSrc (w6.alloc (.cells #[.string r.key, .int .i64 (oppK r.kind), .slice A2 r.vals.length c2] reqT)) (.slice (some ⟨w6.heap.size, 0, none⟩) 1 1) [t] ∧ Ext W1 (w6.alloc (.cells #[.string r.key, .int .i64 (oppK r.kind), .slice A2 r.vals.length c2] reqT)) ∧ RepL B w6 (L5 ++ [t]) (a ++ [oppR r])) := fun w5 w6 A5 c5 L5 hx5 hx6 hx56 h5 => by
            refine ⟨h5.out.2.1.ext (hx56.trans (new_ext _ _)), ?_, hx6.trans (new_ext _ _), ?_⟩
            · rw [ht]
              exact RSrc.of_block (L := [⟨r.key, oppK r.kind, A2, r.vals.length, c2⟩]) (et := reqT) (c := 1) (heap_new rfl)
            · have hw5 : Below B w5 w6 := hx56.mono (Nat.le_trans (Nat.le_trans HB.out HX4.out.2.size) hx5.size)
              exact (h5.out.2.2.below hw5 (Nat.le_refl _)).more (HT.out.below ((HX4.out.1.trans hx6).mono (Nat.le_trans HB.out hR.out.2.size)) (Nat.le_refl _))
          have CS : Hid (∀ (w9 : World) (A9 : Option Addr) (c9 : Nat) (L9 : List Rw), Ext W1 w9 → RRow reqT W1.heap.size w9 (.slice A9 (a.length + 1) c9) L9 → RepL B w9 L9 (a ++ [oppR r]) → Calls Tryz.prog 25 #[.slice A9 (a.length + 1) c9] w9 fun e w' => ∃ out, e = .returned (.tuple #[out, .bool (solveL (a ++ [oppR r])).isSome]) ∧ Hid (LabsR w'.heap.size w' out ((solveL (a ++ [oppR r])).getD []) ∧ Ext w w')) := fun w9 A9 c9 L9 hx9 hr9 hp9 => by
            have hw9 : Ext w w9 := HX4.out.2.trans hx9
            refine (solve_any w9.heap.size _ (a ++ [oppR r]) w9 (Nat.le_refl _) (reqs_of_row hr9 hp9 (Nat.le_trans HB.out hw9.size) (by rw [List.length_append]; simp; omega)) HG.out).mono fun e w' hp => ?_
            obtain ⟨out, he, hl, hx⟩ := sol_labs hp
            exact ⟨out, he, hl, hw9.trans hx⟩
          have HAPP : Hid (∀ (w5 w6 w9 : World) (A5 : Option Addr) (c5 : Nat) (L5 : List Rw), Ext W1 w5 → Ext W1 w6 → Ext w5 w6 → Hid (L5.length = a.length ∧ RRow reqT W1.heap.size w5 (.slice A5 a.length c5) L5 ∧ RepL B w5 L5 a) → (w6.alloc (.cells #[.string r.key, .int .i64 (oppK r.kind), .slice A2 r.vals.length c2] reqT)).grownBy w9 (Value.slice A5 a.length c5).ownBlock → Ext W1 w9 ∧ RepL B w9 (L5 ++ [t]) (a ++ [oppR r])) := fun w5 w6 w9 A5 c5 L5 hx5 hx6 hx56 h5 hg9 => by
            obtain ⟨h1, _, h3, h4⟩ := HROW.out w5 w6 A5 c5 L5 hx5 hx6 hx56 h5
            have hb := rrow_below h1 hg9 h3.size
            refine ⟨Below.trans h3 hb, h4.below ?_ (Nat.le_refl _)⟩
            have hBW : B ≤ W1.heap.size := Nat.le_trans HB.out HX4.out.2.size
            exact Below.trans ((new_ext _ _).mono (Nat.le_trans hBW hx6.size)) (hb.mono hBW)
          have hxx : Ext W1 W1 := Below.refl _ _
          clear ht
          go_region_law (first
            | (go_simp; go_at_call 28; with_reducible refine (CC.out _ (by first | assumption | exact hxx.drew)).mono ?_; rintro e w5 ⟨A5, c5, L5, rfl, r5, x5⟩; obtain ⟨z0, z1, z2⟩ := HH.out w5 x5)
            | (go_simp; go_at_call 29; with_reducible refine (CO.out _ (by first | assumption | exact x5.drew)).mono ?_; rintro e w6 ⟨rfl, x6, y6⟩)
            | (refine step_append_parts qTyOk rfl _ _ (by rfl) W1.heap.size a.length 1 _ (.slice A5 a.length c5) (.slice (some ⟨w6.heap.size, 0, none⟩) 1 1) L5 [t] (by rfl) (by rfl) (HROW.out w5 w6 A5 c5 L5 x5 x6 y6 r5).1 (HROW.out w5 w6 A5 c5 L5 x5 x6 y6 r5).2.1 r5.out.1 rfl (by omega) (HROW.out w5 w6 A5 c5 L5 x5 x6 y6 r5).2.2.1.size ?_; intro A9 c9 w9 r9 g9 o9; have X9 := Lib.hid (And.intro (HAPP.out w5 w6 w9 A5 c5 L5 x5 x6 y6 r5 g9) r9); clear r9 g9 o9)
            | (go_simp; go_at_call 25; with_reducible refine (CS.out _ A9 c9 (L5 ++ [t]) (by first | exact X9.out.1.1 | exact X9.out.1.1.drew) (by exact X9.out.2) (by exact X9.out.1.2)).mono ?_; rintro e w7 ⟨out, rfl, h7⟩))
          all_goals
            cases hs : solveL (a ++ [oppR r]) with
            | none =>
              have HN := Lib.hid (HNONE.out hs)
              have H7 := Lib.hid h7.out.2
              clear hs h7
              simp only [Option.isSome_none]
              go_wp2
              go_roundw
              case rel => exact ⟨j + 1, hlt, by go_num, HN.out, H7.out⟩
              case measure => simp [intOf]; omega
            | some o =>
              have HN := Lib.hid (HSOME.out o hs)
              rw [hs] at h7
              have H7 := Lib.hid h7.out
              clear hs h7
              simp only [Option.isSome_some]
              go_wp2
              go_ret3
              exact imp_no HE0.out HN.out H7.out.1 H7.out.2
        · have HN : Hid (impliesL a b = none) := implies_none (by have e : j = b.length := by omega
                                                                  rw [← e]; exact hR.out.1)
          go_wp2
          go_ret3
          exact imp_yes HE0.out HN.out hR.out.2
    · obtain ⟨n, hn⟩ : ∃ n, n = checkQ b := ⟨_, rfl⟩
      rw [← hn] at h1 HE
      have H1 := Lib.hid h1
      have b0 : (n != 0) = true := by simp [h1]
      have b1 : (n == 0) = false := by simp [h1]
      rw [← hn]
      clear h1 hn
      go_wp2
      go_ret3
      exact imp_bad HE.out H1.out HX2.out
  · have HE : Hid (impE a b = checkQ a) := if_neg h0
    obtain ⟨n, hn⟩ : ∃ n, n = checkQ a := ⟨_, rfl⟩
    rw [← hn] at h0 HE
    have H0 := Lib.hid h0
    have b0 : (n != 0) = true := by simp [h0]
    have b1 : (n == 0) = false := by simp [h0]
    rw [← hn]
    clear h0 hn CQ
    go_wp2
    go_ret3
    exact imp_bad HE.out H0.out HX1.out
end Go.Proofs.YtplfimoeggecjaaGreatDoor.Qs
