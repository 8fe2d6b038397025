/-
  The program's value of a key: the walk.
-/
import Derived.Test.YtplfimoeggecjaaGreatDoorQsB
namespace Go.Proofs.YtplfimoeggecjaaGreatDoor.Qs
open Go Go.RowKit Go.Lib Go.Proofs.YtplfimoeggecjaaGreatDoor.Sx Go.Proofs.YtplfimoeggecjaaGreatDoor.Dc

theorem vp (l : List Req) (key : ByteArray) : valueP l key = match ((candL (aboutL l (tx key)) 73).map bx).find? (fun x => allB (aboutL l (tx key)) [⟨key, x⟩]) with
    | some v => .tuple #[.string v, .bool true]
    | none => .tuple #[.string ⟨#[]⟩, .bool false] := by
  unfold valueP valueL
  rw [List.find?_map]
  have e : ((fun x => allB (aboutL l (tx key)) [⟨key, x⟩]) ∘ bx) = okV (aboutL l (tx key)) (tx key) := rfl
  rw [e]
  cases (candL (aboutL l (tx key)) 73).find? (okV (aboutL l (tx key)) (tx key)) <;> rfl
theorem vp_some {l : List Req} {key : ByteArray} {ab : List Req} (ha : ab = aboutL l (tx key)) {cs : List ByteArray} (hc : (candL ab 73).map bx = cs) {j : Nat} (hj : j < cs.length) (hp : allB ab [⟨key, cs[j]⟩] = true) (hn : noneTo (fun x => allB ab [⟨key, x⟩]) cs j) : valueP l key = .tuple #[.string cs[j], .bool true] := by
  rw [vp, ← ha, hc, find_at (p := fun x => allB ab [⟨key, x⟩]) hn hj hp]
theorem vp_none {l : List Req} {key : ByteArray} {ab : List Req} (ha : ab = aboutL l (tx key)) {cs : List ByteArray} (hc : (candL ab 73).map bx = cs) (hn : noneTo (fun x => allB ab [⟨key, x⟩]) cs cs.length) : valueP l key = .tuple #[.string ⟨#[]⟩, .bool false] := by
  rw [vp, ← ha, hc, find_none (p := fun x => allB ab [⟨key, x⟩]) hn]
theorem cand_set {ab : List Req} {r : Req} (h : ab.find? isIn = some r) : (candL ab 73).map bx = sortB r.vals := by
  unfold candL
  rw [h]
  rfl
def numB : List ByteArray := ⟨#[]⟩ :: (List.range 73).map fun i => bx (decDigits i)
theorem numB_len : numB.length = 74 := by unfold numB; simp
theorem numB_at {j : Nat} (h : j < 73) : numB[j + 1]'(by rw [numB_len]; omega) = bx (decDigits j) := by unfold numB; simp
theorem num_size {j : Nat} (h : j < 73) : (bx (decDigits j)).size ≤ 1048576 := by
  have := dec_len j j (Nat.le_refl _)
  show (decDigits j).toArray.size ≤ _
  rw [List.size_toArray]
  omega
theorem cand_num {ab : List Req} (h : ab.find? isIn = none) : (candL ab 73).map bx = numB := by
  unfold candL
  rw [h]
  unfold cands numB
  simp
  rfl

set_option maxRecDepth 100000 in
set_option maxHeartbeats 4000000 in
theorem value_any (B : Nat) (v : Value) (l : List Req) (key : ByteArray) (w : World) (hB : B ≤ w.heap.size) (hv : ReqsR B w v l) (hk : key.size ≤ 1048576) :
    Calls Tryz.prog 63 #[v, .string key] w fun e w' => e = .returned (valueP l key) ∧ Ext w w' := by
  have HV := Lib.hid hv
  have HB := Lib.hid (And.intro hB hk)
  have HN := Lib.hid hv.1
  obtain ⟨_, A, c, rfl, _⟩ := hv
  clear hB hk
  go_enter Tryz.func63, Tryz.ntmps63
  go_upto_region 1 with fail
  obtain ⟨W1, hW⟩ : ∃ W, W = w.alloc (.cells #[.string key] 9) := ⟨_, rfl⟩
  obtain ⟨kb, hkb⟩ : ∃ kb, kb = w.heap.size := ⟨_, rfl⟩
  rw [← hW, ← hkb]
  have HX : Hid (Ext w W1 ∧ KeyIn W1 kb key ∧ kb < W1.heap.size) := by
    have h : KeyIn W1 kb key := by rw [hW]; exact heap_new hkb
    exact ⟨by rw [hW]; exact new_ext _ _, h, heap_lt h⟩
  have H1 : Hid (ReqsR B W1 (.slice A l.length c) l) := HV.out.below (HX.out.1.mono HB.out.1) (Nat.le_refl _)
  have HBW : Hid (B ≤ W1.heap.size) := Nat.le_trans HB.out.1 HX.out.1.size
  clear hW hkb
  have C1 := Lib.hid (cloneQ_any H1.out)
  go_wp2_with (go_at_call 28; with_reducible refine C1.out.mono ?_; rintro e w2 ⟨A2, c2, L, rfl, hrow, hrep, hx2⟩; have H2 := Lib.hid (And.intro hrow (And.intro hrep hx2)); clear hrow hrep hx2)
  have C2 := Lib.hid (deleteQ_any W1.heap.size B kb key A2 c2 L l w2 H2.out.1 (H2.out.2.1.below (H2.out.2.2.mono HBW.out) (Nat.le_refl _)) HBW.out H2.out.2.2.size (HX.out.2.1.ext H2.out.2.2) HX.out.2.2 HN.out)
  with_reducible refine Calls.mono C2.out ?_
  rintro e w3 ⟨A3, c3, m, cur, rfl, hrow, hrep, hm, hb3⟩
  rw [about_keep] at hrep
  have H3 := Lib.hid (And.intro hrow (And.intro hrep (And.intro hm hb3)))
  clear hrow hrep hm hb3
  go_upto_region 2 with fail
  obtain ⟨W4, hW⟩ : ∃ W, W = w3.alloc (.cells #[.slice A3 m c3] 22) := ⟨_, rfl⟩
  obtain ⟨ka, hka⟩ : ∃ k, k = w3.heap.size := ⟨_, rfl⟩
  obtain ⟨ab, hab⟩ : ∃ ab, ab = aboutL l (tx key) := ⟨_, rfl⟩
  rw [← hW, ← hka]
  rw [← hab] at H3
  have HAB := Lib.hid hab
  have hm : m = ab.length := by rw [← H3.out.2.2.1, H3.out.2.1.1]
  subst hm
  have HAL : Hid (ab.length ≤ 1099511627776) := by have h := List.length_filter_le (fun r : Req => tx r.key == tx key) l; have h2 := HN.out; rw [hab]; exact Nat.le_trans h h2
  have HX4 : Hid (Ext w W4 ∧ Below W1.heap.size W1 W4) := by
    have h1 : Below W1.heap.size W1 W4 := by rw [hW]; exact (Below.trans H2.out.2.2 H3.out.2.2.2).alloc (Nat.le_trans H2.out.2.2.size H3.out.2.2.2.size) _
    exact ⟨Below.trans HX.out.1 (h1.mono HX.out.1.size), h1⟩
  have HZ : Hid (ReqsR W4.heap.size W4 (.slice A3 ab.length c3) ab ∧ AboutIn W4 ka (.slice A3 ab.length c3) ∧ KeyIn W4 kb key) := by
    have h0 := H3.out.1.ext (show Ext w3 W4 by rw [hW]; exact new_ext _ _)
    have hr := H3.out.2.1.below (show Below B w2 W4 by rw [hW]; exact (H3.out.2.2.2.alloc (Nat.le_trans H2.out.2.2.size H3.out.2.2.2.size) _).mono HBW.out) (Nat.le_refl _)
    refine ⟨reqs_of_row h0 hr (Nat.le_trans HBW.out HX4.out.2.size) HAL.out, by rw [hW]; exact heap_new hka, ?_⟩
    exact (HX4.out.2.block _ HX.out.2.2).trans HX.out.2.1
  have CF : Hid (∀ wk v, Ext W4 wk → v.size ≤ 1048576 → Calls Tryz.prog 99 #[.string v, .pointer (some ⟨ka, 0, none⟩), .pointer (some ⟨kb, 0, none⟩)] wk fun e w' => e = .returned (.bool (allB ab [⟨key, v⟩])) ∧ Ext W4 w' ∧ Ext wk w') := fun wk v hx hv =>
    (okV_any ka kb A3 c3 ab key v wk (HZ.out.1.below hx hx.size) (HZ.out.2.1.ext hx) (HZ.out.2.2.ext hx) HB.out.2 hv).mono fun e w' ⟨h1, h2⟩ => ⟨h1, hx.trans h2, h2⟩
  have CI := Lib.hid (firstIn_any W4.heap.size (.slice A3 ab.length c3) ab W4 (Nat.le_refl _) HZ.out.1)
  have a0 : W4.cell? ⟨ka, 0, none⟩ = some (.slice A3 ab.length c3) := cell_of HZ.out.2.1 0
  clear hW hka hab C1 C2 H1 H2 H3
  go_wp2_with fail
  refine Calls.mono CI.out ?_
  rintro e w5 ⟨hf, hx5⟩
  have HX5 := Lib.hid hx5
  clear hx5 a0
  rcases hf with ⟨i, hi, rfl, hp, hno⟩ | ⟨rfl, hno⟩
  · have HF := Lib.hid (first_find hi hp hno)
    obtain ⟨b, off, A1, c1, hA, hbB, _, _, x2, _, hst⟩ := (HZ.out.1.below HX5.out (Nat.le_refl _)).at_ hi
    have a5 : w5.cell? ⟨ka, 0, none⟩ = some (.slice A3 ab.length c3) := cell_of (HZ.out.2.1.ext HX5.out) 0
    subst hA
    obtain ⟨r, hr⟩ : ∃ r, r = ab[i] := ⟨_, rfl⟩
    rw [← hr] at x2 hst HF
    have HST := Lib.hid hst
    have HSZ : Hid (∀ x ∈ r.vals, x.size ≤ 1048576) := by rw [hr]; exact (reqs_size HZ.out.1 _ (List.getElem_mem hi)).2
    have hrn : r.vals.length ≤ 1099511627776 := hst.1
    have HRN := Lib.hid hrn
    clear hr hp hno hst hbB
    go_wp2_with fail
    refine Calls.mono (cloneS_any HST.out) ?_
    rintro e w6 ⟨A6, c6, rfl, hrow, hx6⟩
    have H6 := Lib.hid (And.intro (OwnS.of_row hrow) hx6)
    clear hrow hx6
    go_wp2_with fail
    refine Calls.mono (sort_own w5.heap.size A6 c6 r.vals w6 H6.out.1 (Nat.lt_of_le_of_lt HRN.out (by decide))) ?_
    rintro e w7 ⟨rfl, hb7, hown⟩
    have HX7 : Hid (Ext W4 w7) := Below.trans HX5.out ((Below.trans H6.out.2 hb7).mono HX5.out.size)
    have HO := Lib.hid hown
    obtain ⟨xs, hxs⟩ : ∃ xs, xs = sortB r.vals := ⟨_, rfl⟩
    have HXN : Hid (xs.length = r.vals.length) := by rw [hxs]; exact sortB_len _
    have HXZ : Hid (∀ x ∈ xs, x.size ≤ 1048576) := fun x hx => HSZ.out x ((sortB_mem _ _).1 (by rw [← hxs]; exact hx))
    have HC : Hid ((candL ab 73).map bx = xs) := by rw [hxs]; exact cand_set HF.out
    rw [← hxs] at HO
    obtain ⟨n, hn⟩ : ∃ n, n = r.vals.length := ⟨_, rfl⟩
    rw [← hn] at HXN hrn
    rw [← hn]
    clear hb7 hown hxs hn x2 a5
    go_wp2_with fail
    go_loopw [33] (fun k wr => ∃ j : Nat, j ≤ n ∧ k = .int .i64 (j : Int) ∧ Hid (noneTo (fun x => allB ab [⟨key, x⟩]) xs j ∧ Ext w7 wr)) (fun k _ => n - (intOf k).toNat)
    case atStart => exact ⟨0, Nat.zero_le _, rfl, fun i hi h => by omega, Below.refl _ _⟩
    case round =>
      obtain ⟨j, hj, rfl, hN⟩ := hrel
      by_cases hlt : j < n
      · have hjx : j < xs.length := by have := HXN.out; omega
        obtain ⟨g, rfl, _, y0⟩ := (HO.out.ext hN.out.2).cell hjx
        have HT : Hid (allB ab [⟨key, xs[j]⟩] = true → valueP l key = .tuple #[.string xs[j], .bool true]) := fun h => vp_some HAB.out HC.out hjx h hN.out.1
        have HE : Hid (allB ab [⟨key, xs[j]⟩] = false → noneTo (fun x => allB ab [⟨key, x⟩]) xs (j + 1)) := fun h => noneTo_succ hN.out.1 hjx h
        have hz : xs[j].size ≤ 1048576 := HXZ.out _ (List.getElem_mem hjx)
        obtain ⟨x, hx⟩ : ∃ x, x = xs[j] := ⟨_, rfl⟩
        rw [← hx] at y0 HT HE hz
        have C9 := Lib.hid (CF.out wr x (HX7.out.trans hN.out.2) hz)
        clear hx hz hjx
        cases hb : allB ab [⟨key, x⟩] with
        | true =>
          have HT2 := Lib.hid (HT.out hb)
          have HBB := Lib.hid hb
          clear hb HT HE
          go_wp2_with fail
          refine Calls.mono C9.out ?_
          rintro e w9 ⟨rfl, hx9, hy9⟩
          rw [HBB.out]
          have HX9 := Lib.hid (And.intro hx9 hy9)
          clear hx9 hy9
          go_wp2
          go_ret2
          exact ⟨(by rw [HT2.out]; rfl), HX4.out.1.trans HX9.out.1⟩
        | false =>
          have HE2 := Lib.hid (HE.out hb)
          have HBB := Lib.hid hb
          clear hb HT HE
          go_wp2_with fail
          refine Calls.mono C9.out ?_
          rintro e w9 ⟨rfl, hx9, hy9⟩
          rw [HBB.out]
          have HX9 := Lib.hid (And.intro hx9 hy9)
          clear hx9 hy9
          go_wp2
          go_roundw
          case rel => exact ⟨j + 1, hlt, by go_num, HE2.out, hN.out.2.trans HX9.out.2⟩
          case measure => simp [intOf]; omega
      · have HV : Hid (valueP l key = .tuple #[.string ⟨#[]⟩, .bool false]) := vp_none HAB.out HC.out (by have e : j = n := by omega
                                                                                                          rw [HXN.out, ← e]; exact hN.out.1)
        go_wp2
        go_ret2
        exact ⟨(by rw [HV.out]; rfl), HX4.out.1.trans (HX7.out.trans hN.out.2)⟩
  · have HF := Lib.hid (first_none hno)
    clear hno
    have HC : Hid ((candL ab 73).map bx = numB) := cand_num HF.out
    have C9 := Lib.hid (CF.out w5 ⟨#[]⟩ HX5.out (by decide))
    cases hb : allB ab [⟨key, ⟨#[]⟩⟩] with
    | true =>
      have HT2 : Hid (valueP l key = .tuple #[.string ⟨#[]⟩, .bool true]) := vp_some HAB.out HC.out (j := 0) (by rw [numB_len]; omega) hb (fun i hi h => by omega)
      have HBB := Lib.hid hb
      clear hb
      go_wp2_with fail
      refine Calls.mono C9.out ?_
      rintro e w9 ⟨rfl, hx9, hy9⟩
      rw [HBB.out]
      have HX9 := Lib.hid (And.intro hx9 hy9)
      clear hx9 hy9
      go_wp2
      go_ret2
      exact ⟨(by rw [HT2.out]; rfl), HX4.out.1.trans HX9.out.1⟩
    | false =>
      have HN0 : Hid (noneTo (fun x => allB ab [⟨key, x⟩]) numB 1) := fun i hi h => by
        obtain rfl : i = 0 := by omega
        exact hb
      have HBB := Lib.hid hb
      clear hb
      go_wp2_with fail
      refine Calls.mono C9.out ?_
      rintro e w9 ⟨rfl, hx9, hy9⟩
      rw [HBB.out]
      have HX9 := Lib.hid (And.intro hx9 hy9)
      clear hx9 hy9 C9
      go_wp2_with fail
      go_loopw [44] (fun k wr => ∃ j : Nat, j ≤ 73 ∧ k = .int .i64 (j : Int) ∧ Hid (noneTo (fun x => allB ab [⟨key, x⟩]) numB (j + 1) ∧ Ext W4 wr)) (fun k _ => 73 - (intOf k).toNat)
      case atStart => exact ⟨0, Nat.zero_le _, rfl, HN0.out, HX9.out.1⟩
      case round =>
        obtain ⟨j, hj, rfl, hN⟩ := hrel
        by_cases hlt : j < 73
        · have hjx : j + 1 < numB.length := by rw [numB_len]; omega
          have HT : Hid (allB ab [⟨key, numB[j + 1]⟩] = true → valueP l key = .tuple #[.string numB[j + 1], .bool true]) := fun h => vp_some HAB.out HC.out hjx h hN.out.1
          have HE : Hid (allB ab [⟨key, numB[j + 1]⟩] = false → noneTo (fun x => allB ab [⟨key, x⟩]) numB (j + 1 + 1)) := fun h => noneTo_succ hN.out.1 hjx h
          rw [numB_at hlt] at HT HE
          have hz := num_size hlt
          have CT := Lib.hid (Tryz.strconv_Itoa_small j (by omega) wr)
          obtain ⟨x, hx⟩ : ∃ x, x = bx (decDigits j) := ⟨_, rfl⟩
          rw [← hx] at HT HE hz
          have HXX := Lib.hid hx
          have C9 := Lib.hid (CF.out wr x hN.out.2 hz)
          have hlI : (j : Int) < 73 := by omega
          clear hx hz hjx
          cases hb : allB ab [⟨key, x⟩] with
          | true =>
            have HT2 := Lib.hid (HT.out hb)
            have HBB := Lib.hid hb
            clear hb HT HE
            go_wp2_with fail
            refine Calls.mono CT.out ?_
            rintro e wz ⟨rfl, rfl⟩
            rw [show (⟨(decDigits j).toArray⟩ : ByteArray) = x from HXX.out.symm]
            go_wp2_with fail
            refine Calls.mono C9.out ?_
            rintro e w9 ⟨rfl, hx9, hy9⟩
            rw [HBB.out]
            have HX9 := Lib.hid (And.intro hx9 hy9)
            clear hx9 hy9
            go_wp2
            go_ret2
            exact ⟨(by rw [HT2.out]; rfl), HX4.out.1.trans HX9.out.1⟩
          | false =>
            have HE2 := Lib.hid (HE.out hb)
            have HBB := Lib.hid hb
            clear hb HT HE
            go_wp2_with fail
            refine Calls.mono CT.out ?_
            rintro e wz ⟨rfl, rfl⟩
            rw [show (⟨(decDigits j).toArray⟩ : ByteArray) = x from HXX.out.symm]
            go_wp2_with fail
            refine Calls.mono C9.out ?_
            rintro e w9 ⟨rfl, hx9, hy9⟩
            rw [HBB.out]
            have HX9 := Lib.hid (And.intro hx9 hy9)
            clear hx9 hy9
            go_wp2
            go_roundw
            case rel => exact ⟨j + 1, hlt, by go_num, HE2.out, HX9.out.1⟩
            case measure => simp [intOf]; omega
        · have HV : Hid (valueP l key = .tuple #[.string ⟨#[]⟩, .bool false]) := vp_none HAB.out HC.out (by have e : 73 = j := by omega
                                                                                                            rw [numB_len, show 74 = j + 1 by omega]; exact hN.out.1)
          go_wp2
          go_ret2
          exact ⟨(by rw [HV.out]; rfl), HX4.out.1.trans hN.out.2⟩
end Go.Proofs.YtplfimoeggecjaaGreatDoor.Qs
