/-
  The program's reader: begin (printed by gen/jp5.py).
-/
import Derived.Test.YtahinicpceokcaaGreatDoorJp4
namespace Go.Proofs.YtahinicpceokcaaGreatDoor.Jm
open Go Go.RowKit Go.Proofs.YtahinicpceokcaaGreatDoor.Sx Go.Proofs.YtahinicpceokcaaGreatDoor.Js Go.Proofs.YtahinicpceokcaaGreatDoor.Gr Go.Proofs.YtahinicpceokcaaGreatDoor.Ur

theorem begin_skip (st : List Fr) (d many : Nat) (s : Tx) : beginOut st d many (skipW s) = beginOut st d many s := by
  unfold beginOut
  rw [value_skip]
set_option maxRecDepth 100000 in
set_option maxHeartbeats 16000000 in
theorem begin_any (lo base k : Nat) (s : ByteArray) (i many d : Nat) (A : Option Addr) (m cp : Nat) (st : List Fr) (L : List (List Value)) (w : World) (h : RIn w k s i many (.slice A m cp) 0) (hs : s.size ≤ 2000) (hi : i ≤ s.size) (hmany : many ≤ 200) (hst : StkAt base w (.slice A m cp) st L) (hok : OKst s i st) (hkb : k < base) (hlk : lo ≤ k) (hlw : base ≤ w.heap.size) (hdl : d + st.length = 10) (T : Res J) (hT : T = beginOut st d many (sfx s i)) :
    Calls Tryz.prog 60 #[.pointer (some ⟨k, 0, none⟩)] w (StepPost lo base k w s i T) := by
  have hms : m = st.length := by
    obtain ⟨A', c', e, _⟩ := hst.slice
    injection e
  have H := Lib.hid h
  have HST := Lib.hid hst
  have HLO : Hid (k < base ∧ lo ≤ k ∧ lo ≤ w.heap.size) := ⟨hkb, hlk, by omega⟩
  have HLW := Lib.hid hlw
  have HOK := Lib.hid hok
  have HT := Lib.hid hT
  have HDL := Lib.hid hdl
  have HMS := Lib.hid hms
  have hm10 : m ≤ 10 := by omega
  clear h hst hok hT hdl hms hkb hlk hlw
  have CN := Lib.hid (next_any k s i many _ 0 w H.out hs (by omega))
  go_enter Tryz.func60, Tryz.ntmps60
  go_wp2_with fail
  refine Calls.mono CN.out ?_
  rintro e w2 ⟨j2, rfl, hq2, hij, hjs, hsk, hg2⟩
  have HQ2 := Lib.hid hq2
  have HG2 := Lib.hid hg2
  have HSK := Lib.hid hsk
  have hj2 : j2 ≤ s.size := hjs hi
  clear hq2 hg2 hsk hjs CN
  obtain ⟨c, hcc⟩ : ∃ c, c = headB (skipW (sfx s i)) := ⟨_, rfl⟩
  rw [← hcc]
  have HCC := Lib.hid hcc
  by_cases hstart : starts c = true ∧ skipW (sfx s i) ≠ []
  · obtain ⟨r, hr⟩ : ∃ r, skipW (sfx s i) = c :: r := by
      cases h2 : skipW (sfx s i) with
      | nil => exact absurd h2 hstart.2
      | cons y r => rw [h2] at hcc; exact ⟨r, by rw [hcc]; rfl⟩
    have HSKW := Lib.hid hr
    have HJS : Hid (sfx s j2 = c :: r) := by unfold Hid; rw [HSK.out]; exact hr
    have HJL : Hid (j2 < s.size ∧ sfx s (j2 + 1) = r ∧ byteAt s j2 = c) := sfx_step HJS.out
    have HSTA : Hid (starts c = true) := hstart.1
    clear hcc hr hstart
    by_cases h91 : c = 91
    · subst h91
      have b91 : ((91 : Nat) == 91) = true := rfl
      clear b91
      have hc91 : (((91 : UInt8).toNat : Nat) : Int) = 91 := rfl
      rw [hc91]
      clear hc91
      obtain ⟨z0, z1, z2, z3, z4⟩ := HQ2.out.cells
      have f2 := HQ2.out.free 2
      have hmI : (many : Int) ≤ 200 := by omega
      go_upto_region 7 with (fail)
      generalize hW : World.setCell w2 _ _ = w3
      have HQ3 : Hid (RIn w3 k s j2 (many + 1) (.slice A m cp) 0) := by unfold Hid; rw [← hW]; exact HQ2.out.setMany _ _ (by omega)
      have HG3 : Hid (w.grownBy w3 (some k)) := by unfold Hid; rw [← hW]; exact grown_trans HG2.out (grown_set _ k 2 _)
      clear hW z0 z1 z2 z3 z4 f2
      obtain ⟨z0, z1, z2, z3, z4⟩ := HQ3.out.cells
      rw [show ((many + 1 : Nat) : Int) = (many : Int) + 1 by omega] at z2
      by_cases hbig : 200 < many + 1
      · have HTE : Hid (T = .error 2) := by unfold Hid; rw [HT.out, begin_many HSKW.out HSTA.out hbig]
        have b200 : decide ((200 : Int) < (many : Int) + 1) = true := decide_eq_true (by omega)
        clear hbig
        have CF := Lib.hid (fail_any k s j2 (many + 1) _ 0 2 w3 HQ3.out)
        go_wp2_with fail
        refine Calls.mono CF.out ?_
        rintro e w4 ⟨rfl, hq4, hg4⟩
        have HQ4 : Hid (RIn w4 k s j2 (many + 1) (.slice A m cp) 2) := hq4
        have HB4 := Lib.hid (low_grown (grown_trans HG3.out hg4) HLO.out.2.1 HLO.out.2.2)
        clear hq4 hg4 CF z0 z1 z2 z3 z4
        obtain ⟨z0, z1, z2, z3, z4⟩ := HQ4.out.cells
        go_wp2_with fail
        go_ret2
        exact ⟨j2, many + 1, 2, _, _, false, rfl, HQ4.out, HB4.out, .inl ⟨by decide, HTE.out⟩⟩
      · have HBIG := Lib.hid hbig
        have b200 : decide ((200 : Int) < (many : Int) + 1) = false := decide_eq_false (by omega)
        clear hbig
        by_cases hm : m = 10
        · have HTE : Hid (T = .error 4) := by
            have h1 := HDL.out
            have h2 := HMS.out
            obtain rfl : d = 0 := by omega
            unfold Hid
            rw [HT.out, begin_deep HSKW.out (.inl rfl) HBIG.out]
          have bm : ((m : Int) == 10) = true := by rw [beq_iff_eq]; omega
          clear hm
          have CF := Lib.hid (fail_any k s j2 (many + 1) _ 0 4 w3 HQ3.out)
          go_wp2_with fail
          refine Calls.mono CF.out ?_
          rintro e w4 ⟨rfl, hq4, hg4⟩
          have HQ4 : Hid (RIn w4 k s j2 (many + 1) (.slice A m cp) 4) := hq4
          have HB4 := Lib.hid (low_grown (grown_trans HG3.out hg4) HLO.out.2.1 HLO.out.2.2)
          clear hq4 hg4 CF z0 z1 z2 z3 z4
          obtain ⟨z0, z1, z2, z3, z4⟩ := HQ4.out.cells
          go_wp2_with fail
          go_ret2
          exact ⟨j2, many + 1, 4, _, _, false, rfl, HQ4.out, HB4.out, .inl ⟨by decide, HTE.out⟩⟩
        · have bm : ((m : Int) == 10) = false := by rw [beq_eq_false_iff_ne]; omega
          obtain ⟨d', hd'⟩ : ∃ d', d = d' + 1 := ⟨d - 1, by have h1 := HDL.out; have h2 := HMS.out; omega⟩
          have HD := Lib.hid hd'
          have f1 := HQ3.out.free 1
          have hj2I : j2 ≤ 2000 := by omega
          clear hm hd'
          go_upto_region 16 with (fail)
          generalize hW : World.setCell w3 _ _ = w4
          have HQ4 : Hid (RIn w4 k s (j2 + 1) (many + 1) (.slice A m cp) 0) := by unfold Hid; rw [← hW]; exact HQ3.out.setAt _ _ (by omega)
          have HG4 : Hid (w.grownBy w4 (some k)) := by unfold Hid; rw [← hW]; exact grown_trans HG3.out (grown_set _ k 1 _)
          clear hW z0 z1 z2 z3 z4 f1 bm
          have HST4 := Lib.hid (HST.out.kept HG4.out HLO.out.1)
          obtain ⟨z0, z1, z2, z3, z4⟩ := HQ4.out.cells
          have f3 := HQ4.out.free 3
          have hbase4 : base ≤ w4.heap.size := Nat.le_trans HLW.out HG4.out.size
          have HLL : Hid (L.reverse.length = m) := by
            obtain ⟨A', c', e, _⟩ := HST4.out.1.slice
            injection e with _ e _
            exact e.symm
          go_upto_region 17 with (at_builtin; refine append_g ty_open rfl _ _ (by rfl) base m 1 _ (.slice A m cp) (.slice (some ⟨w4.heap.size, 0, none⟩) 1 1) L.reverse [[.slice none 0 0, .pointer none, .string ⟨#[]⟩]] (by rfl) (by rfl) (HST4.out.1.ext (new_ext w4 (.cells #[.slice none 0 0, .pointer none, .string ⟨#[]⟩] openT (0, 0)))) (GSrc.one rfl (fun q hq => by simp only [List.mem_cons, List.not_mem_nil, or_false] at hq; rcases hq with rfl | rfl | rfl <;> rfl) (heap_new (by simp))) HLL.out rfl (by omega) (Nat.le_trans hbase4 (Below.size (new_ext w4 (.cells #[.slice none 0 0, .pointer none, .string ⟨#[]⟩] openT (0, 0))))) ?_; intro A9 c9 w9 h9 g9 o9; have hq9 : RIn w9 k s (j2 + 1) (many + 1) (.slice A m cp) 0 := (HQ4.out.ext (new_ext w4 (.cells #[.slice none 0 0, .pointer none, .string ⟨#[]⟩] openT (0, 0)))).kept g9 (fun e => by have h1 := (HST4.out.1.block k e).1; have h2 := HLO.out.1; omega); have z39 := hq9.cells.2.2.2.1; have f39 := hq9.free 3; have H9 := Lib.hid (And.intro h9 (And.intro g9 (And.intro o9 hq9))); clear h9 g9 o9 hq9)
          generalize hW : World.setCell w9 _ _ = w10
          have HQ10 : Hid (RIn w10 k s (j2 + 1) (many + 1) (.slice A9 (m + 1) c9) 0) := by unfold Hid; rw [← hW]; exact H9.out.2.2.2.setStack _
          have HST10 : Hid (StkAt base w10 (.slice A9 (m + 1) c9) (⟨false, [], [], [], [], 2000⟩ :: st) ([.slice none 0 0, .pointer none, .string ⟨#[]⟩] :: L)) := by
            unfold Hid
            rw [← hW]
            refine StkAt.kept (StkAt.push (HST4.out.ext (new_ext w4 (.cells #[.slice none 0 0, .pointer none, .string ⟨#[]⟩] openT (0, 0)))) H9.out.1 H9.out.2.1 H9.out.2.2.1 (.inl ⟨rfl, none, 0, 0, [], rfl, GRow.nil, rfl, (fun q hq _ => by cases hq)⟩) rfl) (grown_set w9 k 3 _) HLO.out.1
          have HB10 : Hid (Below lo w w10) := by
            unfold Hid
            rw [← hW]
            have h1 := HLO.out
            have h2 := H9.out.2.1
            have hx := Below.size (new_ext w4 (.cells #[.slice none 0 0, .pointer none, .string ⟨#[]⟩] openT (0, 0)))
            have h4 := HG4.out.size
            have h5 := HLW.out
            refine low_set ((low_grown HG4.out h1.2.1 h1.2.2).trans ((Below.mono (new_ext w4 (.cells #[.slice none 0 0, .pointer none, .string ⟨#[]⟩] openT (0, 0))) (by omega)).trans ⟨h2.os, h2.tape, h2.output, h2.size, fun q hq => h2.block q ?_ (fun e => ?_)⟩)) h1.2.1
            · exact Nat.lt_of_lt_of_le (by omega : q < w4.heap.size) hx
            · have := (HST4.out.1.block q e.symm).1
              omega
          clear hW z0 z1 z2 z3 z4 f3 z39 f39
          have HC10 : Hid (∀ W, w10.grownBy W (some k) → StkAt base W (.slice A9 (m + 1) c9) (⟨false, [], [], [], [], 2000⟩ :: st) ([.slice none 0 0, .pointer none, .string ⟨#[]⟩] :: L) ∧ Below lo w W) := fun W hW =>
            ⟨HST10.out.kept hW HLO.out.1, HB10.out.trans (low_grown hW HLO.out.2.1 (by have h1 := HLO.out.2.2; have h2 := HB10.out.size; omega))⟩
          have CN := Lib.hid (next_any k s (j2 + 1) (many + 1) _ 0 w10 HQ10.out hs (by omega))
          go_wp2_with fail
          refine Calls.mono CN.out ?_
          rintro e w11 ⟨j11, rfl, hq11, hij11, hjs, hsk, hg11⟩
          have HQ11 := Lib.hid hq11
          have HC11 := Lib.hid (HC10.out w11 hg11)
          have HG11 := Lib.hid hg11
          have HSK11 : Hid (sfx s j11 = skipW r) := by unfold Hid; rw [hsk, HJL.out.2.1]
          have hj11 : j11 ≤ s.size := hjs HJL.out.1
          clear hq11 hg11 hsk hjs CN
          obtain ⟨x, hx⟩ : ∃ x, x = headB (skipW (sfx s (j2 + 1))) := ⟨_, rfl⟩
          rw [← hx]
          have HX := Lib.hid hx
          by_cases hend : x = 93
          · have HE : Hid (∃ r2, skipW r = 93 :: r2 ∧ j11 < s.size ∧ sfx s (j11 + 1) = r2) := by
              rw [HJL.out.2.1, hend] at hx
              cases hs2 : skipW r with
              | nil => rw [hs2] at hx; cases hx
              | cons y r1 =>
                rw [hs2] at hx
                have hy : 93 = y := hx
                obtain ⟨a, b, _⟩ := sfx_step (HSK11.out.trans hs2)
                exact ⟨r1, by rw [hy], a, b⟩
            obtain ⟨r2, hr2, hjl, hr3⟩ := HE
            have HTE : Hid (T = goesOut st d (.list []) (many + 1) (sfx s (j11 + 1))) := by
              have h1 := HSKW.out
              have h2 := HD.out
              subst h2
              unfold Hid
              rw [HT.out, begin_nolist h1 HBIG.out hr2, hr3]
            have bend : ((x.toNat : Int) == 93) = true := by rw [hend]; rfl
            clear hend hx hr2 hr3
            obtain ⟨g, hA9, _, hc9, _, _⟩ := HC11.out.1.top
            subst hA9
            have CC := Lib.hid (close_any k s j11 (many + 1) g m c9 0 (.iface valsT (.slice none 0 0)) w11 HQ11.out (by omega) (by have := HMS.out; omega) (by omega))
            go_wp2_with fail
            refine Calls.mono CC.out ?_
            rintro e w12 ⟨rfl, hq12, hg12⟩
            have HQ12 := Lib.hid hq12
            have HC12 := Lib.hid (HC10.out w12 (grown_trans HG11.out hg12))
            clear hq12 hg12 CC
            go_wp2_with fail
            go_ret2
            have hpop := HC12.out.1.pop
            have hb := HBIG.out
            exact ⟨j11 + 1, many + 1, 0, _, _, true, rfl, HQ12.out, HC12.out.2, .inr ⟨rfl, hjl, by omega, by omega, st, L, d, hpop.2, HOK.out.up (by omega), HDL.out, .inl ⟨rfl, .list [], PV_list.2 ⟨none, 0, rfl, Nat.le_refl _, (fun q hq => by cases hq)⟩, HTE.out⟩⟩⟩
          · have bend : ((x.toNat : Int) == 93) = false := by
              rw [show (93 : Int) = ((93 : Nat) : Int) from rfl, byte_lit x 93 (by omega)]
              simp [hend]
            have HNE : Hid (∀ r2, skipW r ≠ 93 :: r2) := fun r2 e => hend (by rw [hx, HJL.out.2.1, e]; rfl)
            clear hend hx
            have HTE : Hid (T = beginOut (⟨false, [], [], [], [], 2000⟩ :: st) d' (many + 1) (sfx s j11)) := by
              have h1 := HD.out
              subst h1
              unfold Hid
              rw [HT.out, begin_list HSKW.out HBIG.out HNE.out, HSK11.out, begin_skip]
            go_wp2_with fail
            go_ret2
            have hb := HBIG.out
            exact ⟨j11, many + 1, 0, _, _, false, rfl, HQ11.out, HC11.out.2, .inr ⟨rfl, hj11, by omega, by omega, _, _, d', HC11.out.1, (fun p hp => by
              rcases List.mem_cons.1 hp with rfl | hp
              · exact ⟨by show s.size ≤ 2000 + j11; omega, Nat.zero_le _, Nat.zero_le _⟩
              · have h1 := HOK.out p hp
                omega), by have h1 := HDL.out; have h2 := HD.out; rw [List.length_cons]; omega, .inr ⟨rfl, HTE.out⟩⟩⟩
    · by_cases h123 : c = 123
      · subst h123
        have hc91 : (((123 : UInt8).toNat : Nat) : Int) = 123 := rfl
        rw [hc91]
        clear hc91 h91
        obtain ⟨z0, z1, z2, z3, z4⟩ := HQ2.out.cells
        have f2 := HQ2.out.free 2
        have hmI : (many : Int) ≤ 200 := by omega
        go_upto_region 7 with (fail)
        generalize hW : World.setCell w2 _ _ = w3
        have HQ3 : Hid (RIn w3 k s j2 (many + 1) (.slice A m cp) 0) := by unfold Hid; rw [← hW]; exact HQ2.out.setMany _ _ (by omega)
        have HG3 : Hid (w.grownBy w3 (some k)) := by unfold Hid; rw [← hW]; exact grown_trans HG2.out (grown_set _ k 2 _)
        clear hW z0 z1 z2 z3 z4 f2
        obtain ⟨z0, z1, z2, z3, z4⟩ := HQ3.out.cells
        rw [show ((many + 1 : Nat) : Int) = (many : Int) + 1 by omega] at z2
        by_cases hbig : 200 < many + 1
        · have HTE : Hid (T = .error 2) := by unfold Hid; rw [HT.out, begin_many HSKW.out HSTA.out hbig]
          have b200 : decide ((200 : Int) < (many : Int) + 1) = true := decide_eq_true (by omega)
          clear hbig
          have CF := Lib.hid (fail_any k s j2 (many + 1) _ 0 2 w3 HQ3.out)
          go_wp2_with fail
          refine Calls.mono CF.out ?_
          rintro e w4 ⟨rfl, hq4, hg4⟩
          have HQ4 : Hid (RIn w4 k s j2 (many + 1) (.slice A m cp) 2) := hq4
          have HB4 := Lib.hid (low_grown (grown_trans HG3.out hg4) HLO.out.2.1 HLO.out.2.2)
          clear hq4 hg4 CF z0 z1 z2 z3 z4
          obtain ⟨z0, z1, z2, z3, z4⟩ := HQ4.out.cells
          go_wp2_with fail
          go_ret2
          exact ⟨j2, many + 1, 2, _, _, false, rfl, HQ4.out, HB4.out, .inl ⟨by decide, HTE.out⟩⟩
        · have HBIG := Lib.hid hbig
          have b200 : decide ((200 : Int) < (many : Int) + 1) = false := decide_eq_false (by omega)
          clear hbig
          by_cases hm : m = 10
          · have HTE : Hid (T = .error 4) := by
              have h1 := HDL.out
              have h2 := HMS.out
              obtain rfl : d = 0 := by omega
              unfold Hid
              rw [HT.out, begin_deep HSKW.out (.inr rfl) HBIG.out]
            have bm : ((m : Int) == 10) = true := by rw [beq_iff_eq]; omega
            clear hm
            have CF := Lib.hid (fail_any k s j2 (many + 1) _ 0 4 w3 HQ3.out)
            go_wp2_with fail
            refine Calls.mono CF.out ?_
            rintro e w4 ⟨rfl, hq4, hg4⟩
            have HQ4 : Hid (RIn w4 k s j2 (many + 1) (.slice A m cp) 4) := hq4
            have HB4 := Lib.hid (low_grown (grown_trans HG3.out hg4) HLO.out.2.1 HLO.out.2.2)
            clear hq4 hg4 CF z0 z1 z2 z3 z4
            obtain ⟨z0, z1, z2, z3, z4⟩ := HQ4.out.cells
            go_wp2_with fail
            go_ret2
            exact ⟨j2, many + 1, 4, _, _, false, rfl, HQ4.out, HB4.out, .inl ⟨by decide, HTE.out⟩⟩
          · have bm : ((m : Int) == 10) = false := by rw [beq_eq_false_iff_ne]; omega
            obtain ⟨d', hd'⟩ : ∃ d', d = d' + 1 := ⟨d - 1, by have h1 := HDL.out; have h2 := HMS.out; omega⟩
            have HD := Lib.hid hd'
            have f1 := HQ3.out.free 1
            have hj2I : j2 ≤ 2000 := by omega
            clear hm hd'
            go_upto_region 22 with (fail)
            generalize hW : World.setCell w3 _ _ = w4
            have HQ4 : Hid (RIn w4 k s (j2 + 1) (many + 1) (.slice A m cp) 0) := by unfold Hid; rw [← hW]; exact HQ3.out.setAt _ _ (by omega)
            have HG4 : Hid (w.grownBy w4 (some k)) := by unfold Hid; rw [← hW]; exact grown_trans HG3.out (grown_set _ k 1 _)
            clear hW z0 z1 z2 z3 z4 f1 bm
            have HST4 := Lib.hid (HST.out.kept HG4.out HLO.out.1)
            obtain ⟨z0, z1, z2, z3, z4⟩ := HQ4.out.cells
            have f3 := HQ4.out.free 3
            have hbase4 : base ≤ w4.heap.size := Nat.le_trans HLW.out HG4.out.size
            have HLL : Hid (L.reverse.length = m) := by
              obtain ⟨A', c', e, _⟩ := HST4.out.1.slice
              injection e with _ e _
              exact e.symm
            have HFB : Hid (FreeB base (.slice A m cp) L w4.heap.size) := ⟨hbase4, fun e => by have := (HST4.out.1.block _ e).2; omega, fun c hc e => by have := (HST4.out.2.2.2.own c hc _ e).2; omega⟩
            go_upto_region 23 with (at_builtin; refine append_g ty_open rfl _ _ (by rfl) base m 1 _ (.slice A m cp) (.slice (some ⟨w4.heap.size + 1, 0, none⟩) 1 1) L.reverse [[.slice none 0 0, .pointer (some ⟨w4.heap.size, 0, none⟩), .string ⟨#[]⟩]] (by rfl) (by rfl) (HST4.out.1.ext ((new_ext w4 (.cells #[.slice none 0 0, .slice none 0 0] objT (0, 0))).trans (new_ext (w4.alloc (.cells #[.slice none 0 0, .slice none 0 0] objT (0, 0))) (.cells #[.slice none 0 0, .pointer (some ⟨w4.heap.size, 0, none⟩), .string ⟨#[]⟩] openT (0, 0))))) (GSrc.one rfl (fun q hq => by simp only [List.mem_cons, List.not_mem_nil, or_false] at hq; rcases hq with rfl | rfl | rfl <;> rfl) (heap_new (by simp))) HLL.out rfl (by omega) (Nat.le_trans hbase4 (Below.size ((new_ext w4 (.cells #[.slice none 0 0, .slice none 0 0] objT (0, 0))).trans (new_ext (w4.alloc (.cells #[.slice none 0 0, .slice none 0 0] objT (0, 0))) (.cells #[.slice none 0 0, .pointer (some ⟨w4.heap.size, 0, none⟩), .string ⟨#[]⟩] openT (0, 0)))))) ?_; intro A9 c9 w9 h9 g9 o9; have hq9 : RIn w9 k s (j2 + 1) (many + 1) (.slice A m cp) 0 := (HQ4.out.ext ((new_ext w4 (.cells #[.slice none 0 0, .slice none 0 0] objT (0, 0))).trans (new_ext (w4.alloc (.cells #[.slice none 0 0, .slice none 0 0] objT (0, 0))) (.cells #[.slice none 0 0, .pointer (some ⟨w4.heap.size, 0, none⟩), .string ⟨#[]⟩] openT (0, 0))))).kept g9 (fun e => by have h1 := (HST4.out.1.block k e).1; have h2 := HLO.out.1; omega); have z39 := hq9.cells.2.2.2.1; have f39 := hq9.free 3; have H9 := Lib.hid (And.intro h9 (And.intro g9 (And.intro o9 hq9))); clear h9 g9 o9 hq9)
            generalize hW : World.setCell w9 _ _ = w10
            have HQ10 : Hid (RIn w10 k s (j2 + 1) (many + 1) (.slice A9 (m + 1) c9) 0) := by unfold Hid; rw [← hW]; exact H9.out.2.2.2.setStack _
            have HST10 : Hid (StkAt base w10 (.slice A9 (m + 1) c9) (⟨true, [], [], [], [], 2000⟩ :: st) ([.slice none 0 0, .pointer (some ⟨w4.heap.size, 0, none⟩), .string ⟨#[]⟩] :: L)) := by
              unfold Hid
              rw [← hW]
              refine StkAt.kept (StkAt.push (HST4.out.ext ((new_ext w4 (.cells #[.slice none 0 0, .slice none 0 0] objT (0, 0))).trans (new_ext (w4.alloc (.cells #[.slice none 0 0, .slice none 0 0] objT (0, 0))) (.cells #[.slice none 0 0, .pointer (some ⟨w4.heap.size, 0, none⟩), .string ⟨#[]⟩] openT (0, 0))))) H9.out.1 H9.out.2.1 H9.out.2.2.1 (.inr ⟨rfl, w4.heap.size, rfl, HFB.out, ⟨none, 0, none, 0, heap_old (heap_new rfl), Nat.le_refl _, Nat.le_refl _, (fun q hq => by cases hq), (fun q hq => by cases hq)⟩, rfl, List.Pairwise.nil⟩) rfl) (grown_set w9 k 3 _) HLO.out.1
            have HB10 : Hid (Below lo w w10) := by
              unfold Hid
              rw [← hW]
              have h1 := HLO.out
              have h2 := H9.out.2.1
              have hx := Below.size ((new_ext w4 (.cells #[.slice none 0 0, .slice none 0 0] objT (0, 0))).trans (new_ext (w4.alloc (.cells #[.slice none 0 0, .slice none 0 0] objT (0, 0))) (.cells #[.slice none 0 0, .pointer (some ⟨w4.heap.size, 0, none⟩), .string ⟨#[]⟩] openT (0, 0))))
              have h4 := HG4.out.size
              have h5 := HLW.out
              refine low_set ((low_grown HG4.out h1.2.1 h1.2.2).trans ((Below.mono ((new_ext w4 (.cells #[.slice none 0 0, .slice none 0 0] objT (0, 0))).trans (new_ext (w4.alloc (.cells #[.slice none 0 0, .slice none 0 0] objT (0, 0))) (.cells #[.slice none 0 0, .pointer (some ⟨w4.heap.size, 0, none⟩), .string ⟨#[]⟩] openT (0, 0)))) (by omega)).trans ⟨h2.os, h2.tape, h2.output, h2.size, fun q hq => h2.block q ?_ (fun e => ?_)⟩)) h1.2.1
              · exact Nat.lt_of_lt_of_le (by omega : q < w4.heap.size) hx
              · have := (HST4.out.1.block q e.symm).1
                omega
            clear hW z0 z1 z2 z3 z4 f3 z39 f39
            have HC10 : Hid (∀ W, w10.grownBy W (some k) → StkAt base W (.slice A9 (m + 1) c9) (⟨true, [], [], [], [], 2000⟩ :: st) ([.slice none 0 0, .pointer (some ⟨w4.heap.size, 0, none⟩), .string ⟨#[]⟩] :: L) ∧ Below lo w W) := fun W hW =>
              ⟨HST10.out.kept hW HLO.out.1, HB10.out.trans (low_grown hW HLO.out.2.1 (by have h1 := HLO.out.2.2; have h2 := HB10.out.size; omega))⟩
            have CN := Lib.hid (next_any k s (j2 + 1) (many + 1) _ 0 w10 HQ10.out hs (by omega))
            go_wp2_with fail
            refine Calls.mono CN.out ?_
            rintro e w11 ⟨j11, rfl, hq11, hij11, hjs, hsk, hg11⟩
            have HQ11 := Lib.hid hq11
            have HC11 := Lib.hid (HC10.out w11 hg11)
            have HG11 := Lib.hid hg11
            have HSK11 : Hid (sfx s j11 = skipW r) := by unfold Hid; rw [hsk, HJL.out.2.1]
            have hj11 : j11 ≤ s.size := hjs HJL.out.1
            clear hq11 hg11 hsk hjs CN
            obtain ⟨x, hx⟩ : ∃ x, x = headB (skipW (sfx s (j2 + 1))) := ⟨_, rfl⟩
            rw [← hx]
            have HX := Lib.hid hx
            by_cases hend : x = 125
            · have HE : Hid (∃ r2, skipW r = 125 :: r2 ∧ j11 < s.size ∧ sfx s (j11 + 1) = r2) := by
                rw [HJL.out.2.1, hend] at hx
                cases hs2 : skipW r with
                | nil => rw [hs2] at hx; cases hx
                | cons y r1 =>
                  rw [hs2] at hx
                  have hy : 125 = y := hx
                  obtain ⟨a, b, _⟩ := sfx_step (HSK11.out.trans hs2)
                  exact ⟨r1, by rw [hy], a, b⟩
              obtain ⟨r2, hr2, hjl, hr3⟩ := HE
              have HTE : Hid (T = goesOut st d (.obj [] []) (many + 1) (sfx s (j11 + 1))) := by
                have h1 := HSKW.out
                have h2 := HD.out
                subst h2
                unfold Hid
                rw [HT.out, begin_noobj h1 HBIG.out hr2, hr3]
              have bend : ((x.toNat : Int) == 125) = true := by rw [hend]; rfl
              clear hend hx hr2 hr3
              obtain ⟨g, hA9, _, hc9, _, _⟩ := HC11.out.1.top
              subst hA9
              have CC : Hid (∀ W b, W.heap.size = b → Ext w11 W → Calls Tryz.prog 102 #[.pointer (some ⟨k, 0, none⟩), .iface objPT (.pointer (some ⟨b, 0, none⟩))] (W.alloc (.cells #[.slice none 0 0, .slice none 0 0] objT (0, 0))) fun e w' => e = .returned (.iface objPT (.pointer (some ⟨b, 0, none⟩))) ∧ RIn w' k s (j11 + 1) (many + 1) (.slice (some ⟨g, 0, none⟩) m c9) 0 ∧ (W.alloc (.cells #[.slice none 0 0, .slice none 0 0] objT (0, 0))).grownBy w' (some k)) := fun W b hb hx =>
                close_any k s j11 (many + 1) g m c9 0 (.iface objPT (.pointer (some ⟨b, 0, none⟩))) _ (HQ11.out.ext (hx.trans (new_ext _ _))) (by omega) (by have := HMS.out; omega) (by omega)
              go_wp2_with fail
              refine Calls.mono (CC.out _ _ rfl (Below.refl _ _)) ?_
              rintro e w12 ⟨rfl, hq12, hg12⟩
              have HQ12 := Lib.hid hq12
              have hxa := new_ext w11 (.cells #[.slice none 0 0, .slice none 0 0] objT (0, 0))
              have HC12 := Lib.hid (HC10.out w12 (grown_trans HG11.out (grown_trans (grown_ext hxa) hg12)))
              have HN12 : Hid (w12.heap[w11.heap.size]? = some (.cells #[.slice none 0 0, .slice none 0 0] objT (0, 0))) := by
                refine (hg12.block _ (Nat.lt_of_lt_of_eq (Nat.lt_succ_self _) (Array.size_push _).symm) (fun e => ?_)).trans (heap_new rfl)
                injection e with e
                have h1 := HQ11.out.lt
                omega
              clear hq12 hg12 CC hxa
              go_wp2_with fail
              go_ret2
              have hpop := HC12.out.1.pop
              have hb := HBIG.out
              have hst11 := HC11.out.1
              have hfr : FreeB base (.slice (some ⟨g, 0, none⟩) m c9) L w11.heap.size := by
                have hb1 := hst11.top
                refine ⟨?_, fun e => ?_, fun dd hd e => ?_⟩
                · have h1 := HLW.out
                  have h2 := HC11.out.2.size
                  omega
                · have h1 := (hst11.1.block g rfl).2
                  injection e with e
                  have e4 : g = w11.heap.size := e
                  omega
                · have := (hst11.2.2.2.own dd (List.mem_cons_of_mem _ hd) _ e).2
                  omega
              exact ⟨j11 + 1, many + 1, 0, _, _, true, rfl, HQ12.out, HC12.out.2, .inr ⟨rfl, hjl, by omega, by omega, st, L, d, hpop.2, HOK.out.up (by omega), HDL.out, .inl ⟨rfl, .obj [] [], PV_obj.2 ⟨w11.heap.size, rfl, hfr, none, 0, none, 0, HN12.out, Nat.le_refl _, Nat.le_refl _, (fun q hq => by cases hq), (fun q hq => by cases hq)⟩, HTE.out⟩⟩⟩
            · have bend : ((x.toNat : Int) == 125) = false := by
                rw [show (125 : Int) = ((125 : Nat) : Int) from rfl, byte_lit x 125 (by omega)]
                simp [hend]
              have HNE : Hid (∀ r2, skipW r ≠ 125 :: r2) := fun r2 e => hend (by rw [hx, HJL.out.2.1, e]; rfl)
              clear hend hx
              have HTE : Hid (T = match nameS [] (sfx s j11) with | .error e => .error e | .ok (t, r3) => beginOut (⟨true, [], [], [], t, 2000⟩ :: st) d' (many + 1) r3) := by
                have h1 := HD.out
                subst h1
                unfold Hid
                rw [HT.out, begin_obj HSKW.out HBIG.out HNE.out, HSK11.out, show nameS [] (skipW r) = nameS [] r by unfold nameS; rw [skipW_skipW]]
                cases nameS [] r <;> rfl
              have CFD : Hid (Calls Tryz.prog 103 #[.pointer (some ⟨k, 0, none⟩)] w11 (FieldPost lo base k w11 s j11 (many + 1) (.slice A9 (m + 1) c9) ⟨true, [], [], [], [], 2000⟩ st)) :=
                field_any lo base k s j11 (many + 1) _ _ _ ⟨true, [], [], [], [], 2000⟩ st _ w11 HQ11.out hs hj11 HC11.out.1 rfl HLO.out.1 HLO.out.2.1 (by have h1 := HLO.out; have h2 := HC11.out.2.size; omega) (by have := HMS.out; omega) (Nat.zero_le _)
              go_wp2_with fail
              refine Calls.mono CFD.out ?_
              rintro e w13 ⟨j13, bad13, rfl, hq13, hb13, ⟨rfl, hj13, hjj, t, hnm, L', hst13⟩ | ⟨hbad, hnm⟩⟩
              · have HQ13 := Lib.hid hq13
                have H13 := Lib.hid (And.intro hb13 (And.intro hnm hst13))
                clear hq13 hb13 hnm hst13
                go_wp2_with fail
                go_ret2
                have hb := HBIG.out
                have hst2 : StkAt base w13 (.slice A9 (m + 1) c9) (⟨true, [], [], [], t, 2000⟩ :: st) L' := H13.out.2.2
                exact ⟨j13, many + 1, 0, _, _, false, rfl, HQ13.out, HC11.out.2.trans H13.out.1, .inr ⟨rfl, hj13, by omega, by omega, _, L', d', hst2, (fun p hp => by
                  rcases List.mem_cons.1 hp with rfl | hp
                  · exact ⟨by show s.size ≤ 2000 + j13; omega, Nat.zero_le _, Nat.zero_le _⟩
                  · have h1 := HOK.out p hp
                    omega), by have h1 := HDL.out; have h2 := HD.out; rw [List.length_cons]; omega, .inr ⟨rfl, by
                      rw [HTE.out]
                      have hn : nameS [] (sfx s j11) = .ok (t, sfx s j13) := H13.out.2.1
                      rw [hn]⟩⟩⟩
              · have HQ13 := Lib.hid hq13
                have H13 := Lib.hid (And.intro hb13 (And.intro hnm hbad))
                clear hq13 hb13 hnm hbad
                go_wp2_with fail
                go_ret2
                exact ⟨j13, many + 1, bad13, _, _, false, rfl, HQ13.out, HC11.out.2.trans H13.out.1, .inl ⟨H13.out.2.2, by
                  rw [HTE.out]
                  have hn : nameS [] (sfx s j11) = .error bad13 := H13.out.2.1
                  rw [hn]⟩⟩
      · have HNO := Lib.hid (And.intro h91 h123)
        have b91 : ((c.toNat : Int) == 91) = false := by rw [show (91 : Int) = ((91 : Nat) : Int) from rfl, byte_lit c 91 (by omega)]; simp [h91]
        have b123 : ((c.toNat : Int) == 123) = false := by rw [show (123 : Int) = ((123 : Nat) : Int) from rfl, byte_lit c 123 (by omega)]; simp [h123]
        go_upto_region 3 with (fail)
        go_cut [43] (fun b wx => b = .bool false ∧ w2 = wx)
        case first =>
          have hcl : c = 34 ∨ c = 45 ∨ c = 116 ∨ c = 102 ∨ c = 110 ∨ isDg c = true := by
            have h := HSTA.out
            unfold starts at h
            simp only [Bool.or_eq_true, beq_iff_eq] at h
            rcases h with (((((((h | h) | h) | h) | h) | h) | h) | h)
            · exact absurd h h91
            · exact absurd h h123
            · exact .inl h
            · exact .inr (.inl h)
            · exact .inr (.inr (.inl h))
            · exact .inr (.inr (.inr (.inl h)))
            · exact .inr (.inr (.inr (.inr (.inl h))))
            · exact .inr (.inr (.inr (.inr (.inr h))))
          clear h91 h123
          rcases hcl with hc | hc | hc | hc | hc | hc
          · have b34 : ((c.toNat : Int) != 34) = false := by rw [hc]; rfl
            clear hc
            go_wp2_with fail
            go_meet
            case rel => exact ⟨rfl, rfl⟩
          · have b34 : ((c.toNat : Int) != 34) = true := by rw [hc]; rfl
            have b45 : ((c.toNat : Int) != 45) = false := by rw [hc]; rfl
            clear hc
            go_wp2_with fail
            go_meet
            case rel => exact ⟨rfl, rfl⟩
          · have b34 : ((c.toNat : Int) != 34) = true := by rw [hc]; rfl
            have b45 : ((c.toNat : Int) != 45) = true := by rw [hc]; rfl
            have b116 : ((c.toNat : Int) != 116) = false := by rw [hc]; rfl
            clear hc
            go_wp2_with fail
            go_meet
            case rel => exact ⟨rfl, rfl⟩
          · have b34 : ((c.toNat : Int) != 34) = true := by rw [hc]; rfl
            have b45 : ((c.toNat : Int) != 45) = true := by rw [hc]; rfl
            have b116 : ((c.toNat : Int) != 116) = true := by rw [hc]; rfl
            have b102 : ((c.toNat : Int) != 102) = false := by rw [hc]; rfl
            clear hc
            go_wp2_with fail
            go_meet
            case rel => exact ⟨rfl, rfl⟩
          · have b34 : ((c.toNat : Int) != 34) = true := by rw [hc]; rfl
            have b45 : ((c.toNat : Int) != 45) = true := by rw [hc]; rfl
            have b116 : ((c.toNat : Int) != 116) = true := by rw [hc]; rfl
            have b102 : ((c.toNat : Int) != 102) = true := by rw [hc]; rfl
            have b110 : ((c.toNat : Int) != 110) = false := by rw [hc]; rfl
            clear hc
            go_wp2_with fail
            go_meet
            case rel => exact ⟨rfl, rfl⟩
          · have hd : 48 ≤ c.toNat ∧ c.toNat ≤ 57 := by
              unfold isDg at hc
              simp only [Bool.and_eq_true, decide_eq_true_eq, UInt8.le_iff_toNat_le] at hc
              exact hc
            have n34 : c ≠ 34 := fun e => by rw [e] at hd; revert hd; decide
            have n45 : c ≠ 45 := fun e => by rw [e] at hd; revert hd; decide
            have n116 : c ≠ 116 := fun e => by rw [e] at hd; revert hd; decide
            have n102 : c ≠ 102 := fun e => by rw [e] at hd; revert hd; decide
            have n110 : c ≠ 110 := fun e => by rw [e] at hd; revert hd; decide
            have b34 : ((c.toNat : Int) != 34) = true := by rw [show (34 : Int) = ((34 : Nat) : Int) from rfl, byte_ne c 34 (by omega)]; simp [n34]
            have b45 : ((c.toNat : Int) != 45) = true := by rw [show (45 : Int) = ((45 : Nat) : Int) from rfl, byte_ne c 45 (by omega)]; simp [n45]
            have b116 : ((c.toNat : Int) != 116) = true := by rw [show (116 : Int) = ((116 : Nat) : Int) from rfl, byte_ne c 116 (by omega)]; simp [n116]
            have b102 : ((c.toNat : Int) != 102) = true := by rw [show (102 : Int) = ((102 : Nat) : Int) from rfl, byte_ne c 102 (by omega)]; simp [n102]
            have b110 : ((c.toNat : Int) != 110) = true := by rw [show (110 : Int) = ((110 : Nat) : Int) from rfl, byte_ne c 110 (by omega)]; simp [n110]
            have b48 : decide ((c.toNat : Int) < 48) = false := decide_eq_false (by omega)
            have b57 : decide ((57 : Int) < (c.toNat : Int)) = false := decide_eq_false (by omega)
            clear n34 n45 n116 n102 n110 hc hd
            go_wp2_with fail
            go_meet
            case rel => exact ⟨rfl, rfl⟩
        case rest =>
          obtain ⟨rfl, rfl⟩ := hcut
          clear h91 h123 b91 b123
          obtain ⟨z0, z1, z2, z3, z4⟩ := HQ2.out.cells
          have f2 := HQ2.out.free 2
          have hmI : (many : Int) ≤ 200 := by omega
          go_upto_region 7 with (fail)
          generalize hW : World.setCell w2 _ _ = w3
          have HQ3 : Hid (RIn w3 k s j2 (many + 1) (.slice A m cp) 0) := by unfold Hid; rw [← hW]; exact HQ2.out.setMany _ _ (by omega)
          have HG3 : Hid (w.grownBy w3 (some k)) := by unfold Hid; rw [← hW]; exact grown_trans HG2.out (grown_set _ k 2 _)
          clear hW z0 z1 z2 z3 z4 f2
          obtain ⟨z0, z1, z2, z3, z4⟩ := HQ3.out.cells
          rw [show ((many + 1 : Nat) : Int) = (many : Int) + 1 by omega] at z2
          by_cases hbig : 200 < many + 1
          · have HTE : Hid (T = .error 2) := by unfold Hid; rw [HT.out, begin_many HSKW.out HSTA.out hbig]
            have b200 : decide ((200 : Int) < (many : Int) + 1) = true := decide_eq_true (by omega)
            clear hbig
            have CF := Lib.hid (fail_any k s j2 (many + 1) _ 0 2 w3 HQ3.out)
            go_wp2_with fail
            refine Calls.mono CF.out ?_
            rintro e w4 ⟨rfl, hq4, hg4⟩
            have HQ4 : Hid (RIn w4 k s j2 (many + 1) (.slice A m cp) 2) := hq4
            have HB4 := Lib.hid (low_grown (grown_trans HG3.out hg4) HLO.out.2.1 HLO.out.2.2)
            clear hq4 hg4 CF z0 z1 z2 z3 z4
            obtain ⟨z0, z1, z2, z3, z4⟩ := HQ4.out.cells
            go_wp2_with fail
            go_ret2
            exact ⟨j2, many + 1, 2, _, _, false, rfl, HQ4.out, HB4.out, .inl ⟨by decide, HTE.out⟩⟩
          · have HBIG := Lib.hid hbig
            have b200 : decide ((200 : Int) < (many : Int) + 1) = false := decide_eq_false (by omega)
            clear hbig
            have CP : Hid (Calls Tryz.prog 104 #[.pointer (some ⟨k, 0, none⟩), .int .u8 (c.toNat : Int)] w3 (PlainPost w3 k s j2 (many + 1) (.slice A m cp))) := by
              have h := plain_any k s j2 (many + 1) _ w3 HQ3.out hs HJL.out.1
              rw [HJL.out.2.2] at h
              exact h
            have b91e : ((c.toNat : Int) == 91) = false := by rw [show (91 : Int) = ((91 : Nat) : Int) from rfl, byte_lit c 91 (by omega)]; simp [HNO.out.1]
            have b123e : ((c.toNat : Int) == 123) = false := by rw [show (123 : Int) = ((123 : Nat) : Int) from rfl, byte_lit c 123 (by omega)]; simp [HNO.out.2]
            go_wp2_with fail
            refine Calls.mono CP.out ?_
            rintro e w4 ⟨p4, bad4, u4, hg4, hq4, hp4, rfl, ⟨jj, hpl, hpv, rfl, hp4s⟩ | ⟨er, hpl, her, rfl⟩⟩
            · have HQ4 := Lib.hid hq4
              have HG4 := Lib.hid (grown_trans HG3.out hg4)
              have H4 := Lib.hid (And.intro hpl hpv)
              clear hq4 hg4 hpl hpv CP
              go_wp2_with fail
              go_ret2
              have hpl : plainS (c :: r) = .ok (jj, sfx s p4) := by rw [← HJS.out]; exact H4.out.1
              have hlen := (plainS_good hpl).2
              have hpos := bulk_pos jj
              have hjl := HJL.out.1
              have hl2 : (c :: r).length = s.size - j2 := by rw [← HJS.out, sfx_len]
              rw [hl2, sfx_len] at hlen
              have hb := HBIG.out
              exact ⟨p4, many + 1, 0, _, _, true, rfl, HQ4.out, low_grown HG4.out HLO.out.2.1 HLO.out.2.2, .inr ⟨rfl, hp4s, by omega, by omega, st, L, d, HST.out.kept HG4.out HLO.out.1, HOK.out.up (by omega), HDL.out, .inl ⟨rfl, jj, H4.out.2 _ _, by
                rw [HT.out, begin_plain HSKW.out HSTA.out HBIG.out HNO.out.1 HNO.out.2, hpl]⟩⟩⟩
            · have HQ4 := Lib.hid hq4
              have HG4 := Lib.hid (grown_trans HG3.out hg4)
              have H4 := Lib.hid (And.intro hpl her)
              clear hq4 hg4 hpl her CP
              go_wp2_with fail
              go_ret2
              have hpl : plainS (c :: r) = .error bad4 := by rw [← HJS.out]; exact H4.out.1
              exact ⟨p4, many + 1, bad4, _, _, true, rfl, HQ4.out, low_grown HG4.out HLO.out.2.1 HLO.out.2.2, .inl ⟨H4.out.2, by
                rw [HT.out, begin_plain HSKW.out HSTA.out HBIG.out HNO.out.1 HNO.out.2, hpl]⟩⟩
  · have HTE : Hid (T = .error 3) := by
      unfold Hid
      rw [HT.out]
      cases h2 : skipW (sfx s i) with
      | nil => exact begin_none h2
      | cons y r =>
        rw [h2] at hcc
        have hy : c = y := hcc
        refine begin_odd h2 ?_
        rw [← hy]
        cases h3 : starts c with
        | false => rfl
        | true => exact absurd ⟨h3, by rw [h2]; exact List.cons_ne_nil _ _⟩ hstart
    have hns : starts c = false := by
      cases h3 : starts c with
      | false => rfl
      | true =>
        have h4 : skipW (sfx s i) = [] := Classical.byContradiction fun h => hstart ⟨h3, h⟩
        rw [h4] at hcc
        rw [hcc] at h3
        revert h3
        decide
    unfold starts at hns
    simp only [Bool.or_eq_false_iff, beq_eq_false_iff_ne] at hns
    obtain ⟨⟨⟨⟨⟨⟨⟨n91, n123⟩, n34⟩, n45⟩, n116⟩, n102⟩, n110⟩, ndg⟩ := hns
    have b91 : ((c.toNat : Int) == 91) = false := by rw [show (91 : Int) = ((91 : Nat) : Int) from rfl, byte_lit c 91 (by omega)]; simp [n91]
    have b123 : ((c.toNat : Int) == 123) = false := by rw [show (123 : Int) = ((123 : Nat) : Int) from rfl, byte_lit c 123 (by omega)]; simp [n123]
    have b34 : ((c.toNat : Int) != 34) = true := by rw [show (34 : Int) = ((34 : Nat) : Int) from rfl, byte_ne c 34 (by omega)]; simp [n34]
    have b45 : ((c.toNat : Int) != 45) = true := by rw [show (45 : Int) = ((45 : Nat) : Int) from rfl, byte_ne c 45 (by omega)]; simp [n45]
    have b116 : ((c.toNat : Int) != 116) = true := by rw [show (116 : Int) = ((116 : Nat) : Int) from rfl, byte_ne c 116 (by omega)]; simp [n116]
    have b102 : ((c.toNat : Int) != 102) = true := by rw [show (102 : Int) = ((102 : Nat) : Int) from rfl, byte_ne c 102 (by omega)]; simp [n102]
    have b110 : ((c.toNat : Int) != 110) = true := by rw [show (110 : Int) = ((110 : Nat) : Int) from rfl, byte_ne c 110 (by omega)]; simp [n110]
    have hd : c.toNat < 48 ∨ (48 ≤ c.toNat ∧ 57 < c.toNat) := by
      rcases Nat.lt_or_ge c.toNat 48 with h | h
      · exact .inl h
      · refine .inr ⟨h, ?_⟩
        rcases Nat.lt_or_ge 57 c.toNat with h2 | h2
        · exact h2
        · have : isDg c = true := by
            unfold isDg
            simp only [Bool.and_eq_true, decide_eq_true_eq, UInt8.le_iff_toNat_le]
            exact ⟨h, h2⟩
          rw [this] at ndg
          cases ndg
    clear n91 n123 n34 n45 n116 n102 n110 ndg hcc hstart
    rcases hd with hd | ⟨hd0, hd⟩
    · have b48 : decide ((c.toNat : Int) < 48) = true := decide_eq_true (by omega)
      clear hd
      have CF := Lib.hid (fail_any k s j2 many _ 0 3 w2 HQ2.out)
      go_wp2_with fail
      refine Calls.mono CF.out ?_
      rintro e w3 ⟨rfl, hq3, hg3⟩
      have HQ3 : Hid (RIn w3 k s j2 many (.slice A m cp) 3) := hq3
      have HB3 := Lib.hid (low_grown (grown_trans HG2.out hg3) HLO.out.2.1 HLO.out.2.2)
      clear hq3 hg3 CF
      go_wp2_with fail
      go_ret2
      exact ⟨j2, many, 3, _, _, false, rfl, HQ3.out, HB3.out, .inl ⟨by decide, HTE.out⟩⟩
    · have b48 : decide ((c.toNat : Int) < 48) = false := decide_eq_false (by omega)
      have b57 : decide ((57 : Int) < (c.toNat : Int)) = true := decide_eq_true (by omega)
      clear hd hd0
      have CF := Lib.hid (fail_any k s j2 many _ 0 3 w2 HQ2.out)
      go_wp2_with fail
      refine Calls.mono CF.out ?_
      rintro e w3 ⟨rfl, hq3, hg3⟩
      have HQ3 : Hid (RIn w3 k s j2 many (.slice A m cp) 3) := hq3
      have HB3 := Lib.hid (low_grown (grown_trans HG2.out hg3) HLO.out.2.1 HLO.out.2.2)
      clear hq3 hg3 CF
      go_wp2_with fail
      go_ret2
      exact ⟨j2, many, 3, _, _, false, rfl, HQ3.out, HB3.out, .inl ⟨by decide, HTE.out⟩⟩
end Go.Proofs.YtahinicpceokcaaGreatDoor.Jm
