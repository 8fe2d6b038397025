/-
  The program's reader: goes on behind a value, in an object (printed by gen/jp3.py).
-/
import Derived.Test.YtahinicpceokcaaGreatDoorJp3
namespace Go.Proofs.YtahinicpceokcaaGreatDoor.Jm
open Go Go.RowKit Go.Proofs.YtahinicpceokcaaGreatDoor.Sx Go.Proofs.YtahinicpceokcaaGreatDoor.Js Go.Proofs.YtahinicpceokcaaGreatDoor.Gr Go.Proofs.YtahinicpceokcaaGreatDoor.Ur

theorem StkAt.refuel {base : Nat} {w : World} {v : Value} {f f' : Fr} {st : List Fr} {L : List (List Value)} (h : StkAt base w v (f :: st) L) (h1 : f'.isObj = f.isObj) (h2 : f'.list = f.list) (h3 : f'.ns = f.ns) (h4 : f'.vs = f.vs) (h5 : f'.name = f.name) : StkAt base w v (f' :: st) L := by
  obtain ⟨a, b, c, e⟩ := h
  refine ⟨a, b, c, ?_⟩
  cases L with
  | nil => exact e.elim
  | cons x L =>
    refine ⟨?_, e.2⟩
    have e1 := e.1
    unfold FrAt at e1 ⊢
    rw [h1, h2, h3, h4, h5]
    exact e1
theorem setJ_rise {ns : List Tx} {l : List J} {t : Tx} {j : J} (hl : ns.length = l.length) (hr : Rise ns) : (setJ ns l t j).1.length = (setJ ns l t j).2.length ∧ Rise (setJ ns l t j).1 ∧ (setJ ns l t j).2.length ≤ l.length + 1 := by
  by_cases ht : t ∈ ns
  · rw [setJ_old ht]
    exact ⟨by rw [List.length_set]; exact hl, hr, by rw [List.length_set]; omega⟩
  · rw [setJ_new ht]
    have hp := place_le ns t
    refine ⟨?_, rise_put hr ht, ?_⟩
    · show (ns.insertIdx _ t).length = (l.insertIdx _ j).length
      rw [List.length_insertIdx_of_le_length hp, List.length_insertIdx_of_le_length (by omega), hl]
    · show (l.insertIdx _ j).length ≤ _
      rw [List.length_insertIdx_of_le_length (by omega)]
      exact Nat.le_refl _
set_option maxRecDepth 100000 in
set_option maxHeartbeats 8000000 in
theorem goes_obj (lo base k : Nat) (s : ByteArray) (i many d : Nat) (A0 : Option Addr) (n cp : Nat) (f : Fr) (st : List Fr) (L : List (List Value)) (jv : J) (u : Value) (w : World) (h : RIn w k s i many (.slice A0 n cp) 0) (hs : s.size ≤ 2000) (hi : i ≤ s.size) (hmany : many ≤ 200) (hst : StkAt base w (.slice A0 n cp) (f :: st) L) (hok : OKst s i (f :: st)) (hf : f.isObj = true) (hpv : PV (FreeB base (.slice A0 n cp) L) w jv u) (hkb : k < base) (hlk : lo ≤ k) (hlw : base ≤ w.heap.size) (hdl : d + (st.length + 1) = 10) (T : Res J) (hT : T = goesOut (f :: st) d jv many (sfx s i)) :
    Calls Tryz.prog 63 #[.pointer (some ⟨k, 0, none⟩), u] w (StepPost lo base k w s i T) := by
  obtain ⟨c, L, rfl⟩ : ∃ c L', L = c :: L' := by
    cases L with
    | nil => exact (hst.2.2.2 : False).elim
    | cons c L' => exact ⟨c, L', rfl⟩
  obtain ⟨b, rfl, hFb, hob, hnl, hri⟩ : ∃ b, c = [.slice none 0 0, .pointer (some ⟨b, 0, none⟩), .string (bx f.name)] ∧ FreeB base (.slice A0 n cp) (c :: L) b ∧ ObjAt (FreeB base (.slice A0 n cp) (c :: L)) w b f.ns f.vs ∧ f.ns.length = f.vs.length ∧ Rise f.ns := by
    rcases hst.2.2.2.1 with ⟨h0, _⟩ | ⟨_, b, h1, h2⟩
    · rw [hf] at h0; cases h0
    · exact ⟨b, h1, h2⟩
  obtain ⟨g, rfl, rfl, hncp, hbg, hlg, hcell, hfr⟩ := hst.top
  obtain ⟨m, hm⟩ : ∃ m, m = st.length := ⟨_, rfl⟩
  have HM : Hid (m = st.length) := hm
  rw [← hm] at hncp hcell hdl h hst hFb hob hpv
  have q0 : (0 : Int) ≤ (m : Int) := by omega
  have q1 : (m : Int) < (m : Int) + 1 := by omega
  have q2 : IntKind.i64.wrap ((m : Int) + 1 - 1) = (m : Int) := by rw [show (m : Int) + 1 - 1 = m by omega]; exact IntWalk.i64_in _ (by omega)
  have q3 : (m : Int).toNat = m := by omega
  have q4 : IntKind.i64.wrap (m : Int) = (m : Int) := IntWalk.i64_in _ (by omega)
  have hiI : i ≤ 2000 := by omega
  have HC : Hid (∀ W, w.grownBy W (some k) → W.cell? ⟨g, m * 3 + 1, none⟩ = some (.pointer (some ⟨b, 0, none⟩)) ∧ W.cell? ⟨g, m * 3 + 2, none⟩ = some (.string (bx f.name)) ∧ W.frozen? ⟨g, m * 3 + 1, none⟩ = false) := fun W hW => by
    obtain ⟨g', e, _, _, _, _, hc2, hf2⟩ := (hst.kept hW hkb).top
    injection e with e
    injection e with e
    subst e
    rw [← hm] at hc2
    exact ⟨hc2 1 _ rfl, hc2 2 _ rfl, hf2 _⟩
  obtain ⟨ns', hns'⟩ : ∃ ns', ns' = (setJ f.ns f.vs f.name jv).1 := ⟨_, rfl⟩
  obtain ⟨vs', hvs'⟩ : ∃ vs', vs' = (setJ f.ns f.vs f.name jv).2 := ⟨_, rfl⟩
  have HSJ : Hid (ns' = (setJ f.ns f.vs f.name jv).1 ∧ vs' = (setJ f.ns f.vs f.name jv).2 ∧ vs'.length ≤ f.vs.length + 1 ∧ ns'.length = vs'.length ∧ Rise ns') := by
    have h := setJ_rise (t := f.name) (j := jv) hnl hri
    rw [← hns', ← hvs'] at h
    exact ⟨hns', hvs', h.2.2, h.1, h.2.1⟩
  have hvl := (hok f (List.mem_cons_self ..)).2.2
  have H := Lib.hid h
  have HST := Lib.hid hst
  have HLO := Lib.hid (And.intro hkb (And.intro hlk (And.intro hlw (And.intro hbg hlg))))
  have HOK := Lib.hid hok
  have HPV := Lib.hid hpv
  have HF := Lib.hid hf
  have HT := Lib.hid hT
  have HDL := Lib.hid hdl
  have HOB := Lib.hid (And.intro hFb (And.intro hob (And.intro hnl hri)))
  clear h hst hok hpv hf hT hdl hcell hfr hm hFb hob hnl hri hns' hvs'
  obtain ⟨z0, z1, z2, z3, z4⟩ := H.out.cells
  go_enter Tryz.func63, Tryz.ntmps63
  go_wp2_with fail
  go_quiet (fail)
  generalize hW : World.drewN w _ = w2
  have HX2 : Hid (Ext w w2) := by rw [← hW]; exact ext_drewN' _ _
  clear hW z0 z1 z2 z3 z4
  have HQ2 := Lib.hid (H.out.ext HX2.out)
  obtain ⟨y0, y1, y2⟩ := HC.out w2 (grown_ext HX2.out)
  have HST2 := Lib.hid (HST.out.ext HX2.out)
  have HS : Hid (∀ W, Ext w2 W → W.cell? ⟨g, m * 3 + 1, none⟩ = some (.pointer (some ⟨b, 0, none⟩)) ∧ W.cell? ⟨g, m * 3 + 2, none⟩ = some (.string (bx f.name))) := fun W hW => by
    have h1 := HC.out W (grown_ext (HX2.out.trans hW))
    exact ⟨h1.1, h1.2.1⟩
  have CW : Hid (∀ W, Ext w2 W → Calls Tryz.prog 81 #[.pointer (some ⟨b, 0, none⟩), .string (bx f.name), u] W fun e w' => ∃ b', e = .returned (.pointer (some ⟨b', 0, none⟩)) ∧ Ext w2 w' ∧ w2.heap.size ≤ b' ∧ ObjAt (fun q => FreeB base (.slice (some ⟨g, 0, none⟩) (m + 1) cp) ([.slice none 0 0, .pointer (some ⟨b, 0, none⟩), .string (bx f.name)] :: L) q ∨ w2.heap.size ≤ q) w' b' ns' vs') := fun W hW => by
    have hx := HX2.out.trans hW
    have ho := HOB.out
    have hwi := with_any (FreeB base (.slice (some ⟨g, 0, none⟩) (m + 1) cp) ([.slice none 0 0, .pointer (some ⟨b, 0, none⟩), .string (bx f.name)] :: L)) b f.ns f.vs f.name jv u W (ho.2.1.keep ho.1 (fun q _ hlt => hx.block q hlt) (fun q hq _ => hq)) ho.2.2.1 ho.2.2.2 (by omega) (HPV.out.ext hx)
    rw [← HSJ.out.1, ← HSJ.out.2.1] at hwi
    refine hwi.mono fun e w' ⟨b', he, hb', ho', hx'⟩ => ⟨b', he, hW.trans hx', Nat.le_trans hW.size hb', ho'.keep (.inr hb') (fun _ _ _ => rfl) (fun q hq _ => hq.imp id (fun h => Nat.le_trans hW.size h))⟩
  go_upto_region 4 with (fail)
  refine wp_region_split (fun w' => w'.cell? ⟨g, m * 3 + 1, none⟩ = some (.pointer (some ⟨b, 0, none⟩)) ∧ w'.cell? ⟨g, m * 3 + 2, none⟩ = some (.string (bx f.name))) 13 (by kernel_rfl) (by kernel_rfl) (by exact HS.out _ (by repeat (first | assumption | exact Below.refl _ _ | apply ext_al | apply ext_dr))) (fun hHeld => ?_)
  simp only [List.take_succ_cons, List.take_zero, List.drop_succ_cons, List.drop_zero]
  refine wpAnyH_take (i := 0) (v := ?_) rfl (by kernel_rfl) (by kernel_rfl) (by kernel_rfl) (fun _ _ _ h => h) (Or.inl ⟨by rfl, ?_⟩) (by assumption) ?_
  rotate_left
  · intro w hSw
    (try dsimp only at hSw)
    go_simp
    (try with_reducible rfl)
  (try simp only [Act.put, List.setIfInBounds_toArray])
  refine wpAnyH_take (i := 1) (v := ?_) rfl (by kernel_rfl) (by kernel_rfl) (by kernel_rfl) (fun _ _ _ h => h) (Or.inl ⟨by rfl, ?_⟩) (by assumption) ?_
  rotate_left
  · intro w hSw
    (try dsimp only at hSw)
    go_simp
    (try with_reducible rfl)
  (try simp only [Act.put])
  refine wpAnyH_take (i := 2) (v := ?_) rfl (by kernel_rfl) (by kernel_rfl) (by kernel_rfl) (fun _ _ _ h => h) (Or.inl ⟨by rfl, ?_⟩) (by assumption) ?_
  rotate_left
  · intro w hSw
    (try dsimp only at hSw)
    go_simp
    (try with_reducible rfl)
  (try simp only [Act.put])
  refine wpAnyH_take (i := 3) (v := ?_) rfl (by kernel_rfl) (by kernel_rfl) (by kernel_rfl) (fun _ _ _ h => h) (Or.inl ⟨by rfl, ?_⟩) (by assumption) ?_
  rotate_left
  · intro w hSw
    (try dsimp only at hSw)
    go_simp
    (try with_reducible rfl)
  (try simp only [Act.put])
  refine wpAnyH_take (i := 4) (v := ?_) rfl (by kernel_rfl) (by kernel_rfl) (by kernel_rfl) (fun _ _ _ h => h) (Or.inl ⟨by rfl, ?_⟩) (by assumption) ?_
  rotate_left
  · intro w hSw
    (try dsimp only at hSw)
    go_simp
    (try with_reducible rfl)
  (try simp only [Act.put])
  refine wpAnyH_take (i := 5) (v := ?_) rfl (by kernel_rfl) (by kernel_rfl) (by kernel_rfl) (fun _ _ _ h => h) (Or.inl ⟨by rfl, ?_⟩) (by assumption) ?_
  rotate_left
  · intro w hSw
    (try dsimp only at hSw)
    go_simp
    (try with_reducible rfl)
  (try simp only [Act.put])
  refine wpAnyH_take (i := 6) (v := ?_) rfl (by kernel_rfl) (by kernel_rfl) (by kernel_rfl) (fun _ _ _ h => h) (Or.inl ⟨by rfl, ?_⟩) (by assumption) ?_
  rotate_left
  · intro w hSw
    (try dsimp only at hSw)
    go_simp
    (try with_reducible rfl)
  (try simp only [Act.put])
  refine wpAnyH_take (i := 7) (v := ?_) rfl (by kernel_rfl) (by kernel_rfl) (by kernel_rfl) (fun _ _ _ h => h) (Or.inl ⟨by rfl, ?_⟩) (by assumption) ?_
  rotate_left
  · intro w hSw
    (try dsimp only at hSw)
    go_simp
    (try with_reducible rfl)
  (try simp only [Act.put])
  refine wpAnyH_take (i := 8) (v := ?_) rfl (by kernel_rfl) (by kernel_rfl) (by kernel_rfl) (fun _ _ _ h => h) (Or.inl ⟨by rfl, ?_⟩) (by assumption) ?_
  rotate_left
  · intro w hSw
    (try dsimp only at hSw)
    go_simp
    (try with_reducible rfl)
  (try simp only [Act.put])
  refine wpAnyH_take (i := 9) (v := ?_) rfl (by kernel_rfl) (by kernel_rfl) (by kernel_rfl) (fun _ _ _ h => h) (Or.inl ⟨by rfl, ?_⟩) (by assumption) ?_
  rotate_left
  · intro w hSw
    (try dsimp only at hSw)
    go_simp
    (try with_reducible rfl)
  (try simp only [Act.put])
  refine wpAnyH_ready (rs := [10]) (by kernel_rfl) (by simp) ?_
  refine AllReadyH.cons rfl (fun KQ hKQ => ?_) AllReadyH.nil
  go_simp; (refine Calls.mono (CW.out _ (by repeat (first | assumption | exact Below.refl _ _ | apply ext_al | apply ext_dr))) ?_); rintro e w9 ⟨b9, rfl, x9, hb9, ho9⟩; (try dsimp only)
  refine hKQ.out _ _ (by exact HS.out _ (by repeat (first | assumption | exact Below.refl _ _ | apply ext_al | apply ext_dr))) (fun hHeld => ?_)
  clear hKQ KQ
  (try simp only [Act.put, List.setIfInBounds_toArray, List.set_cons_zero, List.set_cons_succ])
  refine wpAnyH_take (i := 11) (v := ?_) rfl (by kernel_rfl) (by kernel_rfl) (by kernel_rfl) (fun _ _ _ h => h) (Or.inl ⟨by rfl, ?_⟩) (by assumption) ?_
  rotate_left
  · intro w hSw
    (try dsimp only at hSw)
    go_simp
    (try with_reducible rfl)
  (try simp only [Act.put, List.setIfInBounds_toArray])
  refine wpAnyH_take (i := 12) (v := ?_) rfl (by kernel_rfl) (by kernel_rfl) (by kernel_rfl) (fun _ _ _ h => h) (Or.inl ⟨by rfl, ?_⟩) (by assumption) ?_
  rotate_left
  · intro w hSw
    (try dsimp only at hSw)
    go_simp
    (try with_reducible rfl)
  (try simp only [Act.put])
  refine wpAnyH_done (by kernel_rfl) ?_ _
  refine TailQ.normal ?_
  have HX9 := Lib.hid x9
  have y19 : w9.cell? ⟨g, m * 3 + 1, none⟩ = some (.pointer (some ⟨b, 0, none⟩)) := (HS.out w9 x9).1
  have y29 : w9.frozen? ⟨g, m * 3 + 1, none⟩ = false := (frozen_keep (x9.block g (Nat.lt_of_lt_of_le HLO.out.2.2.2.2 HX2.out.size))).trans y2
  have H9 := Lib.hid (And.intro hb9 ho9)
  clear x9 hb9 ho9 hHeld
  go_upto_region 5 with (fail)
  generalize hW : World.setCell w9 _ _ = w10
  have HST10 : Hid (StkAt base w10 (.slice (some ⟨g, 0, none⟩) (m + 1) cp) ({ f with ns := ns', vs := vs' } :: st) ([.slice none 0 0, .pointer (some ⟨b9, 0, none⟩), .string (bx f.name)] :: L)) := by
    unfold Hid
    rw [← hW, HM.out]
    have h2 := HST2.out
    have h3 := H9.out
    rw [HM.out] at h2 h3
    exact StkAt.obj h2 HX9.out h3.1 h3.2 HSJ.out.2.2.2.1 HSJ.out.2.2.2.2 { f with ns := ns', vs := vs' } HF.out rfl rfl rfl
  have HQ10 : Hid (RIn w10 k s i many (.slice (some ⟨g, 0, none⟩) (m + 1) cp) 0) := by
    unfold Hid
    rw [← hW]
    have h1 := HLO.out
    exact (set_heap2 (by omega)).trans (HQ2.out.ext HX9.out)
  have HB10 : Hid (Below lo w w10) := by
    unfold Hid
    rw [← hW]
    have h1 := HLO.out
    have h2 := HX2.out.size
    exact low_set ((Below.mono HX2.out (by omega)).trans (Below.mono HX9.out (by omega))) (by omega)
  clear hW y19 y29 y0 y1 y2
  have HC10 : Hid (∀ W, w10.grownBy W (some k) → StkAt base W (.slice (some ⟨g, 0, none⟩) (m + 1) cp) ({ f with ns := ns', vs := vs' } :: st) ([.slice none 0 0, .pointer (some ⟨b9, 0, none⟩), .string (bx f.name)] :: L) ∧ W.cell? ⟨g, m * 3 + 1, none⟩ = some (.pointer (some ⟨b9, 0, none⟩)) ∧ Below lo w W) := fun W hW => by
    have hs1 := HST10.out.kept hW HLO.out.1
    obtain ⟨g', e, _, _, _, _, hc2, _⟩ := hs1.top
    injection e with e
    injection e with e
    subst e
    rw [← HM.out] at hc2
    refine ⟨hs1, hc2 1 _ rfl, HB10.out.trans (low_grown hW HLO.out.2.1 ?_)⟩
    have h1 := HLO.out
    have h2 := HB10.out.size
    omega
  have CN := Lib.hid (next_any k s i many _ 0 w10 HQ10.out hs (by omega))
  go_wp2_with fail
  refine Calls.mono CN.out ?_
  rintro e w11 ⟨j11, rfl, hq11, hij, hjs, hsk, hg11⟩
  have HQ11 := Lib.hid hq11
  have HC11 := Lib.hid (HC10.out w11 hg11)
  have HG11 := Lib.hid hg11
  have HSK := Lib.hid hsk
  have hj11 : j11 ≤ s.size := hjs hi
  clear hq11 hg11 hsk hjs CN
  obtain ⟨x, hx⟩ : ∃ x, x = headB (skipW (sfx s i)) := ⟨_, rfl⟩
  rw [← hx]
  have y1 := HC11.out.2.1
  by_cases h93 : x = 125
  · have HX : Hid (∃ r1, skipW (sfx s i) = 125 :: r1 ∧ j11 < s.size ∧ sfx s (j11 + 1) = r1) := by
      rw [h93] at hx
      cases hs2 : skipW (sfx s i) with
      | nil => rw [hs2] at hx; cases hx
      | cons y r1 =>
        rw [hs2] at hx
        have hy : 125 = y := hx
        obtain ⟨a, b, _⟩ := sfx_step (HSK.out.trans hs2)
        exact ⟨r1, by rw [hy], a, b⟩
    obtain ⟨r1, hr1, hjl, hr2⟩ := HX
    have HTE : Hid (T = goesOut st (d + 1) (.obj ns' vs') many (sfx s (j11 + 1))) := by unfold Hid; rw [HT.out, goes_oend HF.out hr1, hr2, HSJ.out.1, HSJ.out.2.1]
    have b93 : ((x.toNat : Int) == 125) = true := by rw [h93]; rfl
    have CC := Lib.hid (close_any k s j11 many g m cp 0 (.iface objPT (.pointer (some ⟨b9, 0, none⟩))) w11 HQ11.out (by omega) hncp (by have := HDL.out; omega))
    clear h93 hx hr1 hr2
    go_wp2_with fail
    refine Calls.mono CC.out ?_
    rintro e w12 ⟨rfl, hq12, hg12⟩
    have HQ12 := Lib.hid hq12
    have HC12 := Lib.hid (HC10.out w12 (grown_trans HG11.out hg12))
    clear hq12 hg12 CC y1
    go_wp2_with fail
    go_ret2
    have hpop := HC12.out.1.pop
    have hmm := HM.out
    exact ⟨j11 + 1, many, 0, _, _, true, rfl, HQ12.out, HC12.out.2.2, .inr ⟨rfl, hjl, by omega, hmany, st, L, d + 1, hpop.2, (OKst.tail HOK.out).up (by omega), by have := HDL.out; omega, .inl ⟨rfl, _, HC12.out.1.obj_val HF.out, HTE.out⟩⟩⟩
  · have b93 : ((x.toNat : Int) == 125) = false := by
      rw [show (125 : Int) = ((125 : Nat) : Int) from rfl, byte_lit x 125 (by omega)]
      simp [h93]
    by_cases h44 : x = 44
    · have HX : Hid (∃ r1, skipW (sfx s i) = 44 :: r1 ∧ j11 < s.size ∧ sfx s (j11 + 1) = r1) := by
        rw [h44] at hx
        cases hs2 : skipW (sfx s i) with
        | nil => rw [hs2] at hx; cases hx
        | cons y r1 =>
          rw [hs2] at hx
          have hy : 44 = y := hx
          obtain ⟨a, b, _⟩ := sfx_step (HSK.out.trans hs2)
          exact ⟨r1, by rw [hy], a, b⟩
      obtain ⟨r1, hr1, hjl, hr2⟩ := HX
      have HFU : Hid (∃ q, f.fuel = q + 1) := by
        have h1 := (HOK.out f (List.mem_cons_self ..)).1
        exact ⟨f.fuel - 1, by omega⟩
      obtain ⟨q, hq⟩ := HFU
      have HTE : Hid (T = match nameS ns' (sfx s (j11 + 1)) with | .error e => .error e | .ok (t, r3) => beginOut ({ f with ns := ns', vs := vs', name := t, fuel := q } :: st) d many r3) := by
        unfold Hid
        rw [HT.out, goes_omore HF.out hq hr1, hr2, HSJ.out.1, HSJ.out.2.1]
        cases nameS ns' r1 <;> rfl
      have HFQ := Lib.hid hq
      have b44 : ((x.toNat : Int) == 44) = true := by rw [h44]; rfl
      clear h44 h93 hx hr1 hr2 hq
      obtain ⟨z0, z1, z2, z3, z4⟩ := HQ11.out.cells
      have f1 := HQ11.out.free 1
      go_upto_region 15 with (fail)
      generalize hW : World.setCell w11 _ _ = w12
      have HQ12 : Hid (RIn w12 k s (j11 + 1) many (.slice (some ⟨g, 0, none⟩) (m + 1) cp) 0) := by unfold Hid; rw [← hW]; exact HQ11.out.setAt _ _ (by omega)
      have HC12 : Hid (_ ∧ _ ∧ _) := HC10.out w12 (by rw [← hW]; exact grown_trans HG11.out (grown_set _ k 1 _))
      clear hW z0 z1 z2 z3 z4 f1 y1
      have y1 := HC12.out.2.1
      have CFD : Hid (Calls Tryz.prog 103 #[.pointer (some ⟨k, 0, none⟩)] w12 (FieldPost lo base k w12 s (j11 + 1) many (.slice (some ⟨g, 0, none⟩) (m + 1) cp) { f with ns := ns', vs := vs' } st)) :=
        field_any lo base k s (j11 + 1) many _ _ _ { f with ns := ns', vs := vs' } st _ w12 HQ12.out hs hjl HC12.out.1 HF.out HLO.out.1 HLO.out.2.1 (by have h1 := HLO.out; have h2 := HC12.out.2.2.size; omega) (by have := HDL.out; have := HM.out; omega) (by
          show vs'.length ≤ 2000
          have h1 := HSJ.out.2.2.1
          have h2 := (HOK.out f (List.mem_cons_self ..)).2.2
          omega)
      go_wp2_with fail
      refine Calls.mono CFD.out ?_
      rintro e w13 ⟨j13, bad13, rfl, hq13, hb13, ⟨rfl, hj13, hjj, t, hnm, L', hst13⟩ | ⟨hbad, hnm⟩⟩
      · have HQ13 := Lib.hid hq13
        have H13 := Lib.hid (And.intro hb13 (And.intro hnm hst13))
        clear hq13 hb13 hnm hst13 y1
        go_wp2_with fail
        go_ret2
        have hst2 : StkAt base w13 (.slice (some ⟨g, 0, none⟩) (m + 1) cp) ({ f with ns := ns', vs := vs', name := t, fuel := q } :: st) L' := StkAt.refuel H13.out.2.2 rfl rfl rfl rfl rfl
        exact ⟨j13, many, 0, _, _, false, rfl, HQ13.out, HC12.out.2.2.trans H13.out.1, .inr ⟨rfl, hj13, by omega, hmany, _, L', d, hst2, (fun p hp => by
          rcases List.mem_cons.1 hp with rfl | hp
          · have h1 := HOK.out f (List.mem_cons_self ..)
            have h2 := HFQ.out
            have h3 := HSJ.out.2.2.1
            refine ⟨?_, ?_, ?_⟩
            · show s.size ≤ q + j13; omega
            · show f.list.length ≤ j13; omega
            · show vs'.length ≤ j13; omega
          · have h1 := HOK.out p (List.mem_cons_of_mem _ hp)
            omega), by have h1 := HDL.out; have h2 := HM.out; rw [List.length_cons]; omega, .inr ⟨rfl, by
              rw [HTE.out]
              have hn : nameS ns' (sfx s (j11 + 1)) = .ok (t, sfx s j13) := H13.out.2.1
              rw [hn]⟩⟩⟩
      · have HQ13 := Lib.hid hq13
        have H13 := Lib.hid (And.intro hb13 (And.intro hnm hbad))
        clear hq13 hb13 hnm hbad y1
        go_wp2_with fail
        go_ret2
        exact ⟨j13, many, bad13, _, _, false, rfl, HQ13.out, HC12.out.2.2.trans H13.out.1, .inl ⟨H13.out.2.2, by
          rw [HTE.out]
          have hn : nameS ns' (sfx s (j11 + 1)) = .error bad13 := H13.out.2.1
          rw [hn]⟩⟩
    · have b44 : ((x.toNat : Int) == 44) = false := by
        rw [show (44 : Int) = ((44 : Nat) : Int) from rfl, byte_lit x 44 (by omega)]
        simp [h44]
      have HTE : Hid (T = .error 3) := by
        unfold Hid
        rw [HT.out, goes_obad HF.out (fun r1 e => h93 (by rw [hx, e]; rfl)) (fun r1 e => h44 (by rw [hx, e]; rfl))]
      have CF := Lib.hid (fail_any k s j11 many _ 0 3 w11 HQ11.out)
      clear h44 h93 hx
      go_wp2_with fail
      refine Calls.mono CF.out ?_
      rintro e w12 ⟨rfl, hq12, hg12⟩
      have HQ12 : Hid (RIn w12 k s j11 many (.slice (some ⟨g, 0, none⟩) (m + 1) cp) 3) := hq12
      have HC12 := Lib.hid (HC10.out w12 (grown_trans HG11.out hg12))
      clear hq12 hg12 CF y1
      go_wp2_with fail
      go_ret2
      exact ⟨j11, many, 3, _, _, false, rfl, HQ12.out, HC12.out.2.2, .inl ⟨by decide, HTE.out⟩⟩
end Go.Proofs.YtahinicpceokcaaGreatDoor.Jm
