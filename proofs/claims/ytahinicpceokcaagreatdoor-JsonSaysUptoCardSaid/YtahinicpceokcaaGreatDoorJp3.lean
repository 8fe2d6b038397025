/-
  The program's reader: goes on behind a value, in a list (printed by gen/jp3.py).
-/
import Derived.Test.YtahinicpceokcaaGreatDoorJpa
namespace Go.Proofs.YtahinicpceokcaaGreatDoor.Jm
open Go Go.RowKit Go.Proofs.YtahinicpceokcaaGreatDoor.Sx Go.Proofs.YtahinicpceokcaaGreatDoor.Js Go.Proofs.YtahinicpceokcaaGreatDoor.Gr Go.Proofs.YtahinicpceokcaaGreatDoor.Ur

def OKst (s : ByteArray) (j : Nat) (st : List Fr) : Prop := ∀ f ∈ st, s.size ≤ f.fuel + j ∧ f.list.length ≤ j ∧ f.vs.length ≤ j
theorem OKst.up {s : ByteArray} {i j : Nat} {st : List Fr} (h : OKst s i st) (hij : i ≤ j) : OKst s j st := fun f hf => by
  have := h f hf
  omega
theorem OKst.tail {s : ByteArray} {i : Nat} {f : Fr} {st : List Fr} (h : OKst s i (f :: st)) : OKst s i st := fun q hq => h q (List.mem_cons_of_mem _ hq)
/-- What a step of the reader leaves: an error; a whole value; a value that is still to come. -/
def StepPost (lo base k : Nat) (w : World) (s : ByteArray) (i : Nat) (T : Res J) (e : Ending) (w' : World) : Prop :=
  ∃ j many bad v u b, e = .returned (.tuple #[u, .bool b]) ∧ RIn w' k s j many v bad ∧ Below lo w w' ∧
    ((bad ≠ 0 ∧ T = .error bad) ∨
     (bad = 0 ∧ j ≤ s.size ∧ i < j ∧ many ≤ 200 ∧ ∃ st L d, StkAt base w' v st L ∧ OKst s j st ∧ d + st.length = 10 ∧
      ((b = true ∧ ∃ jj, PV (FreeB base v L) w' jj u ∧ T = goesOut st d jj many (sfx s j)) ∨ (b = false ∧ T = beginOut st d many (sfx s j)))))
theorem vals_own {w W : World} {A : Option Addr} {n c base : Nat} {l : List J} {us : List Value} {F F' : Nat → Prop} (h : GRow valT 1 base W (.slice A n c) (one us)) (hp : PVs F w l us) (hx : ∀ b, F b → b < w.heap.size → W.heap[b]? = w.heap[b]?) (hF : ∀ g, F g → F' g) (hb : ∀ g, (Value.slice A n c).ownBlock = some g → F' g) : PV F' W (.list l) (.iface valsT (.slice A n c)) := by
  obtain ⟨A', c', e, hc⟩ := h.slice
  injection e with e1 e2 e3
  have h1 := hp.1
  rw [one_len] at e2 hc
  refine PV_list.2 ⟨A, c, by rw [e2, h1], by omega, fun i hi => ?_⟩
  obtain ⟨g, hA, _, hbg, _, hcell⟩ := h.at_ (k := i) (by rw [one_len]; omega)
  refine ⟨g, 0, us[i]'(by omega), hA, hb g (by rw [hA]; rfl), ?_, PV.keep hx (fun b h _ => hF b h) _ _ (hp.2 i hi (by omega))⟩
  have := hcell 0 (us[i]'(by omega)) (by simp [one])
  rw [Nat.mul_one, Nat.add_zero] at this
  rw [Nat.zero_add]
  exact this
theorem set_heap2 {W : World} {g o k : Nat} {v : Value} (h : k ≠ g) : (W.setCell ⟨g, o, none⟩ v).heap[k]? = W.heap[k]? := set_heap _ _ _ _ _ h
theorem frozen_keep {w w' : World} {g o : Nat} (h : w'.heap[g]? = w.heap[g]?) : w'.frozen? ⟨g, o, none⟩ = w.frozen? ⟨g, o, none⟩ := by
  unfold World.frozen?
  rw [h]
/-- What an open list is worth when it is closed. -/
theorem StkAt.list_val {base g n cp n' m cq : Nat} {w : World} {A : Option Addr} {f : Fr} {st : List Fr} {L : List (List Value)} (h : StkAt base w (.slice (some ⟨g, 0, none⟩) n cp) (f :: st) ([.slice A m cq, .pointer none, .string ⟨#[]⟩] :: L)) (hf : f.isObj = false) : PV (FreeB base (.slice (some ⟨g, 0, none⟩) n' cp) L) w (.list f.list) (.iface valsT (.slice A m cq)) := by
  obtain ⟨h1, h2, h3, h4⟩ := h
  rcases h4.1 with ⟨_, A', n2, c2, us, e, hr, hp⟩ | ⟨h0, _⟩
  · injection e with e _
    injection e with e1 e2 e3
    subst e1 e2 e3
    refine vals_own hr hp (fun _ _ _ => rfl) (fun q hq => FreeB.pop hq) (fun q e => ⟨(hr.block q e).1, fun e2 => h2 _ (List.mem_cons_self ..) q e e2, fun d hd e2 => (List.pairwise_cons.1 h3).1 d hd q e e2⟩)
  · rw [hf] at h0; cases h0
theorem StkAt.obj_val {base g n cp n' b : Nat} {w : World} {t : Tx} {f : Fr} {st : List Fr} {L : List (List Value)} (h : StkAt base w (.slice (some ⟨g, 0, none⟩) n cp) (f :: st) ([.slice none 0 0, .pointer (some ⟨b, 0, none⟩), .string (bx t)] :: L)) (hf : f.isObj = true) : PV (FreeB base (.slice (some ⟨g, 0, none⟩) n' cp) L) w (.obj f.ns f.vs) (.iface objPT (.pointer (some ⟨b, 0, none⟩))) := by
  obtain ⟨h1, h2, h3, h4⟩ := h
  rcases h4.1 with ⟨h0, _⟩ | ⟨_, b', e, hb, ho, _⟩
  · rw [hf] at h0; cases h0
  · injection e with _ e
    injection e with e _
    injection e with e
    injection e with e
    injection e with e
    subst e
    exact PV_obj.2 ⟨b, rfl, FreeB.pop hb, ho.keep hb (fun _ _ _ => rfl) (fun q hq _ => FreeB.pop hq)⟩
set_option maxRecDepth 100000 in
set_option maxHeartbeats 8000000 in
theorem goes_list (lo base k : Nat) (s : ByteArray) (i many d : Nat) (A0 : Option Addr) (n cp : Nat) (f : Fr) (st : List Fr) (L : List (List Value)) (jv : J) (u : Value) (w : World) (h : RIn w k s i many (.slice A0 n cp) 0) (hs : s.size ≤ 2000) (hi : i ≤ s.size) (hmany : many ≤ 200) (hst : StkAt base w (.slice A0 n cp) (f :: st) L) (hok : OKst s i (f :: st)) (hf : f.isObj = false) (hpv : PV (FreeB base (.slice A0 n cp) L) w jv u) (hkb : k < base) (hlk : lo ≤ k) (hlw : base ≤ w.heap.size) (hdl : d + (st.length + 1) = 10) (T : Res J) (hT : T = goesOut (f :: st) d jv many (sfx s i)) :
    Calls Tryz.prog 63 #[.pointer (some ⟨k, 0, none⟩), u] w (StepPost lo base k w s i T) := by
  obtain ⟨c, L, rfl⟩ : ∃ c L', L = c :: L' := by
    cases L with
    | nil => exact (hst.2.2.2 : False).elim
    | cons c L' => exact ⟨c, L', rfl⟩
  obtain ⟨A, n1, c1, us, rfl, hrow, hpvs⟩ : ∃ A n1 c1 us, c = [.slice A n1 c1, .pointer none, .string ⟨#[]⟩] ∧ GRow valT 1 base w (.slice A n1 c1) (one us) ∧ PVs (FreeB base (.slice A0 n cp) (c :: L)) w f.list us := by
    rcases hst.2.2.2.1 with ⟨_, h⟩ | ⟨h0, _⟩
    · exact h
    · rw [hf] at h0; cases h0
  obtain ⟨g, rfl, rfl, hncp, hbg, hlg, hcell, hfr⟩ := hst.top
  obtain ⟨m, hm⟩ : ∃ m, m = st.length := ⟨_, rfl⟩
  have HM : Hid (m = st.length) := hm
  rw [← hm] at hncp hcell hdl h hst hpvs hpv
  have q0 : (0 : Int) ≤ (m : Int) := by omega
  have q1 : (m : Int) < (m : Int) + 1 := by omega
  have q2 : IntKind.i64.wrap ((m : Int) + 1 - 1) = (m : Int) := by rw [show (m : Int) + 1 - 1 = m by omega]; exact IntWalk.i64_in _ (by omega)
  have q3 : (m : Int).toNat = m := by omega
  have q4 : IntKind.i64.wrap (m : Int) = (m : Int) := IntWalk.i64_in _ (by omega)
  have hiI : i ≤ 2000 := by omega
  have hn1 : n1 = f.list.length := by
    have h1 := (grow_to hrow).1
    rw [h1, hpvs.1]
  have hn1s : n1 ≤ 2000 := by
    have := (hok f (List.mem_cons_self ..)).2.1
    omega
  have hne : ∀ b, (Value.slice A n1 c1).ownBlock = some b → b ≠ g := fun b e e2 => hst.2.1 _ (List.mem_cons_self ..) b e (by rw [e2]; rfl)
  have z0' := hcell 0 _ rfl
  have z1' := hcell 1 _ rfl
  rw [Nat.add_zero] at z0'
  have HC : Hid (∀ W, w.grownBy W (some k) → W.cell? ⟨g, m * 3, none⟩ = some (.slice A n1 c1) ∧ W.cell? ⟨g, m * 3 + 1, none⟩ = some (.pointer none) ∧ W.frozen? ⟨g, m * 3, none⟩ = false) := fun W hW => by
    obtain ⟨g', e, _, _, _, _, hc2, hf2⟩ := (hst.kept hW hkb).top
    injection e with e
    injection e with e
    subst e
    rw [← hm] at hc2
    exact ⟨hc2 0 _ rfl, hc2 1 _ rfl, hf2 _⟩
  have H := Lib.hid h
  have HST := Lib.hid hst
  have HLO := Lib.hid (And.intro hkb (And.intro hlk (And.intro hlw (And.intro hbg hlg))))
  have HOK := Lib.hid hok
  have HROW := Lib.hid hrow
  have HPV := Lib.hid hpv
  have HPS := Lib.hid hpvs
  have HF := Lib.hid hf
  have HT := Lib.hid hT
  have HDL := Lib.hid hdl
  have HN1 := Lib.hid hn1
  have HNE := Lib.hid hne
  have HSH := Lib.hid hpv.shape
  clear h hst hok hrow hpv hpvs hf hT hdl hn1 hne hcell hfr hm z0' z1'
  obtain ⟨z0, z1, z2, z3, z4⟩ := H.out.cells
  go_enter Tryz.func63, Tryz.ntmps63
  go_wp2_with fail
  go_quiet (fail)
  generalize hW : World.drewN w _ = w2
  have HX2 : Hid (Ext w w2) := by rw [← hW]; exact ext_drewN' _ _
  clear hW z0 z1 z2 z3 z4
  have HQ2 := Lib.hid (H.out.ext HX2.out)
  obtain ⟨y0, y1, y2⟩ := HC.out w2 (grown_ext HX2.out)
  have HST2 := Lib.hid (HST.out.ext HX2.out)
  have hrow2 := HROW.out.ext HX2.out
  have hone : u.oneCell' = true := HPV.out.one
  rcases HSH.out with rfl | ⟨tv, xv, rfl⟩
  · go_upto_region 7 with (at_builtin; refine append_g ty_vals rfl _ _ (by rfl) base n1 1 _ (.slice A n1 c1) (.slice (some ⟨w2.heap.size, 0, none⟩) 1 1) (one us) [[_]] (by rfl) (by rfl) (hrow2.ext (new_ext _ _)) (GSrc.one rfl (fun q hq => by rw [List.mem_singleton] at hq; rw [hq]; exact hone) (heap_new rfl)) (by have := (grow_to HROW.out).1; rw [one_len]; exact this.symm) rfl (by omega) (Nat.le_trans HLO.out.2.2.1 (Nat.le_trans HX2.out.size (new_ext _ _).size)) ?_; intro A9 c9 w9 h9 g9 o9; have hk9 : w9.heap[g]? = w2.heap[g]? := (g9.block g (Nat.lt_of_lt_of_le HLO.out.2.2.2.2 (Nat.le_trans HX2.out.size (new_ext _ _).size)) (fun e => HNE.out g e.symm rfl)).trans ((new_ext w2 _).block g (Nat.lt_of_lt_of_le HLO.out.2.2.2.2 HX2.out.size)); have y09 := (cell_keep (o := m * 3) hk9).trans y0; have y29 := (frozen_keep (o := m * 3) hk9).trans y2; have H9 := Lib.hid (And.intro h9 (And.intro g9 o9)); clear h9 g9 o9 hk9)
    generalize hW : World.setCell w9 _ _ = w10
    have HST10 : Hid (StkAt base w10 (.slice (some ⟨g, 0, none⟩) (m + 1) cp) ({ f with list := f.list ++ [jv] } :: st) ([.slice A9 (n1 + 1) c9, .pointer none, .string ⟨#[]⟩] :: L)) := by
      unfold Hid
      rw [← hW, HM.out]
      have h2 := HST2.out.ext (new_ext w2 (.cells #[.nilIface] valT (0, 0)))
      rw [HM.out] at h2
      have hx := HX2.out.trans (new_ext w2 (.cells #[.nilIface] valT (0, 0)))
      have hp2 := HPS.out.keep (w' := w2.alloc (.cells #[.nilIface] valT (0, 0))) (fun b _ hlt => hx.block b hlt) (fun b hb _ => hb)
      have hp3 := HPV.out.ext hx
      rw [HM.out] at hp2 hp3
      have h9 : GRow valT 1 base w9 (.slice A9 (n1 + 1) c9) (one (us ++ [.nilIface])) := by rw [one_app]; exact H9.out.1
      exact StkAt.app h2 HF.out hp2 hp3 h9 H9.out.2.1 H9.out.2.2 { f with list := f.list ++ [jv] } HF.out rfl
    have HQ10 : Hid (RIn w10 k s i many (.slice (some ⟨g, 0, none⟩) (m + 1) cp) 0) := by
      unfold Hid
      rw [← hW]
      have h1 := HLO.out
      refine (set_heap2 (by omega)).trans ((HQ2.out.ext (new_ext w2 (.cells #[.nilIface] valT (0, 0)))).kept H9.out.2.1 (fun e => ?_))
      have := (HROW.out.block k e).1
      omega
    have HB10 : Hid (Below lo w w10) := by
      unfold Hid
      rw [← hW]
      have h1 := HLO.out
      have h2 := H9.out.2.1
      refine low_set ?_ (by omega)
      refine (Below.mono HX2.out (by omega)).trans ((Below.mono (new_ext w2 (.cells #[.nilIface] valT (0, 0))) (by have := HX2.out.size; omega)).trans ⟨h2.os, h2.tape, h2.output, h2.size, fun q hq => h2.block q ?_ (fun e => ?_)⟩)
      · exact Nat.lt_of_lt_of_le (Nat.lt_of_lt_of_le (by omega : q < w.heap.size) HX2.out.size) (new_ext w2 _).size
      · have := (HROW.out.block q e.symm).1
        omega
    clear hW y09 y29 y0 y1 y2
    have HC10 : Hid (∀ W, w10.grownBy W (some k) → StkAt base W (.slice (some ⟨g, 0, none⟩) (m + 1) cp) ({ f with list := f.list ++ [jv] } :: st) ([.slice A9 (n1 + 1) c9, .pointer none, .string ⟨#[]⟩] :: L) ∧ (W.cell? ⟨g, m * 3, none⟩ = some (.slice A9 (n1 + 1) c9) ∧ W.cell? ⟨g, m * 3 + 1, none⟩ = some (.pointer none)) ∧ Below lo w W) := fun W hW => by
      have hs1 := HST10.out.kept hW HLO.out.1
      obtain ⟨g', e, _, _, _, _, hc2, _⟩ := hs1.top
      injection e with e
      injection e with e
      subst e
      rw [← HM.out] at hc2
      refine ⟨hs1, ⟨hc2 0 _ rfl, hc2 1 _ rfl⟩, HB10.out.trans (low_grown hW HLO.out.2.1 ?_)⟩
      have h1 := HLO.out
      have h2 := HB10.out.size
      omega
    have CN := Lib.hid (next_any k s i many _ 0 w10 HQ10.out hs (by omega))
    go_wp2_with fail
    refine Calls.mono CN.out ?_
    rintro e w11 ⟨j11, rfl, hq11, hij, hjs, hsk, hg11⟩
    have HQ11 := Lib.hid hq11
    have HC11 := Lib.hid (HC10.out w11 hg11)
    have HG11 := Lib.hid hg11
    have HSK := Lib.hid hsk
    have hj11 : j11 ≤ s.size := hjs hi
    clear hq11 hg11 hsk hjs CN
    obtain ⟨x, hx⟩ : ∃ x, x = headB (skipW (sfx s i)) := ⟨_, rfl⟩
    rw [← hx]
    obtain ⟨y0, y1⟩ := HC11.out.2.1
    by_cases h93 : x = 93
    · have HX : Hid (∃ r1, skipW (sfx s i) = 93 :: r1 ∧ j11 < s.size ∧ sfx s (j11 + 1) = r1) := by
        rw [h93] at hx
        cases hs2 : skipW (sfx s i) with
        | nil => rw [hs2] at hx; cases hx
        | cons y r1 =>
          rw [hs2] at hx
          have hy : 93 = y := hx
          obtain ⟨a, b, _⟩ := sfx_step (HSK.out.trans hs2)
          exact ⟨r1, by rw [hy], a, b⟩
      obtain ⟨r1, hr1, hjl, hr2⟩ := HX
      have HTE : Hid (T = goesOut st (d + 1) (.list (f.list ++ [jv])) many (sfx s (j11 + 1))) := by unfold Hid; rw [HT.out, goes_lend HF.out hr1, hr2]
      have b93 : ((x.toNat : Int) == 93) = true := by rw [h93]; rfl
      have CC := Lib.hid (close_any k s j11 many g m cp 0 (.iface valsT (.slice A9 (n1 + 1) c9)) w11 HQ11.out (by omega) hncp (by have := HDL.out; omega))
      clear h93 hx hr1 hr2
      go_wp2_with fail
      refine Calls.mono CC.out ?_
      rintro e w12 ⟨rfl, hq12, hg12⟩
      have HQ12 := Lib.hid hq12
      have HC12 := Lib.hid (HC10.out w12 (grown_trans HG11.out hg12))
      clear hq12 hg12 CC y0 y1
      go_wp2_with fail
      go_ret2
      have hpop := HC12.out.1.pop
      have hmm := HM.out
      exact ⟨j11 + 1, many, 0, _, _, true, rfl, HQ12.out, HC12.out.2.2, .inr ⟨rfl, hjl, by omega, hmany, st, L, d + 1, hpop.2, (OKst.tail HOK.out).up (by omega), by have := HDL.out; omega, .inl ⟨rfl, _, HC12.out.1.list_val HF.out, HTE.out⟩⟩⟩
    · have b93 : ((x.toNat : Int) == 93) = false := by
        rw [show (93 : Int) = ((93 : Nat) : Int) from rfl, byte_lit x 93 (by omega)]
        simp [h93]
      by_cases h44 : x = 44
      · have HX : Hid (∃ r1, skipW (sfx s i) = 44 :: r1 ∧ j11 < s.size ∧ sfx s (j11 + 1) = r1) := by
          rw [h44] at hx
          cases hs2 : skipW (sfx s i) with
          | nil => rw [hs2] at hx; cases hx
          | cons y r1 =>
            rw [hs2] at hx
            have hy : 44 = y := hx
            obtain ⟨a, b, _⟩ := sfx_step (HSK.out.trans hs2)
            exact ⟨r1, by rw [hy], a, b⟩
        obtain ⟨r1, hr1, hjl, hr2⟩ := HX
        have HFU : Hid (∃ q, f.fuel = q + 1) := by
          have h1 := (HOK.out f (List.mem_cons_self ..)).1
          exact ⟨f.fuel - 1, by omega⟩
        obtain ⟨q, hq⟩ := HFU
        have HTE : Hid (T = beginOut ({ f with list := f.list ++ [jv], fuel := q } :: st) d many (sfx s (j11 + 1))) := by unfold Hid; rw [HT.out, goes_lmore HF.out hq hr1, hr2]
        have HFQ := Lib.hid hq
        have b44 : ((x.toNat : Int) == 44) = true := by rw [h44]; rfl
        clear h44 h93 hx hr1 hr2 hq
        obtain ⟨z0, z1, z2, z3, z4⟩ := HQ11.out.cells
        have f1 := HQ11.out.free 1
        go_upto_region 15 with (fail)
        generalize hW : World.setCell w11 _ _ = w12
        have HQ12 : Hid (RIn w12 k s (j11 + 1) many (.slice (some ⟨g, 0, none⟩) (m + 1) cp) 0) := by unfold Hid; rw [← hW]; exact HQ11.out.setAt _ _ (by omega)
        have HC12 : Hid (_ ∧ _ ∧ _) := HC10.out w12 (by rw [← hW]; exact grown_trans HG11.out (grown_set _ k 1 _))
        clear hW z0 z1 z2 z3 z4 f1 y0 y1
        obtain ⟨y0, y1⟩ := HC12.out.2.1
        go_wp2_with fail
        go_ret2
        have hst2 : StkAt base w12 (.slice (some ⟨g, 0, none⟩) (m + 1) cp) ({ f with list := f.list ++ [jv], fuel := q } :: st) ([.slice A9 (n1 + 1) c9, .pointer none, .string ⟨#[]⟩] :: L) := HC12.out.1
        exact ⟨j11 + 1, many, 0, _, _, false, rfl, HQ12.out, HC12.out.2.2, .inr ⟨rfl, hjl, by omega, hmany, _, _, d, hst2, (fun p hp => by
          rcases List.mem_cons.1 hp with rfl | hp
          · have h1 := HOK.out f (List.mem_cons_self ..)
            have h2 := HFQ.out
            refine ⟨?_, ?_, ?_⟩
            · show s.size ≤ q + (j11 + 1); omega
            · show (f.list ++ [jv]).length ≤ j11 + 1
              rw [List.length_append]
              show f.list.length + 1 ≤ _
              omega
            · show f.vs.length ≤ j11 + 1; omega
          · have h1 := HOK.out p (List.mem_cons_of_mem _ hp)
            omega), by have h1 := HDL.out; have h2 := HM.out; rw [List.length_cons]; omega, .inr ⟨rfl, HTE.out⟩⟩⟩
      · have b44 : ((x.toNat : Int) == 44) = false := by
          rw [show (44 : Int) = ((44 : Nat) : Int) from rfl, byte_lit x 44 (by omega)]
          simp [h44]
        have HTE : Hid (T = .error 3) := by
          unfold Hid
          rw [HT.out, goes_lbad HF.out (fun r1 e => h93 (by rw [hx, e]; rfl)) (fun r1 e => h44 (by rw [hx, e]; rfl))]
        have CF := Lib.hid (fail_any k s j11 many _ 0 3 w11 HQ11.out)
        clear h44 h93 hx
        go_wp2_with fail
        refine Calls.mono CF.out ?_
        rintro e w12 ⟨rfl, hq12, hg12⟩
        have HQ12 : Hid (RIn w12 k s j11 many (.slice (some ⟨g, 0, none⟩) (m + 1) cp) 3) := hq12
        have HC12 := Lib.hid (HC10.out w12 (grown_trans HG11.out hg12))
        clear hq12 hg12 CF y0 y1
        go_wp2_with fail
        go_ret2
        exact ⟨j11, many, 3, _, _, false, rfl, HQ12.out, HC12.out.2.2, .inl ⟨by decide, HTE.out⟩⟩
  · go_upto_region 7 with (at_builtin; refine append_g ty_vals rfl _ _ (by rfl) base n1 1 _ (.slice A n1 c1) (.slice (some ⟨w2.heap.size, 0, none⟩) 1 1) (one us) [[_]] (by rfl) (by rfl) (hrow2.ext (new_ext _ _)) (GSrc.one rfl (fun q hq => by rw [List.mem_singleton] at hq; rw [hq]; exact hone) (heap_new rfl)) (by have := (grow_to HROW.out).1; rw [one_len]; exact this.symm) rfl (by omega) (Nat.le_trans HLO.out.2.2.1 (Nat.le_trans HX2.out.size (new_ext _ _).size)) ?_; intro A9 c9 w9 h9 g9 o9; have hk9 : w9.heap[g]? = w2.heap[g]? := (g9.block g (Nat.lt_of_lt_of_le HLO.out.2.2.2.2 (Nat.le_trans HX2.out.size (new_ext _ _).size)) (fun e => HNE.out g e.symm rfl)).trans ((new_ext w2 _).block g (Nat.lt_of_lt_of_le HLO.out.2.2.2.2 HX2.out.size)); have y09 := (cell_keep (o := m * 3) hk9).trans y0; have y29 := (frozen_keep (o := m * 3) hk9).trans y2; have H9 := Lib.hid (And.intro h9 (And.intro g9 o9)); clear h9 g9 o9 hk9)
    generalize hW : World.setCell w9 _ _ = w10
    have HST10 : Hid (StkAt base w10 (.slice (some ⟨g, 0, none⟩) (m + 1) cp) ({ f with list := f.list ++ [jv] } :: st) ([.slice A9 (n1 + 1) c9, .pointer none, .string ⟨#[]⟩] :: L)) := by
      unfold Hid
      rw [← hW, HM.out]
      have h2 := HST2.out.ext (new_ext w2 (.cells #[.iface tv xv] valT (0, 0)))
      rw [HM.out] at h2
      have hx := HX2.out.trans (new_ext w2 (.cells #[.iface tv xv] valT (0, 0)))
      have hp2 := HPS.out.keep (w' := w2.alloc (.cells #[.iface tv xv] valT (0, 0))) (fun b _ hlt => hx.block b hlt) (fun b hb _ => hb)
      have hp3 := HPV.out.ext hx
      rw [HM.out] at hp2 hp3
      have h9 : GRow valT 1 base w9 (.slice A9 (n1 + 1) c9) (one (us ++ [.iface tv xv])) := by rw [one_app]; exact H9.out.1
      exact StkAt.app h2 HF.out hp2 hp3 h9 H9.out.2.1 H9.out.2.2 { f with list := f.list ++ [jv] } HF.out rfl
    have HQ10 : Hid (RIn w10 k s i many (.slice (some ⟨g, 0, none⟩) (m + 1) cp) 0) := by
      unfold Hid
      rw [← hW]
      have h1 := HLO.out
      refine (set_heap2 (by omega)).trans ((HQ2.out.ext (new_ext w2 (.cells #[.iface tv xv] valT (0, 0)))).kept H9.out.2.1 (fun e => ?_))
      have := (HROW.out.block k e).1
      omega
    have HB10 : Hid (Below lo w w10) := by
      unfold Hid
      rw [← hW]
      have h1 := HLO.out
      have h2 := H9.out.2.1
      refine low_set ?_ (by omega)
      refine (Below.mono HX2.out (by omega)).trans ((Below.mono (new_ext w2 (.cells #[.iface tv xv] valT (0, 0))) (by have := HX2.out.size; omega)).trans ⟨h2.os, h2.tape, h2.output, h2.size, fun q hq => h2.block q ?_ (fun e => ?_)⟩)
      · exact Nat.lt_of_lt_of_le (Nat.lt_of_lt_of_le (by omega : q < w.heap.size) HX2.out.size) (new_ext w2 _).size
      · have := (HROW.out.block q e.symm).1
        omega
    clear hW y09 y29 y0 y1 y2
    have HC10 : Hid (∀ W, w10.grownBy W (some k) → StkAt base W (.slice (some ⟨g, 0, none⟩) (m + 1) cp) ({ f with list := f.list ++ [jv] } :: st) ([.slice A9 (n1 + 1) c9, .pointer none, .string ⟨#[]⟩] :: L) ∧ (W.cell? ⟨g, m * 3, none⟩ = some (.slice A9 (n1 + 1) c9) ∧ W.cell? ⟨g, m * 3 + 1, none⟩ = some (.pointer none)) ∧ Below lo w W) := fun W hW => by
      have hs1 := HST10.out.kept hW HLO.out.1
      obtain ⟨g', e, _, _, _, _, hc2, _⟩ := hs1.top
      injection e with e
      injection e with e
      subst e
      rw [← HM.out] at hc2
      refine ⟨hs1, ⟨hc2 0 _ rfl, hc2 1 _ rfl⟩, HB10.out.trans (low_grown hW HLO.out.2.1 ?_)⟩
      have h1 := HLO.out
      have h2 := HB10.out.size
      omega
    have CN := Lib.hid (next_any k s i many _ 0 w10 HQ10.out hs (by omega))
    go_wp2_with fail
    refine Calls.mono CN.out ?_
    rintro e w11 ⟨j11, rfl, hq11, hij, hjs, hsk, hg11⟩
    have HQ11 := Lib.hid hq11
    have HC11 := Lib.hid (HC10.out w11 hg11)
    have HG11 := Lib.hid hg11
    have HSK := Lib.hid hsk
    have hj11 : j11 ≤ s.size := hjs hi
    clear hq11 hg11 hsk hjs CN
    obtain ⟨x, hx⟩ : ∃ x, x = headB (skipW (sfx s i)) := ⟨_, rfl⟩
    rw [← hx]
    obtain ⟨y0, y1⟩ := HC11.out.2.1
    by_cases h93 : x = 93
    · have HX : Hid (∃ r1, skipW (sfx s i) = 93 :: r1 ∧ j11 < s.size ∧ sfx s (j11 + 1) = r1) := by
        rw [h93] at hx
        cases hs2 : skipW (sfx s i) with
        | nil => rw [hs2] at hx; cases hx
        | cons y r1 =>
          rw [hs2] at hx
          have hy : 93 = y := hx
          obtain ⟨a, b, _⟩ := sfx_step (HSK.out.trans hs2)
          exact ⟨r1, by rw [hy], a, b⟩
      obtain ⟨r1, hr1, hjl, hr2⟩ := HX
      have HTE : Hid (T = goesOut st (d + 1) (.list (f.list ++ [jv])) many (sfx s (j11 + 1))) := by unfold Hid; rw [HT.out, goes_lend HF.out hr1, hr2]
      have b93 : ((x.toNat : Int) == 93) = true := by rw [h93]; rfl
      have CC := Lib.hid (close_any k s j11 many g m cp 0 (.iface valsT (.slice A9 (n1 + 1) c9)) w11 HQ11.out (by omega) hncp (by have := HDL.out; omega))
      clear h93 hx hr1 hr2
      go_wp2_with fail
      refine Calls.mono CC.out ?_
      rintro e w12 ⟨rfl, hq12, hg12⟩
      have HQ12 := Lib.hid hq12
      have HC12 := Lib.hid (HC10.out w12 (grown_trans HG11.out hg12))
      clear hq12 hg12 CC y0 y1
      go_wp2_with fail
      go_ret2
      have hpop := HC12.out.1.pop
      have hmm := HM.out
      exact ⟨j11 + 1, many, 0, _, _, true, rfl, HQ12.out, HC12.out.2.2, .inr ⟨rfl, hjl, by omega, hmany, st, L, d + 1, hpop.2, (OKst.tail HOK.out).up (by omega), by have := HDL.out; omega, .inl ⟨rfl, _, HC12.out.1.list_val HF.out, HTE.out⟩⟩⟩
    · have b93 : ((x.toNat : Int) == 93) = false := by
        rw [show (93 : Int) = ((93 : Nat) : Int) from rfl, byte_lit x 93 (by omega)]
        simp [h93]
      by_cases h44 : x = 44
      · have HX : Hid (∃ r1, skipW (sfx s i) = 44 :: r1 ∧ j11 < s.size ∧ sfx s (j11 + 1) = r1) := by
          rw [h44] at hx
          cases hs2 : skipW (sfx s i) with
          | nil => rw [hs2] at hx; cases hx
          | cons y r1 =>
            rw [hs2] at hx
            have hy : 44 = y := hx
            obtain ⟨a, b, _⟩ := sfx_step (HSK.out.trans hs2)
            exact ⟨r1, by rw [hy], a, b⟩
        obtain ⟨r1, hr1, hjl, hr2⟩ := HX
        have HFU : Hid (∃ q, f.fuel = q + 1) := by
          have h1 := (HOK.out f (List.mem_cons_self ..)).1
          exact ⟨f.fuel - 1, by omega⟩
        obtain ⟨q, hq⟩ := HFU
        have HTE : Hid (T = beginOut ({ f with list := f.list ++ [jv], fuel := q } :: st) d many (sfx s (j11 + 1))) := by unfold Hid; rw [HT.out, goes_lmore HF.out hq hr1, hr2]
        have HFQ := Lib.hid hq
        have b44 : ((x.toNat : Int) == 44) = true := by rw [h44]; rfl
        clear h44 h93 hx hr1 hr2 hq
        obtain ⟨z0, z1, z2, z3, z4⟩ := HQ11.out.cells
        have f1 := HQ11.out.free 1
        go_upto_region 15 with (fail)
        generalize hW : World.setCell w11 _ _ = w12
        have HQ12 : Hid (RIn w12 k s (j11 + 1) many (.slice (some ⟨g, 0, none⟩) (m + 1) cp) 0) := by unfold Hid; rw [← hW]; exact HQ11.out.setAt _ _ (by omega)
        have HC12 : Hid (_ ∧ _ ∧ _) := HC10.out w12 (by rw [← hW]; exact grown_trans HG11.out (grown_set _ k 1 _))
        clear hW z0 z1 z2 z3 z4 f1 y0 y1
        obtain ⟨y0, y1⟩ := HC12.out.2.1
        go_wp2_with fail
        go_ret2
        have hst2 : StkAt base w12 (.slice (some ⟨g, 0, none⟩) (m + 1) cp) ({ f with list := f.list ++ [jv], fuel := q } :: st) ([.slice A9 (n1 + 1) c9, .pointer none, .string ⟨#[]⟩] :: L) := HC12.out.1
        exact ⟨j11 + 1, many, 0, _, _, false, rfl, HQ12.out, HC12.out.2.2, .inr ⟨rfl, hjl, by omega, hmany, _, _, d, hst2, (fun p hp => by
          rcases List.mem_cons.1 hp with rfl | hp
          · have h1 := HOK.out f (List.mem_cons_self ..)
            have h2 := HFQ.out
            refine ⟨?_, ?_, ?_⟩
            · show s.size ≤ q + (j11 + 1); omega
            · show (f.list ++ [jv]).length ≤ j11 + 1
              rw [List.length_append]
              show f.list.length + 1 ≤ _
              omega
            · show f.vs.length ≤ j11 + 1; omega
          · have h1 := HOK.out p (List.mem_cons_of_mem _ hp)
            omega), by have h1 := HDL.out; have h2 := HM.out; rw [List.length_cons]; omega, .inr ⟨rfl, HTE.out⟩⟩⟩
      · have b44 : ((x.toNat : Int) == 44) = false := by
          rw [show (44 : Int) = ((44 : Nat) : Int) from rfl, byte_lit x 44 (by omega)]
          simp [h44]
        have HTE : Hid (T = .error 3) := by
          unfold Hid
          rw [HT.out, goes_lbad HF.out (fun r1 e => h93 (by rw [hx, e]; rfl)) (fun r1 e => h44 (by rw [hx, e]; rfl))]
        have CF := Lib.hid (fail_any k s j11 many _ 0 3 w11 HQ11.out)
        clear h44 h93 hx
        go_wp2_with fail
        refine Calls.mono CF.out ?_
        rintro e w12 ⟨rfl, hq12, hg12⟩
        have HQ12 : Hid (RIn w12 k s j11 many (.slice (some ⟨g, 0, none⟩) (m + 1) cp) 3) := hq12
        have HC12 := Lib.hid (HC10.out w12 (grown_trans HG11.out hg12))
        clear hq12 hg12 CF y0 y1
        go_wp2_with fail
        go_ret2
        exact ⟨j11, many, 3, _, _, false, rfl, HQ12.out, HC12.out.2.2, .inl ⟨by decide, HTE.out⟩⟩
end Go.Proofs.YtahinicpceokcaaGreatDoor.Jm
