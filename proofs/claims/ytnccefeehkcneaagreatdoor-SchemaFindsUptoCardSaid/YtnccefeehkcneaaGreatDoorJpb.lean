/-
  The program's reader: goes on behind a value, in a list (printed by gen/jp3.py).
  The program's reader: goes on behind a value, in an object (printed by gen/jp3.py).
  The program's reader: begin (printed by gen/jp5.py).
  The program's reader: Read.
-/
import Derived.Test.YtnccefeehkcneaaGreatDoorJpa
namespace Go.Proofs.YtnccefeehkcneaaGreatDoor.Jm
open Go Go.RowKit Go.Proofs.YtnccefeehkcneaaGreatDoor.Sx Go.Proofs.YtnccefeehkcneaaGreatDoor.Js Go.Proofs.YtnccefeehkcneaaGreatDoor.Gr Go.Proofs.YtnccefeehkcneaaGreatDoor.Ur
def OKst (s : ByteArray) (j : Nat) (st : List Fr) : Prop := ∀ f ∈ st, s.size ≤ f.fuel + j ∧ f.list.length ≤ j ∧ f.vs.length ≤ j
theorem OKst.up {s : ByteArray} {i j : Nat} {st : List Fr} (h : OKst s i st) (hij : i ≤ j) : OKst s j st := fun f hf => by
  have := h f hf
  omega
theorem OKst.tail {s : ByteArray} {i : Nat} {f : Fr} {st : List Fr} (h : OKst s i (f :: st)) : OKst s i st := fun q hq => h q (List.mem_cons_of_mem _ hq)
/-- What a step of the reader leaves: an error; a whole value; a value that is still to come. -/
def StepPost (lo base k : Nat) (w : World) (s : ByteArray) (i : Nat) (T : Res J) (e : Ending) (w' : World) : Prop :=
  ∃ j many bad v u b, e = .returned (.tuple #[u, .bool b]) ∧ RIn w' k s j many v bad ∧ Below lo w w' ∧
    ((bad ≠ 0 ∧ T = .error bad) ∨
     (bad = 0 ∧ j ≤ s.size ∧ i < j ∧ many ≤ 200 ∧ ∃ st L d, StkAt base w' v st L ∧ OKst s j st ∧ d + st.length = 10 ∧
      ((b = true ∧ ∃ jj, PV (FreeB base v L) w' jj u ∧ T = goesOut st d jj many (sfx s j)) ∨ (b = false ∧ T = beginOut st d many (sfx s j)))))
theorem vals_own {w W : World} {A : Option Addr} {n c base : Nat} {l : List J} {us : List Value} {F F' : Nat → Prop} (h : GRow valT 1 base W (.slice A n c) (one us)) (hp : PVs F w l us) (hx : ∀ b, F b → b < w.heap.size → W.heap[b]? = w.heap[b]?) (hF : ∀ g, F g → F' g) (hb : ∀ g, (Value.slice A n c).ownBlock = some g → F' g) : PV F' W (.list l) (.iface valsT (.slice A n c)) := by
  obtain ⟨A', c', e, hc⟩ := h.slice
  injection e with e1 e2 e3
  have h1 := hp.1
  rw [one_len] at e2 hc
  refine PV_list.2 ⟨A, c, by rw [e2, h1], by omega, fun i hi => ?_⟩
  obtain ⟨g, hA, _, hbg, _, hcell⟩ := h.at_ (k := i) (by rw [one_len]; omega)
  refine ⟨g, 0, us[i]'(by omega), hA, hb g (by rw [hA]; rfl), ?_, PV.keep hx (fun b h _ => hF b h) _ _ (hp.2 i hi (by omega))⟩
  have := hcell 0 (us[i]'(by omega)) (by simp [one])
  rw [Nat.mul_one, Nat.add_zero] at this
  rw [Nat.zero_add]
  exact this
theorem set_heap2 {W : World} {g o k : Nat} {v : Value} (h : k ≠ g) : (W.setCell ⟨g, o, none⟩ v).heap[k]? = W.heap[k]? := set_heap _ _ _ _ _ h
theorem frozen_keep {w w' : World} {g o : Nat} (h : w'.heap[g]? = w.heap[g]?) : w'.frozen? ⟨g, o, none⟩ = w.frozen? ⟨g, o, none⟩ := by
  unfold World.frozen?
  rw [h]
/-- What an open list is worth when it is closed. -/
theorem StkAt.list_val {base g n cp n' m cq : Nat} {w : World} {A : Option Addr} {f : Fr} {st : List Fr} {L : List (List Value)} (h : StkAt base w (.slice (some ⟨g, 0, none⟩) n cp) (f :: st) ([.slice A m cq, .pointer none, .string ⟨#[]⟩] :: L)) (hf : f.isObj = false) : PV (FreeB base (.slice (some ⟨g, 0, none⟩) n' cp) L) w (.list f.list) (.iface valsT (.slice A m cq)) := by
  obtain ⟨h1, h2, h3, h4⟩ := h
  rcases h4.1 with ⟨_, A', n2, c2, us, e, hr, hp⟩ | ⟨h0, _⟩
  · injection e with e _
    injection e with e1 e2 e3
    subst e1 e2 e3
    refine vals_own hr hp (fun _ _ _ => rfl) (fun q hq => FreeB.pop hq) (fun q e => ⟨(hr.block q e).1, fun e2 => h2 _ (List.mem_cons_self ..) q e e2, fun d hd e2 => (List.pairwise_cons.1 h3).1 d hd q e e2⟩)
  · rw [hf] at h0; cases h0
theorem StkAt.obj_val {base g n cp n' b : Nat} {w : World} {t : Tx} {f : Fr} {st : List Fr} {L : List (List Value)} (h : StkAt base w (.slice (some ⟨g, 0, none⟩) n cp) (f :: st) ([.slice none 0 0, .pointer (some ⟨b, 0, none⟩), .string (bx t)] :: L)) (hf : f.isObj = true) : PV (FreeB base (.slice (some ⟨g, 0, none⟩) n' cp) L) w (.obj f.ns f.vs) (.iface objPT (.pointer (some ⟨b, 0, none⟩))) := by
  obtain ⟨h1, h2, h3, h4⟩ := h
  rcases h4.1 with ⟨h0, _⟩ | ⟨_, b', e, hb, ho, _⟩
  · rw [hf] at h0; cases h0
  · injection e with _ e
    injection e with e _
    injection e with e
    injection e with e
    injection e with e
    subst e
    exact PV_obj.2 ⟨b, rfl, FreeB.pop hb, ho.keep hb (fun _ _ _ => rfl) (fun q hq _ => FreeB.pop hq)⟩
set_option maxRecDepth 100000 in
set_option maxHeartbeats 8000000 in
theorem goes_list (lo base k : Nat) (s : ByteArray) (i many d : Nat) (A0 : Option Addr) (n cp : Nat) (f : Fr) (st : List Fr) (L : List (List Value)) (jv : J) (u : Value) (w : World) (h : RIn w k s i many (.slice A0 n cp) 0) (hs : s.size ≤ 2000) (hi : i ≤ s.size) (hmany : many ≤ 200) (hst : StkAt base w (.slice A0 n cp) (f :: st) L) (hok : OKst s i (f :: st)) (hf : f.isObj = false) (hpv : PV (FreeB base (.slice A0 n cp) L) w jv u) (hkb : k < base) (hlk : lo ≤ k) (hlw : base ≤ w.heap.size) (hdl : d + (st.length + 1) = 10) (T : Res J) (hT : T = goesOut (f :: st) d jv many (sfx s i)) :
    Calls Tryz.prog 67 #[.pointer (some ⟨k, 0, none⟩), u] w (StepPost lo base k w s i T) := by
  obtain ⟨c, L, rfl⟩ : ∃ c L', L = c :: L' := by
    cases L with
    | nil => exact (hst.2.2.2 : False).elim
    | cons c L' => exact ⟨c, L', rfl⟩
  obtain ⟨A, n1, c1, us, rfl, hrow, hpvs⟩ : ∃ A n1 c1 us, c = [.slice A n1 c1, .pointer none, .string ⟨#[]⟩] ∧ GRow valT 1 base w (.slice A n1 c1) (one us) ∧ PVs (FreeB base (.slice A0 n cp) (c :: L)) w f.list us := by
    rcases hst.2.2.2.1 with ⟨_, h⟩ | ⟨h0, _⟩
    · exact h
    · rw [hf] at h0; cases h0
  obtain ⟨g, rfl, rfl, hncp, hbg, hlg, hcell, hfr⟩ := hst.top
  obtain ⟨m, hm⟩ : ∃ m, m = st.length := ⟨_, rfl⟩
  have HM : Hid (m = st.length) := hm
  rw [← hm] at hncp hcell hdl h hst hpvs hpv
  have q0 : (0 : Int) ≤ (m : Int) := by omega
  have q1 : (m : Int) < (m : Int) + 1 := by omega
  have q2 : IntKind.i64.wrap ((m : Int) + 1 - 1) = (m : Int) := by rw [show (m : Int) + 1 - 1 = m by omega]; exact IntWalk.i64_in _ (by omega)
  have q3 : (m : Int).toNat = m := by omega
  have q4 : IntKind.i64.wrap (m : Int) = (m : Int) := IntWalk.i64_in _ (by omega)
  have hiI : i ≤ 2000 := by omega
  have hn1 : n1 = f.list.length := by
    have h1 := (grow_to hrow).1
    rw [h1, hpvs.1]
  have hn1s : n1 ≤ 2000 := by
    have := (hok f (List.mem_cons_self ..)).2.1
    omega
  have hne : ∀ b, (Value.slice A n1 c1).ownBlock = some b → b ≠ g := fun b e e2 => hst.2.1 _ (List.mem_cons_self ..) b e (by rw [e2]; rfl)
  have z0' := hcell 0 _ rfl
  have z1' := hcell 1 _ rfl
  rw [Nat.add_zero] at z0'
  have HC : Hid (∀ W, w.grownBy W (some k) → W.cell? ⟨g, m * 3, none⟩ = some (.slice A n1 c1) ∧ W.cell? ⟨g, m * 3 + 1, none⟩ = some (.pointer none) ∧ W.frozen? ⟨g, m * 3, none⟩ = false) := fun W hW => by
    obtain ⟨g', e, _, _, _, _, hc2, hf2⟩ := (hst.kept hW hkb).top
    injection e with e
    injection e with e
    subst e
    rw [← hm] at hc2
    exact ⟨hc2 0 _ rfl, hc2 1 _ rfl, hf2 _⟩
  have H := Lib.hid h
  have HST := Lib.hid hst
  have HLO := Lib.hid (And.intro hkb (And.intro hlk (And.intro hlw (And.intro hbg hlg))))
  have HOK := Lib.hid hok
  have HROW := Lib.hid hrow
  have HPV := Lib.hid hpv
  have HPS := Lib.hid hpvs
  have HF := Lib.hid hf
  have HT := Lib.hid hT
  have HDL := Lib.hid hdl
  have HN1 := Lib.hid hn1
  have HNE := Lib.hid hne
  have HSH := Lib.hid hpv.shape
  clear h hst hok hrow hpv hpvs hf hT hdl hn1 hne hcell hfr hm z0' z1'
  obtain ⟨z0, z1, z2, z3, z4⟩ := H.out.cells
  go_enter Tryz.func67, Tryz.ntmps67
  go_wp2_with fail
  go_quiet (fail)
  generalize hW : World.drewN w _ = w2
  have HX2 : Hid (Ext w w2) := by rw [← hW]; exact ext_drewN' _ _
  clear hW z0 z1 z2 z3 z4
  have HQ2 := Lib.hid (H.out.ext HX2.out)
  obtain ⟨y0, y1, y2⟩ := HC.out w2 (grown_ext HX2.out)
  have HST2 := Lib.hid (HST.out.ext HX2.out)
  have hrow2 := HROW.out.ext HX2.out
  have hone : u.oneCell' = true := HPV.out.one
  rcases HSH.out with rfl | ⟨tv, xv, rfl⟩
  · go_upto_region 7 with (at_builtin; refine append_g ty_vals rfl _ _ (by rfl) base n1 1 _ (.slice A n1 c1) (.slice (some ⟨w2.heap.size, 0, none⟩) 1 1) (one us) [[_]] (by rfl) (by rfl) (hrow2.ext (new_ext _ _)) (GSrc.one rfl (fun q hq => by rw [List.mem_singleton] at hq; rw [hq]; exact hone) (heap_new rfl)) (by have := (grow_to HROW.out).1; rw [one_len]; exact this.symm) rfl (by omega) (Nat.le_trans HLO.out.2.2.1 (Nat.le_trans HX2.out.size (new_ext _ _).size)) ?_; intro A9 c9 w9 h9 g9 o9; have hk9 : w9.heap[g]? = w2.heap[g]? := (g9.block g (Nat.lt_of_lt_of_le HLO.out.2.2.2.2 (Nat.le_trans HX2.out.size (new_ext _ _).size)) (fun e => HNE.out g e.symm rfl)).trans ((new_ext w2 _).block g (Nat.lt_of_lt_of_le HLO.out.2.2.2.2 HX2.out.size)); have y09 := (cell_keep (o := m * 3) hk9).trans y0; have y29 := (frozen_keep (o := m * 3) hk9).trans y2; have H9 := Lib.hid (And.intro h9 (And.intro g9 o9)); clear h9 g9 o9 hk9)
    generalize hW : World.setCell w9 _ _ = w10
    have HST10 : Hid (StkAt base w10 (.slice (some ⟨g, 0, none⟩) (m + 1) cp) ({ f with list := f.list ++ [jv] } :: st) ([.slice A9 (n1 + 1) c9, .pointer none, .string ⟨#[]⟩] :: L)) := by
      unfold Hid
      rw [← hW, HM.out]
      have h2 := HST2.out.ext (new_ext w2 (.cells #[.nilIface] valT (0, 0)))
      rw [HM.out] at h2
      have hx := HX2.out.trans (new_ext w2 (.cells #[.nilIface] valT (0, 0)))
      have hp2 := HPS.out.keep (w' := w2.alloc (.cells #[.nilIface] valT (0, 0))) (fun b _ hlt => hx.block b hlt) (fun b hb _ => hb)
      have hp3 := HPV.out.ext hx
      rw [HM.out] at hp2 hp3
      have h9 : GRow valT 1 base w9 (.slice A9 (n1 + 1) c9) (one (us ++ [.nilIface])) := by rw [one_app]; exact H9.out.1
      exact StkAt.app h2 HF.out hp2 hp3 h9 H9.out.2.1 H9.out.2.2 { f with list := f.list ++ [jv] } HF.out rfl
    have HQ10 : Hid (RIn w10 k s i many (.slice (some ⟨g, 0, none⟩) (m + 1) cp) 0) := by
      unfold Hid
      rw [← hW]
      have h1 := HLO.out
      refine (set_heap2 (by omega)).trans ((HQ2.out.ext (new_ext w2 (.cells #[.nilIface] valT (0, 0)))).kept H9.out.2.1 (fun e => ?_))
      have := (HROW.out.block k e).1
      omega
    have HB10 : Hid (Below lo w w10) := by
      unfold Hid
      rw [← hW]
      have h1 := HLO.out
      have h2 := H9.out.2.1
      refine low_set ?_ (by omega)
      refine (Below.mono HX2.out (by omega)).trans ((Below.mono (new_ext w2 (.cells #[.nilIface] valT (0, 0))) (by have := HX2.out.size; omega)).trans ⟨h2.os, h2.tape, h2.output, h2.size, fun q hq => h2.block q ?_ (fun e => ?_)⟩)
      · exact Nat.lt_of_lt_of_le (Nat.lt_of_lt_of_le (by omega : q < w.heap.size) HX2.out.size) (new_ext w2 _).size
      · have := (HROW.out.block q e.symm).1
        omega
    clear hW y09 y29 y0 y1 y2
    have HC10 : Hid (∀ W, w10.grownBy W (some k) → StkAt base W (.slice (some ⟨g, 0, none⟩) (m + 1) cp) ({ f with list := f.list ++ [jv] } :: st) ([.slice A9 (n1 + 1) c9, .pointer none, .string ⟨#[]⟩] :: L) ∧ (W.cell? ⟨g, m * 3, none⟩ = some (.slice A9 (n1 + 1) c9) ∧ W.cell? ⟨g, m * 3 + 1, none⟩ = some (.pointer none)) ∧ Below lo w W) := fun W hW => by
      have hs1 := HST10.out.kept hW HLO.out.1
      obtain ⟨g', e, _, _, _, _, hc2, _⟩ := hs1.top
      injection e with e
      injection e with e
      subst e
      rw [← HM.out] at hc2
      refine ⟨hs1, ⟨hc2 0 _ rfl, hc2 1 _ rfl⟩, HB10.out.trans (low_grown hW HLO.out.2.1 ?_)⟩
      have h1 := HLO.out
      have h2 := HB10.out.size
      omega
    have CN := Lib.hid (next_any k s i many _ 0 w10 HQ10.out hs (by omega))
    go_wp2_with fail
    refine Calls.mono CN.out ?_
    rintro e w11 ⟨j11, rfl, hq11, hij, hjs, hsk, hg11⟩
    have HQ11 := Lib.hid hq11
    have HC11 := Lib.hid (HC10.out w11 hg11)
    have HG11 := Lib.hid hg11
    have HSK := Lib.hid hsk
    have hj11 : j11 ≤ s.size := hjs hi
    clear hq11 hg11 hsk hjs CN
    obtain ⟨x, hx⟩ : ∃ x, x = headB (skipW (sfx s i)) := ⟨_, rfl⟩
    rw [← hx]
    obtain ⟨y0, y1⟩ := HC11.out.2.1
    by_cases h93 : x = 93
    · have HX : Hid (∃ r1, skipW (sfx s i) = 93 :: r1 ∧ j11 < s.size ∧ sfx s (j11 + 1) = r1) := by
        rw [h93] at hx
        cases hs2 : skipW (sfx s i) with
        | nil => rw [hs2] at hx; cases hx
        | cons y r1 =>
          rw [hs2] at hx
          have hy : 93 = y := hx
          obtain ⟨a, b, _⟩ := sfx_step (HSK.out.trans hs2)
          exact ⟨r1, by rw [hy], a, b⟩
      obtain ⟨r1, hr1, hjl, hr2⟩ := HX
      have HTE : Hid (T = goesOut st (d + 1) (.list (f.list ++ [jv])) many (sfx s (j11 + 1))) := by unfold Hid; rw [HT.out, goes_lend HF.out hr1, hr2]
      have b93 : ((x.toNat : Int) == 93) = true := by rw [h93]; rfl
      have CC := Lib.hid (close_any k s j11 many g m cp 0 (.iface valsT (.slice A9 (n1 + 1) c9)) w11 HQ11.out (by omega) hncp (by have := HDL.out; omega))
      clear h93 hx hr1 hr2
      go_wp2_with fail
      refine Calls.mono CC.out ?_
      rintro e w12 ⟨rfl, hq12, hg12⟩
      have HQ12 := Lib.hid hq12
      have HC12 := Lib.hid (HC10.out w12 (grown_trans HG11.out hg12))
      clear hq12 hg12 CC y0 y1
      go_wp2_with fail
      go_ret2
      have hpop := HC12.out.1.pop
      have hmm := HM.out
      exact ⟨j11 + 1, many, 0, _, _, true, rfl, HQ12.out, HC12.out.2.2, .inr ⟨rfl, hjl, by omega, hmany, st, L, d + 1, hpop.2, (OKst.tail HOK.out).up (by omega), by have := HDL.out; omega, .inl ⟨rfl, _, HC12.out.1.list_val HF.out, HTE.out⟩⟩⟩
    · have b93 : ((x.toNat : Int) == 93) = false := by
        rw [show (93 : Int) = ((93 : Nat) : Int) from rfl, byte_lit x 93 (by omega)]
        simp [h93]
      by_cases h44 : x = 44
      · have HX : Hid (∃ r1, skipW (sfx s i) = 44 :: r1 ∧ j11 < s.size ∧ sfx s (j11 + 1) = r1) := by
          rw [h44] at hx
          cases hs2 : skipW (sfx s i) with
          | nil => rw [hs2] at hx; cases hx
          | cons y r1 =>
            rw [hs2] at hx
            have hy : 44 = y := hx
            obtain ⟨a, b, _⟩ := sfx_step (HSK.out.trans hs2)
            exact ⟨r1, by rw [hy], a, b⟩
        obtain ⟨r1, hr1, hjl, hr2⟩ := HX
        have HFU : Hid (∃ q, f.fuel = q + 1) := by
          have h1 := (HOK.out f (List.mem_cons_self ..)).1
          exact ⟨f.fuel - 1, by omega⟩
        obtain ⟨q, hq⟩ := HFU
        have HTE : Hid (T = beginOut ({ f with list := f.list ++ [jv], fuel := q } :: st) d many (sfx s (j11 + 1))) := by unfold Hid; rw [HT.out, goes_lmore HF.out hq hr1, hr2]
        have HFQ := Lib.hid hq
        have b44 : ((x.toNat : Int) == 44) = true := by rw [h44]; rfl
        clear h44 h93 hx hr1 hr2 hq
        obtain ⟨z0, z1, z2, z3, z4⟩ := HQ11.out.cells
        have f1 := HQ11.out.free 1
        go_upto_region 15 with (fail)
        generalize hW : World.setCell w11 _ _ = w12
        have HQ12 : Hid (RIn w12 k s (j11 + 1) many (.slice (some ⟨g, 0, none⟩) (m + 1) cp) 0) := by unfold Hid; rw [← hW]; exact HQ11.out.setAt _ _ (by omega)
        have HC12 : Hid (_ ∧ _ ∧ _) := HC10.out w12 (by rw [← hW]; exact grown_trans HG11.out (grown_set _ k 1 _))
        clear hW z0 z1 z2 z3 z4 f1 y0 y1
        obtain ⟨y0, y1⟩ := HC12.out.2.1
        go_wp2_with fail
        go_ret2
        have hst2 : StkAt base w12 (.slice (some ⟨g, 0, none⟩) (m + 1) cp) ({ f with list := f.list ++ [jv], fuel := q } :: st) ([.slice A9 (n1 + 1) c9, .pointer none, .string ⟨#[]⟩] :: L) := HC12.out.1
        exact ⟨j11 + 1, many, 0, _, _, false, rfl, HQ12.out, HC12.out.2.2, .inr ⟨rfl, hjl, by omega, hmany, _, _, d, hst2, (fun p hp => by
          rcases List.mem_cons.1 hp with rfl | hp
          · have h1 := HOK.out f (List.mem_cons_self ..)
            have h2 := HFQ.out
            refine ⟨?_, ?_, ?_⟩
            · show s.size ≤ q + (j11 + 1); omega
            · show (f.list ++ [jv]).length ≤ j11 + 1
              rw [List.length_append]
              show f.list.length + 1 ≤ _
              omega
            · show f.vs.length ≤ j11 + 1; omega
          · have h1 := HOK.out p (List.mem_cons_of_mem _ hp)
            omega), by have h1 := HDL.out; have h2 := HM.out; rw [List.length_cons]; omega, .inr ⟨rfl, HTE.out⟩⟩⟩
      · have b44 : ((x.toNat : Int) == 44) = false := by
          rw [show (44 : Int) = ((44 : Nat) : Int) from rfl, byte_lit x 44 (by omega)]
          simp [h44]
        have HTE : Hid (T = .error 3) := by
          unfold Hid
          rw [HT.out, goes_lbad HF.out (fun r1 e => h93 (by rw [hx, e]; rfl)) (fun r1 e => h44 (by rw [hx, e]; rfl))]
        have CF := Lib.hid (fail_any k s j11 many _ 0 3 w11 HQ11.out)
        clear h44 h93 hx
        go_wp2_with fail
        refine Calls.mono CF.out ?_
        rintro e w12 ⟨rfl, hq12, hg12⟩
        have HQ12 : Hid (RIn w12 k s j11 many (.slice (some ⟨g, 0, none⟩) (m + 1) cp) 3) := hq12
        have HC12 := Lib.hid (HC10.out w12 (grown_trans HG11.out hg12))
        clear hq12 hg12 CF y0 y1
        go_wp2_with fail
        go_ret2
        exact ⟨j11, many, 3, _, _, false, rfl, HQ12.out, HC12.out.2.2, .inl ⟨by decide, HTE.out⟩⟩
  · go_upto_region 7 with (at_builtin; refine append_g ty_vals rfl _ _ (by rfl) base n1 1 _ (.slice A n1 c1) (.slice (some ⟨w2.heap.size, 0, none⟩) 1 1) (one us) [[_]] (by rfl) (by rfl) (hrow2.ext (new_ext _ _)) (GSrc.one rfl (fun q hq => by rw [List.mem_singleton] at hq; rw [hq]; exact hone) (heap_new rfl)) (by have := (grow_to HROW.out).1; rw [one_len]; exact this.symm) rfl (by omega) (Nat.le_trans HLO.out.2.2.1 (Nat.le_trans HX2.out.size (new_ext _ _).size)) ?_; intro A9 c9 w9 h9 g9 o9; have hk9 : w9.heap[g]? = w2.heap[g]? := (g9.block g (Nat.lt_of_lt_of_le HLO.out.2.2.2.2 (Nat.le_trans HX2.out.size (new_ext _ _).size)) (fun e => HNE.out g e.symm rfl)).trans ((new_ext w2 _).block g (Nat.lt_of_lt_of_le HLO.out.2.2.2.2 HX2.out.size)); have y09 := (cell_keep (o := m * 3) hk9).trans y0; have y29 := (frozen_keep (o := m * 3) hk9).trans y2; have H9 := Lib.hid (And.intro h9 (And.intro g9 o9)); clear h9 g9 o9 hk9)
    generalize hW : World.setCell w9 _ _ = w10
    have HST10 : Hid (StkAt base w10 (.slice (some ⟨g, 0, none⟩) (m + 1) cp) ({ f with list := f.list ++ [jv] } :: st) ([.slice A9 (n1 + 1) c9, .pointer none, .string ⟨#[]⟩] :: L)) := by
      unfold Hid
      rw [← hW, HM.out]
      have h2 := HST2.out.ext (new_ext w2 (.cells #[.iface tv xv] valT (0, 0)))
      rw [HM.out] at h2
      have hx := HX2.out.trans (new_ext w2 (.cells #[.iface tv xv] valT (0, 0)))
      have hp2 := HPS.out.keep (w' := w2.alloc (.cells #[.iface tv xv] valT (0, 0))) (fun b _ hlt => hx.block b hlt) (fun b hb _ => hb)
      have hp3 := HPV.out.ext hx
      rw [HM.out] at hp2 hp3
      have h9 : GRow valT 1 base w9 (.slice A9 (n1 + 1) c9) (one (us ++ [.iface tv xv])) := by rw [one_app]; exact H9.out.1
      exact StkAt.app h2 HF.out hp2 hp3 h9 H9.out.2.1 H9.out.2.2 { f with list := f.list ++ [jv] } HF.out rfl
    have HQ10 : Hid (RIn w10 k s i many (.slice (some ⟨g, 0, none⟩) (m + 1) cp) 0) := by
      unfold Hid
      rw [← hW]
      have h1 := HLO.out
      refine (set_heap2 (by omega)).trans ((HQ2.out.ext (new_ext w2 (.cells #[.iface tv xv] valT (0, 0)))).kept H9.out.2.1 (fun e => ?_))
      have := (HROW.out.block k e).1
      omega
    have HB10 : Hid (Below lo w w10) := by
      unfold Hid
      rw [← hW]
      have h1 := HLO.out
      have h2 := H9.out.2.1
      refine low_set ?_ (by omega)
      refine (Below.mono HX2.out (by omega)).trans ((Below.mono (new_ext w2 (.cells #[.iface tv xv] valT (0, 0))) (by have := HX2.out.size; omega)).trans ⟨h2.os, h2.tape, h2.output, h2.size, fun q hq => h2.block q ?_ (fun e => ?_)⟩)
      · exact Nat.lt_of_lt_of_le (Nat.lt_of_lt_of_le (by omega : q < w.heap.size) HX2.out.size) (new_ext w2 _).size
      · have := (HROW.out.block q e.symm).1
        omega
    clear hW y09 y29 y0 y1 y2
    have HC10 : Hid (∀ W, w10.grownBy W (some k) → StkAt base W (.slice (some ⟨g, 0, none⟩) (m + 1) cp) ({ f with list := f.list ++ [jv] } :: st) ([.slice A9 (n1 + 1) c9, .pointer none, .string ⟨#[]⟩] :: L) ∧ (W.cell? ⟨g, m * 3, none⟩ = some (.slice A9 (n1 + 1) c9) ∧ W.cell? ⟨g, m * 3 + 1, none⟩ = some (.pointer none)) ∧ Below lo w W) := fun W hW => by
      have hs1 := HST10.out.kept hW HLO.out.1
      obtain ⟨g', e, _, _, _, _, hc2, _⟩ := hs1.top
      injection e with e
      injection e with e
      subst e
      rw [← HM.out] at hc2
      refine ⟨hs1, ⟨hc2 0 _ rfl, hc2 1 _ rfl⟩, HB10.out.trans (low_grown hW HLO.out.2.1 ?_)⟩
      have h1 := HLO.out
      have h2 := HB10.out.size
      omega
    have CN := Lib.hid (next_any k s i many _ 0 w10 HQ10.out hs (by omega))
    go_wp2_with fail
    refine Calls.mono CN.out ?_
    rintro e w11 ⟨j11, rfl, hq11, hij, hjs, hsk, hg11⟩
    have HQ11 := Lib.hid hq11
    have HC11 := Lib.hid (HC10.out w11 hg11)
    have HG11 := Lib.hid hg11
    have HSK := Lib.hid hsk
    have hj11 : j11 ≤ s.size := hjs hi
    clear hq11 hg11 hsk hjs CN
    obtain ⟨x, hx⟩ : ∃ x, x = headB (skipW (sfx s i)) := ⟨_, rfl⟩
    rw [← hx]
    obtain ⟨y0, y1⟩ := HC11.out.2.1
    by_cases h93 : x = 93
    · have HX : Hid (∃ r1, skipW (sfx s i) = 93 :: r1 ∧ j11 < s.size ∧ sfx s (j11 + 1) = r1) := by
        rw [h93] at hx
        cases hs2 : skipW (sfx s i) with
        | nil => rw [hs2] at hx; cases hx
        | cons y r1 =>
          rw [hs2] at hx
          have hy : 93 = y := hx
          obtain ⟨a, b, _⟩ := sfx_step (HSK.out.trans hs2)
          exact ⟨r1, by rw [hy], a, b⟩
      obtain ⟨r1, hr1, hjl, hr2⟩ := HX
      have HTE : Hid (T = goesOut st (d + 1) (.list (f.list ++ [jv])) many (sfx s (j11 + 1))) := by unfold Hid; rw [HT.out, goes_lend HF.out hr1, hr2]
      have b93 : ((x.toNat : Int) == 93) = true := by rw [h93]; rfl
      have CC := Lib.hid (close_any k s j11 many g m cp 0 (.iface valsT (.slice A9 (n1 + 1) c9)) w11 HQ11.out (by omega) hncp (by have := HDL.out; omega))
      clear h93 hx hr1 hr2
      go_wp2_with fail
      refine Calls.mono CC.out ?_
      rintro e w12 ⟨rfl, hq12, hg12⟩
      have HQ12 := Lib.hid hq12
      have HC12 := Lib.hid (HC10.out w12 (grown_trans HG11.out hg12))
      clear hq12 hg12 CC y0 y1
      go_wp2_with fail
      go_ret2
      have hpop := HC12.out.1.pop
      have hmm := HM.out
      exact ⟨j11 + 1, many, 0, _, _, true, rfl, HQ12.out, HC12.out.2.2, .inr ⟨rfl, hjl, by omega, hmany, st, L, d + 1, hpop.2, (OKst.tail HOK.out).up (by omega), by have := HDL.out; omega, .inl ⟨rfl, _, HC12.out.1.list_val HF.out, HTE.out⟩⟩⟩
    · have b93 : ((x.toNat : Int) == 93) = false := by
        rw [show (93 : Int) = ((93 : Nat) : Int) from rfl, byte_lit x 93 (by omega)]
        simp [h93]
      by_cases h44 : x = 44
      · have HX : Hid (∃ r1, skipW (sfx s i) = 44 :: r1 ∧ j11 < s.size ∧ sfx s (j11 + 1) = r1) := by
          rw [h44] at hx
          cases hs2 : skipW (sfx s i) with
          | nil => rw [hs2] at hx; cases hx
          | cons y r1 =>
            rw [hs2] at hx
            have hy : 44 = y := hx
            obtain ⟨a, b, _⟩ := sfx_step (HSK.out.trans hs2)
            exact ⟨r1, by rw [hy], a, b⟩
        obtain ⟨r1, hr1, hjl, hr2⟩ := HX
        have HFU : Hid (∃ q, f.fuel = q + 1) := by
          have h1 := (HOK.out f (List.mem_cons_self ..)).1
          exact ⟨f.fuel - 1, by omega⟩
        obtain ⟨q, hq⟩ := HFU
        have HTE : Hid (T = beginOut ({ f with list := f.list ++ [jv], fuel := q } :: st) d many (sfx s (j11 + 1))) := by unfold Hid; rw [HT.out, goes_lmore HF.out hq hr1, hr2]
        have HFQ := Lib.hid hq
        have b44 : ((x.toNat : Int) == 44) = true := by rw [h44]; rfl
        clear h44 h93 hx hr1 hr2 hq
        obtain ⟨z0, z1, z2, z3, z4⟩ := HQ11.out.cells
        have f1 := HQ11.out.free 1
        go_upto_region 15 with (fail)
        generalize hW : World.setCell w11 _ _ = w12
        have HQ12 : Hid (RIn w12 k s (j11 + 1) many (.slice (some ⟨g, 0, none⟩) (m + 1) cp) 0) := by unfold Hid; rw [← hW]; exact HQ11.out.setAt _ _ (by omega)
        have HC12 : Hid (_ ∧ _ ∧ _) := HC10.out w12 (by rw [← hW]; exact grown_trans HG11.out (grown_set _ k 1 _))
        clear hW z0 z1 z2 z3 z4 f1 y0 y1
        obtain ⟨y0, y1⟩ := HC12.out.2.1
        go_wp2_with fail
        go_ret2
        have hst2 : StkAt base w12 (.slice (some ⟨g, 0, none⟩) (m + 1) cp) ({ f with list := f.list ++ [jv], fuel := q } :: st) ([.slice A9 (n1 + 1) c9, .pointer none, .string ⟨#[]⟩] :: L) := HC12.out.1
        exact ⟨j11 + 1, many, 0, _, _, false, rfl, HQ12.out, HC12.out.2.2, .inr ⟨rfl, hjl, by omega, hmany, _, _, d, hst2, (fun p hp => by
          rcases List.mem_cons.1 hp with rfl | hp
          · have h1 := HOK.out f (List.mem_cons_self ..)
            have h2 := HFQ.out
            refine ⟨?_, ?_, ?_⟩
            · show s.size ≤ q + (j11 + 1); omega
            · show (f.list ++ [jv]).length ≤ j11 + 1
              rw [List.length_append]
              show f.list.length + 1 ≤ _
              omega
            · show f.vs.length ≤ j11 + 1; omega
          · have h1 := HOK.out p (List.mem_cons_of_mem _ hp)
            omega), by have h1 := HDL.out; have h2 := HM.out; rw [List.length_cons]; omega, .inr ⟨rfl, HTE.out⟩⟩⟩
      · have b44 : ((x.toNat : Int) == 44) = false := by
          rw [show (44 : Int) = ((44 : Nat) : Int) from rfl, byte_lit x 44 (by omega)]
          simp [h44]
        have HTE : Hid (T = .error 3) := by
          unfold Hid
          rw [HT.out, goes_lbad HF.out (fun r1 e => h93 (by rw [hx, e]; rfl)) (fun r1 e => h44 (by rw [hx, e]; rfl))]
        have CF := Lib.hid (fail_any k s j11 many _ 0 3 w11 HQ11.out)
        clear h44 h93 hx
        go_wp2_with fail
        refine Calls.mono CF.out ?_
        rintro e w12 ⟨rfl, hq12, hg12⟩
        have HQ12 : Hid (RIn w12 k s j11 many (.slice (some ⟨g, 0, none⟩) (m + 1) cp) 3) := hq12
        have HC12 := Lib.hid (HC10.out w12 (grown_trans HG11.out hg12))
        clear hq12 hg12 CF y0 y1
        go_wp2_with fail
        go_ret2
        exact ⟨j11, many, 3, _, _, false, rfl, HQ12.out, HC12.out.2.2, .inl ⟨by decide, HTE.out⟩⟩
end Go.Proofs.YtnccefeehkcneaaGreatDoor.Jm
namespace Go.Proofs.YtnccefeehkcneaaGreatDoor.Jm
open Go Go.RowKit Go.Proofs.YtnccefeehkcneaaGreatDoor.Sx Go.Proofs.YtnccefeehkcneaaGreatDoor.Js Go.Proofs.YtnccefeehkcneaaGreatDoor.Gr Go.Proofs.YtnccefeehkcneaaGreatDoor.Ur
theorem StkAt.refuel {base : Nat} {w : World} {v : Value} {f f' : Fr} {st : List Fr} {L : List (List Value)} (h : StkAt base w v (f :: st) L) (h1 : f'.isObj = f.isObj) (h2 : f'.list = f.list) (h3 : f'.ns = f.ns) (h4 : f'.vs = f.vs) (h5 : f'.name = f.name) : StkAt base w v (f' :: st) L := by
  obtain ⟨a, b, c, e⟩ := h
  refine ⟨a, b, c, ?_⟩
  cases L with
  | nil => exact e.elim
  | cons x L =>
    refine ⟨?_, e.2⟩
    have e1 := e.1
    unfold FrAt at e1 ⊢
    rw [h1, h2, h3, h4, h5]
    exact e1
theorem setJ_rise {ns : List Tx} {l : List J} {t : Tx} {j : J} (hl : ns.length = l.length) (hr : Rise ns) : (setJ ns l t j).1.length = (setJ ns l t j).2.length ∧ Rise (setJ ns l t j).1 ∧ (setJ ns l t j).2.length ≤ l.length + 1 := by
  by_cases ht : t ∈ ns
  · rw [setJ_old ht]
    exact ⟨by rw [List.length_set]; exact hl, hr, by rw [List.length_set]; omega⟩
  · rw [setJ_new ht]
    have hp := place_le ns t
    refine ⟨?_, rise_put hr ht, ?_⟩
    · show (ns.insertIdx _ t).length = (l.insertIdx _ j).length
      rw [List.length_insertIdx_of_le_length hp, List.length_insertIdx_of_le_length (by omega), hl]
    · show (l.insertIdx _ j).length ≤ _
      rw [List.length_insertIdx_of_le_length (by omega)]
      exact Nat.le_refl _
set_option maxRecDepth 100000 in
set_option maxHeartbeats 8000000 in
theorem goes_obj (lo base k : Nat) (s : ByteArray) (i many d : Nat) (A0 : Option Addr) (n cp : Nat) (f : Fr) (st : List Fr) (L : List (List Value)) (jv : J) (u : Value) (w : World) (h : RIn w k s i many (.slice A0 n cp) 0) (hs : s.size ≤ 2000) (hi : i ≤ s.size) (hmany : many ≤ 200) (hst : StkAt base w (.slice A0 n cp) (f :: st) L) (hok : OKst s i (f :: st)) (hf : f.isObj = true) (hpv : PV (FreeB base (.slice A0 n cp) L) w jv u) (hkb : k < base) (hlk : lo ≤ k) (hlw : base ≤ w.heap.size) (hdl : d + (st.length + 1) = 10) (T : Res J) (hT : T = goesOut (f :: st) d jv many (sfx s i)) :
    Calls Tryz.prog 67 #[.pointer (some ⟨k, 0, none⟩), u] w (StepPost lo base k w s i T) := by
  obtain ⟨c, L, rfl⟩ : ∃ c L', L = c :: L' := by
    cases L with
    | nil => exact (hst.2.2.2 : False).elim
    | cons c L' => exact ⟨c, L', rfl⟩
  obtain ⟨b, rfl, hFb, hob, hnl, hri⟩ : ∃ b, c = [.slice none 0 0, .pointer (some ⟨b, 0, none⟩), .string (bx f.name)] ∧ FreeB base (.slice A0 n cp) (c :: L) b ∧ ObjAt (FreeB base (.slice A0 n cp) (c :: L)) w b f.ns f.vs ∧ f.ns.length = f.vs.length ∧ Rise f.ns := by
    rcases hst.2.2.2.1 with ⟨h0, _⟩ | ⟨_, b, h1, h2⟩
    · rw [hf] at h0; cases h0
    · exact ⟨b, h1, h2⟩
  obtain ⟨g, rfl, rfl, hncp, hbg, hlg, hcell, hfr⟩ := hst.top
  obtain ⟨m, hm⟩ : ∃ m, m = st.length := ⟨_, rfl⟩
  have HM : Hid (m = st.length) := hm
  rw [← hm] at hncp hcell hdl h hst hFb hob hpv
  have q0 : (0 : Int) ≤ (m : Int) := by omega
  have q1 : (m : Int) < (m : Int) + 1 := by omega
  have q2 : IntKind.i64.wrap ((m : Int) + 1 - 1) = (m : Int) := by rw [show (m : Int) + 1 - 1 = m by omega]; exact IntWalk.i64_in _ (by omega)
  have q3 : (m : Int).toNat = m := by omega
  have q4 : IntKind.i64.wrap (m : Int) = (m : Int) := IntWalk.i64_in _ (by omega)
  have hiI : i ≤ 2000 := by omega
  have HC : Hid (∀ W, w.grownBy W (some k) → W.cell? ⟨g, m * 3 + 1, none⟩ = some (.pointer (some ⟨b, 0, none⟩)) ∧ W.cell? ⟨g, m * 3 + 2, none⟩ = some (.string (bx f.name)) ∧ W.frozen? ⟨g, m * 3 + 1, none⟩ = false) := fun W hW => by
    obtain ⟨g', e, _, _, _, _, hc2, hf2⟩ := (hst.kept hW hkb).top
    injection e with e
    injection e with e
    subst e
    rw [← hm] at hc2
    exact ⟨hc2 1 _ rfl, hc2 2 _ rfl, hf2 _⟩
  obtain ⟨ns', hns'⟩ : ∃ ns', ns' = (setJ f.ns f.vs f.name jv).1 := ⟨_, rfl⟩
  obtain ⟨vs', hvs'⟩ : ∃ vs', vs' = (setJ f.ns f.vs f.name jv).2 := ⟨_, rfl⟩
  have HSJ : Hid (ns' = (setJ f.ns f.vs f.name jv).1 ∧ vs' = (setJ f.ns f.vs f.name jv).2 ∧ vs'.length ≤ f.vs.length + 1 ∧ ns'.length = vs'.length ∧ Rise ns') := by
    have h := setJ_rise (t := f.name) (j := jv) hnl hri
    rw [← hns', ← hvs'] at h
    exact ⟨hns', hvs', h.2.2, h.1, h.2.1⟩
  have hvl := (hok f (List.mem_cons_self ..)).2.2
  have H := Lib.hid h
  have HST := Lib.hid hst
  have HLO := Lib.hid (And.intro hkb (And.intro hlk (And.intro hlw (And.intro hbg hlg))))
  have HOK := Lib.hid hok
  have HPV := Lib.hid hpv
  have HF := Lib.hid hf
  have HT := Lib.hid hT
  have HDL := Lib.hid hdl
  have HOB := Lib.hid (And.intro hFb (And.intro hob (And.intro hnl hri)))
  clear h hst hok hpv hf hT hdl hcell hfr hm hFb hob hnl hri hns' hvs'
  obtain ⟨z0, z1, z2, z3, z4⟩ := H.out.cells
  go_enter Tryz.func67, Tryz.ntmps67
  go_wp2_with fail
  go_quiet (fail)
  generalize hW : World.drewN w _ = w2
  have HX2 : Hid (Ext w w2) := by rw [← hW]; exact ext_drewN' _ _
  clear hW z0 z1 z2 z3 z4
  have HQ2 := Lib.hid (H.out.ext HX2.out)
  obtain ⟨y0, y1, y2⟩ := HC.out w2 (grown_ext HX2.out)
  have HST2 := Lib.hid (HST.out.ext HX2.out)
  have HS : Hid (∀ W, Ext w2 W → W.cell? ⟨g, m * 3 + 1, none⟩ = some (.pointer (some ⟨b, 0, none⟩)) ∧ W.cell? ⟨g, m * 3 + 2, none⟩ = some (.string (bx f.name))) := fun W hW => by
    have h1 := HC.out W (grown_ext (HX2.out.trans hW))
    exact ⟨h1.1, h1.2.1⟩
  have CW : Hid (∀ W, Ext w2 W → Calls Tryz.prog 35 #[.pointer (some ⟨b, 0, none⟩), .string (bx f.name), u] W fun e w' => ∃ b', e = .returned (.pointer (some ⟨b', 0, none⟩)) ∧ Ext w2 w' ∧ w2.heap.size ≤ b' ∧ ObjAt (fun q => FreeB base (.slice (some ⟨g, 0, none⟩) (m + 1) cp) ([.slice none 0 0, .pointer (some ⟨b, 0, none⟩), .string (bx f.name)] :: L) q ∨ w2.heap.size ≤ q) w' b' ns' vs') := fun W hW => by
    have hx := HX2.out.trans hW
    have ho := HOB.out
    have hwi := with_any (FreeB base (.slice (some ⟨g, 0, none⟩) (m + 1) cp) ([.slice none 0 0, .pointer (some ⟨b, 0, none⟩), .string (bx f.name)] :: L)) b f.ns f.vs f.name jv u W (ho.2.1.keep ho.1 (fun q _ hlt => hx.block q hlt) (fun q hq _ => hq)) ho.2.2.1 ho.2.2.2 (by omega) (HPV.out.ext hx)
    rw [← HSJ.out.1, ← HSJ.out.2.1] at hwi
    refine hwi.mono fun e w' ⟨b', he, hb', ho', hx'⟩ => ⟨b', he, hW.trans hx', Nat.le_trans hW.size hb', ho'.keep (.inr hb') (fun _ _ _ => rfl) (fun q hq _ => hq.imp id (fun h => Nat.le_trans hW.size h))⟩
  go_upto_region 4 with (fail)
  refine wp_region_split (fun w' => w'.cell? ⟨g, m * 3 + 1, none⟩ = some (.pointer (some ⟨b, 0, none⟩)) ∧ w'.cell? ⟨g, m * 3 + 2, none⟩ = some (.string (bx f.name))) 13 (by kernel_rfl) (by kernel_rfl) (by exact HS.out _ (by repeat (first | assumption | exact Below.refl _ _ | apply ext_al | apply ext_dr))) (fun hHeld => ?_)
  simp only [List.take_succ_cons, List.take_zero, List.drop_succ_cons, List.drop_zero]
  refine wpAnyH_take (i := 0) (v := ?_) rfl (by kernel_rfl) (by kernel_rfl) (by kernel_rfl) (fun _ _ _ h => h) (Or.inl ⟨by rfl, ?_⟩) (by assumption) ?_
  rotate_left
  · intro w hSw
    (try dsimp only at hSw)
    go_simp
    (try with_reducible rfl)
  (try simp only [Act.put, List.setIfInBounds_toArray])
  refine wpAnyH_take (i := 1) (v := ?_) rfl (by kernel_rfl) (by kernel_rfl) (by kernel_rfl) (fun _ _ _ h => h) (Or.inl ⟨by rfl, ?_⟩) (by assumption) ?_
  rotate_left
  · intro w hSw
    (try dsimp only at hSw)
    go_simp
    (try with_reducible rfl)
  (try simp only [Act.put])
  refine wpAnyH_take (i := 2) (v := ?_) rfl (by kernel_rfl) (by kernel_rfl) (by kernel_rfl) (fun _ _ _ h => h) (Or.inl ⟨by rfl, ?_⟩) (by assumption) ?_
  rotate_left
  · intro w hSw
    (try dsimp only at hSw)
    go_simp
    (try with_reducible rfl)
  (try simp only [Act.put])
  refine wpAnyH_take (i := 3) (v := ?_) rfl (by kernel_rfl) (by kernel_rfl) (by kernel_rfl) (fun _ _ _ h => h) (Or.inl ⟨by rfl, ?_⟩) (by assumption) ?_
  rotate_left
  · intro w hSw
    (try dsimp only at hSw)
    go_simp
    (try with_reducible rfl)
  (try simp only [Act.put])
  refine wpAnyH_take (i := 4) (v := ?_) rfl (by kernel_rfl) (by kernel_rfl) (by kernel_rfl) (fun _ _ _ h => h) (Or.inl ⟨by rfl, ?_⟩) (by assumption) ?_
  rotate_left
  · intro w hSw
    (try dsimp only at hSw)
    go_simp
    (try with_reducible rfl)
  (try simp only [Act.put])
  refine wpAnyH_take (i := 5) (v := ?_) rfl (by kernel_rfl) (by kernel_rfl) (by kernel_rfl) (fun _ _ _ h => h) (Or.inl ⟨by rfl, ?_⟩) (by assumption) ?_
  rotate_left
  · intro w hSw
    (try dsimp only at hSw)
    go_simp
    (try with_reducible rfl)
  (try simp only [Act.put])
  refine wpAnyH_take (i := 6) (v := ?_) rfl (by kernel_rfl) (by kernel_rfl) (by kernel_rfl) (fun _ _ _ h => h) (Or.inl ⟨by rfl, ?_⟩) (by assumption) ?_
  rotate_left
  · intro w hSw
    (try dsimp only at hSw)
    go_simp
    (try with_reducible rfl)
  (try simp only [Act.put])
  refine wpAnyH_take (i := 7) (v := ?_) rfl (by kernel_rfl) (by kernel_rfl) (by kernel_rfl) (fun _ _ _ h => h) (Or.inl ⟨by rfl, ?_⟩) (by assumption) ?_
  rotate_left
  · intro w hSw
    (try dsimp only at hSw)
    go_simp
    (try with_reducible rfl)
  (try simp only [Act.put])
  refine wpAnyH_take (i := 8) (v := ?_) rfl (by kernel_rfl) (by kernel_rfl) (by kernel_rfl) (fun _ _ _ h => h) (Or.inl ⟨by rfl, ?_⟩) (by assumption) ?_
  rotate_left
  · intro w hSw
    (try dsimp only at hSw)
    go_simp
    (try with_reducible rfl)
  (try simp only [Act.put])
  refine wpAnyH_take (i := 9) (v := ?_) rfl (by kernel_rfl) (by kernel_rfl) (by kernel_rfl) (fun _ _ _ h => h) (Or.inl ⟨by rfl, ?_⟩) (by assumption) ?_
  rotate_left
  · intro w hSw
    (try dsimp only at hSw)
    go_simp
    (try with_reducible rfl)
  (try simp only [Act.put])
  refine wpAnyH_ready (rs := [10]) (by kernel_rfl) (by simp) ?_
  refine AllReadyH.cons rfl (fun KQ hKQ => ?_) AllReadyH.nil
  go_simp; (refine Calls.mono (CW.out _ (by repeat (first | assumption | exact Below.refl _ _ | apply ext_al | apply ext_dr))) ?_); rintro e w9 ⟨b9, rfl, x9, hb9, ho9⟩; (try dsimp only)
  refine hKQ.out _ _ (by exact HS.out _ (by repeat (first | assumption | exact Below.refl _ _ | apply ext_al | apply ext_dr))) (fun hHeld => ?_)
  clear hKQ KQ
  (try simp only [Act.put, List.setIfInBounds_toArray, List.set_cons_zero, List.set_cons_succ])
  refine wpAnyH_take (i := 11) (v := ?_) rfl (by kernel_rfl) (by kernel_rfl) (by kernel_rfl) (fun _ _ _ h => h) (Or.inl ⟨by rfl, ?_⟩) (by assumption) ?_
  rotate_left
  · intro w hSw
    (try dsimp only at hSw)
    go_simp
    (try with_reducible rfl)
  (try simp only [Act.put, List.setIfInBounds_toArray])
  refine wpAnyH_take (i := 12) (v := ?_) rfl (by kernel_rfl) (by kernel_rfl) (by kernel_rfl) (fun _ _ _ h => h) (Or.inl ⟨by rfl, ?_⟩) (by assumption) ?_
  rotate_left
  · intro w hSw
    (try dsimp only at hSw)
    go_simp
    (try with_reducible rfl)
  (try simp only [Act.put])
  refine wpAnyH_done (by kernel_rfl) ?_ _
  refine TailQ.normal ?_
  have HX9 := Lib.hid x9
  have y19 : w9.cell? ⟨g, m * 3 + 1, none⟩ = some (.pointer (some ⟨b, 0, none⟩)) := (HS.out w9 x9).1
  have y29 : w9.frozen? ⟨g, m * 3 + 1, none⟩ = false := (frozen_keep (x9.block g (Nat.lt_of_lt_of_le HLO.out.2.2.2.2 HX2.out.size))).trans y2
  have H9 := Lib.hid (And.intro hb9 ho9)
  clear x9 hb9 ho9 hHeld
  go_upto_region 5 with (fail)
  generalize hW : World.setCell w9 _ _ = w10
  have HST10 : Hid (StkAt base w10 (.slice (some ⟨g, 0, none⟩) (m + 1) cp) ({ f with ns := ns', vs := vs' } :: st) ([.slice none 0 0, .pointer (some ⟨b9, 0, none⟩), .string (bx f.name)] :: L)) := by
    unfold Hid
    rw [← hW, HM.out]
    have h2 := HST2.out
    have h3 := H9.out
    rw [HM.out] at h2 h3
    exact StkAt.obj h2 HX9.out h3.1 h3.2 HSJ.out.2.2.2.1 HSJ.out.2.2.2.2 { f with ns := ns', vs := vs' } HF.out rfl rfl rfl
  have HQ10 : Hid (RIn w10 k s i many (.slice (some ⟨g, 0, none⟩) (m + 1) cp) 0) := by
    unfold Hid
    rw [← hW]
    have h1 := HLO.out
    exact (set_heap2 (by omega)).trans (HQ2.out.ext HX9.out)
  have HB10 : Hid (Below lo w w10) := by
    unfold Hid
    rw [← hW]
    have h1 := HLO.out
    have h2 := HX2.out.size
    exact low_set ((Below.mono HX2.out (by omega)).trans (Below.mono HX9.out (by omega))) (by omega)
  clear hW y19 y29 y0 y1 y2
  have HC10 : Hid (∀ W, w10.grownBy W (some k) → StkAt base W (.slice (some ⟨g, 0, none⟩) (m + 1) cp) ({ f with ns := ns', vs := vs' } :: st) ([.slice none 0 0, .pointer (some ⟨b9, 0, none⟩), .string (bx f.name)] :: L) ∧ W.cell? ⟨g, m * 3 + 1, none⟩ = some (.pointer (some ⟨b9, 0, none⟩)) ∧ Below lo w W) := fun W hW => by
    have hs1 := HST10.out.kept hW HLO.out.1
    obtain ⟨g', e, _, _, _, _, hc2, _⟩ := hs1.top
    injection e with e
    injection e with e
    subst e
    rw [← HM.out] at hc2
    refine ⟨hs1, hc2 1 _ rfl, HB10.out.trans (low_grown hW HLO.out.2.1 ?_)⟩
    have h1 := HLO.out
    have h2 := HB10.out.size
    omega
  have CN := Lib.hid (next_any k s i many _ 0 w10 HQ10.out hs (by omega))
  go_wp2_with fail
  refine Calls.mono CN.out ?_
  rintro e w11 ⟨j11, rfl, hq11, hij, hjs, hsk, hg11⟩
  have HQ11 := Lib.hid hq11
  have HC11 := Lib.hid (HC10.out w11 hg11)
  have HG11 := Lib.hid hg11
  have HSK := Lib.hid hsk
  have hj11 : j11 ≤ s.size := hjs hi
  clear hq11 hg11 hsk hjs CN
  obtain ⟨x, hx⟩ : ∃ x, x = headB (skipW (sfx s i)) := ⟨_, rfl⟩
  rw [← hx]
  have y1 := HC11.out.2.1
  by_cases h93 : x = 125
  · have HX : Hid (∃ r1, skipW (sfx s i) = 125 :: r1 ∧ j11 < s.size ∧ sfx s (j11 + 1) = r1) := by
      rw [h93] at hx
      cases hs2 : skipW (sfx s i) with
      | nil => rw [hs2] at hx; cases hx
      | cons y r1 =>
        rw [hs2] at hx
        have hy : 125 = y := hx
        obtain ⟨a, b, _⟩ := sfx_step (HSK.out.trans hs2)
        exact ⟨r1, by rw [hy], a, b⟩
    obtain ⟨r1, hr1, hjl, hr2⟩ := HX
    have HTE : Hid (T = goesOut st (d + 1) (.obj ns' vs') many (sfx s (j11 + 1))) := by unfold Hid; rw [HT.out, goes_oend HF.out hr1, hr2, HSJ.out.1, HSJ.out.2.1]
    have b93 : ((x.toNat : Int) == 125) = true := by rw [h93]; rfl
    have CC := Lib.hid (close_any k s j11 many g m cp 0 (.iface objPT (.pointer (some ⟨b9, 0, none⟩))) w11 HQ11.out (by omega) hncp (by have := HDL.out; omega))
    clear h93 hx hr1 hr2
    go_wp2_with fail
    refine Calls.mono CC.out ?_
    rintro e w12 ⟨rfl, hq12, hg12⟩
    have HQ12 := Lib.hid hq12
    have HC12 := Lib.hid (HC10.out w12 (grown_trans HG11.out hg12))
    clear hq12 hg12 CC y1
    go_wp2_with fail
    go_ret2
    have hpop := HC12.out.1.pop
    have hmm := HM.out
    exact ⟨j11 + 1, many, 0, _, _, true, rfl, HQ12.out, HC12.out.2.2, .inr ⟨rfl, hjl, by omega, hmany, st, L, d + 1, hpop.2, (OKst.tail HOK.out).up (by omega), by have := HDL.out; omega, .inl ⟨rfl, _, HC12.out.1.obj_val HF.out, HTE.out⟩⟩⟩
  · have b93 : ((x.toNat : Int) == 125) = false := by
      rw [show (125 : Int) = ((125 : Nat) : Int) from rfl, byte_lit x 125 (by omega)]
      simp [h93]
    by_cases h44 : x = 44
    · have HX : Hid (∃ r1, skipW (sfx s i) = 44 :: r1 ∧ j11 < s.size ∧ sfx s (j11 + 1) = r1) := by
        rw [h44] at hx
        cases hs2 : skipW (sfx s i) with
        | nil => rw [hs2] at hx; cases hx
        | cons y r1 =>
          rw [hs2] at hx
          have hy : 44 = y := hx
          obtain ⟨a, b, _⟩ := sfx_step (HSK.out.trans hs2)
          exact ⟨r1, by rw [hy], a, b⟩
      obtain ⟨r1, hr1, hjl, hr2⟩ := HX
      have HFU : Hid (∃ q, f.fuel = q + 1) := by
        have h1 := (HOK.out f (List.mem_cons_self ..)).1
        exact ⟨f.fuel - 1, by omega⟩
      obtain ⟨q, hq⟩ := HFU
      have HTE : Hid (T = match nameS ns' (sfx s (j11 + 1)) with | .error e => .error e | .ok (t, r3) => beginOut ({ f with ns := ns', vs := vs', name := t, fuel := q } :: st) d many r3) := by
        unfold Hid
        rw [HT.out, goes_omore HF.out hq hr1, hr2, HSJ.out.1, HSJ.out.2.1]
        cases nameS ns' r1 <;> rfl
      have HFQ := Lib.hid hq
      have b44 : ((x.toNat : Int) == 44) = true := by rw [h44]; rfl
      clear h44 h93 hx hr1 hr2 hq
      obtain ⟨z0, z1, z2, z3, z4⟩ := HQ11.out.cells
      have f1 := HQ11.out.free 1
      go_upto_region 15 with (fail)
      generalize hW : World.setCell w11 _ _ = w12
      have HQ12 : Hid (RIn w12 k s (j11 + 1) many (.slice (some ⟨g, 0, none⟩) (m + 1) cp) 0) := by unfold Hid; rw [← hW]; exact HQ11.out.setAt _ _ (by omega)
      have HC12 : Hid (_ ∧ _ ∧ _) := HC10.out w12 (by rw [← hW]; exact grown_trans HG11.out (grown_set _ k 1 _))
      clear hW z0 z1 z2 z3 z4 f1 y1
      have y1 := HC12.out.2.1
      have CFD : Hid (Calls Tryz.prog 121 #[.pointer (some ⟨k, 0, none⟩)] w12 (FieldPost lo base k w12 s (j11 + 1) many (.slice (some ⟨g, 0, none⟩) (m + 1) cp) { f with ns := ns', vs := vs' } st)) :=
        field_any lo base k s (j11 + 1) many _ _ _ { f with ns := ns', vs := vs' } st _ w12 HQ12.out hs hjl HC12.out.1 HF.out HLO.out.1 HLO.out.2.1 (by have h1 := HLO.out; have h2 := HC12.out.2.2.size; omega) (by have := HDL.out; have := HM.out; omega) (by
          show vs'.length ≤ 2000
          have h1 := HSJ.out.2.2.1
          have h2 := (HOK.out f (List.mem_cons_self ..)).2.2
          omega)
      go_wp2_with fail
      refine Calls.mono CFD.out ?_
      rintro e w13 ⟨j13, bad13, rfl, hq13, hb13, ⟨rfl, hj13, hjj, t, hnm, L', hst13⟩ | ⟨hbad, hnm⟩⟩
      · have HQ13 := Lib.hid hq13
        have H13 := Lib.hid (And.intro hb13 (And.intro hnm hst13))
        clear hq13 hb13 hnm hst13 y1
        go_wp2_with fail
        go_ret2
        have hst2 : StkAt base w13 (.slice (some ⟨g, 0, none⟩) (m + 1) cp) ({ f with ns := ns', vs := vs', name := t, fuel := q } :: st) L' := StkAt.refuel H13.out.2.2 rfl rfl rfl rfl rfl
        exact ⟨j13, many, 0, _, _, false, rfl, HQ13.out, HC12.out.2.2.trans H13.out.1, .inr ⟨rfl, hj13, by omega, hmany, _, L', d, hst2, (fun p hp => by
          rcases List.mem_cons.1 hp with rfl | hp
          · have h1 := HOK.out f (List.mem_cons_self ..)
            have h2 := HFQ.out
            have h3 := HSJ.out.2.2.1
            refine ⟨?_, ?_, ?_⟩
            · show s.size ≤ q + j13; omega
            · show f.list.length ≤ j13; omega
            · show vs'.length ≤ j13; omega
          · have h1 := HOK.out p (List.mem_cons_of_mem _ hp)
            omega), by have h1 := HDL.out; have h2 := HM.out; rw [List.length_cons]; omega, .inr ⟨rfl, by
              rw [HTE.out]
              have hn : nameS ns' (sfx s (j11 + 1)) = .ok (t, sfx s j13) := H13.out.2.1
              rw [hn]⟩⟩⟩
      · have HQ13 := Lib.hid hq13
        have H13 := Lib.hid (And.intro hb13 (And.intro hnm hbad))
        clear hq13 hb13 hnm hbad y1
        go_wp2_with fail
        go_ret2
        exact ⟨j13, many, bad13, _, _, false, rfl, HQ13.out, HC12.out.2.2.trans H13.out.1, .inl ⟨H13.out.2.2, by
          rw [HTE.out]
          have hn : nameS ns' (sfx s (j11 + 1)) = .error bad13 := H13.out.2.1
          rw [hn]⟩⟩
    · have b44 : ((x.toNat : Int) == 44) = false := by
        rw [show (44 : Int) = ((44 : Nat) : Int) from rfl, byte_lit x 44 (by omega)]
        simp [h44]
      have HTE : Hid (T = .error 3) := by
        unfold Hid
        rw [HT.out, goes_obad HF.out (fun r1 e => h93 (by rw [hx, e]; rfl)) (fun r1 e => h44 (by rw [hx, e]; rfl))]
      have CF := Lib.hid (fail_any k s j11 many _ 0 3 w11 HQ11.out)
      clear h44 h93 hx
      go_wp2_with fail
      refine Calls.mono CF.out ?_
      rintro e w12 ⟨rfl, hq12, hg12⟩
      have HQ12 : Hid (RIn w12 k s j11 many (.slice (some ⟨g, 0, none⟩) (m + 1) cp) 3) := hq12
      have HC12 := Lib.hid (HC10.out w12 (grown_trans HG11.out hg12))
      clear hq12 hg12 CF y1
      go_wp2_with fail
      go_ret2
      exact ⟨j11, many, 3, _, _, false, rfl, HQ12.out, HC12.out.2.2, .inl ⟨by decide, HTE.out⟩⟩
end Go.Proofs.YtnccefeehkcneaaGreatDoor.Jm
namespace Go.Proofs.YtnccefeehkcneaaGreatDoor.Jm
open Go Go.RowKit Go.Proofs.YtnccefeehkcneaaGreatDoor.Sx Go.Proofs.YtnccefeehkcneaaGreatDoor.Js Go.Proofs.YtnccefeehkcneaaGreatDoor.Gr Go.Proofs.YtnccefeehkcneaaGreatDoor.Ur
theorem begin_skip (st : List Fr) (d many : Nat) (s : Tx) : beginOut st d many (skipW s) = beginOut st d many s := by
  unfold beginOut
  rw [value_skip]
set_option maxRecDepth 100000 in
set_option maxHeartbeats 16000000 in
theorem begin_any (lo base k : Nat) (s : ByteArray) (i many d : Nat) (A : Option Addr) (m cp : Nat) (st : List Fr) (L : List (List Value)) (w : World) (h : RIn w k s i many (.slice A m cp) 0) (hs : s.size ≤ 2000) (hi : i ≤ s.size) (hmany : many ≤ 200) (hst : StkAt base w (.slice A m cp) st L) (hok : OKst s i st) (hkb : k < base) (hlk : lo ≤ k) (hlw : base ≤ w.heap.size) (hdl : d + st.length = 10) (T : Res J) (hT : T = beginOut st d many (sfx s i)) :
    Calls Tryz.prog 64 #[.pointer (some ⟨k, 0, none⟩)] w (StepPost lo base k w s i T) := by
  have hms : m = st.length := by
    obtain ⟨A', c', e, _⟩ := hst.slice
    injection e
  have H := Lib.hid h
  have HST := Lib.hid hst
  have HLO : Hid (k < base ∧ lo ≤ k ∧ lo ≤ w.heap.size) := ⟨hkb, hlk, by omega⟩
  have HLW := Lib.hid hlw
  have HOK := Lib.hid hok
  have HT := Lib.hid hT
  have HDL := Lib.hid hdl
  have HMS := Lib.hid hms
  have hm10 : m ≤ 10 := by omega
  clear h hst hok hT hdl hms hkb hlk hlw
  have CN := Lib.hid (next_any k s i many _ 0 w H.out hs (by omega))
  go_enter Tryz.func64, Tryz.ntmps64
  go_wp2_with fail
  refine Calls.mono CN.out ?_
  rintro e w2 ⟨j2, rfl, hq2, hij, hjs, hsk, hg2⟩
  have HQ2 := Lib.hid hq2
  have HG2 := Lib.hid hg2
  have HSK := Lib.hid hsk
  have hj2 : j2 ≤ s.size := hjs hi
  clear hq2 hg2 hsk hjs CN
  obtain ⟨c, hcc⟩ : ∃ c, c = headB (skipW (sfx s i)) := ⟨_, rfl⟩
  rw [← hcc]
  have HCC := Lib.hid hcc
  by_cases hstart : starts c = true ∧ skipW (sfx s i) ≠ []
  · obtain ⟨r, hr⟩ : ∃ r, skipW (sfx s i) = c :: r := by
      cases h2 : skipW (sfx s i) with
      | nil => exact absurd h2 hstart.2
      | cons y r => rw [h2] at hcc; exact ⟨r, by rw [hcc]; rfl⟩
    have HSKW := Lib.hid hr
    have HJS : Hid (sfx s j2 = c :: r) := by unfold Hid; rw [HSK.out]; exact hr
    have HJL : Hid (j2 < s.size ∧ sfx s (j2 + 1) = r ∧ byteAt s j2 = c) := sfx_step HJS.out
    have HSTA : Hid (starts c = true) := hstart.1
    clear hcc hr hstart
    by_cases h91 : c = 91
    · subst h91
      have b91 : ((91 : Nat) == 91) = true := rfl
      clear b91
      have hc91 : (((91 : UInt8).toNat : Nat) : Int) = 91 := rfl
      rw [hc91]
      clear hc91
      obtain ⟨z0, z1, z2, z3, z4⟩ := HQ2.out.cells
      have f2 := HQ2.out.free 2
      have hmI : (many : Int) ≤ 200 := by omega
      go_upto_region 7 with (fail)
      generalize hW : World.setCell w2 _ _ = w3
      have HQ3 : Hid (RIn w3 k s j2 (many + 1) (.slice A m cp) 0) := by unfold Hid; rw [← hW]; exact HQ2.out.setMany _ _ (by omega)
      have HG3 : Hid (w.grownBy w3 (some k)) := by unfold Hid; rw [← hW]; exact grown_trans HG2.out (grown_set _ k 2 _)
      clear hW z0 z1 z2 z3 z4 f2
      obtain ⟨z0, z1, z2, z3, z4⟩ := HQ3.out.cells
      rw [show ((many + 1 : Nat) : Int) = (many : Int) + 1 by omega] at z2
      by_cases hbig : 200 < many + 1
      · have HTE : Hid (T = .error 2) := by unfold Hid; rw [HT.out, begin_many HSKW.out HSTA.out hbig]
        have b200 : decide ((200 : Int) < (many : Int) + 1) = true := decide_eq_true (by omega)
        clear hbig
        have CF := Lib.hid (fail_any k s j2 (many + 1) _ 0 2 w3 HQ3.out)
        go_wp2_with fail
        refine Calls.mono CF.out ?_
        rintro e w4 ⟨rfl, hq4, hg4⟩
        have HQ4 : Hid (RIn w4 k s j2 (many + 1) (.slice A m cp) 2) := hq4
        have HB4 := Lib.hid (low_grown (grown_trans HG3.out hg4) HLO.out.2.1 HLO.out.2.2)
        clear hq4 hg4 CF z0 z1 z2 z3 z4
        obtain ⟨z0, z1, z2, z3, z4⟩ := HQ4.out.cells
        go_wp2_with fail
        go_ret2
        exact ⟨j2, many + 1, 2, _, _, false, rfl, HQ4.out, HB4.out, .inl ⟨by decide, HTE.out⟩⟩
      · have HBIG := Lib.hid hbig
        have b200 : decide ((200 : Int) < (many : Int) + 1) = false := decide_eq_false (by omega)
        clear hbig
        by_cases hm : m = 10
        · have HTE : Hid (T = .error 4) := by
            have h1 := HDL.out
            have h2 := HMS.out
            obtain rfl : d = 0 := by omega
            unfold Hid
            rw [HT.out, begin_deep HSKW.out (.inl rfl) HBIG.out]
          have bm : ((m : Int) == 10) = true := by rw [beq_iff_eq]; omega
          clear hm
          have CF := Lib.hid (fail_any k s j2 (many + 1) _ 0 4 w3 HQ3.out)
          go_wp2_with fail
          refine Calls.mono CF.out ?_
          rintro e w4 ⟨rfl, hq4, hg4⟩
          have HQ4 : Hid (RIn w4 k s j2 (many + 1) (.slice A m cp) 4) := hq4
          have HB4 := Lib.hid (low_grown (grown_trans HG3.out hg4) HLO.out.2.1 HLO.out.2.2)
          clear hq4 hg4 CF z0 z1 z2 z3 z4
          obtain ⟨z0, z1, z2, z3, z4⟩ := HQ4.out.cells
          go_wp2_with fail
          go_ret2
          exact ⟨j2, many + 1, 4, _, _, false, rfl, HQ4.out, HB4.out, .inl ⟨by decide, HTE.out⟩⟩
        · have bm : ((m : Int) == 10) = false := by rw [beq_eq_false_iff_ne]; omega
          obtain ⟨d', hd'⟩ : ∃ d', d = d' + 1 := ⟨d - 1, by have h1 := HDL.out; have h2 := HMS.out; omega⟩
          have HD := Lib.hid hd'
          have f1 := HQ3.out.free 1
          have hj2I : j2 ≤ 2000 := by omega
          clear hm hd'
          go_upto_region 16 with (fail)
          generalize hW : World.setCell w3 _ _ = w4
          have HQ4 : Hid (RIn w4 k s (j2 + 1) (many + 1) (.slice A m cp) 0) := by unfold Hid; rw [← hW]; exact HQ3.out.setAt _ _ (by omega)
          have HG4 : Hid (w.grownBy w4 (some k)) := by unfold Hid; rw [← hW]; exact grown_trans HG3.out (grown_set _ k 1 _)
          clear hW z0 z1 z2 z3 z4 f1 bm
          have HST4 := Lib.hid (HST.out.kept HG4.out HLO.out.1)
          obtain ⟨z0, z1, z2, z3, z4⟩ := HQ4.out.cells
          have f3 := HQ4.out.free 3
          have hbase4 : base ≤ w4.heap.size := Nat.le_trans HLW.out HG4.out.size
          have HLL : Hid (L.reverse.length = m) := by
            obtain ⟨A', c', e, _⟩ := HST4.out.1.slice
            injection e with _ e _
            exact e.symm
          go_upto_region 17 with (at_builtin; refine append_g ty_open rfl _ _ (by rfl) base m 1 _ (.slice A m cp) (.slice (some ⟨w4.heap.size, 0, none⟩) 1 1) L.reverse [[.slice none 0 0, .pointer none, .string ⟨#[]⟩]] (by rfl) (by rfl) (HST4.out.1.ext (new_ext w4 (.cells #[.slice none 0 0, .pointer none, .string ⟨#[]⟩] openT (0, 0)))) (GSrc.one rfl (fun q hq => by simp only [List.mem_cons, List.not_mem_nil, or_false] at hq; rcases hq with rfl | rfl | rfl <;> rfl) (heap_new (by simp))) HLL.out rfl (by omega) (Nat.le_trans hbase4 (Below.size (new_ext w4 (.cells #[.slice none 0 0, .pointer none, .string ⟨#[]⟩] openT (0, 0))))) ?_; intro A9 c9 w9 h9 g9 o9; have hq9 : RIn w9 k s (j2 + 1) (many + 1) (.slice A m cp) 0 := (HQ4.out.ext (new_ext w4 (.cells #[.slice none 0 0, .pointer none, .string ⟨#[]⟩] openT (0, 0)))).kept g9 (fun e => by have h1 := (HST4.out.1.block k e).1; have h2 := HLO.out.1; omega); have z39 := hq9.cells.2.2.2.1; have f39 := hq9.free 3; have H9 := Lib.hid (And.intro h9 (And.intro g9 (And.intro o9 hq9))); clear h9 g9 o9 hq9)
          generalize hW : World.setCell w9 _ _ = w10
          have HQ10 : Hid (RIn w10 k s (j2 + 1) (many + 1) (.slice A9 (m + 1) c9) 0) := by unfold Hid; rw [← hW]; exact H9.out.2.2.2.setStack _
          have HST10 : Hid (StkAt base w10 (.slice A9 (m + 1) c9) (⟨false, [], [], [], [], 2000⟩ :: st) ([.slice none 0 0, .pointer none, .string ⟨#[]⟩] :: L)) := by
            unfold Hid
            rw [← hW]
            refine StkAt.kept (StkAt.push (HST4.out.ext (new_ext w4 (.cells #[.slice none 0 0, .pointer none, .string ⟨#[]⟩] openT (0, 0)))) H9.out.1 H9.out.2.1 H9.out.2.2.1 (.inl ⟨rfl, none, 0, 0, [], rfl, GRow.nil, rfl, (fun q hq _ => by cases hq)⟩) rfl) (grown_set w9 k 3 _) HLO.out.1
          have HB10 : Hid (Below lo w w10) := by
            unfold Hid
            rw [← hW]
            have h1 := HLO.out
            have h2 := H9.out.2.1
            have hx := Below.size (new_ext w4 (.cells #[.slice none 0 0, .pointer none, .string ⟨#[]⟩] openT (0, 0)))
            have h4 := HG4.out.size
            have h5 := HLW.out
            refine low_set ((low_grown HG4.out h1.2.1 h1.2.2).trans ((Below.mono (new_ext w4 (.cells #[.slice none 0 0, .pointer none, .string ⟨#[]⟩] openT (0, 0))) (by omega)).trans ⟨h2.os, h2.tape, h2.output, h2.size, fun q hq => h2.block q ?_ (fun e => ?_)⟩)) h1.2.1
            · exact Nat.lt_of_lt_of_le (by omega : q < w4.heap.size) hx
            · have := (HST4.out.1.block q e.symm).1
              omega
          clear hW z0 z1 z2 z3 z4 f3 z39 f39
          have HC10 : Hid (∀ W, w10.grownBy W (some k) → StkAt base W (.slice A9 (m + 1) c9) (⟨false, [], [], [], [], 2000⟩ :: st) ([.slice none 0 0, .pointer none, .string ⟨#[]⟩] :: L) ∧ Below lo w W) := fun W hW =>
            ⟨HST10.out.kept hW HLO.out.1, HB10.out.trans (low_grown hW HLO.out.2.1 (by have h1 := HLO.out.2.2; have h2 := HB10.out.size; omega))⟩
          have CN := Lib.hid (next_any k s (j2 + 1) (many + 1) _ 0 w10 HQ10.out hs (by omega))
          go_wp2_with fail
          refine Calls.mono CN.out ?_
          rintro e w11 ⟨j11, rfl, hq11, hij11, hjs, hsk, hg11⟩
          have HQ11 := Lib.hid hq11
          have HC11 := Lib.hid (HC10.out w11 hg11)
          have HG11 := Lib.hid hg11
          have HSK11 : Hid (sfx s j11 = skipW r) := by unfold Hid; rw [hsk, HJL.out.2.1]
          have hj11 : j11 ≤ s.size := hjs HJL.out.1
          clear hq11 hg11 hsk hjs CN
          obtain ⟨x, hx⟩ : ∃ x, x = headB (skipW (sfx s (j2 + 1))) := ⟨_, rfl⟩
          rw [← hx]
          have HX := Lib.hid hx
          by_cases hend : x = 93
          · have HE : Hid (∃ r2, skipW r = 93 :: r2 ∧ j11 < s.size ∧ sfx s (j11 + 1) = r2) := by
              rw [HJL.out.2.1, hend] at hx
              cases hs2 : skipW r with
              | nil => rw [hs2] at hx; cases hx
              | cons y r1 =>
                rw [hs2] at hx
                have hy : 93 = y := hx
                obtain ⟨a, b, _⟩ := sfx_step (HSK11.out.trans hs2)
                exact ⟨r1, by rw [hy], a, b⟩
            obtain ⟨r2, hr2, hjl, hr3⟩ := HE
            have HTE : Hid (T = goesOut st d (.list []) (many + 1) (sfx s (j11 + 1))) := by
              have h1 := HSKW.out
              have h2 := HD.out
              subst h2
              unfold Hid
              rw [HT.out, begin_nolist h1 HBIG.out hr2, hr3]
            have bend : ((x.toNat : Int) == 93) = true := by rw [hend]; rfl
            clear hend hx hr2 hr3
            obtain ⟨g, hA9, _, hc9, _, _⟩ := HC11.out.1.top
            subst hA9
            have CC := Lib.hid (close_any k s j11 (many + 1) g m c9 0 (.iface valsT (.slice none 0 0)) w11 HQ11.out (by omega) (by have := HMS.out; omega) (by omega))
            go_wp2_with fail
            refine Calls.mono CC.out ?_
            rintro e w12 ⟨rfl, hq12, hg12⟩
            have HQ12 := Lib.hid hq12
            have HC12 := Lib.hid (HC10.out w12 (grown_trans HG11.out hg12))
            clear hq12 hg12 CC
            go_wp2_with fail
            go_ret2
            have hpop := HC12.out.1.pop
            have hb := HBIG.out
            exact ⟨j11 + 1, many + 1, 0, _, _, true, rfl, HQ12.out, HC12.out.2, .inr ⟨rfl, hjl, by omega, by omega, st, L, d, hpop.2, HOK.out.up (by omega), HDL.out, .inl ⟨rfl, .list [], PV_list.2 ⟨none, 0, rfl, Nat.le_refl _, (fun q hq => by cases hq)⟩, HTE.out⟩⟩⟩
          · have bend : ((x.toNat : Int) == 93) = false := by
              rw [show (93 : Int) = ((93 : Nat) : Int) from rfl, byte_lit x 93 (by omega)]
              simp [hend]
            have HNE : Hid (∀ r2, skipW r ≠ 93 :: r2) := fun r2 e => hend (by rw [hx, HJL.out.2.1, e]; rfl)
            clear hend hx
            have HTE : Hid (T = beginOut (⟨false, [], [], [], [], 2000⟩ :: st) d' (many + 1) (sfx s j11)) := by
              have h1 := HD.out
              subst h1
              unfold Hid
              rw [HT.out, begin_list HSKW.out HBIG.out HNE.out, HSK11.out, begin_skip]
            go_wp2_with fail
            go_ret2
            have hb := HBIG.out
            exact ⟨j11, many + 1, 0, _, _, false, rfl, HQ11.out, HC11.out.2, .inr ⟨rfl, hj11, by omega, by omega, _, _, d', HC11.out.1, (fun p hp => by
              rcases List.mem_cons.1 hp with rfl | hp
              · exact ⟨by show s.size ≤ 2000 + j11; omega, Nat.zero_le _, Nat.zero_le _⟩
              · have h1 := HOK.out p hp
                omega), by have h1 := HDL.out; have h2 := HD.out; rw [List.length_cons]; omega, .inr ⟨rfl, HTE.out⟩⟩⟩
    · by_cases h123 : c = 123
      · subst h123
        have hc91 : (((123 : UInt8).toNat : Nat) : Int) = 123 := rfl
        rw [hc91]
        clear hc91 h91
        obtain ⟨z0, z1, z2, z3, z4⟩ := HQ2.out.cells
        have f2 := HQ2.out.free 2
        have hmI : (many : Int) ≤ 200 := by omega
        go_upto_region 7 with (fail)
        generalize hW : World.setCell w2 _ _ = w3
        have HQ3 : Hid (RIn w3 k s j2 (many + 1) (.slice A m cp) 0) := by unfold Hid; rw [← hW]; exact HQ2.out.setMany _ _ (by omega)
        have HG3 : Hid (w.grownBy w3 (some k)) := by unfold Hid; rw [← hW]; exact grown_trans HG2.out (grown_set _ k 2 _)
        clear hW z0 z1 z2 z3 z4 f2
        obtain ⟨z0, z1, z2, z3, z4⟩ := HQ3.out.cells
        rw [show ((many + 1 : Nat) : Int) = (many : Int) + 1 by omega] at z2
        by_cases hbig : 200 < many + 1
        · have HTE : Hid (T = .error 2) := by unfold Hid; rw [HT.out, begin_many HSKW.out HSTA.out hbig]
          have b200 : decide ((200 : Int) < (many : Int) + 1) = true := decide_eq_true (by omega)
          clear hbig
          have CF := Lib.hid (fail_any k s j2 (many + 1) _ 0 2 w3 HQ3.out)
          go_wp2_with fail
          refine Calls.mono CF.out ?_
          rintro e w4 ⟨rfl, hq4, hg4⟩
          have HQ4 : Hid (RIn w4 k s j2 (many + 1) (.slice A m cp) 2) := hq4
          have HB4 := Lib.hid (low_grown (grown_trans HG3.out hg4) HLO.out.2.1 HLO.out.2.2)
          clear hq4 hg4 CF z0 z1 z2 z3 z4
          obtain ⟨z0, z1, z2, z3, z4⟩ := HQ4.out.cells
          go_wp2_with fail
          go_ret2
          exact ⟨j2, many + 1, 2, _, _, false, rfl, HQ4.out, HB4.out, .inl ⟨by decide, HTE.out⟩⟩
        · have HBIG := Lib.hid hbig
          have b200 : decide ((200 : Int) < (many : Int) + 1) = false := decide_eq_false (by omega)
          clear hbig
          by_cases hm : m = 10
          · have HTE : Hid (T = .error 4) := by
              have h1 := HDL.out
              have h2 := HMS.out
              obtain rfl : d = 0 := by omega
              unfold Hid
              rw [HT.out, begin_deep HSKW.out (.inr rfl) HBIG.out]
            have bm : ((m : Int) == 10) = true := by rw [beq_iff_eq]; omega
            clear hm
            have CF := Lib.hid (fail_any k s j2 (many + 1) _ 0 4 w3 HQ3.out)
            go_wp2_with fail
            refine Calls.mono CF.out ?_
            rintro e w4 ⟨rfl, hq4, hg4⟩
            have HQ4 : Hid (RIn w4 k s j2 (many + 1) (.slice A m cp) 4) := hq4
            have HB4 := Lib.hid (low_grown (grown_trans HG3.out hg4) HLO.out.2.1 HLO.out.2.2)
            clear hq4 hg4 CF z0 z1 z2 z3 z4
            obtain ⟨z0, z1, z2, z3, z4⟩ := HQ4.out.cells
            go_wp2_with fail
            go_ret2
            exact ⟨j2, many + 1, 4, _, _, false, rfl, HQ4.out, HB4.out, .inl ⟨by decide, HTE.out⟩⟩
          · have bm : ((m : Int) == 10) = false := by rw [beq_eq_false_iff_ne]; omega
            obtain ⟨d', hd'⟩ : ∃ d', d = d' + 1 := ⟨d - 1, by have h1 := HDL.out; have h2 := HMS.out; omega⟩
            have HD := Lib.hid hd'
            have f1 := HQ3.out.free 1
            have hj2I : j2 ≤ 2000 := by omega
            clear hm hd'
            go_upto_region 22 with (fail)
            generalize hW : World.setCell w3 _ _ = w4
            have HQ4 : Hid (RIn w4 k s (j2 + 1) (many + 1) (.slice A m cp) 0) := by unfold Hid; rw [← hW]; exact HQ3.out.setAt _ _ (by omega)
            have HG4 : Hid (w.grownBy w4 (some k)) := by unfold Hid; rw [← hW]; exact grown_trans HG3.out (grown_set _ k 1 _)
            clear hW z0 z1 z2 z3 z4 f1 bm
            have HST4 := Lib.hid (HST.out.kept HG4.out HLO.out.1)
            obtain ⟨z0, z1, z2, z3, z4⟩ := HQ4.out.cells
            have f3 := HQ4.out.free 3
            have hbase4 : base ≤ w4.heap.size := Nat.le_trans HLW.out HG4.out.size
            have HLL : Hid (L.reverse.length = m) := by
              obtain ⟨A', c', e, _⟩ := HST4.out.1.slice
              injection e with _ e _
              exact e.symm
            have HFB : Hid (FreeB base (.slice A m cp) L w4.heap.size) := ⟨hbase4, fun e => by have := (HST4.out.1.block _ e).2; omega, fun c hc e => by have := (HST4.out.2.2.2.own c hc _ e).2; omega⟩
            go_upto_region 23 with (at_builtin; refine append_g ty_open rfl _ _ (by rfl) base m 1 _ (.slice A m cp) (.slice (some ⟨w4.heap.size + 1, 0, none⟩) 1 1) L.reverse [[.slice none 0 0, .pointer (some ⟨w4.heap.size, 0, none⟩), .string ⟨#[]⟩]] (by rfl) (by rfl) (HST4.out.1.ext ((new_ext w4 (.cells #[.slice none 0 0, .slice none 0 0] objT (0, 0))).trans (new_ext (w4.alloc (.cells #[.slice none 0 0, .slice none 0 0] objT (0, 0))) (.cells #[.slice none 0 0, .pointer (some ⟨w4.heap.size, 0, none⟩), .string ⟨#[]⟩] openT (0, 0))))) (GSrc.one rfl (fun q hq => by simp only [List.mem_cons, List.not_mem_nil, or_false] at hq; rcases hq with rfl | rfl | rfl <;> rfl) (heap_new (by simp))) HLL.out rfl (by omega) (Nat.le_trans hbase4 (Below.size ((new_ext w4 (.cells #[.slice none 0 0, .slice none 0 0] objT (0, 0))).trans (new_ext (w4.alloc (.cells #[.slice none 0 0, .slice none 0 0] objT (0, 0))) (.cells #[.slice none 0 0, .pointer (some ⟨w4.heap.size, 0, none⟩), .string ⟨#[]⟩] openT (0, 0)))))) ?_; intro A9 c9 w9 h9 g9 o9; have hq9 : RIn w9 k s (j2 + 1) (many + 1) (.slice A m cp) 0 := (HQ4.out.ext ((new_ext w4 (.cells #[.slice none 0 0, .slice none 0 0] objT (0, 0))).trans (new_ext (w4.alloc (.cells #[.slice none 0 0, .slice none 0 0] objT (0, 0))) (.cells #[.slice none 0 0, .pointer (some ⟨w4.heap.size, 0, none⟩), .string ⟨#[]⟩] openT (0, 0))))).kept g9 (fun e => by have h1 := (HST4.out.1.block k e).1; have h2 := HLO.out.1; omega); have z39 := hq9.cells.2.2.2.1; have f39 := hq9.free 3; have H9 := Lib.hid (And.intro h9 (And.intro g9 (And.intro o9 hq9))); clear h9 g9 o9 hq9)
            generalize hW : World.setCell w9 _ _ = w10
            have HQ10 : Hid (RIn w10 k s (j2 + 1) (many + 1) (.slice A9 (m + 1) c9) 0) := by unfold Hid; rw [← hW]; exact H9.out.2.2.2.setStack _
            have HST10 : Hid (StkAt base w10 (.slice A9 (m + 1) c9) (⟨true, [], [], [], [], 2000⟩ :: st) ([.slice none 0 0, .pointer (some ⟨w4.heap.size, 0, none⟩), .string ⟨#[]⟩] :: L)) := by
              unfold Hid
              rw [← hW]
              refine StkAt.kept (StkAt.push (HST4.out.ext ((new_ext w4 (.cells #[.slice none 0 0, .slice none 0 0] objT (0, 0))).trans (new_ext (w4.alloc (.cells #[.slice none 0 0, .slice none 0 0] objT (0, 0))) (.cells #[.slice none 0 0, .pointer (some ⟨w4.heap.size, 0, none⟩), .string ⟨#[]⟩] openT (0, 0))))) H9.out.1 H9.out.2.1 H9.out.2.2.1 (.inr ⟨rfl, w4.heap.size, rfl, HFB.out, ⟨none, 0, none, 0, heap_old (heap_new rfl), Nat.le_refl _, Nat.le_refl _, (fun q hq => by cases hq), (fun q hq => by cases hq)⟩, rfl, List.Pairwise.nil⟩) rfl) (grown_set w9 k 3 _) HLO.out.1
            have HB10 : Hid (Below lo w w10) := by
              unfold Hid
              rw [← hW]
              have h1 := HLO.out
              have h2 := H9.out.2.1
              have hx := Below.size ((new_ext w4 (.cells #[.slice none 0 0, .slice none 0 0] objT (0, 0))).trans (new_ext (w4.alloc (.cells #[.slice none 0 0, .slice none 0 0] objT (0, 0))) (.cells #[.slice none 0 0, .pointer (some ⟨w4.heap.size, 0, none⟩), .string ⟨#[]⟩] openT (0, 0))))
              have h4 := HG4.out.size
              have h5 := HLW.out
              refine low_set ((low_grown HG4.out h1.2.1 h1.2.2).trans ((Below.mono ((new_ext w4 (.cells #[.slice none 0 0, .slice none 0 0] objT (0, 0))).trans (new_ext (w4.alloc (.cells #[.slice none 0 0, .slice none 0 0] objT (0, 0))) (.cells #[.slice none 0 0, .pointer (some ⟨w4.heap.size, 0, none⟩), .string ⟨#[]⟩] openT (0, 0)))) (by omega)).trans ⟨h2.os, h2.tape, h2.output, h2.size, fun q hq => h2.block q ?_ (fun e => ?_)⟩)) h1.2.1
              · exact Nat.lt_of_lt_of_le (by omega : q < w4.heap.size) hx
              · have := (HST4.out.1.block q e.symm).1
                omega
            clear hW z0 z1 z2 z3 z4 f3 z39 f39
            have HC10 : Hid (∀ W, w10.grownBy W (some k) → StkAt base W (.slice A9 (m + 1) c9) (⟨true, [], [], [], [], 2000⟩ :: st) ([.slice none 0 0, .pointer (some ⟨w4.heap.size, 0, none⟩), .string ⟨#[]⟩] :: L) ∧ Below lo w W) := fun W hW =>
              ⟨HST10.out.kept hW HLO.out.1, HB10.out.trans (low_grown hW HLO.out.2.1 (by have h1 := HLO.out.2.2; have h2 := HB10.out.size; omega))⟩
            have CN := Lib.hid (next_any k s (j2 + 1) (many + 1) _ 0 w10 HQ10.out hs (by omega))
            go_wp2_with fail
            refine Calls.mono CN.out ?_
            rintro e w11 ⟨j11, rfl, hq11, hij11, hjs, hsk, hg11⟩
            have HQ11 := Lib.hid hq11
            have HC11 := Lib.hid (HC10.out w11 hg11)
            have HG11 := Lib.hid hg11
            have HSK11 : Hid (sfx s j11 = skipW r) := by unfold Hid; rw [hsk, HJL.out.2.1]
            have hj11 : j11 ≤ s.size := hjs HJL.out.1
            clear hq11 hg11 hsk hjs CN
            obtain ⟨x, hx⟩ : ∃ x, x = headB (skipW (sfx s (j2 + 1))) := ⟨_, rfl⟩
            rw [← hx]
            have HX := Lib.hid hx
            by_cases hend : x = 125
            · have HE : Hid (∃ r2, skipW r = 125 :: r2 ∧ j11 < s.size ∧ sfx s (j11 + 1) = r2) := by
                rw [HJL.out.2.1, hend] at hx
                cases hs2 : skipW r with
                | nil => rw [hs2] at hx; cases hx
                | cons y r1 =>
                  rw [hs2] at hx
                  have hy : 125 = y := hx
                  obtain ⟨a, b, _⟩ := sfx_step (HSK11.out.trans hs2)
                  exact ⟨r1, by rw [hy], a, b⟩
              obtain ⟨r2, hr2, hjl, hr3⟩ := HE
              have HTE : Hid (T = goesOut st d (.obj [] []) (many + 1) (sfx s (j11 + 1))) := by
                have h1 := HSKW.out
                have h2 := HD.out
                subst h2
                unfold Hid
                rw [HT.out, begin_noobj h1 HBIG.out hr2, hr3]
              have bend : ((x.toNat : Int) == 125) = true := by rw [hend]; rfl
              clear hend hx hr2 hr3
              obtain ⟨g, hA9, _, hc9, _, _⟩ := HC11.out.1.top
              subst hA9
              have CC : Hid (∀ W b, W.heap.size = b → Ext w11 W → Calls Tryz.prog 120 #[.pointer (some ⟨k, 0, none⟩), .iface objPT (.pointer (some ⟨b, 0, none⟩))] (W.alloc (.cells #[.slice none 0 0, .slice none 0 0] objT (0, 0))) fun e w' => e = .returned (.iface objPT (.pointer (some ⟨b, 0, none⟩))) ∧ RIn w' k s (j11 + 1) (many + 1) (.slice (some ⟨g, 0, none⟩) m c9) 0 ∧ (W.alloc (.cells #[.slice none 0 0, .slice none 0 0] objT (0, 0))).grownBy w' (some k)) := fun W b hb hx =>
                close_any k s j11 (many + 1) g m c9 0 (.iface objPT (.pointer (some ⟨b, 0, none⟩))) _ (HQ11.out.ext (hx.trans (new_ext _ _))) (by omega) (by have := HMS.out; omega) (by omega)
              go_wp2_with fail
              refine Calls.mono (CC.out _ _ rfl (Below.refl _ _)) ?_
              rintro e w12 ⟨rfl, hq12, hg12⟩
              have HQ12 := Lib.hid hq12
              have hxa := new_ext w11 (.cells #[.slice none 0 0, .slice none 0 0] objT (0, 0))
              have HC12 := Lib.hid (HC10.out w12 (grown_trans HG11.out (grown_trans (grown_ext hxa) hg12)))
              have HN12 : Hid (w12.heap[w11.heap.size]? = some (.cells #[.slice none 0 0, .slice none 0 0] objT (0, 0))) := by
                refine (hg12.block _ (Nat.lt_of_lt_of_eq (Nat.lt_succ_self _) (Array.size_push _).symm) (fun e => ?_)).trans (heap_new rfl)
                injection e with e
                have h1 := HQ11.out.lt
                omega
              clear hq12 hg12 CC hxa
              go_wp2_with fail
              go_ret2
              have hpop := HC12.out.1.pop
              have hb := HBIG.out
              have hst11 := HC11.out.1
              have hfr : FreeB base (.slice (some ⟨g, 0, none⟩) m c9) L w11.heap.size := by
                have hb1 := hst11.top
                refine ⟨?_, fun e => ?_, fun dd hd e => ?_⟩
                · have h1 := HLW.out
                  have h2 := HC11.out.2.size
                  omega
                · have h1 := (hst11.1.block g rfl).2
                  injection e with e
                  have e4 : g = w11.heap.size := e
                  omega
                · have := (hst11.2.2.2.own dd (List.mem_cons_of_mem _ hd) _ e).2
                  omega
              exact ⟨j11 + 1, many + 1, 0, _, _, true, rfl, HQ12.out, HC12.out.2, .inr ⟨rfl, hjl, by omega, by omega, st, L, d, hpop.2, HOK.out.up (by omega), HDL.out, .inl ⟨rfl, .obj [] [], PV_obj.2 ⟨w11.heap.size, rfl, hfr, none, 0, none, 0, HN12.out, Nat.le_refl _, Nat.le_refl _, (fun q hq => by cases hq), (fun q hq => by cases hq)⟩, HTE.out⟩⟩⟩
            · have bend : ((x.toNat : Int) == 125) = false := by
                rw [show (125 : Int) = ((125 : Nat) : Int) from rfl, byte_lit x 125 (by omega)]
                simp [hend]
              have HNE : Hid (∀ r2, skipW r ≠ 125 :: r2) := fun r2 e => hend (by rw [hx, HJL.out.2.1, e]; rfl)
              clear hend hx
              have HTE : Hid (T = match nameS [] (sfx s j11) with | .error e => .error e | .ok (t, r3) => beginOut (⟨true, [], [], [], t, 2000⟩ :: st) d' (many + 1) r3) := by
                have h1 := HD.out
                subst h1
                unfold Hid
                rw [HT.out, begin_obj HSKW.out HBIG.out HNE.out, HSK11.out, show nameS [] (skipW r) = nameS [] r by unfold nameS; rw [skipW_skipW]]
                cases nameS [] r <;> rfl
              have CFD : Hid (Calls Tryz.prog 121 #[.pointer (some ⟨k, 0, none⟩)] w11 (FieldPost lo base k w11 s j11 (many + 1) (.slice A9 (m + 1) c9) ⟨true, [], [], [], [], 2000⟩ st)) :=
                field_any lo base k s j11 (many + 1) _ _ _ ⟨true, [], [], [], [], 2000⟩ st _ w11 HQ11.out hs hj11 HC11.out.1 rfl HLO.out.1 HLO.out.2.1 (by have h1 := HLO.out; have h2 := HC11.out.2.size; omega) (by have := HMS.out; omega) (Nat.zero_le _)
              go_wp2_with fail
              refine Calls.mono CFD.out ?_
              rintro e w13 ⟨j13, bad13, rfl, hq13, hb13, ⟨rfl, hj13, hjj, t, hnm, L', hst13⟩ | ⟨hbad, hnm⟩⟩
              · have HQ13 := Lib.hid hq13
                have H13 := Lib.hid (And.intro hb13 (And.intro hnm hst13))
                clear hq13 hb13 hnm hst13
                go_wp2_with fail
                go_ret2
                have hb := HBIG.out
                have hst2 : StkAt base w13 (.slice A9 (m + 1) c9) (⟨true, [], [], [], t, 2000⟩ :: st) L' := H13.out.2.2
                exact ⟨j13, many + 1, 0, _, _, false, rfl, HQ13.out, HC11.out.2.trans H13.out.1, .inr ⟨rfl, hj13, by omega, by omega, _, L', d', hst2, (fun p hp => by
                  rcases List.mem_cons.1 hp with rfl | hp
                  · exact ⟨by show s.size ≤ 2000 + j13; omega, Nat.zero_le _, Nat.zero_le _⟩
                  · have h1 := HOK.out p hp
                    omega), by have h1 := HDL.out; have h2 := HD.out; rw [List.length_cons]; omega, .inr ⟨rfl, by
                      rw [HTE.out]
                      have hn : nameS [] (sfx s j11) = .ok (t, sfx s j13) := H13.out.2.1
                      rw [hn]⟩⟩⟩
              · have HQ13 := Lib.hid hq13
                have H13 := Lib.hid (And.intro hb13 (And.intro hnm hbad))
                clear hq13 hb13 hnm hbad
                go_wp2_with fail
                go_ret2
                exact ⟨j13, many + 1, bad13, _, _, false, rfl, HQ13.out, HC11.out.2.trans H13.out.1, .inl ⟨H13.out.2.2, by
                  rw [HTE.out]
                  have hn : nameS [] (sfx s j11) = .error bad13 := H13.out.2.1
                  rw [hn]⟩⟩
      · have HNO := Lib.hid (And.intro h91 h123)
        have b91 : ((c.toNat : Int) == 91) = false := by rw [show (91 : Int) = ((91 : Nat) : Int) from rfl, byte_lit c 91 (by omega)]; simp [h91]
        have b123 : ((c.toNat : Int) == 123) = false := by rw [show (123 : Int) = ((123 : Nat) : Int) from rfl, byte_lit c 123 (by omega)]; simp [h123]
        go_upto_region 3 with (fail)
        go_cut [43] (fun b wx => b = .bool false ∧ w2 = wx)
        case first =>
          have hcl : c = 34 ∨ c = 45 ∨ c = 116 ∨ c = 102 ∨ c = 110 ∨ isDg c = true := by
            have h := HSTA.out
            unfold starts at h
            simp only [Bool.or_eq_true, beq_iff_eq] at h
            rcases h with (((((((h | h) | h) | h) | h) | h) | h) | h)
            · exact absurd h h91
            · exact absurd h h123
            · exact .inl h
            · exact .inr (.inl h)
            · exact .inr (.inr (.inl h))
            · exact .inr (.inr (.inr (.inl h)))
            · exact .inr (.inr (.inr (.inr (.inl h))))
            · exact .inr (.inr (.inr (.inr (.inr h))))
          clear h91 h123
          rcases hcl with hc | hc | hc | hc | hc | hc
          · have b34 : ((c.toNat : Int) != 34) = false := by rw [hc]; rfl
            clear hc
            go_wp2_with fail
            go_meet
            case rel => exact ⟨rfl, rfl⟩
          · have b34 : ((c.toNat : Int) != 34) = true := by rw [hc]; rfl
            have b45 : ((c.toNat : Int) != 45) = false := by rw [hc]; rfl
            clear hc
            go_wp2_with fail
            go_meet
            case rel => exact ⟨rfl, rfl⟩
          · have b34 : ((c.toNat : Int) != 34) = true := by rw [hc]; rfl
            have b45 : ((c.toNat : Int) != 45) = true := by rw [hc]; rfl
            have b116 : ((c.toNat : Int) != 116) = false := by rw [hc]; rfl
            clear hc
            go_wp2_with fail
            go_meet
            case rel => exact ⟨rfl, rfl⟩
          · have b34 : ((c.toNat : Int) != 34) = true := by rw [hc]; rfl
            have b45 : ((c.toNat : Int) != 45) = true := by rw [hc]; rfl
            have b116 : ((c.toNat : Int) != 116) = true := by rw [hc]; rfl
            have b102 : ((c.toNat : Int) != 102) = false := by rw [hc]; rfl
            clear hc
            go_wp2_with fail
            go_meet
            case rel => exact ⟨rfl, rfl⟩
          · have b34 : ((c.toNat : Int) != 34) = true := by rw [hc]; rfl
            have b45 : ((c.toNat : Int) != 45) = true := by rw [hc]; rfl
            have b116 : ((c.toNat : Int) != 116) = true := by rw [hc]; rfl
            have b102 : ((c.toNat : Int) != 102) = true := by rw [hc]; rfl
            have b110 : ((c.toNat : Int) != 110) = false := by rw [hc]; rfl
            clear hc
            go_wp2_with fail
            go_meet
            case rel => exact ⟨rfl, rfl⟩
          · have hd : 48 ≤ c.toNat ∧ c.toNat ≤ 57 := by
              unfold isDg at hc
              simp only [Bool.and_eq_true, decide_eq_true_eq, UInt8.le_iff_toNat_le] at hc
              exact hc
            have n34 : c ≠ 34 := fun e => by rw [e] at hd; revert hd; decide
            have n45 : c ≠ 45 := fun e => by rw [e] at hd; revert hd; decide
            have n116 : c ≠ 116 := fun e => by rw [e] at hd; revert hd; decide
            have n102 : c ≠ 102 := fun e => by rw [e] at hd; revert hd; decide
            have n110 : c ≠ 110 := fun e => by rw [e] at hd; revert hd; decide
            have b34 : ((c.toNat : Int) != 34) = true := by rw [show (34 : Int) = ((34 : Nat) : Int) from rfl, byte_ne c 34 (by omega)]; simp [n34]
            have b45 : ((c.toNat : Int) != 45) = true := by rw [show (45 : Int) = ((45 : Nat) : Int) from rfl, byte_ne c 45 (by omega)]; simp [n45]
            have b116 : ((c.toNat : Int) != 116) = true := by rw [show (116 : Int) = ((116 : Nat) : Int) from rfl, byte_ne c 116 (by omega)]; simp [n116]
            have b102 : ((c.toNat : Int) != 102) = true := by rw [show (102 : Int) = ((102 : Nat) : Int) from rfl, byte_ne c 102 (by omega)]; simp [n102]
            have b110 : ((c.toNat : Int) != 110) = true := by rw [show (110 : Int) = ((110 : Nat) : Int) from rfl, byte_ne c 110 (by omega)]; simp [n110]
            have b48 : decide ((c.toNat : Int) < 48) = false := decide_eq_false (by omega)
            have b57 : decide ((57 : Int) < (c.toNat : Int)) = false := decide_eq_false (by omega)
            clear n34 n45 n116 n102 n110 hc hd
            go_wp2_with fail
            go_meet
            case rel => exact ⟨rfl, rfl⟩
        case rest =>
          obtain ⟨rfl, rfl⟩ := hcut
          clear h91 h123 b91 b123
          obtain ⟨z0, z1, z2, z3, z4⟩ := HQ2.out.cells
          have f2 := HQ2.out.free 2
          have hmI : (many : Int) ≤ 200 := by omega
          go_upto_region 7 with (fail)
          generalize hW : World.setCell w2 _ _ = w3
          have HQ3 : Hid (RIn w3 k s j2 (many + 1) (.slice A m cp) 0) := by unfold Hid; rw [← hW]; exact HQ2.out.setMany _ _ (by omega)
          have HG3 : Hid (w.grownBy w3 (some k)) := by unfold Hid; rw [← hW]; exact grown_trans HG2.out (grown_set _ k 2 _)
          clear hW z0 z1 z2 z3 z4 f2
          obtain ⟨z0, z1, z2, z3, z4⟩ := HQ3.out.cells
          rw [show ((many + 1 : Nat) : Int) = (many : Int) + 1 by omega] at z2
          by_cases hbig : 200 < many + 1
          · have HTE : Hid (T = .error 2) := by unfold Hid; rw [HT.out, begin_many HSKW.out HSTA.out hbig]
            have b200 : decide ((200 : Int) < (many : Int) + 1) = true := decide_eq_true (by omega)
            clear hbig
            have CF := Lib.hid (fail_any k s j2 (many + 1) _ 0 2 w3 HQ3.out)
            go_wp2_with fail
            refine Calls.mono CF.out ?_
            rintro e w4 ⟨rfl, hq4, hg4⟩
            have HQ4 : Hid (RIn w4 k s j2 (many + 1) (.slice A m cp) 2) := hq4
            have HB4 := Lib.hid (low_grown (grown_trans HG3.out hg4) HLO.out.2.1 HLO.out.2.2)
            clear hq4 hg4 CF z0 z1 z2 z3 z4
            obtain ⟨z0, z1, z2, z3, z4⟩ := HQ4.out.cells
            go_wp2_with fail
            go_ret2
            exact ⟨j2, many + 1, 2, _, _, false, rfl, HQ4.out, HB4.out, .inl ⟨by decide, HTE.out⟩⟩
          · have HBIG := Lib.hid hbig
            have b200 : decide ((200 : Int) < (many : Int) + 1) = false := decide_eq_false (by omega)
            clear hbig
            have CP : Hid (Calls Tryz.prog 122 #[.pointer (some ⟨k, 0, none⟩), .int .u8 (c.toNat : Int)] w3 (PlainPost w3 k s j2 (many + 1) (.slice A m cp))) := by
              have h := plain_any k s j2 (many + 1) _ w3 HQ3.out hs HJL.out.1
              rw [HJL.out.2.2] at h
              exact h
            have b91e : ((c.toNat : Int) == 91) = false := by rw [show (91 : Int) = ((91 : Nat) : Int) from rfl, byte_lit c 91 (by omega)]; simp [HNO.out.1]
            have b123e : ((c.toNat : Int) == 123) = false := by rw [show (123 : Int) = ((123 : Nat) : Int) from rfl, byte_lit c 123 (by omega)]; simp [HNO.out.2]
            go_wp2_with fail
            refine Calls.mono CP.out ?_
            rintro e w4 ⟨p4, bad4, u4, hg4, hq4, hp4, rfl, ⟨jj, hpl, hpv, rfl, hp4s⟩ | ⟨er, hpl, her, rfl⟩⟩
            · have HQ4 := Lib.hid hq4
              have HG4 := Lib.hid (grown_trans HG3.out hg4)
              have H4 := Lib.hid (And.intro hpl hpv)
              clear hq4 hg4 hpl hpv CP
              go_wp2_with fail
              go_ret2
              have hpl : plainS (c :: r) = .ok (jj, sfx s p4) := by rw [← HJS.out]; exact H4.out.1
              have hlen := (plainS_good hpl).2
              have hpos := bulk_pos jj
              have hjl := HJL.out.1
              have hl2 : (c :: r).length = s.size - j2 := by rw [← HJS.out, sfx_len]
              rw [hl2, sfx_len] at hlen
              have hb := HBIG.out
              exact ⟨p4, many + 1, 0, _, _, true, rfl, HQ4.out, low_grown HG4.out HLO.out.2.1 HLO.out.2.2, .inr ⟨rfl, hp4s, by omega, by omega, st, L, d, HST.out.kept HG4.out HLO.out.1, HOK.out.up (by omega), HDL.out, .inl ⟨rfl, jj, H4.out.2 _ _, by
                rw [HT.out, begin_plain HSKW.out HSTA.out HBIG.out HNO.out.1 HNO.out.2, hpl]⟩⟩⟩
            · have HQ4 := Lib.hid hq4
              have HG4 := Lib.hid (grown_trans HG3.out hg4)
              have H4 := Lib.hid (And.intro hpl her)
              clear hq4 hg4 hpl her CP
              go_wp2_with fail
              go_ret2
              have hpl : plainS (c :: r) = .error bad4 := by rw [← HJS.out]; exact H4.out.1
              exact ⟨p4, many + 1, bad4, _, _, true, rfl, HQ4.out, low_grown HG4.out HLO.out.2.1 HLO.out.2.2, .inl ⟨H4.out.2, by
                rw [HT.out, begin_plain HSKW.out HSTA.out HBIG.out HNO.out.1 HNO.out.2, hpl]⟩⟩
  · have HTE : Hid (T = .error 3) := by
      unfold Hid
      rw [HT.out]
      cases h2 : skipW (sfx s i) with
      | nil => exact begin_none h2
      | cons y r =>
        rw [h2] at hcc
        have hy : c = y := hcc
        refine begin_odd h2 ?_
        rw [← hy]
        cases h3 : starts c with
        | false => rfl
        | true => exact absurd ⟨h3, by rw [h2]; exact List.cons_ne_nil _ _⟩ hstart
    have hns : starts c = false := by
      cases h3 : starts c with
      | false => rfl
      | true =>
        have h4 : skipW (sfx s i) = [] := Classical.byContradiction fun h => hstart ⟨h3, h⟩
        rw [h4] at hcc
        rw [hcc] at h3
        revert h3
        decide
    unfold starts at hns
    simp only [Bool.or_eq_false_iff, beq_eq_false_iff_ne] at hns
    obtain ⟨⟨⟨⟨⟨⟨⟨n91, n123⟩, n34⟩, n45⟩, n116⟩, n102⟩, n110⟩, ndg⟩ := hns
    have b91 : ((c.toNat : Int) == 91) = false := by rw [show (91 : Int) = ((91 : Nat) : Int) from rfl, byte_lit c 91 (by omega)]; simp [n91]
    have b123 : ((c.toNat : Int) == 123) = false := by rw [show (123 : Int) = ((123 : Nat) : Int) from rfl, byte_lit c 123 (by omega)]; simp [n123]
    have b34 : ((c.toNat : Int) != 34) = true := by rw [show (34 : Int) = ((34 : Nat) : Int) from rfl, byte_ne c 34 (by omega)]; simp [n34]
    have b45 : ((c.toNat : Int) != 45) = true := by rw [show (45 : Int) = ((45 : Nat) : Int) from rfl, byte_ne c 45 (by omega)]; simp [n45]
    have b116 : ((c.toNat : Int) != 116) = true := by rw [show (116 : Int) = ((116 : Nat) : Int) from rfl, byte_ne c 116 (by omega)]; simp [n116]
    have b102 : ((c.toNat : Int) != 102) = true := by rw [show (102 : Int) = ((102 : Nat) : Int) from rfl, byte_ne c 102 (by omega)]; simp [n102]
    have b110 : ((c.toNat : Int) != 110) = true := by rw [show (110 : Int) = ((110 : Nat) : Int) from rfl, byte_ne c 110 (by omega)]; simp [n110]
    have hd : c.toNat < 48 ∨ (48 ≤ c.toNat ∧ 57 < c.toNat) := by
      rcases Nat.lt_or_ge c.toNat 48 with h | h
      · exact .inl h
      · refine .inr ⟨h, ?_⟩
        rcases Nat.lt_or_ge 57 c.toNat with h2 | h2
        · exact h2
        · have : isDg c = true := by
            unfold isDg
            simp only [Bool.and_eq_true, decide_eq_true_eq, UInt8.le_iff_toNat_le]
            exact ⟨h, h2⟩
          rw [this] at ndg
          cases ndg
    clear n91 n123 n34 n45 n116 n102 n110 ndg hcc hstart
    rcases hd with hd | ⟨hd0, hd⟩
    · have b48 : decide ((c.toNat : Int) < 48) = true := decide_eq_true (by omega)
      clear hd
      have CF := Lib.hid (fail_any k s j2 many _ 0 3 w2 HQ2.out)
      go_wp2_with fail
      refine Calls.mono CF.out ?_
      rintro e w3 ⟨rfl, hq3, hg3⟩
      have HQ3 : Hid (RIn w3 k s j2 many (.slice A m cp) 3) := hq3
      have HB3 := Lib.hid (low_grown (grown_trans HG2.out hg3) HLO.out.2.1 HLO.out.2.2)
      clear hq3 hg3 CF
      go_wp2_with fail
      go_ret2
      exact ⟨j2, many, 3, _, _, false, rfl, HQ3.out, HB3.out, .inl ⟨by decide, HTE.out⟩⟩
    · have b48 : decide ((c.toNat : Int) < 48) = false := decide_eq_false (by omega)
      have b57 : decide ((57 : Int) < (c.toNat : Int)) = true := decide_eq_true (by omega)
      clear hd hd0
      have CF := Lib.hid (fail_any k s j2 many _ 0 3 w2 HQ2.out)
      go_wp2_with fail
      refine Calls.mono CF.out ?_
      rintro e w3 ⟨rfl, hq3, hg3⟩
      have HQ3 : Hid (RIn w3 k s j2 many (.slice A m cp) 3) := hq3
      have HB3 := Lib.hid (low_grown (grown_trans HG2.out hg3) HLO.out.2.1 HLO.out.2.2)
      clear hq3 hg3 CF
      go_wp2_with fail
      go_ret2
      exact ⟨j2, many, 3, _, _, false, rfl, HQ3.out, HB3.out, .inl ⟨by decide, HTE.out⟩⟩
end Go.Proofs.YtnccefeehkcneaaGreatDoor.Jm
namespace Go.Proofs.YtnccefeehkcneaaGreatDoor.Jm
open Go Go.RowKit Go.Proofs.YtnccefeehkcneaaGreatDoor.Sx Go.Proofs.YtnccefeehkcneaaGreatDoor.Js Go.Proofs.YtnccefeehkcneaaGreatDoor.Gr
/-- What went wrong, as it stands in the reader's block. -/
def badOf (w : World) (k : Nat) : Int := intOf ((w.cell? ⟨k, 4, none⟩).getD (.int .i64 0))
theorem RIn.badOf {w : World} {k : Nat} {s : ByteArray} {i many : Nat} {v : Value} {bad : Int} (h : RIn w k s i many v bad) : Jm.badOf w k = bad := by
  unfold Jm.badOf
  rw [h.cells.2.2.2.2]
  rfl
def leftOf (s : ByteArray) (w : World) (k : Nat) : Nat := if badOf w k = 0 then s.size + 5 - atOf w k else 0
theorem RIn.left {w : World} {k : Nat} {s : ByteArray} {i many : Nat} {v : Value} {bad : Int} (h : RIn w k s i many v bad) : leftOf s w k = if bad = 0 then s.size + 5 - i else 0 := by
  unfold leftOf
  rw [h.badOf, h.atOf]
/-- Where the reader stands between two steps. -/
def StepAt (k : Nat) (w : World) (s : ByteArray) (T : Res J) (w' : World) (j many : Nat) (bad : Int) (v u : Value) (b : Bool) : Prop :=
  RIn w' k s j many v bad ∧ Below k w w' ∧
    ((bad ≠ 0 ∧ T = .error bad) ∨
     (bad = 0 ∧ j ≤ s.size ∧ many ≤ 200 ∧ ∃ st L d, StkAt (k + 1) w' v st L ∧ OKst s j st ∧ d + st.length = 10 ∧
      ((b = true ∧ ∃ jj, PV (FreeB (k + 1) v L) w' jj u ∧ T = goesOut st d jj many (sfx s j)) ∨ (b = false ∧ T = beginOut st d many (sfx s j)))))
theorem StepPost.at_ {k : Nat} {w w1 w' : World} {s : ByteArray} {i : Nat} {T : Res J} {e : Ending} (h : StepPost k (k + 1) k w s i T e w') (h1 : Below k w1 w) :
    ∃ j many bad v u b, e = .returned (.tuple #[u, .bool b]) ∧ StepAt k w1 s T w' j many bad v u b ∧ (bad = 0 → i < j) := by
  obtain ⟨j, many, bad, v, u, b, he, hr, hb, ⟨h2, h3⟩ | ⟨h2, h3, h4, h5, h6⟩⟩ := h
  · exact ⟨j, many, bad, v, u, b, he, ⟨hr, h1.trans hb, .inl ⟨h2, h3⟩⟩, fun e => absurd e h2⟩
  · exact ⟨j, many, bad, v, u, b, he, ⟨hr, h1.trans hb, .inr ⟨h2, h3, h5, h6⟩⟩, fun _ => h4⟩
theorem StepAt.off {k : Nat} {w w' : World} {s : ByteArray} {T : Res J} {j many : Nat} {bad : Int} {v u : Value} {b : Bool} (h : StepAt k w s T w' j many bad v u b) (hb : b = false ∨ bad ≠ 0) : StepAt k w s T w' j many bad v .nilIface false := by
  obtain ⟨h1, h2, ⟨h3, h4⟩ | ⟨h3, h4, h5, st, L, d, h6, h7, h8, h9⟩⟩ := h
  · exact ⟨h1, h2, .inl ⟨h3, h4⟩⟩
  · rcases hb with rfl | hb
    · rcases h9 with ⟨h9, _⟩ | ⟨_, h9⟩
      · cases h9
      · exact ⟨h1, h2, .inr ⟨h3, h4, h5, st, L, d, h6, h7, h8, .inr ⟨rfl, h9⟩⟩⟩
    · exact absurd h3 hb
theorem StepAt.less {k i : Nat} {w w' wr : World} {s : ByteArray} {T : Res J} {j many many2 : Nat} {bad : Int} {v v2 u : Value} {b : Bool} (h : StepAt k w s T w' j many bad v u b) (hij : bad = 0 → i < j) (hr : RIn wr k s i many2 v2 0) (hi : i ≤ s.size) : leftOf s w' k < leftOf s wr k := by
  rw [h.1.left, hr.left, if_pos rfl]
  split
  · have := hij ‹_›
    rcases h.2.2 with ⟨h3, _⟩ | ⟨_, h4, _⟩
    · exact absurd ‹bad = 0› h3
    · omega
  · omega
/-- What Read gives where the plain law gives T. -/
def PRead (w : World) (T : Res J) (e : Ending) (w' : World) : Prop :=
  Ext w w' ∧ ((∃ j u, T = .ok j ∧ PV (fun b => w.heap.size ≤ b) w' j u ∧ e = .returned (.tuple #[u, .int .i64 0])) ∨ (∃ er, er ≠ 0 ∧ T = .error er ∧ e = .returned (.tuple #[.nilIface, .int .i64 er])))
set_option maxRecDepth 100000 in
set_option maxHeartbeats 8000000 in
theorem read_any (s : ByteArray) (w : World) : Calls Tryz.prog 26 #[.string s] w (PRead w (readS s.data.toList)) := by
  obtain ⟨T, hT⟩ : ∃ T, T = readS s.data.toList := ⟨_, rfl⟩
  rw [← hT]
  have HT : Hid (T = if 2000 < s.size then .error 2 else beginOut [] 10 0 (sfx s 0)) := by
    unfold Hid
    rw [hT, readS_eq, size_list]
    rfl
  clear hT
  by_cases hbig : 2000 < s.size
  · have HTE : Hid (T = .error 2) := by unfold Hid; rw [HT.out, if_pos hbig]
    have b1 : decide (2000 < (s.size : Int)) = true := decide_eq_true (by omega)
    have b2 : decide (2000 < s.size) = true := decide_eq_true hbig
    clear hbig
    go_enter Tryz.func26, Tryz.ntmps26
    go_wp2_with fail
    go_ret2
    exact ⟨Below.refl _ _, .inr ⟨2, by decide, HTE.out, rfl⟩⟩
  · have HT2 : Hid (T = beginOut [] 10 0 (sfx s 0)) := by unfold Hid; rw [HT.out, if_neg hbig]
    have hs : s.size ≤ 2000 := by omega
    have b1 : decide (2000 < (s.size : Int)) = false := decide_eq_false (by omega)
    have b2 : decide (2000 < s.size) = false := decide_eq_false hbig
    obtain ⟨k, hk⟩ : ∃ k, k = w.heap.size := ⟨_, rfl⟩
    obtain ⟨w1, hw1⟩ : ∃ w1, w1 = w.alloc (.cells #[.string s, .int .i64 0, .int .i64 0, .slice none 0 0, .int .i64 0] rdT (0, 0)) := ⟨_, rfl⟩
    have HX1 : Hid (Ext w w1) := by rw [hw1]; exact new_ext _ _
    have HQ1 : Hid (RIn w1 k s 0 0 (.slice none 0 0) 0) := by rw [hw1]; exact heap_new hk
    have HKW : Hid (w.heap.size = k) := hk.symm
    have HKS : Hid (w1.heap.size = k + 1) := by
      unfold Hid
      rw [hw1, hk]
      show (w.heap.push _).size = _
      rw [Array.size_push]
    clear hbig HT
    go_enter Tryz.func26, Tryz.ntmps26
    go_upto_region 4 with (fail)
    rw [← hw1, ← hk]
    clear hw1 hk
    go_loopw [5, 6] (fun _ _ wr => ∃ (i many : Nat) (bad : Int) (v : Value), Hid (StepAt k w1 s T wr i many bad v .nilIface false)) (fun _ _ wr => leftOf s wr k)
    case atStart => exact ⟨0, 0, 0, _, HQ1.out, Below.refl _ _, .inr ⟨rfl, Nat.zero_le _, by omega, [], [], 10, StkAt.nil _ _, (fun f hf => by cases hf), rfl, .inr ⟨rfl, HT2.out⟩⟩⟩
    case round =>
      obtain ⟨i, many, bad, v, hI⟩ := hrel
      by_cases hbad : bad = 0
      · subst hbad
        have hJ : ∃ st L d, StkAt (k + 1) wr v st L ∧ OKst s i st ∧ d + st.length = 10 ∧ T = beginOut st d many (sfx s i) ∧ i ≤ s.size ∧ many ≤ 200 := by
          rcases hI.out.2.2 with ⟨h, _⟩ | ⟨_, h4, h5, st, L, d, h6, h7, h8, ⟨h9, _⟩ | ⟨_, h9⟩⟩
          · exact absurd rfl h
          · cases h9
          · exact ⟨st, L, d, h6, h7, h8, h9, h4, h5⟩
        obtain ⟨st, L, d, hst, hok, hd, hT, hi, hmany⟩ := hJ
        obtain ⟨A, cp, rfl, _⟩ := hst.slice
        have hsz : k + 1 ≤ wr.heap.size := by have := hI.out.1.lt; omega
        have CB := Lib.hid (begin_any k (k + 1) k s i many d A _ cp st L wr hI.out.1 hs hi hmany hst hok (Nat.lt_succ_self _) (Nat.le_refl _) hsz hd T hT)
        clear hst hok hd hT hsz
        obtain ⟨z0, z1, z2, z3, z4⟩ := hI.out.1.cells
        go_wp2_with fail
        refine Calls.mono CB.out ?_
        intro e w2 hres
        obtain ⟨j, many2, bad2, v2, u2, bb2, rfl, hstep, hij⟩ := hres.at_ hI.out.2.1
        have HS2 := Lib.hid (And.intro hstep hij)
        clear hres hstep hij CB z0 z1 z2 z3 z4
        go_wp2_with fail
        go_loopw [5, 6] (fun x b wi => ∃ (j many : Nat) (bad : Int) (v u : Value) (bb : Bool), x = u ∧ b = .bool bb ∧ Hid (StepAt k w1 s T wi j many bad v u bb ∧ (bad = 0 → i < j))) (fun _ _ wi => leftOf s wi k)
        case atStart => exact ⟨j, many2, bad2, v2, u2, bb2, rfl, rfl, HS2.out⟩
        case round =>
          obtain ⟨j3, many3, bad3, v3, u3, bb3, hx3, rfl, hJ⟩ := hrel
          obtain rfl : u3 = _ := hx3.symm
          cases bb3 with
          | false =>
            go_wp2_with fail
            go_roundw
            case rel => exact ⟨j3, many3, bad3, v3, hJ.out.1.off (.inl rfl)⟩
            case measure => exact hJ.out.1.less hJ.out.2 hI.out.1 hi
          | true =>
            by_cases hbad3 : bad3 = 0
            · subst hbad3
              have hV : ∃ st L d jj, StkAt (k + 1) wr v3 st L ∧ OKst s j3 st ∧ d + st.length = 10 ∧ PV (FreeB (k + 1) v3 L) wr jj u3 ∧ T = goesOut st d jj many3 (sfx s j3) ∧ j3 ≤ s.size ∧ many3 ≤ 200 := by
                rcases hJ.out.1.2.2 with ⟨h, _⟩ | ⟨_, h4, h5, st, L, d, h6, h7, h8, ⟨_, jj, h9, h10⟩ | ⟨h9, _⟩⟩
                · exact absurd rfl h
                · exact ⟨st, L, d, jj, h6, h7, h8, h9, h10, h4, h5⟩
                · cases h9
              obtain ⟨st, L, d, jj, hst, hok, hd, hpv, hT, hj3, hmany3⟩ := hV
              obtain ⟨A, cp, rfl, _⟩ := hst.slice
              have hij : i < j3 := hJ.out.2 rfl
              have hsz : k + 1 ≤ wr.heap.size := by have := hJ.out.1.1.lt; omega
              have HPV := Lib.hid hpv
              cases st with
              | nil =>
                have HTT : Hid (T = if skipW (sfx s j3) = [] then .ok jj else .error 3) := hT
                have CN := Lib.hid (next_any k s j3 many3 _ 0 wr hJ.out.1.1 hs (by omega))
                have hl0 : ([] : List Fr).length = 0 := rfl
                rw [hl0] at hJ hpv hst CN HPV
                have HJ := Lib.hid hJ.out.1
                clear hst hok hd hpv hT hsz hJ
                obtain ⟨z0, z1, z2, z3, z4⟩ := HJ.out.1.cells
                go_wp2_with fail
                refine Calls.mono CN.out ?_
                rintro e w4 ⟨j4, rfl, hq4, hij4, hjs, hsk, hg4⟩
                have HQ4 := Lib.hid hq4
                have HG4 := Lib.hid hg4
                have HSK := Lib.hid hsk
                have hj4 : j4 ≤ s.size := hjs hj3
                clear hq4 hg4 hsk hjs CN z0 z1 z2 z3 z4
                obtain ⟨z0, z1, z2, z3, z4⟩ := HQ4.out.cells
                by_cases hend : j4 < s.size
                · have HTE : Hid (T = .error 3) := by
                    unfold Hid
                    rw [HTT.out, if_neg]
                    intro h
                    have h1 := sfx_len s j4
                    rw [HSK.out, h] at h1
                    simp at h1
                    omega
                  have bl1 : decide ((j4 : Int) < (s.size : Int)) = true := decide_eq_true (by omega)
                  have bl2 : decide (j4 < s.size) = true := decide_eq_true hend
                  clear hend
                  go_wp2_with fail
                  go_quiet (fail)
                  generalize hW : World.drewN w4 _ = w5
                  have HX5 : Hid (Ext w4 w5) := by rw [← hW]; exact ext_drewN' _ _
                  clear hW bl1 bl2 z0 z1 z2 z3 z4
                  have HQ5 := Lib.hid (HQ4.out.ext HX5.out)
                  have CF := Lib.hid (fail_any k s j4 many3 _ 0 3 w5 HQ5.out)
                  go_wp2_with fail
                  refine Calls.mono CF.out ?_
                  rintro e w6 ⟨rfl, hq6, hg6⟩
                  have HQ6 : Hid (RIn w6 k s j4 many3 (.slice A 0 cp) 3) := hq6
                  have HB6 : Hid (Below k w1 w6) := by
                    have h1 := HJ.out.2.1
                    have h2 := HJ.out.1.lt
                    exact h1.trans (low_grown (grown_trans HG4.out (grown_trans (grown_ext HX5.out) hg6)) (Nat.le_refl _) (by omega))
                  clear hq6 hg6 CF
                  have HST6 : Hid (StepAt k w1 s T w6 j4 many3 3 (.slice A 0 cp) .nilIface false) := ⟨HQ6.out, HB6.out, .inl ⟨by decide, HTE.out⟩⟩
                  go_wp2_with fail
                  go_roundw
                  case rel => exact ⟨j4, many3, 3, _, HST6.out⟩
                  case measure => exact HST6.out.less (fun e => by cases e) hI.out.1 hi
                · have HTE : Hid (T = .ok jj) := by
                    unfold Hid
                    rw [HTT.out, if_pos]
                    rw [← HSK.out]
                    exact sfx_end (by omega)
                  have bl1 : decide ((j4 : Int) < (s.size : Int)) = false := decide_eq_false (by omega)
                  have bl2 : decide (j4 < s.size) = false := decide_eq_false hend
                  clear hend
                  go_wp2_with fail
                  go_quiet (fail)
                  go_wp2_with fail
                  go_ret2
                  have h1 := HJ.out.2.1
                  have h2 := HJ.out.1.lt
                  have h3 : Below k wr w4 := low_grown HG4.out (Nat.le_refl _) (by omega)
                  have h4 := ext_drewN' w4
                  have h5 := HKW.out
                  have h6 := HG4.out.size
                  refine ⟨Below.trans HX1.out (Below.mono (h1.trans (h3.trans (Below.mono (h4 _) (by omega)))) (by omega)), .inl ⟨jj, u3, HTE.out, ?_, rfl⟩⟩
                  refine PV.keep (fun b hb hlt => ?_) (fun b hb _ => by have := hb.1; omega) _ _ HPV.out
                  exact HG4.out.block b hlt (fun e => by injection e with e; have := hb.1; omega)
              | cons f st =>
                have CG : Hid (Calls Tryz.prog 67 #[.pointer (some ⟨k, 0, none⟩), u3] wr (StepPost k (k + 1) k wr s j3 T)) := by
                  have hd2 : d + (st.length + 1) = 10 := hd
                  cases hf : f.isObj with
                  | false => exact goes_list k (k + 1) k s j3 many3 d A _ cp f st L jj u3 wr hJ.out.1.1 hs hj3 hmany3 hst hok hf hpv (Nat.lt_succ_self _) (Nat.le_refl _) hsz hd2 T hT
                  | true => exact goes_obj k (k + 1) k s j3 many3 d A _ cp f st L jj u3 wr hJ.out.1.1 hs hj3 hmany3 hst hok hf hpv (Nat.lt_succ_self _) (Nat.le_refl _) hsz hd2 T hT
                have hl1 : (f :: st).length = st.length + 1 := rfl
                clear hst hok hd hpv hT hsz
                obtain ⟨z0, z1, z2, z3, z4⟩ := hJ.out.1.1.cells
                rw [hl1] at z3
                have bl0 : (((st.length + 1 : Nat) : Int) == 0) = false := by rw [beq_eq_false_iff_ne]; omega
                have bl1 : ((st.length : Int) + 1 == 0) = false := by rw [beq_eq_false_iff_ne]; omega
                clear hl1
                go_wp2_with fail
                refine Calls.mono CG.out ?_
                intro e w4 hres
                obtain ⟨j4, many4, bad4, v4, u4, bb4, rfl, hstep, hij4⟩ := hres.at_ hJ.out.1.2.1
                have HS4 := Lib.hid (And.intro hstep hij4)
                clear hres hstep hij4 CG z0 z1 z2 z3 z4 bl0 bl1
                go_wp2_with fail
                go_roundw
                case rel => exact ⟨j4, many4, bad4, v4, u4, bb4, rfl, rfl, HS4.out.1, fun e => Nat.lt_trans hij (HS4.out.2 e)⟩
                case measure => exact HS4.out.1.less HS4.out.2 hJ.out.1.1 hj3
            · have bb3 : (bad3 == 0) = false := by rw [beq_eq_false_iff_ne]; exact hbad3
              have HB3 := Lib.hid hbad3
              obtain ⟨z0, z1, z2, z3, z4⟩ := hJ.out.1.1.cells
              clear hbad3
              go_wp2_with fail
              go_roundw
              case rel => exact ⟨j3, many3, bad3, v3, hJ.out.1.off (.inr HB3.out)⟩
              case measure => exact hJ.out.1.less hJ.out.2 hI.out.1 hi
      · have bb : (bad == 0) = false := by rw [beq_eq_false_iff_ne]; exact hbad
        have HB := Lib.hid hbad
        obtain ⟨z0, z1, z2, z3, z4⟩ := hI.out.1.cells
        clear hbad
        go_wp2_with fail
        go_quiet (fail)
        go_wp2_with fail
        go_ret2
        have hTE : T = .error bad := by
          rcases hI.out.2.2 with ⟨_, h⟩ | ⟨h, _⟩
          · exact h
          · exact absurd h HB.out
        exact ⟨Below.trans HX1.out ((Below.mono hI.out.2.1 (Nat.le_of_eq HKW.out)).trans (Below.mono (ext_drewN' _ _) (by have h1 := HX1.out.size; have h2 := hI.out.2.1.size; omega))), .inr ⟨bad, HB.out, hTE, rfl⟩⟩
end Go.Proofs.YtnccefeehkcneaaGreatDoor.Jm
