/-
  The reference's PtrGet, PtrPut, PtrCut (printed by gen/rp6.py).
  The law PtrGoes: the program's Get, Put, Cut answer as the reference's (printed by gen/pl1.py).
-/
import Derived.Test.YtahinicpceokcaaGreatDoorRp5
import Derived.Test.YtahinicpceokcaaGreatDoorPg6
namespace Go.Proofs.YtahinicpceokcaaGreatDoor.Jm
open Go Go.RowKit Go.Proofs.YtahinicpceokcaaGreatDoor.Sx Go.Proofs.YtahinicpceokcaaGreatDoor.Js Go.Proofs.YtahinicpceokcaaGreatDoor.Gr Go.Proofs.YtahinicpceokcaaGreatDoor.Ur
theorem rput_all : ∀ steps : List Tx, RPutC steps
  | [] => rput_nil
  | st :: r => rput_cons st r (fun _ => rput_all r)
/-- told, whatever was made. -/
theorem rptold_any (F : Nat → Prop) (o : Option J) (w : World) (hm : MaxC w) (hb : ∀ y, o = some y → WJ y ∧ bulkJ y ≤ 16777216) (e : Ending) (w' : World) (h : RPutPost F o w e w') : ∃ K3 B3 z3 s3 Aa3 na3 ca3 D3 m3 d3 er, e = .returned (.tuple #[.agg #[.int .i64 K3, .bool B3, .int .i64 z3, .string s3, .slice Aa3 na3 ca3, .slice D3 m3 d3], .int .i64 er]) ∧ Ext w w' ∧ Calls Tryz.prog 48 #[.agg #[.int .i64 K3, .bool B3, .int .i64 z3, .string s3, .slice Aa3 na3 ca3, .slice D3 m3 d3], .int .i64 er] w' (Answer (toldO o) w') := by
  obtain ⟨hw, K3, B3, z3, s3, Aa3, na3, ca3, D3, m3, d3, ⟨rfl, rfl⟩ | ⟨y, rfl, hr, rfl⟩⟩ := h
  · exact ⟨K3, B3, z3, s3, Aa3, na3, ca3, D3, m3, d3, 7, rfl, hw, (rtold_bad 7 (by decide) K3 B3 z3 s3 Aa3 na3 ca3 D3 m3 d3 w').mono fun e w2 ⟨h1, h2⟩ => ⟨h1, h2⟩⟩
  · exact ⟨K3, B3, z3, s3, Aa3, na3, ca3, D3, m3, d3, 0, rfl, hw, (rtold_ok y F K3 B3 z3 s3 Aa3 na3 ca3 D3 m3 d3 w' hr (RV.ij y _ hr (hb y rfl).1) (hm.ext hw) (hb y rfl).2).mono fun e w2 ⟨h1, h2⟩ => ⟨h1, h2⟩⟩
set_option maxRecDepth 100000 in
set_option maxHeartbeats 8000000 in
theorem rpget_any (s p : ByteArray) (w : World) (hs : p.size ≤ 1048576) (hm : MaxC w) : Calls Tryz.prog 24 #[.string s, .string p] w (Answer (getR (bothR s p)) w) := by
  have C1 := Lib.hid (rread_any s w)
  have C2 : Hid (∀ W, Ext w W → Calls Tryz.prog 54 #[.string p] W (StepsPost W p)) := fun W hW => rsteps_any p W hs
  have HB : Hid (bothR s p = match readS s.data.toList with | .error e => .error e | .ok j => if (stepsR p).2 = 0 then .ok (j, (stepsR p).1.map fun x => x.data.toList) else .error (stepsR p).2) := rfl
  have HC : Hid (∀ W e W', StepsPost W p e W' → ∃ A c L n, stepsR p = (L, n) ∧ e = .returned (.tuple #[.slice A L.length c, .int .i64 n]) ∧ NamesAt (fun _ => True) W' A (L.map fun x => x.data.toList) ∧ (L.map fun x => x.data.toList).length ≤ c ∧ Ext W W') := fun W e W' ⟨A, c, h1, h2, h3⟩ =>
    ⟨A, c, (stepsR p).1, (stepsR p).2, rfl, h1, (steps_names h2).1, (steps_names h2).2, h3⟩
  have HG := Lib.hid (fun j (h : readS s.data.toList = .ok j) => readS_good h)
  obtain ⟨R, hR⟩ : ∃ R, R = readS s.data.toList := ⟨_, rfl⟩
  rw [← hR] at C1 HB HG
  have HM := Lib.hid hm
  have HPS := Lib.hid hs
  have hxw : Ext w w := Below.refl _ _
  have HXW := Lib.hid hxw
  clear hR hs hm hxw
  go_enter Tryz.func24, Tryz.ntmps24
  go_wp2_with fail
  refine Calls.mono (C1.out) ?_
  rintro e w2 ⟨x2, K1, B1, z1, s1, Aa1, na1, ca1, D1, m1, d1, er, rfl, hres⟩
  unfold v6
  have Xw2 : Hid (Ext w w2) := (HXW.out).trans x2
  clear x2
  go_upto_region 2 with (fail)
  obtain ⟨g, hg⟩ : ∃ g, g = w2.heap.size := ⟨_, rfl⟩
  rw [← hg]
  generalize hW : World.alloc w2 _ = w3
  have Xw3 : Hid (Ext w w3) := by rw [← hW]; exact Xw2.out.trans (new_ext _ _)
  have XXw3 : Hid (Ext w2 w3) := by rw [← hW]; exact new_ext _ _
  have Vw3 : Hid (VIn w3 g K1 B1 z1 s1 (.slice Aa1 na1 ca1) (.slice D1 m1 d1)) := by rw [← hW]; exact heap_new hg
  clear hW hg
  rcases hres with ⟨rfl, j, hj, hrv⟩ | ⟨her, hj, -⟩
  · have HJ := Lib.hid hj
    have RJ : Hid (RV (fun b => w.heap.size ≤ b) w3 j (v6 K1 B1 z1 s1 (.slice Aa1 na1 ca1) (.slice D1 m1 d1))) := RV.keep (fun b _ hb => XXw3.out.block b hb) (fun b hb _ => hb) _ _ hrv
    have GJ := Lib.hid (HG.out j hj)
    clear hj hrv
    go_wp2_with fail
    refine Calls.mono (C2.out w3 Xw3.out) ?_
    intro e w4 hst
    obtain ⟨A, c, L, n, hsp, rfl, hna, hc, x4⟩ := HC.out _ _ _ hst
    have Xw4 := Lib.hid (Xw3.out.trans x4)
    have Vw4 := Lib.hid (Vw3.out.ext x4)
    have RJ4 := Lib.hid (RJ.out.ext x4)
    have HSP := Lib.hid hsp
    have HNA := Lib.hid (And.intro hna hc)
    clear hst hsp hna hc x4 HC
    by_cases h0 : n = 0
    · subst h0
      have HL := Lib.hid (steps_low p)
      rw [HSP.out] at HL
      have HB2 : Hid (bothR s p = .ok (j, L.map fun x => x.data.toList)) := by unfold Hid; rw [HB.out, HJ.out, HSP.out]; rfl
      have HLN : Hid ((L.map fun x => x.data.toList).length = L.length) := List.length_map ..
      have CA := Lib.hid (rat_all (L.map fun x => x.data.toList) (fun b => w.heap.size ≤ b) j _ A c w4 (fun b hb => Nat.le_trans Xw4.out.size hb) RJ4.out GJ.out.1 (by have := GJ.out.2; omega) HNA.out.1 HNA.out.2)
      have HGA : Hid (∀ y, atJ j (L.map fun x => x.data.toList) = some y → WJ y ∧ bulkJ y ≤ 128000) := fun y h => ⟨(at_wj _ j y GJ.out.1 h).1, Nat.le_trans (at_wj _ j y GJ.out.1 h).2 GJ.out.2⟩
      have HGE : Hid (getR (bothR s p) = match atJ j (L.map fun x => x.data.toList) with | none => ([], 7) | some v => (textJ v, 0)) := by unfold Hid; rw [HB2.out]; rfl
      obtain ⟨o, ho⟩ : ∃ o, o = atJ j (L.map fun x => x.data.toList) := ⟨_, rfl⟩
      rw [← ho] at CA HGA HGE
      rw [HLN.out] at CA
      clear ho
      obtain ⟨a0, a1, a2, a3, a4, a5⟩ := (Vw4.out).cells
      go_wp2_with fail
      refine Calls.mono CA.out ?_
      rintro e w5 ⟨x5, K3, B3, z3, s3, Aa3, na3, ca3, D3, m3, d3, rfl, hz, hr⟩
      have X5 := Lib.hid (Xw4.out.trans x5)
      have HR := Lib.hid hr
      clear x5 hz hr a0 a1 a2 a3 a4 a5
      go_upto_region 8 with (fail)
      obtain ⟨g6, hg⟩ : ∃ g, g = w5.heap.size := ⟨_, rfl⟩
      rw [← hg]
      generalize hW : World.alloc w5 _ = w6
      have X6 : Hid (Ext w w6) := by rw [← hW]; exact X5.out.trans (new_ext _ _)
      have X56 : Hid (Ext w5 w6) := by rw [← hW]; exact new_ext _ _
      have V6 : Hid (VIn w6 g6 K3 B3 z3 s3 (.slice Aa3 na3 ca3) (.slice D3 m3 d3)) := by rw [← hW]; exact heap_new hg
      clear hW hg
      cases o with
      | none =>
        go_wp2_with fail
        go_ret2
        exact ⟨by rw [HGE.out]; rfl, X6.out⟩
      | some y =>
        have hry := (HR.out rfl).ext X56.out
        have CT := Lib.hid (rtext_val y _ (v6 K3 B3 z3 s3 (.slice Aa3 na3 ca3) (.slice D3 m3 d3)) w6 hry (RV.ij y _ hry (HGA.out y rfl).1) (HM.out.ext X6.out) (by have := (HGA.out y rfl).2; omega))
        obtain ⟨a0, a1, a2, a3, a4, a5⟩ := (V6.out).cells
        clear hry HR
        unfold v6 at CT
        go_wp2_with fail
        refine Calls.mono CT.out ?_
        rintro e w7 ⟨rfl, x7⟩
        have X7 := Lib.hid (X6.out.trans x7)
        clear x7 a0 a1 a2 a3 a4 a5
        go_wp2_with fail
        go_ret2
        exact ⟨by rw [HGE.out]; rfl, X7.out⟩
    · have HB2 : Hid (bothR s p = .error n) := by unfold Hid; rw [HB.out, HJ.out, HSP.out]; exact if_neg h0
      have b1 : (n != 0) = true := by rw [bne_iff_ne]; exact h0
      clear h0
      go_wp2_with fail
      go_ret2
      exact ⟨by rw [HB2.out]; rfl, Xw4.out⟩
  · have HB2 : Hid (bothR s p = .error er) := by unfold Hid; rw [HB.out, hj]
    have HJ := Lib.hid hj
    have b1 : (er != 0) = true := by rw [bne_iff_ne]; exact her
    clear her hj
    go_wp2_with fail
    go_ret2
    exact ⟨by rw [HB2.out]; rfl, Xw3.out⟩
set_option maxRecDepth 100000 in
set_option maxHeartbeats 8000000 in
theorem rpput_any (s p t : ByteArray) (w : World) (hs : p.size ≤ 1048576) (hm : MaxC w) : Calls Tryz.prog 26 #[.string s, .string p, .string t] w (Answer (putR (bothR s p) (readS t.data.toList)) w) := by
  have C1 := Lib.hid (rread_any s w)
  have C2 : Hid (∀ W, Ext w W → Calls Tryz.prog 54 #[.string p] W (StepsPost W p)) := fun W hW => rsteps_any p W hs
  have HB : Hid (bothR s p = match readS s.data.toList with | .error e => .error e | .ok j => if (stepsR p).2 = 0 then .ok (j, (stepsR p).1.map fun x => x.data.toList) else .error (stepsR p).2) := rfl
  have HC : Hid (∀ W e W', StepsPost W p e W' → ∃ A c L n, stepsR p = (L, n) ∧ e = .returned (.tuple #[.slice A L.length c, .int .i64 n]) ∧ NamesAt (fun _ => True) W' A (L.map fun x => x.data.toList) ∧ (L.map fun x => x.data.toList).length ≤ c ∧ Ext W W') := fun W e W' ⟨A, c, h1, h2, h3⟩ =>
    ⟨A, c, (stepsR p).1, (stepsR p).2, rfl, h1, (steps_names h2).1, (steps_names h2).2, h3⟩
  have HG := Lib.hid (fun j (h : readS s.data.toList = .ok j) => readS_good h)
  have CV := Lib.hid (fun W => rread_any t W)
  have HGV := Lib.hid (fun v (h : readS t.data.toList = .ok v) => readS_good h)
  obtain ⟨V, hV⟩ : ∃ V, V = readS t.data.toList := ⟨_, rfl⟩
  rw [← hV] at CV HGV ⊢
  clear hV
  obtain ⟨R, hR⟩ : ∃ R, R = readS s.data.toList := ⟨_, rfl⟩
  rw [← hR] at C1 HB HG
  have HM := Lib.hid hm
  have HPS := Lib.hid hs
  have hxw : Ext w w := Below.refl _ _
  have HXW := Lib.hid hxw
  clear hR hs hm hxw
  go_enter Tryz.func26, Tryz.ntmps26
  go_wp2_with fail
  refine Calls.mono (C1.out) ?_
  rintro e w2 ⟨x2, K1, B1, z1, s1, Aa1, na1, ca1, D1, m1, d1, er, rfl, hres⟩
  unfold v6
  have Xw2 : Hid (Ext w w2) := (HXW.out).trans x2
  clear x2
  go_upto_region 2 with (fail)
  obtain ⟨g, hg⟩ : ∃ g, g = w2.heap.size := ⟨_, rfl⟩
  rw [← hg]
  generalize hW : World.alloc w2 _ = w3
  have Xw3 : Hid (Ext w w3) := by rw [← hW]; exact Xw2.out.trans (new_ext _ _)
  have XXw3 : Hid (Ext w2 w3) := by rw [← hW]; exact new_ext _ _
  have Vw3 : Hid (VIn w3 g K1 B1 z1 s1 (.slice Aa1 na1 ca1) (.slice D1 m1 d1)) := by rw [← hW]; exact heap_new hg
  clear hW hg
  rcases hres with ⟨rfl, j, hj, hrv⟩ | ⟨her, hj, -⟩
  · have HJ := Lib.hid hj
    have RJ : Hid (RV (fun b => w.heap.size ≤ b) w3 j (v6 K1 B1 z1 s1 (.slice Aa1 na1 ca1) (.slice D1 m1 d1))) := RV.keep (fun b _ hb => XXw3.out.block b hb) (fun b hb _ => hb) _ _ hrv
    have GJ := Lib.hid (HG.out j hj)
    clear hj hrv
    go_wp2_with fail
    refine Calls.mono (C2.out w3 Xw3.out) ?_
    intro e w4 hst
    obtain ⟨A, c, L, n, hsp, rfl, hna, hc, x4⟩ := HC.out _ _ _ hst
    have Xw4 := Lib.hid (Xw3.out.trans x4)
    have Vw4 := Lib.hid (Vw3.out.ext x4)
    have RJ4 := Lib.hid (RJ.out.ext x4)
    have HSP := Lib.hid hsp
    have HNA := Lib.hid (And.intro hna hc)
    clear hst hsp hna hc x4 HC
    by_cases h0 : n = 0
    · subst h0
      have HL := Lib.hid (steps_low p)
      rw [HSP.out] at HL
      have HB2 : Hid (bothR s p = .ok (j, L.map fun x => x.data.toList)) := by unfold Hid; rw [HB.out, HJ.out, HSP.out]; rfl
      have HLN : Hid ((L.map fun x => x.data.toList).length = L.length) := List.length_map ..
      go_wp2_with fail
      refine Calls.mono (CV.out w4) ?_
      rintro e w5 ⟨x2, K2, B2, z2, s2, Aa2, na2, ca2, D2, m2, d2, er, rfl, hres⟩
      unfold v6
      have Xw5 : Hid (Ext w w5) := (Xw4.out).trans x2
      have X45 := Lib.hid x2
      clear x2
      go_upto_region 8 with (fail)
      obtain ⟨g6, hg⟩ : ∃ g, g = w5.heap.size := ⟨_, rfl⟩
      rw [← hg]
      generalize hW : World.alloc w5 _ = w6
      have Xw6 : Hid (Ext w w6) := by rw [← hW]; exact Xw5.out.trans (new_ext _ _)
      have XXw6 : Hid (Ext w5 w6) := by rw [← hW]; exact new_ext _ _
      have Vw6 : Hid (VIn w6 g6 K2 B2 z2 s2 (.slice Aa2 na2 ca2) (.slice D2 m2 d2)) := by rw [← hW]; exact heap_new hg
      clear hW hg
      rcases hres with ⟨rfl, v, hv, hrx⟩ | ⟨her, hj, -⟩
      · have X46 : Hid (Ext w4 w6) := Lib.hid (X45.out.trans XXw6.out)
        have HXV : Hid (RV (fun b => w.heap.size ≤ b) w6 v (v6 K2 B2 z2 s2 (.slice Aa2 na2 ca2) (.slice D2 m2 d2))) := RV.keep (fun b _ hb => XXw6.out.block b hb) (fun b hb _ => Nat.le_trans Xw4.out.size hb) _ _ hrx
        have GV := Lib.hid (HGV.out v hv)
        have CP : Hid (Calls Tryz.prog 58 #[.agg #[.int .i64 K1, .bool B1, .int .i64 z1, .string s1, .slice Aa1 na1 ca1, .slice D1 m1 d1], .slice A (L.map fun x => x.data.toList).length c, .int .i64 0, .agg #[.int .i64 K2, .bool B2, .int .i64 z2, .string s2, .slice Aa2 na2 ca2, .slice D2 m2 d2]] w6 (RPutPost (fun b => w.heap.size ≤ b) (putG 0 v j (L.map fun x => x.data.toList)) w6)) :=
          rput_all (L.map fun x : ByteArray => x.data.toList) (fun b => w.heap.size ≤ b) j v _ _ A c 0 w6 (fun b hb => Nat.le_trans Xw6.out.size hb) (RJ4.out.ext X46.out) (.inl HXV.out) (fun _ => HXV.out) (.inr (by decide)) (by decide) GJ.out.1 (by have := GJ.out.2; omega) (HNA.out.1.ext X46.out) HNA.out.2
        have HGP : Hid (∀ y, putG 0 v j (L.map fun x => x.data.toList) = some y → WJ y ∧ bulkJ y ≤ 16777216) := fun y h => by
          have h2 := put_bulk (m := 1048576) _ j y GJ.out.1 (fun _ => GV.out.1) (fun x hx => Nat.le_trans (HL.out.2 x hx) HPS.out) h
          have h3 := GV.out.2
          have h4 := GJ.out.2
          exact ⟨put_wj _ j y (.inr (by decide)) GJ.out.1 (fun _ => GV.out.1) h, by omega⟩
        have HO := Lib.hid (rptold_any (fun b => w.heap.size ≤ b) (putG 0 v j (L.map fun x => x.data.toList)) w6 (HM.out.ext Xw6.out) HGP.out)
        have HGE : Hid (putR (bothR s p) V = toldO (putG 0 v j (L.map fun x => x.data.toList))) := by unfold Hid; rw [HB2.out, hv]; rfl
        rw [HLN.out] at CP
        obtain ⟨a0, a1, a2, a3, a4, a5⟩ := (Vw4.out.ext X46.out).cells
        obtain ⟨b0, b1, b2, b3, b4, b5⟩ := (Vw6.out).cells
        clear hv hrx
        go_wp2_with fail
        refine Calls.mono CP.out ?_
        intro e w7 h7
        obtain ⟨K3, B3, z3, s3, Aa3, na3, ca3, D3, m3, d3, er, rfl, x7, hc7⟩ := HO.out _ _ h7
        have C7 := Lib.hid hc7
        have X7 := Lib.hid (Xw6.out.trans x7)
        clear h7 x7 hc7
        go_wp2_with fail
        refine Calls.mono C7.out ?_
        rintro e w8 ⟨rfl, x8⟩
        have X8 := Lib.hid (X7.out.trans x8)
        clear x8
        go_wp2_with fail
        go_ret2
        exact ⟨by rw [HGE.out]; rfl, X8.out⟩
      · have HGE : Hid (putR (bothR s p) V = ([], er)) := by unfold Hid; rw [HB2.out, hj]; rfl
        have HJ := Lib.hid hj
        have b1 : (er != 0) = true := by rw [bne_iff_ne]; exact her
        clear her hj
        go_wp2_with fail
        go_ret2
        exact ⟨by rw [HGE.out]; rfl, Xw6.out⟩
    · have HB2 : Hid (bothR s p = .error n) := by unfold Hid; rw [HB.out, HJ.out, HSP.out]; exact if_neg h0
      have b1 : (n != 0) = true := by rw [bne_iff_ne]; exact h0
      clear h0
      go_wp2_with fail
      go_ret2
      exact ⟨by rw [HB2.out]; rfl, Xw4.out⟩
  · have HB2 : Hid (bothR s p = .error er) := by unfold Hid; rw [HB.out, hj]
    have HJ := Lib.hid hj
    have b1 : (er != 0) = true := by rw [bne_iff_ne]; exact her
    clear her hj
    go_wp2_with fail
    go_ret2
    exact ⟨by rw [HB2.out]; rfl, Xw3.out⟩
set_option maxRecDepth 100000 in
set_option maxHeartbeats 8000000 in
theorem rpcut_any (s p : ByteArray) (w : World) (hs : p.size ≤ 1048576) (hm : MaxC w) : Calls Tryz.prog 28 #[.string s, .string p] w (Answer (cutR (bothR s p)) w) := by
  have C1 := Lib.hid (rread_any s w)
  have C2 : Hid (∀ W, Ext w W → Calls Tryz.prog 54 #[.string p] W (StepsPost W p)) := fun W hW => rsteps_any p W hs
  have HB : Hid (bothR s p = match readS s.data.toList with | .error e => .error e | .ok j => if (stepsR p).2 = 0 then .ok (j, (stepsR p).1.map fun x => x.data.toList) else .error (stepsR p).2) := rfl
  have HC : Hid (∀ W e W', StepsPost W p e W' → ∃ A c L n, stepsR p = (L, n) ∧ e = .returned (.tuple #[.slice A L.length c, .int .i64 n]) ∧ NamesAt (fun _ => True) W' A (L.map fun x => x.data.toList) ∧ (L.map fun x => x.data.toList).length ≤ c ∧ Ext W W') := fun W e W' ⟨A, c, h1, h2, h3⟩ =>
    ⟨A, c, (stepsR p).1, (stepsR p).2, rfl, h1, (steps_names h2).1, (steps_names h2).2, h3⟩
  have HG := Lib.hid (fun j (h : readS s.data.toList = .ok j) => readS_good h)
  obtain ⟨R, hR⟩ : ∃ R, R = readS s.data.toList := ⟨_, rfl⟩
  rw [← hR] at C1 HB HG
  have HM := Lib.hid hm
  have HPS := Lib.hid hs
  have hxw : Ext w w := Below.refl _ _
  have HXW := Lib.hid hxw
  clear hR hs hm hxw
  go_enter Tryz.func28, Tryz.ntmps28
  go_wp2_with fail
  refine Calls.mono (C1.out) ?_
  rintro e w2 ⟨x2, K1, B1, z1, s1, Aa1, na1, ca1, D1, m1, d1, er, rfl, hres⟩
  unfold v6
  have Xw2 : Hid (Ext w w2) := (HXW.out).trans x2
  clear x2
  go_upto_region 2 with (fail)
  obtain ⟨g, hg⟩ : ∃ g, g = w2.heap.size := ⟨_, rfl⟩
  rw [← hg]
  generalize hW : World.alloc w2 _ = w3
  have Xw3 : Hid (Ext w w3) := by rw [← hW]; exact Xw2.out.trans (new_ext _ _)
  have XXw3 : Hid (Ext w2 w3) := by rw [← hW]; exact new_ext _ _
  have Vw3 : Hid (VIn w3 g K1 B1 z1 s1 (.slice Aa1 na1 ca1) (.slice D1 m1 d1)) := by rw [← hW]; exact heap_new hg
  clear hW hg
  rcases hres with ⟨rfl, j, hj, hrv⟩ | ⟨her, hj, -⟩
  · have HJ := Lib.hid hj
    have RJ : Hid (RV (fun b => w.heap.size ≤ b) w3 j (v6 K1 B1 z1 s1 (.slice Aa1 na1 ca1) (.slice D1 m1 d1))) := RV.keep (fun b _ hb => XXw3.out.block b hb) (fun b hb _ => hb) _ _ hrv
    have GJ := Lib.hid (HG.out j hj)
    clear hj hrv
    go_wp2_with fail
    refine Calls.mono (C2.out w3 Xw3.out) ?_
    intro e w4 hst
    obtain ⟨A, c, L, n, hsp, rfl, hna, hc, x4⟩ := HC.out _ _ _ hst
    have Xw4 := Lib.hid (Xw3.out.trans x4)
    have Vw4 := Lib.hid (Vw3.out.ext x4)
    have RJ4 := Lib.hid (RJ.out.ext x4)
    have HSP := Lib.hid hsp
    have HNA := Lib.hid (And.intro hna hc)
    clear hst hsp hna hc x4 HC
    by_cases h0 : n = 0
    · subst h0
      have HL := Lib.hid (steps_low p)
      rw [HSP.out] at HL
      have HB2 : Hid (bothR s p = .ok (j, L.map fun x => x.data.toList)) := by unfold Hid; rw [HB.out, HJ.out, HSP.out]; rfl
      have HLN : Hid ((L.map fun x => x.data.toList).length = L.length) := List.length_map ..
      by_cases h0 : L = []
      · have HGE : Hid (cutR (bothR s p) = ([], 1)) := by
          unfold Hid
          rw [HB2.out]
          show cutA _ = _
          unfold cutA
          rw [if_pos (by rw [h0]; rfl)]
        have hN0 : L.length = 0 := by rw [h0]; rfl
        clear h0
        rw [hN0]
        go_wp2_with fail
        go_ret2
        exact ⟨by rw [HGE.out]; rfl, Xw4.out⟩
      · have hl0 : (L.map fun x => x.data.toList) ≠ [] := fun h => h0 (List.map_eq_nil_iff.1 h)
        have HGE : Hid (cutR (bothR s p) = toldO (putG 2 .null j (L.map fun x => x.data.toList))) := by
          unfold Hid
          rw [HB2.out]
          show cutA _ = _
          unfold cutA
          rw [if_neg hl0]
        have CP : Hid (Calls Tryz.prog 58 #[.agg #[.int .i64 K1, .bool B1, .int .i64 z1, .string s1, .slice Aa1 na1 ca1, .slice D1 m1 d1], .slice A (L.map fun x => x.data.toList).length c, .int .i64 2, .agg #[.int .i64 0, .bool false, .int .i64 0, .string ⟨#[]⟩, .slice none 0 0, .slice none 0 0]] w4 (RPutPost (fun b => w.heap.size ≤ b) (putG 2 .null j (L.map fun x => x.data.toList)) w4)) :=
          rput_all (L.map fun x : ByteArray => x.data.toList) (fun b => w.heap.size ≤ b) j .null _ _ A c 2 w4 (fun b hb => Nat.le_trans Xw4.out.size hb) RJ4.out (RZ.null _ _) (fun h => absurd rfl h) (.inl hl0) (by decide) GJ.out.1 (by have := GJ.out.2; omega) HNA.out.1 HNA.out.2
        have HGP : Hid (∀ y, putG 2 .null j (L.map fun x => x.data.toList) = some y → WJ y ∧ bulkJ y ≤ 16777216) := fun y h => by
          have h2 := put_bulk (m := 1048576) _ j y GJ.out.1 (fun h => absurd rfl h) (fun x hx => Nat.le_trans (HL.out.2 x hx) HPS.out) h
          have h4 := GJ.out.2
          have hn : bulkJ .null ≤ 32 := by rw [bulkJ]; decide
          exact ⟨put_wj _ j y (.inl hl0) GJ.out.1 (fun h => absurd rfl h) h, by omega⟩
        have HO := Lib.hid (rptold_any (fun b => w.heap.size ≤ b) (putG 2 .null j (L.map fun x => x.data.toList)) w4 (HM.out.ext Xw4.out) HGP.out)
        obtain ⟨m, hm⟩ : ∃ m, m = L.length := ⟨_, rfl⟩
        have hN0 : ¬ ((m : Int) = 0) := by
          intro h
          exact h0 (List.length_eq_zero_iff.1 (by omega))
        have hNb : ((m : Int) == 0) = false := by rw [beq_eq_false_iff_ne]; exact hN0
        rw [HLN.out, ← hm] at CP
        rw [← hm]
        obtain ⟨a0, a1, a2, a3, a4, a5⟩ := (Vw4.out).cells
        clear h0 hl0 hm
        go_wp2_with fail
        refine Calls.mono CP.out ?_
        intro e w7 h7
        obtain ⟨K3, B3, z3, s3, Aa3, na3, ca3, D3, m3, d3, er, rfl, x7, hc7⟩ := HO.out _ _ h7
        have C7 := Lib.hid hc7
        have X7 := Lib.hid (Xw4.out.trans x7)
        clear h7 x7 hc7
        go_wp2_with fail
        refine Calls.mono C7.out ?_
        rintro e w8 ⟨rfl, x8⟩
        have X8 := Lib.hid (X7.out.trans x8)
        clear x8
        go_wp2_with fail
        go_ret2
        exact ⟨by rw [HGE.out]; rfl, X8.out⟩
    · have HB2 : Hid (bothR s p = .error n) := by unfold Hid; rw [HB.out, HJ.out, HSP.out]; exact if_neg h0
      have b1 : (n != 0) = true := by rw [bne_iff_ne]; exact h0
      clear h0
      go_wp2_with fail
      go_ret2
      exact ⟨by rw [HB2.out]; rfl, Xw4.out⟩
  · have HB2 : Hid (bothR s p = .error er) := by unfold Hid; rw [HB.out, hj]
    have HJ := Lib.hid hj
    have b1 : (er != 0) = true := by rw [bne_iff_ne]; exact her
    clear her hj
    go_wp2_with fail
    go_ret2
    exact ⟨by rw [HB2.out]; rfl, Xw3.out⟩
end Go.Proofs.YtahinicpceokcaaGreatDoor.Jm
namespace Go.Proofs.YtahinicpceokcaaGreatDoor.Jm
open Go Go.RowKit Go.Proofs.YtahinicpceokcaaGreatDoor.Sx Go.Proofs.YtahinicpceokcaaGreatDoor.Js Go.Proofs.YtahinicpceokcaaGreatDoor.Gr
set_option maxRecDepth 100000 in
set_option maxHeartbeats 4000000 in
theorem ptrGoes_walk (s p v : ByteArray) (w : World) (hs : p.size ≤ 1048576) (hm : MaxC w) (ht : Tab10 w) (hE : Errs w) : Calls Tryz.prog 6 #[.string s, .string p, .string v] w fun e w' => e = .returned (.bool true) ∧ Ext w w' := by
  obtain ⟨T, hT⟩ : ∃ T, T = bothR s p := ⟨_, rfl⟩
  obtain ⟨V, hV⟩ : ∃ V, V = readS v.data.toList := ⟨_, rfl⟩
  have P0 : Hid (∀ W, Ext w W → Calls Tryz.prog 23 #[.string s, .string p] W fun e w' => e = .returned (.tuple #[.string (bx (getR T).1), .int .i64 (getR T).2]) ∧ Ext W w') := fun W hx => by rw [hT]; exact pget_any s p W hs (hm.ext hx) (ht.ext hx) (hE.ext hx)
  have R0 : Hid (∀ W, Ext w W → Calls Tryz.prog 24 #[.string s, .string p] W fun e w' => e = .returned (.tuple #[.string (bx (getR T).1), .int .i64 (getR T).2]) ∧ Ext W w') := fun W hx => by rw [hT]; exact rpget_any s p W hs (hm.ext hx)
  obtain ⟨x0, hx0⟩ : ∃ x, x = bx (getR T).1 := ⟨_, rfl⟩
  obtain ⟨y0, hy0⟩ : ∃ y, y = (getR T).2 := ⟨_, rfl⟩
  rw [← hx0, ← hy0] at P0 R0
  have e0 : (x0.toList == x0.toList) = true := beq_self_eq_true _
  have P1 : Hid (∀ W, Ext w W → Calls Tryz.prog 25 #[.string s, .string p, .string v] W fun e w' => e = .returned (.tuple #[.string (bx (putR T V).1), .int .i64 (putR T V).2]) ∧ Ext W w') := fun W hx => by rw [hT, hV]; exact pput_any s p v W hs (hm.ext hx) (ht.ext hx) (hE.ext hx)
  have R1 : Hid (∀ W, Ext w W → Calls Tryz.prog 26 #[.string s, .string p, .string v] W fun e w' => e = .returned (.tuple #[.string (bx (putR T V).1), .int .i64 (putR T V).2]) ∧ Ext W w') := fun W hx => by rw [hT, hV]; exact rpput_any s p v W hs (hm.ext hx)
  obtain ⟨x1, hx1⟩ : ∃ x, x = bx (putR T V).1 := ⟨_, rfl⟩
  obtain ⟨y1, hy1⟩ : ∃ y, y = (putR T V).2 := ⟨_, rfl⟩
  rw [← hx1, ← hy1] at P1 R1
  have e1 : (x1.toList == x1.toList) = true := beq_self_eq_true _
  have P2 : Hid (∀ W, Ext w W → Calls Tryz.prog 27 #[.string s, .string p] W fun e w' => e = .returned (.tuple #[.string (bx (cutR T).1), .int .i64 (cutR T).2]) ∧ Ext W w') := fun W hx => by rw [hT]; exact pcut_any s p W hs (hm.ext hx) (ht.ext hx) (hE.ext hx)
  have R2 : Hid (∀ W, Ext w W → Calls Tryz.prog 28 #[.string s, .string p] W fun e w' => e = .returned (.tuple #[.string (bx (cutR T).1), .int .i64 (cutR T).2]) ∧ Ext W w') := fun W hx => by rw [hT]; exact rpcut_any s p W hs (hm.ext hx)
  obtain ⟨x2, hx2⟩ : ∃ x, x = bx (cutR T).1 := ⟨_, rfl⟩
  obtain ⟨y2, hy2⟩ : ∃ y, y = (cutR T).2 := ⟨_, rfl⟩
  rw [← hx2, ← hy2] at P2 R2
  have e2 : (x2.toList == x2.toList) = true := beq_self_eq_true _
  clear hx0 hx1 hx2 hy0 hy1 hy2 hT hV hs hm ht hE
  go_enter Tryz.func6, Tryz.ntmps6
  go_wp2_with fail
  refine Calls.mono (P0.out w (Below.refl _ _)) ?_
  rintro e w1 ⟨rfl, q1⟩
  have Q1 := Lib.hid (q1)
  clear q1
  go_wp2_with fail
  refine Calls.mono (R0.out w1 Q1.out) ?_
  rintro e w2 ⟨rfl, q2⟩
  have Q2 := Lib.hid (Q1.out.trans q2)
  clear q2
  go_wp2_with fail
  refine Calls.mono (P1.out w2 Q2.out) ?_
  rintro e w3 ⟨rfl, q3⟩
  have Q3 := Lib.hid (Q2.out.trans q3)
  clear q3
  go_wp2_with fail
  refine Calls.mono (R1.out w3 Q3.out) ?_
  rintro e w4 ⟨rfl, q4⟩
  have Q4 := Lib.hid (Q3.out.trans q4)
  clear q4
  go_wp2_with fail
  refine Calls.mono (P2.out w4 Q4.out) ?_
  rintro e w5 ⟨rfl, q5⟩
  have Q5 := Lib.hid (Q4.out.trans q5)
  clear q5
  go_wp2_with fail
  refine Calls.mono (R2.out w5 Q5.out) ?_
  rintro e w6 ⟨rfl, q6⟩
  have Q6 := Lib.hid (Q5.out.trans q6)
  clear q6
  go_wp2_with fail
  go_ret
  exact ⟨by simp, Q6.out⟩
end Go.Proofs.YtahinicpceokcaaGreatDoor.Jm
