/-
  Ways into documents in plain words; the program's ptr.both, told, Get, Put, Cut (printed by gen/pg6.py).
-/
import Derived.Test.YtahinicpceokcaaGreatDoorPga
import Derived.Test.YtahinicpceokcaaGreatDoorPqa
import Derived.Test.YtahinicpceokcaaGreatDoorMpa
import Derived.Test.YtahinicpceokcaaGreatDoorJta
import Derived.Test.YtahinicpceokcaaGreatDoorJtb
import Derived.Test.YtahinicpceokcaaGreatDoorJkc
import Derived.OwnWalk
import Derived.Test.YtahinicpceokcaaGreatDoorJpb
import Derived.Test.YtahinicpceokcaaGreatDoorRmb
namespace Go.Proofs.YtahinicpceokcaaGreatDoor.Jm
open Go Go.RowKit Go.Proofs.YtahinicpceokcaaGreatDoor.Sx Go.Proofs.YtahinicpceokcaaGreatDoor.Js Go.Proofs.YtahinicpceokcaaGreatDoor.Gr Go.Proofs.YtahinicpceokcaaGreatDoor.Pt
theorem segs_low (c : UInt8) : ∀ (l : List UInt8), ∀ x ∈ segs c l, x.length ≤ l.length
  | [], x, h => by
    unfold segs at h
    rw [List.mem_singleton] at h
    rw [h]; exact Nat.le_refl _
  | y :: r, x, h => by
    have ih := segs_low c r
    have hh := segs_cons c r
    unfold segs at h
    split at h
    · rcases List.mem_cons.1 h with rfl | h
      · exact Nat.zero_le _
      · have := ih x h; simp only [List.length_cons]; omega
    · rcases List.mem_cons.1 h with rfl | h
      · have := ih ((segs c r).headD []) (by rw [hh]; exact List.mem_cons_self ..)
        simp only [List.length_cons]
        omega
      · have := ih x (by rw [hh]; exact List.mem_cons_of_mem _ h)
        simp only [List.length_cons]; omega
theorem unescAll_low {m : Nat} : ∀ {l o : List (List UInt8)}, unescAll l = some o → (∀ x ∈ l, x.length ≤ m) → ∀ x ∈ o, x.length ≤ m
  | [], o, h, _, x, hx => by
    simp [unescAll] at h
    subst h
    cases hx
  | s :: l, o, h, hm, x, hx => by
    unfold unescAll at h
    split at h
    · cases h
    · rename_i t ht
      cases ho : unescAll l with
      | none => rw [ho] at h; cases h
      | some o2 =>
        rw [ho] at h
        injection h with h
        subst h
        rcases List.mem_cons.1 hx with rfl | hx
        · exact Nat.le_trans (unesc_le _ _ _ (Nat.le_refl _) ht) (hm s (List.mem_cons_self ..))
        · exact unescAll_low ho (fun y hy => hm y (List.mem_cons_of_mem _ hy)) x hx
/-- The steps of a way: at most ten, none longer than the way. -/
theorem steps_low (p : ByteArray) : (stepsR p).1.length ≤ 10 ∧ ∀ x ∈ (stepsR p).1.map (fun x => x.data.toList), x.length ≤ p.size := by
  unfold stepsR
  split
  · exact ⟨Nat.zero_le _, fun x h => by cases h⟩
  · rename_i c r hp
    split
    · split
      · exact ⟨Nat.zero_le _, fun x h => by cases h⟩
      · rename_i l hl
        split
        · exact ⟨Nat.zero_le _, fun x h => by cases h⟩
        · rename_i h10
          refine ⟨by simp only [List.length_map]; omega, fun x hx => ?_⟩
          obtain ⟨y, hy, rfl⟩ := List.mem_map.1 hx
          obtain ⟨z, hz, rfl⟩ := List.mem_map.1 hy
          have h1 := unescAll_low hl (m := r.length) (segs_low 47 r) z hz
          have h2 : p.size = r.length + 1 := by
            have : p.data.toList.length = r.length + 1 := by rw [hp]; rfl
            simpa using this
          have h3 : (mkB z).data.toList = z := by simp [mkB]
          rw [h3]
          omega
    · exact ⟨Nat.zero_le _, fun x h => by cases h⟩
/-- A document and the steps of a way. -/
def bothR (s p : ByteArray) : Res (J × List Tx) := match readS s.data.toList with
  | .error e => .error e
  | .ok j => if (stepsR p).2 = 0 then .ok (j, (stepsR p).1.map fun x => x.data.toList) else .error (stepsR p).2
theorem both_good {s p : ByteArray} {j : J} {l : List Tx} (h : bothR s p = .ok (j, l)) : WJ j ∧ bulkJ j ≤ 128000 ∧ l.length ≤ 10 ∧ ∀ x ∈ l, x.length ≤ p.size := by
  unfold bothR at h
  cases hs : readS s.data.toList with
  | error e => rw [hs] at h; cases h
  | ok k =>
    rw [hs] at h
    simp only at h
    split at h
    · injection h with h
      injection h with h1 h2
      obtain ⟨h3, h4⟩ := steps_low p
      refine ⟨by rw [← h1]; exact (readS_good hs).1, by rw [← h1]; exact (readS_good hs).2, by rw [← h2, List.length_map]; exact h3, fun x hx => h4 x (by rw [h2]; exact hx)⟩
    · cases h
def toldO : Option J → Tx × Int
  | none => ([], 7)
  | some j => tellS j
def getA (a : J × List Tx) : Tx × Int := match atJ a.1 a.2 with
  | none => ([], 7)
  | some v => (textJ v, 0)
/-- What Get, Put, Cut answer. -/
def getR (T : Res (J × List Tx)) : Tx × Int := match T with
  | .error e => ([], e)
  | .ok a => getA a
def putR (T : Res (J × List Tx)) (V : Res J) : Tx × Int := match T with
  | .error e => ([], e)
  | .ok a => match V with
    | .error e => ([], e)
    | .ok v => toldO (putG 0 v a.1 a.2)
def cutA (a : J × List Tx) : Tx × Int := if a.2 = [] then ([], 1) else toldO (putG 2 .null a.1 a.2)
def cutR (T : Res (J × List Tx)) : Tx × Int := match T with
  | .error e => ([], e)
  | .ok a => cutA a
def Answer (R : Tx × Int) (w : World) (e : Ending) (w' : World) : Prop := e = .returned (.tuple #[.string (bx R.1), .int .i64 R.2]) ∧ Ext w w'
theorem map_bx (L : List ByteArray) : (L.map fun x => x.data.toList).map bx = L := by
  rw [List.map_map]
  have : (bx ∘ fun x : ByteArray => x.data.toList) = id := funext fun x => of_bx x
  rw [this, List.map_id]
theorem SRow.cap {base : Nat} {w : World} {A : Option Addr} {n c : Nat} {xs : List ByteArray} (h : SRow base w (.slice A n c) xs) : n = xs.length ∧ n ≤ c := by
  rcases h with ⟨hv, rfl⟩ | ⟨g, rest, hv, _⟩
  · injection hv with _ e1 e2
    exact ⟨e1, by omega⟩
  · injection hv with _ e1 e2
    exact ⟨e1, by omega⟩
theorem steps_names {base : Nat} {w : World} {A : Option Addr} {c : Nat} {L : List ByteArray} (h : SRow base w (.slice A L.length c) L) : NamesAt (fun _ => True) w A (L.map fun x => x.data.toList) ∧ (L.map fun x => x.data.toList).length ≤ c := by
  have h1 := SRow.cap h
  rw [← map_bx L] at h
  have h2 := (srow_names h).2
  exact ⟨fun i hi => by
    obtain ⟨g, off, e, _, hc⟩ := h2 i hi
    exact ⟨g, off, e, trivial, hc⟩, by rw [List.length_map]; exact h1.2⟩
/-- What both gives. -/
def BothPost (w : World) (T : Res (J × List Tx)) (e : Ending) (w' : World) : Prop := Ext w w' ∧ ((∃ j l u A c, T = .ok (j, l) ∧ PJ w' j u ∧ NamesAt (fun _ => True) w' A l ∧ l.length ≤ c ∧ e = .returned (.tuple #[u, .slice A l.length c, .int .i64 0])) ∨ ∃ er u A n c, er ≠ 0 ∧ T = .error er ∧ e = .returned (.tuple #[u, .slice A n c, .int .i64 er]))
set_option maxRecDepth 100000 in
set_option maxHeartbeats 4000000 in
theorem both_any (s p : ByteArray) (w : World) (hs : p.size ≤ 1048576) (hm : MaxC w) : Calls Tryz.prog 52 #[.string s, .string p] w (BothPost w (bothR s p)) := by
  have C1 := Lib.hid (read_any s w)
  have C2 : Hid (∀ W, Ext w W → Calls Tryz.prog 89 #[.string p] W (StepsPost W p)) := fun W hW => steps_any p W hs (hm.ext hW)
  have HB : Hid (bothR s p = match readS s.data.toList with | .error e => .error e | .ok j => if (stepsR p).2 = 0 then .ok (j, (stepsR p).1.map fun x => x.data.toList) else .error (stepsR p).2) := rfl
  obtain ⟨R, hR⟩ : ∃ R, R = readS s.data.toList := ⟨_, rfl⟩
  obtain ⟨B, hB⟩ : ∃ R, R = bothR s p := ⟨_, rfl⟩
  have HC : Hid (∀ W e W', StepsPost W p e W' → ∃ A c L n, stepsR p = (L, n) ∧ e = .returned (.tuple #[.slice A L.length c, .int .i64 n]) ∧ NamesAt (fun _ => True) W' A (L.map fun x => x.data.toList) ∧ (L.map fun x => x.data.toList).length ≤ c ∧ Ext W W') := fun W e W' ⟨A, c, h1, h2, h3⟩ =>
    ⟨A, c, (stepsR p).1, (stepsR p).2, rfl, h1, (steps_names h2).1, (steps_names h2).2, h3⟩
  rw [← hB] at HB ⊢
  rw [← hR] at C1 HB
  clear hR hB hs hm
  go_enter Tryz.func52, Tryz.ntmps52
  go_wp2_with fail
  refine Calls.mono C1.out ?_
  rintro e w2 ⟨x2, ⟨j, u, hj, hp, rfl⟩ | ⟨er, her, hj, rfl⟩⟩
  · have X2 := Lib.hid x2
    have HJ := Lib.hid hj
    have HP := Lib.hid (PJ.of hp)
    clear x2 hj hp
    go_wp2_with fail
    refine Calls.mono (C2.out w2 X2.out) ?_
    intro e w3 hst
    obtain ⟨A, c, L, n, hsp, rfl, hna, hc, x3⟩ := HC.out _ _ _ hst
    have X3 := Lib.hid x3
    have HSP := Lib.hid hsp
    have HNA := Lib.hid (And.intro hna hc)
    clear hst hsp hna hc x3 HC
    go_wp2_with fail
    go_ret3
    refine ⟨X2.out.trans X3.out, ?_⟩
    rw [HB.out, HJ.out, HSP.out]
    by_cases h0 : n = 0
    · subst h0
      exact .inl ⟨j, L.map fun x => x.data.toList, u, A, c, rfl, HP.out.ext X3.out, HNA.out.1, HNA.out.2, by rw [List.length_map]; rfl⟩
    · exact .inr ⟨n, u, A, _, c, h0, if_neg h0, rfl⟩
  · have X2 := Lib.hid x2
    have HJ := Lib.hid hj
    have HER := Lib.hid her
    have b1 : (er != 0) = true := by rw [bne_iff_ne]; exact her
    clear x2 hj her
    go_wp2_with fail
    go_ret3
    exact ⟨X2.out, .inr ⟨er, _, _, _, _, HER.out, by rw [HB.out, HJ.out], rfl⟩⟩
set_option maxRecDepth 100000 in
set_option maxHeartbeats 2000000 in
theorem ptold_bad (er : Int) (her : er ≠ 0) (u : Value) (w : World) : Calls Tryz.prog 56 #[u, .int .i64 er] w fun e w' => e = .returned (.tuple #[.string ⟨#[]⟩, .int .i64 er]) ∧ w = w' := by
  have b1 : (er != 0) = true := by rw [bne_iff_ne]; exact her
  clear her
  go_enter Tryz.func56, Tryz.ntmps56
  go_wp2_with fail
  go_ret2
  exact ⟨rfl, rfl⟩
set_option maxRecDepth 100000 in
set_option maxHeartbeats 2000000 in
theorem ptold_ok (j : J) (u : Value) (w : World) (h : PJ w j u) (hw : WJ j) (ht : Tab10 w) (hb : bulkJ j ≤ 16777216) : Calls Tryz.prog 56 #[u, .int .i64 0] w (TellPost j w) := by
  have C1 := Lib.hid (tell_val j u w h hw ht hb)
  clear h hw ht hb
  go_enter Tryz.func56, Tryz.ntmps56
  go_wp2_with fail
  refine Calls.mono C1.out ?_
  rintro e w2 ⟨rfl, x2⟩
  have X2 := Lib.hid x2
  clear x2
  go_wp2_with fail
  go_ret2
  exact ⟨rfl, X2.out⟩
/-- told, whatever was made. -/
theorem ptold_any (o : Option J) (w : World) (ht : Tab10 w) (hb : ∀ j, o = some j → WJ j ∧ bulkJ j ≤ 16777216) (e : Ending) (w' : World) (h : ErrPost o w e w') : ∃ u er, e = .returned (.tuple #[u, .int .i64 er]) ∧ Ext w w' ∧ Calls Tryz.prog 56 #[u, .int .i64 er] w' (Answer (toldO o) w') := by
  rcases h with ⟨⟨j, x, rfl, rfl, hx⟩ | ⟨rfl, rfl⟩, hw⟩
  · exact ⟨x, 0, rfl, hw, (ptold_ok j x w' hx (hb j rfl).1 (ht.ext hw) (hb j rfl).2).mono fun e w2 ⟨h1, h2⟩ => ⟨h1, h2⟩⟩
  · exact ⟨_, 7, rfl, hw, (ptold_bad 7 (by decide) _ w').mono fun e w2 ⟨h1, h2⟩ => ⟨h1, by rw [← h2]; exact Below.refl _ _⟩⟩
set_option maxRecDepth 100000 in
set_option maxHeartbeats 4000000 in
theorem pget_any (s p : ByteArray) (w : World) (hs : p.size ≤ 1048576) (hm : MaxC w) (ht : Tab10 w) (hE : Errs w) : Calls Tryz.prog 23 #[.string s, .string p] w (Answer (getR (bothR s p)) w) := by
  have C1 := Lib.hid (both_any s p w hs hm)
  have HG := Lib.hid (fun j l => @both_good s p j l)
  obtain ⟨T, hT⟩ : ∃ T, T = bothR s p := ⟨_, rfl⟩
  rw [← hT] at C1 HG ⊢
  have HT := Lib.hid ht
  have HER := Lib.hid hE
  have HPS := Lib.hid hs
  clear hT ht hE hm hs
  go_enter Tryz.func23, Tryz.ntmps23
  go_wp2_with fail
  refine Calls.mono C1.out ?_
  rintro e w2 ⟨x2, ⟨j, l, u, A, c, hab, hu, hn, hc, rfl⟩ | ⟨er, u, A, n, c, her, hj, rfl⟩⟩
  · have X2 := Lib.hid x2
    obtain ⟨wj, bj, hl, hx⟩ := HG.out j l hab
    have HX : ∀ x ∈ l, x.length ≤ 1048576 := fun x h => Nat.le_trans (hx x h) HPS.out
    have HAB := Lib.hid hab
    obtain ⟨N, hN⟩ : ∃ N, N = l.length := ⟨_, rfl⟩
    have CA := Lib.hid (at_any j u A c l w2 hu wj (by omega) hn (by omega) HX (HER.out.ext X2.out) (HT.out.ext X2.out))
    have HGA : Hid (∀ y, atJ j l = some y → WJ y ∧ bulkJ y ≤ 128000) := fun y h => ⟨(at_wj l j y wj h).1, Nat.le_trans (at_wj l j y wj h).2 bj⟩
    have HGE : Hid (getR T = match atJ j l with | none => ([], 7) | some v => (textJ v, 0)) := by unfold Hid; rw [HAB.out]; rfl
    obtain ⟨o, ho⟩ : ∃ o, o = atJ j l := ⟨_, rfl⟩
    rw [← ho] at CA HGA HGE
    rw [← hN] at CA ⊢
    clear x2 hab hu hn hc wj bj hl hx HX hN ho HAB
    go_wp2_with fail
    refine Calls.mono CA.out ?_
    rintro e w3 ⟨x, rfl, hx, x3⟩
    have X3 := Lib.hid (X2.out.trans x3)
    cases o with
    | none =>
      clear hx x3
      go_wp2_with fail
      go_ret2
      exact ⟨by rw [HGE.out]; rfl, X3.out⟩
    | some y =>
      have CT := Lib.hid (text_val y _ x w3 hx (PV.ij y x hx (HGA.out y rfl).1) (HT.out.ext X3.out) (by have := (HGA.out y rfl).2; omega))
      clear hx x3
      go_wp2_with fail
      refine Calls.mono CT.out ?_
      rintro e w4 ⟨rfl, x4⟩
      have X4 := Lib.hid (X3.out.trans x4)
      clear x4
      go_wp2_with fail
      go_ret2
      exact ⟨by rw [HGE.out]; rfl, X4.out⟩
  · have X2 := Lib.hid x2
    have HJ := Lib.hid hj
    have b1 : (er != 0) = true := by rw [bne_iff_ne]; exact her
    clear x2 hj her
    go_wp2_with fail
    go_ret2
    exact ⟨by rw [HJ.out]; rfl, X2.out⟩
set_option maxRecDepth 100000 in
set_option maxHeartbeats 4000000 in
theorem pput_any (s p t : ByteArray) (w : World) (hs : p.size ≤ 1048576) (hm : MaxC w) (ht : Tab10 w) (hE : Errs w) : Calls Tryz.prog 25 #[.string s, .string p, .string t] w (Answer (putR (bothR s p) (readS t.data.toList)) w) := by
  have C1 := Lib.hid (both_any s p w hs hm)
  have HG := Lib.hid (fun j l => @both_good s p j l)
  have CV := Lib.hid (fun W => read_any t W)
  have HGV := Lib.hid (fun v (h : readS t.data.toList = .ok v) => readS_good h)
  obtain ⟨V, hV⟩ : ∃ V, V = readS t.data.toList := ⟨_, rfl⟩
  rw [← hV] at CV HGV ⊢
  clear hV
  obtain ⟨T, hT⟩ : ∃ T, T = bothR s p := ⟨_, rfl⟩
  rw [← hT] at C1 HG ⊢
  have HT := Lib.hid ht
  have HER := Lib.hid hE
  have HPS := Lib.hid hs
  clear hT ht hE hm hs
  go_enter Tryz.func25, Tryz.ntmps25
  go_wp2_with fail
  refine Calls.mono C1.out ?_
  rintro e w2 ⟨x2, ⟨j, l, u, A, c, hab, hu, hn, hc, rfl⟩ | ⟨er, u, A, n, c, her, hj, rfl⟩⟩
  · have X2 := Lib.hid x2
    obtain ⟨wj, bj, hl, hx⟩ := HG.out j l hab
    have HX : ∀ x ∈ l, x.length ≤ 1048576 := fun x h => Nat.le_trans (hx x h) HPS.out
    have HAB := Lib.hid hab
    obtain ⟨N, hN⟩ : ∃ N, N = l.length := ⟨_, rfl⟩
    have CR := Lib.hid (CV.out w2)
    have CP : Hid (∀ v xv W, V = .ok v → Ext w2 W → PJ W v xv → Calls Tryz.prog 57 #[u, .slice A l.length c, xv] W (ErrPost (putG 0 v j l) W)) := fun v xv W _ hW hx => put_any v j xv u A c l W (hu.ext hW) hx wj (by omega) (hn.ext hW) hc HX (HER.out.ext (X2.out.trans hW)) (HT.out.ext (X2.out.trans hW))
    have HGP : Hid (∀ v y, V = .ok v → putG 0 v j l = some y → WJ y ∧ bulkJ y ≤ 16777216) := fun v y hv h => by
      obtain ⟨wv, bv⟩ := HGV.out v hv
      have h2 := put_bulk l j y wj (fun _ => wv) HX h
      exact ⟨put_wj l j y (.inr (by decide)) wj (fun _ => wv) h, by omega⟩
    have HGE : Hid (∀ v, V = .ok v → putR T V = toldO (putG 0 v j l)) := fun v hv => by rw [HAB.out, hv]; rfl
    have HGE2 : Hid (∀ er, V = .error er → putR T V = ([], er)) := fun er hv => by rw [HAB.out, hv]; rfl
    rw [← hN] at CP ⊢
    clear x2 hab hu hn hc wj bj hl hx HX hN HAB
    go_wp2_with fail
    refine Calls.mono CR.out ?_
    rintro e w3 ⟨x3, ⟨v, xv, hv, hp, rfl⟩ | ⟨er, her, hv, rfl⟩⟩
    · have X3 := Lib.hid (X2.out.trans x3)
      have CP1 := Lib.hid (CP.out v xv w3 hv x3 (PJ.of hp))
      have HO := Lib.hid (ptold_any (putG 0 v j l) w3 (HT.out.ext X3.out) (fun y h => HGP.out v y hv h))
      have HE1 := Lib.hid (HGE.out v hv)
      clear x3 hv hp
      go_wp2_with fail
      refine Calls.mono CP1.out ?_
      intro e w4 h4
      obtain ⟨u4, er, rfl, x4, hc4⟩ := HO.out _ _ h4
      have C4 := Lib.hid hc4
      have X4 := Lib.hid (X3.out.trans x4)
      clear h4 x4 hc4
      go_wp2_with fail
      refine Calls.mono C4.out ?_
      rintro e w5 ⟨rfl, x5⟩
      have X5 := Lib.hid (X4.out.trans x5)
      clear x5
      go_wp2_with fail
      go_ret2
      exact ⟨by rw [HE1.out]; rfl, X5.out⟩
    · have X3 := Lib.hid (X2.out.trans x3)
      have HE1 := Lib.hid (HGE2.out er hv)
      have b1 : (er != 0) = true := by rw [bne_iff_ne]; exact her
      clear x3 hv her
      go_wp2_with fail
      go_ret2
      exact ⟨by rw [HE1.out]; rfl, X3.out⟩
  · have X2 := Lib.hid x2
    have HJ := Lib.hid hj
    have b1 : (er != 0) = true := by rw [bne_iff_ne]; exact her
    clear x2 hj her
    go_wp2_with fail
    go_ret2
    exact ⟨by rw [HJ.out]; rfl, X2.out⟩
set_option maxRecDepth 100000 in
set_option maxHeartbeats 4000000 in
theorem pcut_any (s p : ByteArray) (w : World) (hs : p.size ≤ 1048576) (hm : MaxC w) (ht : Tab10 w) (hE : Errs w) : Calls Tryz.prog 27 #[.string s, .string p] w (Answer (cutR (bothR s p)) w) := by
  have C1 := Lib.hid (both_any s p w hs hm)
  have HG := Lib.hid (fun j l => @both_good s p j l)
  obtain ⟨T, hT⟩ : ∃ T, T = bothR s p := ⟨_, rfl⟩
  rw [← hT] at C1 HG ⊢
  have HT := Lib.hid ht
  have HER := Lib.hid hE
  have HPS := Lib.hid hs
  clear hT ht hE hm hs
  go_enter Tryz.func27, Tryz.ntmps27
  go_wp2_with fail
  refine Calls.mono C1.out ?_
  rintro e w2 ⟨x2, ⟨j, l, u, A, c, hab, hu, hn, hc, rfl⟩ | ⟨er, u, A, n, c, her, hj, rfl⟩⟩
  · have X2 := Lib.hid x2
    obtain ⟨wj, bj, hl, hx⟩ := HG.out j l hab
    have HX : ∀ x ∈ l, x.length ≤ 1048576 := fun x h => Nat.le_trans (hx x h) HPS.out
    have HAB := Lib.hid hab
    obtain ⟨N, hN⟩ : ∃ N, N = l.length := ⟨_, rfl⟩
    by_cases h0 : l = []
    · have HGE : Hid (cutR T = ([], 1)) := by
        unfold Hid
        rw [HAB.out]
        show cutA _ = _
        unfold cutA
        rw [if_pos h0]
      have hN0 : N = 0 := by rw [hN, h0]; rfl
      rw [← hN, hN0]
      clear x2 hab hu hn hc wj bj hl hx HX hN HAB h0 hN0
      go_wp2_with fail
      go_ret2
      exact ⟨by rw [HGE.out]; rfl, X2.out⟩
    · have CP := Lib.hid (cut_any j u A c l w2 hu wj (by omega) hn hc h0 HX (HER.out.ext X2.out) (HT.out.ext X2.out))
      have HGE : Hid (cutR T = toldO (putG 2 .null j l)) := by
        unfold Hid
        rw [HAB.out]
        show cutA _ = _
        unfold cutA
        rw [if_neg h0]
      have HO := Lib.hid (ptold_any (putG 2 .null j l) w2 (HT.out.ext X2.out) (fun y h => ⟨put_wj l j y (.inl h0) wj (fun h => absurd rfl h) h, by have := put_bulk l j y wj (fun h => absurd rfl h) HX h; have hn : bulkJ .null ≤ 32 := (by rw [bulkJ]; decide); omega⟩))
      have hN0 : ¬ ((N : Int) = 0) := by
        intro h
        have : l.length = 0 := by omega
        exact h0 (List.length_eq_zero_iff.1 this)
      have hNb : ((N : Int) == 0) = false := by rw [beq_eq_false_iff_ne]; exact hN0
      rw [← hN] at CP ⊢
      clear x2 hab hu hn hc wj bj hl hx HX hN HAB h0
      go_wp2_with fail
      refine Calls.mono CP.out ?_
      intro e w4 h4
      obtain ⟨u4, er, rfl, x4, hc4⟩ := HO.out _ _ h4
      have C4 := Lib.hid hc4
      have X4 := Lib.hid (X2.out.trans x4)
      clear h4 x4 hc4
      go_wp2_with fail
      refine Calls.mono C4.out ?_
      rintro e w5 ⟨rfl, x5⟩
      have X5 := Lib.hid (X4.out.trans x5)
      clear x5
      go_wp2_with fail
      go_ret2
      exact ⟨by rw [HGE.out]; rfl, X5.out⟩
  · have X2 := Lib.hid x2
    have HJ := Lib.hid hj
    have b1 : (er != 0) = true := by rw [bne_iff_ne]; exact her
    clear x2 hj her
    go_wp2_with fail
    go_ret2
    exact ⟨by rw [HJ.out]; rfl, X2.out⟩
end Go.Proofs.YtahinicpceokcaaGreatDoor.Jm
