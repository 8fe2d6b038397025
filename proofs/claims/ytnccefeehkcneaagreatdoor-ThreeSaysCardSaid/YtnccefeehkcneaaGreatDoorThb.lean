/-
  The program's three.read: rows of the program's values.
  The program's three.Merge.
  The program's three.Lost.
  The program's three.Lost.
-/
import Derived.Test.YtnccefeehkcneaaGreatDoorTh1
import Derived.Test.YtnccefeehkcneaaGreatDoorTmc
import Derived.Test.YtnccefeehkcneaaGreatDoorPjn
import Derived.Test.YtnccefeehkcneaaGreatDoorTso
namespace Go.Proofs.YtnccefeehkcneaaGreatDoor.Jm
open Go Go.RowKit Go.Proofs.YtnccefeehkcneaaGreatDoor.Sx Go.Proofs.YtnccefeehkcneaaGreatDoor.Js Go.Proofs.YtnccefeehkcneaaGreatDoor.Gr Go.Proofs.YtnccefeehkcneaaGreatDoor.Ur
/-- A row of one's own that reads as these values of the program. -/
def PRow (base : Nat) (w : World) (v : Value) (acc : List J) : Prop :=
  ∃ us, GRow 63 1 base w v (one us) ∧ us.length = acc.length ∧ ∀ q (h1 : q < us.length) (h2 : q < acc.length), PV (Off base v) w acc[q] us[q]
theorem PRow.nil (base : Nat) (w : World) : PRow base w (.slice none 0 0) [] := ⟨[], GRow.nil, rfl, fun q h1 _ => by cases h1⟩
theorem PRow.vals {base : Nat} {w : World} {A : Option Addr} {n c : Nat} {acc : List J} (h : PRow base w (.slice A n c) acc) : ValsAt (fun b => base ≤ b) w A acc ∧ n = acc.length ∧ acc.length ≤ c := by
  obtain ⟨us, hg, hl, hr⟩ := h
  obtain ⟨A', c', e, hcc⟩ := hg.slice
  injection e with e1 e2 e3
  subst e3
  rw [one_len] at e2 hcc
  refine ⟨fun i hi => ?_, by omega, by omega⟩
  have h1 : i < us.length := by rw [hl]; exact hi
  obtain ⟨g, hA, _, hb, _, hc⟩ := hg.at_ (k := i) (by rw [one_len]; exact h1)
  have hv := PV.keep (w' := w) (F' := fun b => base ≤ b) (fun _ _ _ => rfl) (fun b hb _ => hb.1) _ _ (hr i h1 hi)
  have hcell := hc 0 us[i] (by simp [one])
  rw [Nat.mul_one, Nat.add_zero] at hcell
  exact ⟨g, 0, us[i], hA, hb, by rw [Nat.zero_add]; exact hcell, hv⟩
theorem PRow.ext {base : Nat} {w w' : World} {v : Value} {acc : List J} (h : PRow base w v acc) (hx : Ext w w') : PRow base w' v acc := by
  obtain ⟨us, h1, h2, h3⟩ := h
  exact ⟨us, h1.ext hx, h2, fun q hq1 hq2 => PV.ext (h3 q hq1 hq2) hx⟩
theorem PRow.snoc {base : Nat} {w w' : World} {v v' : Value} {acc : List J} {us : List Value} {u : Value} {j : J} (hl : us.length = acc.length) (hr : ∀ q (h1 : q < us.length) (h2 : q < acc.length), PV (Off base v) w acc[q] us[q])
    (hu : PV (Off base v) w j u) (hg : GRow 63 1 base w' v' (one us ++ [[u]])) (hw : w.grownBy w' v.ownBlock) (ho : v'.ownBlock = v.ownBlock ∨ v'.ownBlock = some w.heap.size) : PRow base w' v' (acc ++ [j]) := by
  have hkeep : ∀ b, Off base v b → b < w.heap.size → w'.heap[b]? = w.heap[b]? := fun b hb hlt => hw.block b hlt (fun e => hb.2 e.symm)
  have hoff : ∀ b, Off base v b → b < w.heap.size → Off base v' b := fun b hb hlt => ⟨hb.1, fun e => by
    rcases ho with h | h
    · exact hb.2 (h.symm.trans e)
    · rw [h] at e
      injection e with e
      omega⟩
  refine ⟨us ++ [u], by rw [one_app]; exact hg, by simp [hl], fun q h1 h2 => ?_⟩
  by_cases hq : q < acc.length
  · rw [List.getElem_append_left hq, List.getElem_append_left (by omega)]
    exact PV.keep hkeep hoff _ _ (hr q (by omega) hq)
  · have hqe : q = acc.length := by simp at h2; omega
    subst hqe
    have e1 : (acc ++ [j])[acc.length] = j := by simp
    have e2 : (us ++ [u])[acc.length]'h1 = u := by
      rw [List.getElem_append_right (by omega)]
      simp [hl]
    rw [e1, e2]
    exact PV.keep hkeep hoff _ _ hu
/-- What read gives. -/
def TReads (w : World) (T : Res (List J)) (e : Ending) (w' : World) : Prop := Ext w w' ∧ ((∃ js A c, T = .ok js ∧ e = .returned (.tuple #[.slice A js.length c, .int .i64 0]) ∧ js.length ≤ c ∧ ValsAt (fun b => w.heap.size ≤ b) w' A js) ∨ (∃ er, er ≠ 0 ∧ T = .error er ∧ e = .returned (.tuple #[.slice none 0 0, .int .i64 er])))
set_option maxRecDepth 100000 in
set_option maxHeartbeats 8000000 in
theorem treads_any (A : Option Addr) (c : Nat) (ss : List ByteArray) (w : World) (hc : ∀ i (hi : i < ss.length), ∃ g off, A = some ⟨g, off, none⟩ ∧ w.cell? ⟨g, off + i, none⟩ = some (.string ss[i])) (hl : ss.length ≤ 1000) :
    Calls Tryz.prog 44 #[.slice A ss.length c] w (TReads w (readsS ss)) := by
  have HC := Lib.hid hc
  obtain ⟨N, hN⟩ : ∃ N, N = ss.length := ⟨_, rfl⟩
  have HN : Hid (N = ss.length) := hN
  have hNs : N ≤ 1000 := by omega
  rw [← hN]
  have HX0 : Hid (Ext w w) := Below.refl _ _
  clear hc hl hN
  go_enter Tryz.func44, Tryz.ntmps44
  go_wp2_with fail
  go_loopw [4, 11] (fun v ix wr => ∃ (q : Nat) (js : List J) (A4 : Option Addr) (c4 : Nat), q ≤ N ∧ v = .slice A4 q c4 ∧ ix = .int .i64 (q : Int) ∧ Hid (readsS (ss.take q) = .ok js ∧ js.length = q ∧ PRow w.heap.size wr (.slice A4 q c4) js ∧ Ext w wr)) (fun _ ix _ => N - (intOf ix).toNat)
  case atStart => exact ⟨0, [], none, 0, Nat.zero_le _, rfl, rfl, rfl, rfl, PRow.nil _ _, HX0.out⟩
  case round =>
    obtain ⟨q, js, A4, c4, hq, rfl, rfl, hR⟩ := hrel
    have hq0 : (0 : Int) ≤ (q : Int) := by omega
    by_cases hlt : q < N
    · have hqs : q < ss.length := by rw [← HN.out]; exact hlt
      obtain ⟨ga, oa, rfl, hca0⟩ := HC.out q hqs
      have hca := (cell_keep (hR.out.2.2.2.block ga (cell_lt hca0))).trans hca0
      have CR := Lib.hid (read_any ss[q] wr)
      have HGO : Hid (∀ j, readS ss[q].data.toList = .ok j → readsS (ss.take (q + 1)) = .ok (js ++ [j])) := fun j h => by
        rw [List.take_succ_eq_append_getElem hqs]
        exact reads_snoc _ _ _ _ hR.out.1 h
      have HBA : Hid (∀ er, readS ss[q].data.toList = .error er → readsS ss = .error er) := fun er h => by
        have e : ss = ss.take q ++ ss[q] :: ss.drop (q + 1) := by rw [← List.drop_eq_getElem_cons hqs, List.take_append_drop]
        rw [e]
        exact reads_bad _ _ _ _ _ hR.out.1 h
      obtain ⟨sx, hsx⟩ : ∃ x, x = ss[q] := ⟨_, rfl⟩
      rw [← hsx] at hca CR HGO HBA
      have hltI : (q : Int) < (N : Int) := by omega
      clear hca0 hsx hqs
      go_wp2_with fail
      refine Calls.mono CR.out ?_
      rintro e w2 ⟨x2, ⟨j, u, hj, hp, rfl⟩ | ⟨er, her, hj, rfl⟩⟩
      · have X2 := Lib.hid x2
        have HJ := Lib.hid (HGO.out j hj)
        obtain ⟨us, hg, hlu, hru⟩ := hR.out.2.2.1
        have HG2 := Lib.hid (hg.ext x2)
        have HLU := Lib.hid hlu
        have HRU : Hid (∀ q' (h1 : q' < us.length) (h2 : q' < js.length), PV (Off w.heap.size (.slice A4 q c4)) w2 js[q'] us[q']) := fun q' h1 h2 => PV.ext (hru q' h1 h2) x2
        have HPU : Hid (PV (Off w.heap.size (.slice A4 q c4)) w2 j u) := PV.keep (fun _ _ _ => rfl) (fun b hb _ => ⟨Nat.le_trans hR.out.2.2.2.size hb, fun e => absurd (hg.block b e).2 (Nat.not_lt_of_le hb)⟩) _ _ hp
        have hone : u.oneCell' = true := PV.one hp
        have hsh := hp.shape
        clear hca x2 hj hp hg hlu hru
        rcases hsh with rfl | ⟨tv, xv, rfl⟩
        · go_wp2_with (at_builtin; refine append_g ty_vals rfl _ _ (by rfl) w.heap.size q 1 _ (.slice A4 q c4) (.slice (some ⟨w2.heap.size, 0, none⟩) 1 1) (one us) [[_]] (by rfl) (by rfl) (HG2.out.ext (new_ext _ _)) (GSrc.one rfl (fun q hq => by rw [List.mem_singleton] at hq; rw [hq]; exact hone) (heap_new rfl)) (by rw [one_len, HLU.out]; exact hR.out.2.1) rfl (by omega) (Nat.le_trans (hR.out.2.2.2.trans X2.out).size (new_ext _ _).size) ?_; intro A9 c9 w9 h9 g9 o9; have H9 := Lib.hid (And.intro h9 (And.intro g9 o9)); clear h9 g9 o9)
          go_roundw
          case rel =>
            obtain ⟨h9, g9, o9⟩ := H9.out
            refine ⟨q + 1, _, A9, c9, hlt, rfl, by go_num, HJ.out, by rw [List.length_append, hR.out.2.1]; rfl, PRow.snoc HLU.out (fun q' h1 h2 => PV.ext (HRU.out q' h1 h2) (new_ext _ _)) (PV.ext HPU.out (new_ext _ _)) h9 g9 o9, ext_row ((hR.out.2.2.2.trans X2.out).trans (new_ext _ _)) g9 (fun b e => (HG2.out.block b e).1)⟩
          case measure => simp [intOf]; omega
        · go_wp2_with (at_builtin; refine append_g ty_vals rfl _ _ (by rfl) w.heap.size q 1 _ (.slice A4 q c4) (.slice (some ⟨w2.heap.size, 0, none⟩) 1 1) (one us) [[_]] (by rfl) (by rfl) (HG2.out.ext (new_ext _ _)) (GSrc.one rfl (fun q hq => by rw [List.mem_singleton] at hq; rw [hq]; exact hone) (heap_new rfl)) (by rw [one_len, HLU.out]; exact hR.out.2.1) rfl (by omega) (Nat.le_trans (hR.out.2.2.2.trans X2.out).size (new_ext _ _).size) ?_; intro A9 c9 w9 h9 g9 o9; have H9 := Lib.hid (And.intro h9 (And.intro g9 o9)); clear h9 g9 o9)
          go_roundw
          case rel =>
            obtain ⟨h9, g9, o9⟩ := H9.out
            refine ⟨q + 1, _, A9, c9, hlt, rfl, by go_num, HJ.out, by rw [List.length_append, hR.out.2.1]; rfl, PRow.snoc HLU.out (fun q' h1 h2 => PV.ext (HRU.out q' h1 h2) (new_ext _ _)) (PV.ext HPU.out (new_ext _ _)) h9 g9 o9, ext_row ((hR.out.2.2.2.trans X2.out).trans (new_ext _ _)) g9 (fun b e => (HG2.out.block b e).1)⟩
          case measure => simp [intOf]; omega
      · have X2 := Lib.hid x2
        have HJ := Lib.hid (HBA.out er hj)
        have HER := Lib.hid her
        have b1 : (er != 0) = true := by rw [bne_iff_ne]; exact her
        clear hca x2 hj her
        go_wp2_with fail
        go_ret2
        exact ⟨hR.out.2.2.2.trans X2.out, .inr ⟨er, HER.out, HJ.out, rfl⟩⟩
    · have hqN : q = N := by omega
      have bl : decide ((q : Int) < (N : Int)) = false := decide_eq_false (by omega)
      have bl2 : decide (q < N) = false := decide_eq_false hlt
      have HT : Hid (readsS ss = .ok js) := by
        have h := hR.out.1
        rw [List.take_of_length_le (by rw [← HN.out]; omega)] at h
        exact h
      clear hlt hqN
      go_wp2_with fail
      go_ret2
      have hv := hR.out.2.2.1.vals
      exact ⟨hR.out.2.2.2, .inl ⟨js, A4, c4, HT.out, by rw [hR.out.2.1]; rfl, hv.2.2, hv.1⟩⟩
end Go.Proofs.YtnccefeehkcneaaGreatDoor.Jm
namespace Go.Proofs.YtnccefeehkcneaaGreatDoor.Jm
open Go Go.RowKit Go.Proofs.YtnccefeehkcneaaGreatDoor.Sx Go.Proofs.YtnccefeehkcneaaGreatDoor.Js Go.Proofs.YtnccefeehkcneaaGreatDoor.Gr Go.Proofs.YtnccefeehkcneaaGreatDoor.Ur
theorem reads_good : ∀ (xs : List ByteArray) (js : List J), readsS xs = .ok js → js.length = xs.length ∧ ∀ j ∈ js, WJ j ∧ bulkJ j ≤ 128000
  | [], js, h => by
    injection h with h
    subst h
    exact ⟨rfl, fun j hj => by cases hj⟩
  | s :: r, js, h => by
    unfold readsS at h
    cases hs : readS s.data.toList with
    | error e => rw [hs] at h; cases h
    | ok j =>
      rw [hs] at h
      cases hr : readsS r with
      | error e => simp only [hr] at h; cases h
      | ok l =>
        simp only [hr] at h
        injection h with h
        subst h
        obtain ⟨h1, h2⟩ := reads_good r l hr
        refine ⟨by simp [h1], fun x hx => ?_⟩
        rcases List.mem_cons.1 hx with rfl | hx
        · exact readS_good hs
        · exact h2 x hx
theorem reads_tri {a b c : ByteArray} {js : List J} (h : readsS [a, b, c] = .ok js) : ∃ x y z, js = [x, y, z] ∧ (WJ x ∧ bulkJ x ≤ 128000) ∧ (WJ y ∧ bulkJ y ≤ 128000) ∧ WJ z ∧ bulkJ z ≤ 128000 := by
  obtain ⟨h1, h2⟩ := reads_good _ _ h
  match js, h1 with
  | [x, y, z], _ => exact ⟨x, y, z, rfl, h2 x (by simp), h2 y (by simp), h2 z (by simp)⟩
/-- What Merge answers. -/
def mergeT (T : Res (List J)) : Tx × Int := match T with
  | .error e => ([], e)
  | .ok [x, y, z] => tellS (threeJ x y z)
  | .ok _ => ([], 0)
set_option maxRecDepth 100000 in
theorem see_none (w0 : World) : SeeC 46 #[] w0 (fun _ _ => True) (fun w _ => Ext w0 w) where
  enter := fun _ _ => by kernel_rfl
  old := fun _ _ h => h
  ext := fun w w' ws h hx => ⟨h.trans hx, rfl⟩
  new := fun _ _ _ _ _ => trivial
  call := fun w ws way A c hi _ _ _ _ _ => by
    have HI := Lib.hid hi
    clear hi
    show Calls Tryz.prog 46 #[.slice A way.length c] w _
    go_enter Tryz.func46, Tryz.ntmps46
    go_wp2_with fail
    go_end0
    exact ⟨rfl, TurnP.refl, HI.out⟩
set_option maxRecDepth 100000 in
set_option maxHeartbeats 8000000 in
theorem tmerge_any (s t u : ByteArray) (w : World) (ht : Tab10 w) : Calls Tryz.prog 16 #[.string s, .string t, .string u] w fun e w' => e = .returned (.tuple #[.string (bx (mergeT (readsS [s, t, u])).1), .int .i64 (mergeT (readsS [s, t, u])).2]) ∧ Ext w w' := by
  have HG := Lib.hid (fun js (h : readsS [s, t, u] = .ok js) => reads_tri h)
  obtain ⟨b, hb⟩ : ∃ b, b = w.heap.size := ⟨_, rfl⟩
  obtain ⟨w1, hw1⟩ : ∃ w1, w1 = w.alloc (.cells #[.string s, .string t, .string u] 9) := ⟨_, rfl⟩
  have HX1 : Hid (Ext w w1) := by rw [hw1]; exact new_ext _ _
  have C1 := Lib.hid (treads_any (some ⟨b, 0, none⟩) 3 [s, t, u] w1 (fun i hi => by
    have hh : w1.heap[b]? = some (.cells #[.string s, .string t, .string u] 9 (0, 0)) := by rw [hw1]; exact heap_new hb
    refine ⟨b, 0, rfl, ?_⟩
    rw [Nat.zero_add, cell_of hh]
    match i, hi with
    | 0, _ => rfl
    | 1, _ => rfl
    | 2, _ => rfl) (by simp))
  obtain ⟨T, hT⟩ : ∃ T, T = readsS [s, t, u] := ⟨_, rfl⟩
  rw [← hT] at C1 HG ⊢
  have HT := Lib.hid ht
  clear hT ht
  go_enter Tryz.func16, Tryz.ntmps16
  go_wp2_with fail
  rw [← hw1, ← hb]
  clear hw1 hb
  refine Calls.mono C1.out ?_
  rintro e w2 ⟨x2, ⟨js, A, c, hj, rfl, hc, hv⟩ | ⟨er, her, hj, rfl⟩⟩
  · obtain ⟨x, y, z, rfl, ⟨wx, bx1⟩, ⟨wy, by1⟩, wz, bz⟩ := HG.out js hj
    have X2 := Lib.hid (HX1.out.trans x2)
    have HJ := Lib.hid hj
    obtain ⟨gb, off, u0, rfl, -, k0, p0⟩ := hv 0 (by simp)
    obtain ⟨gb', off', u1, e1, -, k1, p1⟩ := hv 1 (by simp)
    obtain ⟨gb2, off2, u2, e2, -, k2, p2⟩ := hv 2 (by simp)
    injection e1 with e1
    injection e1 with e1 e3
    injection e2 with e2
    injection e2 with e2 e4
    subst e1 e3 e2 e4
    have HS : Hid (∀ W, Ext w2 W → W.cell? ⟨gb, off, none⟩ = some u0 ∧ W.cell? ⟨gb, off + 1, none⟩ = some u1 ∧ W.cell? ⟨gb, off + 2, none⟩ = some u2) := fun W hW =>
      ⟨(cell_keep (hW.block gb (cell_lt k0))).trans k0, (cell_keep (hW.block gb (cell_lt k1))).trans k1, (cell_keep (hW.block gb (cell_lt k2))).trans k2⟩
    have CI : Hid (∀ W, Ext w2 W → Calls Tryz.prog 45 #[u0, u1, u2, .slice none 0 0, .func (.func 46) #[] #[]] W fun e w' => ∃ r, e = .returned r ∧ PJ w' (threeJ x y z) r ∧ Ext w2 w' ∧ w'.cell? ⟨gb, off, none⟩ = some u0 ∧ w'.cell? ⟨gb, off + 1, none⟩ = some u1 ∧ w'.cell? ⟨gb, off + 2, none⟩ = some u2) := fun W hW =>
      (intoT_val z _ #[] w2 (fun _ _ => True) (fun w _ => Ext w2 w) x y u0 u1 u2 none 0 [] [] W (see_none w2) hW ((PJ.of p0).ext hW) ((PJ.of p1).ext hW) ((PJ.of p2).ext hW) wx wy wz (by omega) (by omega) (fun i hi => by cases hi) (Nat.le_refl _) (by simp; omega) (fun s hs => by cases hs) (by have := bulk_obO x; simp; omega)).mono fun e w' ⟨r, h1, h2, _, h4⟩ => ⟨r, h1, h2, h4, HS.out w' h4⟩
    have CT : Hid (∀ W r, Ext w2 W → PJ W (threeJ x y z) r → Calls Tryz.prog 36 #[r] W fun e w' => e = .returned (.tuple #[.string (bx (tellS (threeJ x y z)).1), .int .i64 (tellS (threeJ x y z)).2]) ∧ Ext w2 w' ∧ w'.cell? ⟨gb, off, none⟩ = some u0 ∧ w'.cell? ⟨gb, off + 1, none⟩ = some u1 ∧ w'.cell? ⟨gb, off + 2, none⟩ = some u2) := fun W r hW hr =>
      (tell_val (threeJ x y z) r W hr (threeJ_wj wx wy wz) (HT.out.ext (X2.out.trans hW)) (by have := threeJ_bulk wx wy wz; omega)).mono fun e w' ⟨h1, h2⟩ => ⟨h1, hW.trans h2, HS.out w' (hW.trans h2)⟩
    clear x2 hj hv hc k0 k1 k2 p0 p1 p2 wx wy wz bx1 by1 bz
    obtain ⟨k0, k1, k2⟩ := HS.out w2 (Below.refl _ _)
    have hxx : Ext w2 w2 := Below.refl _ _
    go_wp2_with fail
    go_region_held3 (fun W => Ext w2 W ∧ W.cell? ⟨gb, off, none⟩ = some u0 ∧ W.cell? ⟨gb, off + 1, none⟩ = some u1 ∧ W.cell? ⟨gb, off + 2, none⟩ = some u2)
      (first | (refine ⟨by assumption, by assumption, by assumption, by assumption⟩) | (refine ⟨Below.drew (by assumption), ?_, ?_, ?_⟩ <;> go_keep) | go_keep)
      (first
        | (go_at_call 45; refine (CI.out _ (by first | assumption | (apply Below.drew; assumption))).mono ?_; rintro r w3 ⟨r9, rfl, hr9, x3, l0, l1, l2⟩)
        | (go_at_call 36; refine (CT.out _ _ (by first | assumption | (apply Below.drew; assumption)) (by first | assumption | exact PJ.ext (by assumption) (Below.refl _ _).drew)).mono ?_; rintro r w4 ⟨rfl, x4, j0, j1, j2⟩))
    all_goals
      have X4 := Lib.hid (X2.out.trans x4)
      clear x3 x4 l0 l1 l2 j0 j1 j2 k0 k1 k2
      go_wp2_with fail
      go_ret2
      exact ⟨by rw [HJ.out]; rfl, X4.out⟩
  · have X2 := Lib.hid x2
    have HJ := Lib.hid hj
    have b1 : (er != 0) = true := by rw [bne_iff_ne]; exact her
    clear x2 hj her
    go_wp2_with fail
    go_ret2
    exact ⟨by rw [HJ.out]; rfl, HX1.out.trans X2.out⟩
end Go.Proofs.YtnccefeehkcneaaGreatDoor.Jm
namespace Go.Proofs.YtnccefeehkcneaaGreatDoor.Jm
open Go Go.RowKit Go.Proofs.YtnccefeehkcneaaGreatDoor.Sx Go.Proofs.YtnccefeehkcneaaGreatDoor.Js Go.Proofs.YtnccefeehkcneaaGreatDoor.Gr Go.Proofs.YtnccefeehkcneaaGreatDoor.Ur
/-- A way as a pointer. -/
def wayT (way : List Tx) : ByteArray := joinV (way.map bx)
abbrev stsT : Nat := 37
def wayVs (ws : List (List Tx)) : List Value := ws.map fun way => .string (wayT way)
theorem names_strs {F : Nat → Prop} {w : World} {A : Option Addr} {c : Nat} {ns : List Tx} (h : NamesAt F w A ns) (hn : ns.length ≤ 1000000) (hz : ∀ s ∈ ns, s.length ≤ 1048576) : StrsR w.heap.size w (.slice A ns.length c) (ns.map bx) := by
  refine ⟨by rw [List.length_map]; omega, A, c, by rw [List.length_map], fun i hi => ?_⟩
  have hi' : i < ns.length := by simpa using hi
  obtain ⟨g, off, hA, _, hc⟩ := h i hi'
  refine ⟨g, off, [.string (bx ns[i])], hA, cell_lt hc, rfl, ⟨by simp, by rw [List.getElem_map, bx_size]; exact hz _ (List.getElem_mem hi')⟩, fun k u hu => ?_⟩
  have hk : k = 0 := by have := (List.getElem?_eq_some_iff.1 hu).1; simp at this; exact this
  subst hk
  simp only [List.getElem?_cons_zero, Option.some.injEq] at hu
  rw [Nat.mul_one, Nat.add_zero, hc, hu]
/-- What Lost's own function keeps: the ways' pointers, in the box k. -/
def LostI (k : Nat) (w0 w : World) (ws : List (List Tx)) : Prop := Ext w0 w ∧ ∃ A c, w.heap[k]? = some (.cells #[.slice A ws.length c] stsT (0, 0)) ∧ GRow 9 1 (k + 1) w (.slice A ws.length c) (one (wayVs ws))
/-- Where it does not write. -/
def LostF (k : Nat) (w : World) (b : Nat) : Prop := b ≠ k ∧ ∀ v, w.heap[k]? = some (.cells #[v] stsT (0, 0)) → v.ownBlock ≠ some b
theorem lostF_of {k b : Nat} {w : World} {v : Value} (h : w.heap[k]? = some (.cells #[v] stsT (0, 0))) : LostF k w b ↔ b ≠ k ∧ v.ownBlock ≠ some b := by
  refine ⟨fun hf => ⟨hf.1, hf.2 v h⟩, fun hf => ⟨hf.1, fun v' h' => ?_⟩⟩
  rw [h] at h'
  injection h' with h'
  injection h' with h' _ _
  have e : v = v' := by simpa using h'
  rw [← e]
  exact hf.2
set_option maxRecDepth 100000 in
set_option maxHeartbeats 4000000 in
theorem see_lost (w0 : World) (k : Nat) (hk : w0.heap.size = k) (hm : MaxC w0) : SeeC 47 #[.pointer (some ⟨k, 0, none⟩)] w0 (LostF k) (LostI k w0) where
  enter := fun _ _ => by kernel_rfl
  old := fun _ _ h => h.1
  ext := fun w w' ws ⟨h1, A, c, h3, h4⟩ hx => by
    have h5 : w'.heap[k]? = some (.cells #[.slice A ws.length c] stsT (0, 0)) := (hx.block k (heap_lt h3)).trans h3
    refine ⟨⟨h1.trans hx, A, c, h5, h4.ext hx⟩, funext fun b => propext ?_⟩
    rw [lostF_of h3, lostF_of h5]
  new := fun w ws b ⟨h1, A, c, h3, h4⟩ hb => (lostF_of h3).2 ⟨fun e => by have := heap_lt h3; omega, fun e => by have := (h4.block b e).2; omega⟩
  call := fun w ws way A c hi hn hc hl hs hw => by
    obtain ⟨h1, A', c', h3, h4⟩ := hi
    have h2 := hm.ext h1
    have CJ := Lib.hid (joins_any w.heap.size (.slice A way.length c) (way.map bx) w (Nat.le_refl _) (names_strs hn hl hs) h2)
    have H1 := Lib.hid h1
    have H2 := Lib.hid h2
    have H3 := Lib.hid h3
    have H4 := Lib.hid h4
    obtain ⟨N, hN⟩ : ∃ N, N = way.length := ⟨_, rfl⟩
    obtain ⟨M, hM⟩ : ∃ M, M = ws.length := ⟨_, rfl⟩
    have HM : Hid (M = ws.length) := hM
    have hMs : M ≤ 3000000 := by omega
    have HK : Hid (w0.heap.size = k) := hk
    obtain ⟨jx, hjx⟩ : ∃ j, j = wayT way := ⟨_, rfl⟩
    have HJX := Lib.hid hjx
    have CJ2 : Hid (Calls Tryz.prog 48 #[.slice A N c] w fun e w' => e = .returned (.tuple #[.string jx, .int .i64 (joinE (way.map bx))]) ∧ Ext w w') := by unfold Hid; rw [hN, hjx]; exact CJ.out
    rw [← hM] at H3 H4
    show Calls Tryz.prog 47 #[.slice A way.length c, .pointer (some ⟨k, 0, none⟩)] w _
    rw [← hN]
    clear h1 h2 h3 h4 hn hc hl hs hw hN hM CJ hjx hk
    go_enter Tryz.func47, Tryz.ntmps47
    go_wp2_with fail
    refine Calls.mono CJ2.out ?_
    rintro e w2 ⟨rfl, x2⟩
    have X2 := Lib.hid x2
    have hb2 : w2.heap[k]? = some (.cells #[.slice A' M c'] stsT (0, 0)) := (x2.block k (heap_lt H3.out)).trans H3.out
    have HB2 := Lib.hid hb2
    have HR2 := Lib.hid (H4.out.ext x2)
    have z0 : w2.cell? ⟨k, 0, none⟩ = some (.slice A' M c') := cell_of hb2 0
    clear x2 hb2
    go_wp2_with (at_builtin; refine append_g ty_strs rfl _ _ (by rfl) (k + 1) M 1 _ (.slice A' M c') (.slice (some ⟨w2.heap.size, 0, none⟩) 1 1) (one (wayVs ws)) [[.string jx]] (by rfl) (by rfl) (HR2.out.ext (new_ext _ _)) (GSrc.one rfl (by simp [Value.oneCell']) (heap_new rfl)) (by rw [one_len]; unfold wayVs; rw [List.length_map]; exact HM.out.symm) rfl (by omega) (Nat.le_trans (Nat.succ_le_of_lt (heap_lt HB2.out)) (new_ext _ _).size) ?_; intro A9 c9 w9 h9 g9 o9; have hb9 : w9.heap[k]? = some (.cells #[.slice A' M c'] stsT (0, 0)) := (g9.block k (Nat.lt_of_lt_of_le (heap_lt HB2.out) (new_ext _ _).size) (fun e => by have := (HR2.out.block k e.symm).1; omega)).trans (((new_ext w2 _).block k (heap_lt HB2.out)).trans HB2.out); have y0 := cell_of hb9 0; have y1 : w9.frozen? ⟨k, 0, none⟩ = false := frozen_of hb9; have HB9 := Lib.hid hb9; have H9 := Lib.hid (And.intro h9 (And.intro g9 o9)); clear hb9 h9 g9 o9)
    go_end0
    obtain ⟨h9, g9, o9⟩ := H9.out
    have hV := X2.out.trans (new_ext w2 (.cells #[.string jx] 9 (0, 0)))
    have hkb : (w9.setCell ⟨k, 0, none⟩ (.slice A9 (M + 1) c9)).heap[k]? = some (.cells #[.slice A9 (M + 1) c9] stsT (0, 0)) := heap_setCell_same w9 k 0 _ stsT _ HB9.out
    have hown : ∀ b, (Value.slice A9 (M + 1) c9).ownBlock = some b → k + 1 ≤ b := fun b e => (h9.block b e).1
    have hB : Below 0 w w9 := ⟨g9.os.trans hV.os, g9.tape.trans hV.tape, g9.output.trans hV.output, Nat.le_trans hV.size g9.size, fun j hj => absurd hj (Nat.not_lt_zero _)⟩
    refine ⟨rfl, ⟨Below.setCell hB (Nat.zero_le _) _, fun b hb hF => ?_⟩, ?_, A9, c9, ?_, ?_⟩
    · obtain ⟨f1, f2⟩ := (lostF_of H3.out).1 hF
      refine ⟨((set_heap _ _ _ _ _ f1).trans (g9.block b (Nat.lt_of_lt_of_le hb hV.size) (fun e => f2 e.symm))).trans (hV.block b hb), (lostF_of hkb).2 ⟨f1, fun e => ?_⟩⟩
      rcases o9 with o | o
      · exact f2 (o.symm.trans e)
      · rw [o] at e
        injection e with e
        have := hV.size
        omega
    · exact ext_setCell (ext_row (H1.out.trans hV) g9 (fun b e => by have := (HR2.out.block b e).1; have := HK.out; omega)) (Nat.le_of_eq HK.out)
    · have e : (ws ++ [way]).length = M + 1 := by rw [List.length_append, ← HM.out]; rfl
      rw [e]
      exact hkb
    · have e : (ws ++ [way]).length = M + 1 := by rw [List.length_append, ← HM.out]; rfl
      have e2 : one (wayVs (ws ++ [way])) = one (wayVs ws) ++ [[.string jx]] := by
        unfold wayVs
        rw [List.map_append, one_app, HJX.out]
        rfl
      rw [e, e2]
      exact h9.keep (fun b e => set_heap _ _ _ _ _ (by have := hown b e; omega))
end Go.Proofs.YtnccefeehkcneaaGreatDoor.Jm
namespace Go.Proofs.YtnccefeehkcneaaGreatDoor.Jm
open Go Go.RowKit Go.Proofs.YtnccefeehkcneaaGreatDoor.Sx Go.Proofs.YtnccefeehkcneaaGreatDoor.Js Go.Proofs.YtnccefeehkcneaaGreatDoor.Gr Go.Proofs.YtnccefeehkcneaaGreatDoor.Ur
/-- What Lost answers. -/
def lostT (T : Res (List J)) : List ByteArray × Int := match T with
  | .error e => ([], e)
  | .ok [x, y, z] => (Qs.sortB ((lostJ x y z []).map wayT), 0)
  | .ok _ => ([], 0)
def LostPost (R : List ByteArray × Int) (w : World) (e : Ending) (w' : World) : Prop := Ext w w' ∧ ∃ A c, e = .returned (.tuple #[.slice A R.1.length c, .int .i64 R.2]) ∧ R.1.length ≤ c ∧ NamesAt (fun _ => True) w' A (R.1.map fun x => x.data.toList)
theorem grow_srow {base : Nat} {w : World} {A : Option Addr} {n c : Nat} {xs : List ByteArray} (h : GRow 9 1 base w (.slice A n c) (one (strVals xs))) : SRow base w (.slice A n c) xs := by
  have h1 := h.owns
  rw [one_flat, one_len, strVals_len] at h1
  exact SRow.of_owns rfl h1
theorem own_names {base c : Nat} {w : World} {A : Option Addr} {xs : List ByteArray} (h : Qs.OwnS base w A c xs) : NamesAt (fun _ => True) w A (xs.map fun x => x.data.toList) := fun i hi => by
  have hi' : i < xs.length := by simpa using hi
  obtain ⟨g, hA, _, hc⟩ := h.cell hi'
  refine ⟨g, 0, hA, trivial, ?_⟩
  rw [Nat.zero_add, hc, List.getElem_map, of_bx]
set_option maxRecDepth 100000 in
set_option maxHeartbeats 8000000 in
theorem tlost_any (s t u : ByteArray) (w : World) (hm : MaxC w) : Calls Tryz.prog 17 #[.string s, .string t, .string u] w (LostPost (lostT (readsS [s, t, u])) w) := by
  have HG := Lib.hid (fun js (h : readsS [s, t, u] = .ok js) => reads_tri h)
  obtain ⟨b, hb⟩ : ∃ b, b = w.heap.size := ⟨_, rfl⟩
  obtain ⟨w1, hw1⟩ : ∃ w1, w1 = w.alloc (.cells #[.string s, .string t, .string u] 9) := ⟨_, rfl⟩
  have HX1 : Hid (Ext w w1) := by rw [hw1]; exact new_ext _ _
  have C1 := Lib.hid (treads_any (some ⟨b, 0, none⟩) 3 [s, t, u] w1 (fun i hi => by
    have hh : w1.heap[b]? = some (.cells #[.string s, .string t, .string u] 9 (0, 0)) := by rw [hw1]; exact heap_new hb
    refine ⟨b, 0, rfl, ?_⟩
    rw [Nat.zero_add, cell_of hh]
    match i, hi with
    | 0, _ => rfl
    | 1, _ => rfl
    | 2, _ => rfl) (by simp))
  obtain ⟨T, hT⟩ : ∃ T, T = readsS [s, t, u] := ⟨_, rfl⟩
  rw [← hT] at C1 HG ⊢
  have HM := Lib.hid hm
  clear hT hm
  go_enter Tryz.func17, Tryz.ntmps17
  go_wp2_with fail
  rw [← hw1, ← hb]
  clear hw1 hb
  refine Calls.mono C1.out ?_
  rintro e w2 ⟨x2, ⟨js, A, c, hj, rfl, hc, hv⟩ | ⟨er, her, hj, rfl⟩⟩
  · obtain ⟨x, y, z, rfl, ⟨wx, bx1⟩, ⟨wy, by1⟩, wz, bz⟩ := HG.out js hj
    have X2 := Lib.hid (HX1.out.trans x2)
    have HJ := Lib.hid hj
    obtain ⟨gb, off, u0, rfl, -, k0, p0⟩ := hv 0 (by simp)
    obtain ⟨gb', off', u1, e1, -, k1, p1⟩ := hv 1 (by simp)
    obtain ⟨gb2, off2, u2, e2, -, k2, p2⟩ := hv 2 (by simp)
    injection e1 with e1
    injection e1 with e1 e3
    injection e2 with e2
    injection e2 with e2 e4
    subst e1 e3 e2 e4
    have HS : Hid (∀ W, Ext w2 W → W.cell? ⟨gb, off, none⟩ = some u0 ∧ W.cell? ⟨gb, off + 1, none⟩ = some u1 ∧ W.cell? ⟨gb, off + 2, none⟩ = some u2) := fun W hW =>
      ⟨(cell_keep (hW.block gb (cell_lt k0))).trans k0, (cell_keep (hW.block gb (cell_lt k1))).trans k1, (cell_keep (hW.block gb (cell_lt k2))).trans k2⟩
    go_upto_region 5 with (fail)
    obtain ⟨k, hk⟩ : ∃ k, k = w2.heap.size := ⟨_, rfl⟩
    rw [← hk]
    generalize hW : World.alloc w2 _ = w3
    have HK : Hid (w2.heap.size = k) := hk.symm
    have HX3 : Hid (Ext w2 w3) := by rw [← hW]; exact new_ext _ _
    have HC3 : Hid (w3.heap[k]? = some (.cells #[.slice none 0 0] stsT (0, 0))) := by rw [← hW]; exact heap_new hk
    clear hW hk
    have CI : Hid (∀ W, Ext w3 W → Calls Tryz.prog 45 #[u0, u1, u2, .slice none 0 0, .func (.func 47) #[] #[.pointer (some ⟨k, 0, none⟩)]] W fun e w' => ∃ r, e = .returned r ∧ LostI k w2 w' (lostJ x y z []) ∧ Ext w2 w' ∧ w'.cell? ⟨gb, off, none⟩ = some u0 ∧ w'.cell? ⟨gb, off + 1, none⟩ = some u1 ∧ w'.cell? ⟨gb, off + 2, none⟩ = some u2) := fun W hW => by
      have hcW : W.heap[k]? = some (.cells #[.slice none 0 0] stsT (0, 0)) := (hW.block k (heap_lt HC3.out)).trans HC3.out
      have hx := HX3.out.trans hW
      have hp : ∀ {j : J} {v : Value}, PV (fun b => w1.heap.size ≤ b) w2 j v → PV (LostF k W) W j v := fun h => PV.keep (fun b _ hb => hx.block b hb) (fun b _ hb => (lostF_of hcW).2 ⟨by have := HK.out; omega, fun e => by cases e⟩) _ _ h
      refine (intoT_val z _ #[.pointer (some ⟨k, 0, none⟩)] w2 (LostF k) (LostI k w2) x y u0 u1 u2 none 0 [] [] W (see_lost w2 k HK.out (HM.out.ext X2.out)) ⟨hx, none, 0, hcW, GRow.nil⟩ (hp p0) (hp p1) (hp p2) wx wy wz (by omega) (by omega) (fun i hi => by cases hi) (Nat.le_refl _) (by simp; omega) (fun s hs => by cases hs) (by have := bulk_obO x; simp; omega)).mono fun e w' ⟨r, h1, _, _, h4⟩ => ⟨r, h1, ?_, h4.1, HS.out w' h4.1⟩
      exact h4
    have HLM : Hid ((lostJ x y z []).length ≤ 1000000) := by
      have := lost_many _ x y z [] (Nat.le_refl _) wx wz
      have := bulk_obO x
      unfold Hid
      omega
    clear x2 hj hv hc k0 k1 k2 p0 p1 p2 wx wy wz bx1 by1 bz
    obtain ⟨k0, k1, k2⟩ := HS.out w3 HX3.out
    have hxx : Ext w3 w3 := Below.refl _ _
    go_region_held3 (fun W => Ext w2 W ∧ W.cell? ⟨gb, off, none⟩ = some u0 ∧ W.cell? ⟨gb, off + 1, none⟩ = some u1 ∧ W.cell? ⟨gb, off + 2, none⟩ = some u2)
      (first | (refine ⟨by assumption, by assumption, by assumption, by assumption⟩) | (refine ⟨Below.drew (by assumption), ?_, ?_, ?_⟩ <;> go_keep) | go_keep)
      (first
        | (go_at_call 45; refine (CI.out _ (by first | assumption | (apply Below.drew; assumption))).mono ?_; rintro r w4 ⟨r9, rfl, hl4, x4, l0, l1, l2⟩))
    all_goals
      have HL4 := Lib.hid hl4
      have X4 := Lib.hid x4
      clear hl4 x4 l0 l1 l2 k0 k1 k2 hxx
      obtain ⟨L, hL⟩ : ∃ L, L = lostJ x y z [] := ⟨_, rfl⟩
      rw [← hL] at HL4 HLM
      have HLL := Lib.hid hL
      obtain ⟨-, A9, c9, hc9, hr9⟩ := HL4.out
      have HC9 := Lib.hid hc9
      obtain ⟨M, hM⟩ : ∃ M, M = L.length := ⟨_, rfl⟩
      have HMM := Lib.hid hM
      have hrow : SRow (k + 1) w4 (.slice A9 M c9) (L.map wayT) := grow_srow (by
        have e : strVals (L.map wayT) = wayVs L := by unfold strVals wayVs; rw [List.map_map]; rfl
        rw [e, hM]
        exact hr9)
      have HOW := Lib.hid (Qs.OwnS.of_row hrow)
      have CSO : Hid (Calls Tryz.prog 49 #[.slice A9 M c9] w4 fun e w' => e = .returned (.tuple #[]) ∧ Below (k + 1) w4 w' ∧ Qs.OwnS (k + 1) w' A9 c9 (Qs.sortB (L.map wayT))) := by
        have h := Qs.sort_own (k + 1) A9 c9 (L.map wayT) w4 HOW.out (by rw [List.length_map]; have := HLM.out; omega)
        rw [List.length_map, ← hM] at h
        exact h
      rw [← hM] at hc9
      have z0 : w4.cell? ⟨k, 0, none⟩ = some (.slice A9 M c9) := cell_of hc9 0
      have HCK : Hid (w4.heap[k]? = some (.cells #[.slice A9 M c9] stsT (0, 0))) := hc9
      clear hL hM hrow hc9 hr9
      go_wp2_with fail
      refine Calls.mono CSO.out ?_
      rintro e w5 ⟨rfl, b5, o5⟩
      have HO5 := Lib.hid o5
      have HB5 := Lib.hid b5
      have z1 : w5.cell? ⟨k, 0, none⟩ = some (.slice A9 M c9) := cell_of ((b5.block k (Nat.lt_succ_self _)).trans HCK.out) 0
      clear o5 b5 z0
      go_wp2_with fail
      go_ret2
      have e1 : (Qs.sortB (L.map wayT)).length = M := by rw [Qs.sortB_len, List.length_map, HMM.out]
      refine ⟨X2.out.trans (show Ext w2 w5 from Below.trans X4.out (HB5.out.mono (by have := HK.out; omega))), A9, c9, ?_, ?_, ?_⟩
      · rw [HJ.out]
        show _ = Ending.returned (.tuple #[.slice A9 (Qs.sortB ((lostJ x y z []).map wayT)).length c9, .int .i64 0])
        rw [← HLL.out, e1]
        rfl
      · rw [HJ.out]
        show (Qs.sortB ((lostJ x y z []).map wayT)).length ≤ c9
        rw [← HLL.out]
        exact HO5.out.1
      · rw [HJ.out]
        show NamesAt _ _ _ ((Qs.sortB ((lostJ x y z []).map wayT)).map _)
        rw [← HLL.out]
        exact own_names HO5.out
  · have X2 := Lib.hid x2
    have HJ := Lib.hid hj
    have b1 : (er != 0) = true := by rw [bne_iff_ne]; exact her
    clear x2 hj her
    go_wp2_with fail
    go_ret2
    exact ⟨HX1.out.trans X2.out, none, 0, by rw [HJ.out]; rfl, by rw [HJ.out]; exact Nat.le_refl _, by rw [HJ.out]; exact fun i hi => by cases hi⟩
end Go.Proofs.YtnccefeehkcneaaGreatDoor.Jm
