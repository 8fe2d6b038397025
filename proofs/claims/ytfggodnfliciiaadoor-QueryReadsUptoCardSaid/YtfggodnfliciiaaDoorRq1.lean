/-
  The reference's SameReq and SameAll of parts, where both read the same; the law QueryReads.
-/
import Derived.Test.YtfggodnfliciiaaDoorRd8
import Derived.Test.YtfggodnfliciiaaDoorRk13
import Derived.Test.YtfggodnfliciiaaDoorSamd
import Derived.Deep.RegionHeld3
namespace Go.Proofs.YtfggodnfliciiaaDoor.Rd
open Go Go.RowKit Go.Proofs.YtfggodnfliciiaaDoor.Sx

set_option maxRecDepth 100000 in
set_option maxHeartbeats 2000000 in
theorem sameReq_any (B : Nat) (v u : Value) (key : ByteArray) (kd : Int) (vals : List ByteArray) (w : World) (hB : B ≤ w.heap.size) (h1 : StrsR B w v vals) (h2 : StrsR B w u vals) :
    Calls Tryd.prog 7 #[.agg #[.string key, .int .i64 kd, v], .agg #[.string key, .int .i64 kd, u]] w fun e w' => e = .returned (.bool true) ∧ Ext w w' := by
  have HV := Lib.hid (And.intro h1 h2)
  obtain ⟨_, A1, c1, rfl, _⟩ := h1
  obtain ⟨_, A2, c2, rfl, _⟩ := h2
  have hE : Hid (∀ a : ByteArray, (a.toList == a.toList) = true) := fun a => by simp
  have e3 := hE.out key
  go_enter Tryd.func7, Tryd.ntmps7
  go_wp2_with fail
  have hx : ∀ o p, Ext w ((w.alloc o).alloc p) := fun o p => ((Below.refl _ _).alloc (Nat.le_refl _) _).alloc (by simp) _
  have hbl : ∀ o p, Below B w ((w.alloc o).alloc p) := fun o p => (hx o p).mono hB
  refine Calls.mono (eq_strs (HV.out.1.below (hbl _ _) (Nat.le_refl _)) (HV.out.2.below (hbl _ _) (Nat.le_refl _))) ?_
  rintro e w' ⟨rfl, rfl⟩
  have HX := Lib.hid hx
  clear hx hbl
  go_wp2
  go_ret
  exact ⟨rfl, HX.out _ _⟩

set_option maxRecDepth 100000 in
set_option maxHeartbeats 2000000 in
theorem sameReqs_any (B : Nat) (v u : Value) (l : List Req) (w : World) (hB : B ≤ w.heap.size) (h1 : ReqsR B w v l) (h2 : ReqsR B w u l) :
    Calls Tryd.prog 6 #[v, u, .func (.func 7) #[] #[]] w fun e w' => e = .returned (.bool true) ∧ Ext w w' := by
  have H := Lib.hid (And.intro h1 h2)
  have hn := h1.1
  obtain ⟨_, A, c, rfl, _⟩ := h1
  obtain ⟨_, A', c', rfl, _⟩ := h2
  go_enter Tryd.func6, Tryd.ntmps6
  go_wp2
  go_loopw [7, 15] (fun _ k wr => ∃ j : Nat, j ≤ l.length ∧ k = .int .i64 j ∧ Hid (Ext w wr)) (fun _ k _ => l.length - (intOf k).toNat)
  case atStart => exact ⟨0, Nat.zero_le _, rfl, Below.refl _ _⟩
  case round =>
    obtain ⟨j, hj, rfl, hX⟩ := hrel
    by_cases hlt : j < l.length
    · have hbl := hX.out.mono hB
      obtain ⟨b, off, A1, c1, rfl, hbB, x0, x1, x2, _, t2⟩ := ReqsR.at_ (H.out.1.below hbl (Nat.le_refl _)) hlt
      obtain ⟨b', off', D1, d1, rfl, hbB', y0, y1, y2, _, u2⟩ := ReqsR.at_ (H.out.2.below hbl (Nat.le_refl _)) hlt
      obtain ⟨r, hr⟩ : ∃ r, r = l[j] := ⟨_, rfl⟩
      rw [← hr] at x0 x1 x2 t2 y0 y1 y2 u2
      have hbz : B ≤ wr.heap.size := Nat.le_trans hB hX.out.size
      have CS : Hid (∀ wk, Ext wr wk → Calls Tryd.prog 7 #[.agg #[.string r.key, .int .i64 r.kind, .slice A1 r.vals.length c1], .agg #[.string r.key, .int .i64 r.kind, .slice D1 r.vals.length d1]] wk fun e w' => e = .returned (.bool true) ∧ Ext w w' ∧ w'.cell? ⟨b, off + j * 3, none⟩ = some (.string r.key) ∧ w'.cell? ⟨b, off + j * 3 + 1, none⟩ = some (.int .i64 r.kind) ∧ w'.cell? ⟨b, off + j * 3 + 2, none⟩ = some (.slice A1 r.vals.length c1) ∧ w'.cell? ⟨b', off' + j * 3, none⟩ = some (.string r.key) ∧ w'.cell? ⟨b', off' + j * 3 + 1, none⟩ = some (.int .i64 r.kind) ∧ w'.cell? ⟨b', off' + j * 3 + 2, none⟩ = some (.slice D1 r.vals.length d1)) := fun wk hk => by
        have hb2 := hk.mono hbz
        refine (sameReq_any B _ _ _ _ _ wk (Nat.le_trans hbz hk.size) (t2.below hb2 (Nat.le_refl _)) (u2.below hb2 (Nat.le_refl _))).mono fun e w' ⟨he, hx⟩ => ?_
        have hx' := (hk.trans hx).mono hbz
        exact ⟨he, hX.out.trans (hk.trans hx), (hx'.cell (p := ⟨b, _, none⟩) hbB).trans x0, (hx'.cell (p := ⟨b, _, none⟩) hbB).trans x1, (hx'.cell (p := ⟨b, _, none⟩) hbB).trans x2, (hx'.cell (p := ⟨b', _, none⟩) hbB').trans y0, (hx'.cell (p := ⟨b', _, none⟩) hbB').trans y1, (hx'.cell (p := ⟨b', _, none⟩) hbB').trans y2⟩
      have hxx : Ext wr wr := Below.refl _ _
      have hl1 : (0 : Int) ≤ (j : Int) := by omega
      have hl2 : (j : Int) < (l.length : Int) := by omega
      clear t2 u2 hbz hbl hr
      go_wp2
      go_region_held3 (fun w' => w'.cell? ⟨b, off + j * 3, none⟩ = some (.string r.key) ∧ w'.cell? ⟨b, off + j * 3 + 1, none⟩ = some (.int .i64 r.kind) ∧ w'.cell? ⟨b, off + j * 3 + 2, none⟩ = some (.slice A1 r.vals.length c1) ∧ w'.cell? ⟨b', off' + j * 3, none⟩ = some (.string r.key) ∧ w'.cell? ⟨b', off' + j * 3 + 1, none⟩ = some (.int .i64 r.kind) ∧ w'.cell? ⟨b', off' + j * 3 + 2, none⟩ = some (.slice D1 r.vals.length d1))
        (first | (refine ⟨by assumption, by assumption, by assumption, by assumption, by assumption, by assumption⟩) | go_keep)
        (first
          | (go_at_call 7; refine (CS.out _ (by first | assumption | (apply Below.drew; assumption))).mono ?_; rintro e w' ⟨rfl, r0, r1, r2, r3, r4, r5, r6⟩))
      have HX9 := Lib.hid r0
      clear r0 x0 x1 x2 y0 y1 y2
      go_wp2
      go_roundw
      case rel => exact ⟨j + 1, hlt, by go_num, HX9⟩
      case measure => simp [intOf]; omega
    · go_wp2
      go_ret
      exact ⟨rfl, hX.out⟩

set_option maxRecDepth 100000 in
set_option maxHeartbeats 2000000 in
theorem queryReads_walk (s : ByteArray) (w : World) (hs : s.size ≤ 1048576) (hm : MaxC w) :
    Calls Tryd.prog 3 #[.string s] w fun e w' => e = .returned (.bool true) ∧ Ext w w' := by
  have HM := Lib.hid hm
  have C1 := Lib.hid (parse_any s w hs hm)
  clear hm
  go_enter Tryd.func3, Tryd.ntmps3
  go_wp2_with fail
  refine Calls.mono C1.out ?_
  rintro e w1 ⟨l, err, A, c, rfl, hr1, ho1, hx1⟩
  have H1 : Hid (ReqsR w1.heap.size w1 (.slice A l.length c) l ∧ Out s l err ∧ Ext w w1) := ⟨hr1, ho1, hx1⟩
  have C2 := Lib.hid (qparse_any s w1 hs (HM.out.ext hx1))
  clear hr1 ho1 hx1 C1
  go_wp2_with fail
  refine Calls.mono C2.out ?_
  rintro e w2 ⟨l', err', A', c', rfl, hr2, ho2, hx2⟩
  obtain ⟨rfl, rfl⟩ := ho2.one H1.out.2.1
  have H2 : Hid (ReqsR w2.heap.size w2 (.slice A l'.length c) l' ∧ ReqsR w2.heap.size w2 (.slice A' l'.length c') l' ∧ Ext w w2) := ⟨H1.out.1.below hx2 hx2.size, hr2, H1.out.2.2.trans hx2⟩
  have C3 := Lib.hid (sameReqs_any w2.heap.size _ _ l' w2 (Nat.le_refl _) H2.out.1 H2.out.2.1)
  clear hr2 ho2 hx2 C2
  go_wp2_with fail
  refine Calls.mono C3.out ?_
  rintro e w3 ⟨rfl, hx3⟩
  have HX := Lib.hid (H2.out.2.2.trans hx3)
  clear hx3 C3
  go_wp2
  go_ret
  exact ⟨rfl, HX.out⟩
end Go.Proofs.YtfggodnfliciiaaDoor.Rd
