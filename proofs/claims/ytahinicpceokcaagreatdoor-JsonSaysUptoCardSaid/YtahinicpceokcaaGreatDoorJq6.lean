/-
  The reference's reader: value, its list and its object by hypothesis (printed by gen/jq6.py).
-/
import Derived.Test.YtahinicpceokcaaGreatDoorJqa
import Derived.Test.YtahinicpceokcaaGreatDoorJq4
import Derived.Test.YtahinicpceokcaaGreatDoorJrb
namespace Go.Proofs.YtahinicpceokcaaGreatDoor.Jm
open Go Go.RowKit Go.Proofs.YtahinicpceokcaaGreatDoor.Sx Go.Proofs.YtahinicpceokcaaGreatDoor.Js Go.Proofs.YtahinicpceokcaaGreatDoor.Gr

def startL : Tx := [91, 123, 34, 45, 116, 102, 110, 48, 49, 50, 51, 52, 53, 54, 55, 56, 57]
set_option maxRecDepth 100000 in
theorem starts_fin : ∀ x : Fin 256, decide (0 ≤ Lib.indexByte startL (UInt8.ofNat x.val)) = starts (UInt8.ofNat x.val) := by decide
theorem VIn.lt {w : World} {g : Nat} {K : Int} {B : Bool} {n : Int} {s : ByteArray} {a l : Value} (h : VIn w g K B n s a l) : g < w.heap.size := heap_lt h
theorem starts_idx (c : UInt8) : decide (0 ≤ Lib.indexByte startL c) = starts c := by
  have h := starts_fin ⟨c.toNat, c.toNat_lt⟩
  simpa using h
/-- What a reader of the reference gives where the plain law gives T. -/
def RRes (w : World) (k : Nat) (s : ByteArray) (T : Res (J × Nat × Tx)) (e : Ending) (w' : World) : Prop :=
  w.grownBy w' (some k) ∧ ∃ K B n sv A1 n1 c1 A2 n2 c2 er, e = .returned (.tuple #[.agg (v6 K B n sv (.slice A1 n1 c1) (.slice A2 n2 c2)).toArray, .int .i64 er]) ∧
    ((er = 0 ∧ ∃ j many p, T = .ok (j, many, sfx s p) ∧ QIn w' k s p many ∧ p ≤ s.size ∧ RV (fun b => w.heap.size ≤ b) w' j (v6 K B n sv (.slice A1 n1 c1) (.slice A2 n2 c2))) ∨ (er ≠ 0 ∧ T = .error er))

set_option maxRecDepth 100000 in
set_option maxHeartbeats 8000000 in
theorem rvalue_any (k : Nat) (s : ByteArray) (i many d : Nat) (deep : Int) (w : World) (h : QIn w k s i many) (hs : s.size ≤ 2000) (hi : i ≤ s.size) (hd : deep = 10 - (d : Int)) (hmI : many ≤ 200) (hdI : d ≤ 10)
    (hL : ∀ (d' : Nat) (W : World) (j : Nat) (r : Tx), d = d' + 1 → many + 1 ≤ 200 → QIn W k s j (many + 1) → j ≤ s.size → sfx s j = 91 :: r → skipW (sfx s i) = 91 :: r → Calls Tryz.prog 70 #[.pointer (some ⟨k, 0, none⟩), .int .i64 deep] W (RRes W k s (valueS d many (sfx s i))))
    (hO : ∀ (d' : Nat) (W : World) (j : Nat) (r : Tx), d = d' + 1 → many + 1 ≤ 200 → QIn W k s j (many + 1) → j ≤ s.size → sfx s j = 123 :: r → skipW (sfx s i) = 123 :: r → Calls Tryz.prog 71 #[.pointer (some ⟨k, 0, none⟩), .int .i64 deep] W (RRes W k s (valueS d many (sfx s i)))) :
    Calls Tryz.prog 32 #[.pointer (some ⟨k, 0, none⟩), .int .i64 deep] w (RRes w k s (valueS d many (sfx s i))) := by
  have H := Lib.hid h
  have HLO := Lib.hid (And.intro hL hO)
  have HDP := Lib.hid (And.intro hd hdI)
  clear h hL hO hd hdI
  obtain ⟨g, hg⟩ : ∃ g, g = w.heap.size := ⟨_, rfl⟩
  obtain ⟨w1, hw1⟩ : ∃ w1, w1 = w.alloc (.cells #[.int .i64 0, .bool false, .int .i64 0, .string ⟨#[]⟩, nilS, nilS] vT (0, 0)) := ⟨_, rfl⟩
  have HX1 : Hid (Ext w w1) := by rw [hw1]; exact new_ext _ _
  have HR1 : Hid (VIn w1 g 0 false 0 ⟨#[]⟩ nilS nilS) := by rw [hw1]; exact heap_new hg
  have HGW : Hid (w.heap.size ≤ g) := by rw [hg]; exact Nat.le_refl _
  have H1 := Lib.hid (H.out.ext HX1.out)
  have HC : Hid (∀ W, w1.grownBy W (some k) → VIn W g 0 false 0 ⟨#[]⟩ nilS nilS ∧ ∀ K B n t a l, VIn (putV W g K B n t a l) g K B n t a l ∧ w.grownBy (putV W g K B n t a l) (some k) ∧ ∀ j m, QIn W k s j m → QIn (putV W g K B n t a l) k s j m) := fun W hW => by
    have hkg : k ≠ g := by have h1 := H.out.lt; have h2 := HGW.out; omega
    have hv := HR1.out.kept hW (fun e => hkg (by injection e))
    exact ⟨hv, fun K B n t a l => ⟨put_in K B n t a l hv, put_grown K B n t a l (grown_trans (grown_ext HX1.out) hW) HGW.out, fun j m hQ => (put_heap W K B n t a l k hkg).trans hQ⟩⟩
  have CL : Hid (Calls Tryz.prog 33 #[.pointer (some ⟨k, 0, none⟩)] w1 (LookPost w1 k s i many)) := look_any k s i many w1 H1.out hs hi
  go_enter Tryz.func32, Tryz.ntmps32
  go_wp2_with fail
  rw [← hw1, ← hg]
  clear hw1 hg
  refine Calls.mono CL.out ?_
  rintro e w2 ⟨j, rfl, hq2, hij, hjs, hsx, hg2⟩
  have HQ2 := Lib.hid hq2
  have HG2 := Lib.hid hg2
  have HSX := Lib.hid hsx
  have HC2 := Lib.hid ((HC.out w2 hg2).2)
  have HV2 := Lib.hid ((HC.out w2 hg2).1)
  clear hq2 hg2 hsx
  cases hsk : skipW (sfx s i) with
  | nil =>
    have HE : Hid (valueS d many (sfx s i) = .error 3) := by
      unfold Hid
      rw [valueS, hsk]
    obtain ⟨d0, d1, d2, d3, d4, d5⟩ := HV2.out.cells
    have e0 := HV2.out.free 0
    have e1 := HV2.out.free 1
    have e2 := HV2.out.free 2
    have e3 := HV2.out.free 3
    have e4 := HV2.out.free 4
    have e5 := HV2.out.free 5
    have hh : headI ([] : Tx) = -1 := rfl
    rw [hh]
    clear hsk
    go_wp2_with fail
    refine bodyPost_ret (results_v rfl _ _ g rfl (HC2.out 0 false 0 ⟨#[]⟩ nilS nilS).1) rfl ?_
    exact ⟨(HC2.out 0 false 0 ⟨#[]⟩ nilS nilS).2.1, _, _, _, _, _, _, _, _, _, _, _, rfl, .inr ⟨by decide, HE.out⟩⟩
  | cons c r =>
    have hh : headI (c :: r) = (c.toNat : Int) := rfl
    rw [hh]
    have HSK := Lib.hid hsk
    have CC : Hid (∀ wk, Calls Tryz.prog 68 #[.string ⟨#[91, 123, 34, 45, 116, 102, 110, 48, 49, 50, 51, 52, 53, 54, 55, 56, 57]⟩, .string (sgn c)] wk fun e w' => e = .returned (.bool (starts c)) ∧ wk = w') := fun wk => by
      refine (Tryz.strings_Contains_one ⟨#[91, 123, 34, 45, 116, 102, 110, 48, 49, 50, 51, 52, 53, 54, 55, 56, 57]⟩ c wk).mono fun e w' ⟨h1, h2⟩ => ⟨?_, h2.symm⟩
      rw [h1, ← starts_idx]
      rfl
    have bneg : decide ((c.toNat : Int) < 0) = false := decide_eq_false (by omega)
    clear hsk
    cases hst : starts c with
    | false =>
      have HE : Hid (valueS d many (sfx s i) = .error 3) := by
        unfold Hid
        rw [value_eq d many _ HSK.out, if_pos hst]
      have CC2 : Hid (∀ wk, Calls Tryz.prog 68 #[.string ⟨#[91, 123, 34, 45, 116, 102, 110, 48, 49, 50, 51, 52, 53, 54, 55, 56, 57]⟩, .string (sgn c)] wk fun e w' => e = .returned (.bool false) ∧ wk = w') := by rw [← hst]; exact CC
      clear hst
      go_upto_region 3 with (first
        | (go_at_call 69; refine (chr_at _ c rfl _).mono ?_; rintro e w3 ⟨rfl, x3⟩)
        | (go_at_call 68; refine (CC2.out _).mono ?_; rintro e w4 ⟨rfl, rfl⟩))
      have HG3 := Lib.hid (grown_trans HG2.out (grown_ext (row := some k) x3))
      have HV3 := Lib.hid (HC.out w3 HG3.out)
      clear x3
      obtain ⟨d0, d1, d2, d3, d4, d5⟩ := HV3.out.1.cells
      have e0 := HV3.out.1.free 0
      have e1 := HV3.out.1.free 1
      have e2 := HV3.out.1.free 2
      have e3 := HV3.out.1.free 3
      have e4 := HV3.out.1.free 4
      have e5 := HV3.out.1.free 5
      go_wp2_with fail
      refine bodyPost_ret (results_v rfl _ _ g rfl (HV3.out.2 0 false 0 ⟨#[]⟩ nilS nilS).1) rfl ?_
      exact ⟨(HV3.out.2 0 false 0 ⟨#[]⟩ nilS nilS).2.1, _, _, _, _, _, _, _, _, _, _, _, rfl, .inr ⟨by decide, HE.out⟩⟩
    | true =>
      have CC2 : Hid (∀ wk, Calls Tryz.prog 68 #[.string ⟨#[91, 123, 34, 45, 116, 102, 110, 48, 49, 50, 51, 52, 53, 54, 55, 56, 57]⟩, .string (sgn c)] wk fun e w' => e = .returned (.bool true) ∧ wk = w') := by rw [← hst]; exact CC
      have HST := Lib.hid hst
      clear hst
      go_upto_region 4 with (first
        | (go_at_call 69; refine (chr_at _ c rfl _).mono ?_; rintro e w3 ⟨rfl, x3⟩)
        | (go_at_call 68; refine (CC2.out _).mono ?_; rintro e w4 ⟨rfl, rfl⟩))
      have HQ3 := Lib.hid (HQ2.out.ext x3)
      have HG3 := Lib.hid (grown_trans HG2.out (grown_ext (row := some k) x3))
      clear x3
      obtain ⟨z0, z1, z2⟩ := HQ3.out.cells
      have f2 := HQ3.out.free 2
      go_upto_region 5 with (fail)
      generalize hW : World.setCell w3 _ _ = w4
      have HQ4 : Hid (QIn w4 k s j (many + 1)) := by rw [← hW]; exact HQ3.out.setMany _ _ (by omega)
      have HG4 : Hid (w1.grownBy w4 (some k)) := by rw [← hW]; exact grown_trans HG3.out (grown_set _ k 2 _)
      have HV4 := Lib.hid (HC.out w4 HG4.out)
      clear hW z0 z1 z2 f2
      obtain ⟨z0, z1, z2⟩ := HQ4.out.cells
      rw [show ((many + 1 : Nat) : Int) = (many : Int) + 1 by omega] at z2
      by_cases hbig : 200 < many + 1
      · have HE : Hid (valueS d many (sfx s i) = .error 2) := by
          unfold Hid
          rw [value_eq d many _ HSK.out, if_neg (by rw [HST.out]; simp), if_pos hbig]
        have b200 : decide ((200 : Int) < (many : Int) + 1) = true := decide_eq_true (by omega)
        clear hbig
        obtain ⟨d0, d1, d2, d3, d4, d5⟩ := HV4.out.1.cells
        have e0 := HV4.out.1.free 0
        have e1 := HV4.out.1.free 1
        have e2 := HV4.out.1.free 2
        have e3 := HV4.out.1.free 3
        have e4 := HV4.out.1.free 4
        have e5 := HV4.out.1.free 5
        go_wp2_with fail
        refine bodyPost_ret (results_v rfl _ _ g rfl (HV4.out.2 0 false 0 ⟨#[]⟩ nilS nilS).1) rfl ?_
        exact ⟨(HV4.out.2 0 false 0 ⟨#[]⟩ nilS nilS).2.1, _, _, _, _, _, _, _, _, _, _, _, rfl, .inr ⟨by decide, HE.out⟩⟩
      · have b200 : decide ((200 : Int) < (many : Int) + 1) = false := decide_eq_false (by omega)
        have HMB : Hid (¬ 200 < many + 1) := hbig
        clear hbig
        go_upto_region 7 with (fail)
        clear b200 z0 z1 z2
        have HS4 : Hid (sfx s j = c :: r) := HSX.out.trans HSK.out
        by_cases h91 : c = 91
        · subst h91
          cases d with
          | zero =>
            have HE : Hid (valueS 0 many (sfx s i) = .error 4) := by
              unfold Hid
              rw [value_eq 0 many _ HSK.out, if_neg (by decide), if_neg HMB.out, if_pos rfl]
            obtain rfl : deep = 10 := by have := HDP.out; omega
            obtain ⟨d0, d1, d2, d3, d4, d5⟩ := HV4.out.1.cells
            have e0 := HV4.out.1.free 0
            have e1 := HV4.out.1.free 1
            have e2 := HV4.out.1.free 2
            have e3 := HV4.out.1.free 3
            have e4 := HV4.out.1.free 4
            have e5 := HV4.out.1.free 5
            go_wp2_with fail
            refine bodyPost_ret (results_v rfl _ _ g rfl (HV4.out.2 0 false 0 ⟨#[]⟩ nilS nilS).1) rfl ?_
            exact ⟨(HV4.out.2 0 false 0 ⟨#[]⟩ nilS nilS).2.1, _, _, _, _, _, _, _, _, _, _, _, rfl, .inr ⟨by decide, HE.out⟩⟩
          | succ d' =>
            have bd : (deep == 10) = false := by rw [beq_eq_false_iff_ne]; have := HDP.out; omega
            have CA := Lib.hid (HLO.out.1 d' w4 j r rfl (Nat.le_of_not_lt HMB.out) HQ4.out hjs HS4.out HSK.out)
            go_wp2_with fail
            refine Calls.mono CA.out ?_
            rintro e w5 ⟨hg5, K, B, n, sv, A1, n1, c1, A2, n2, c2, er, rfl, hres⟩
            have HG5 := Lib.hid (grown_trans HG4.out hg5)
            have HRES := Lib.hid hres
            have HV5 := Lib.hid (HC.out w5 HG5.out)
            clear hg5 hres bd
            obtain ⟨d0, d1, d2, d3, d4, d5⟩ := HV5.out.1.cells
            have e0 := HV5.out.1.free 0
            have e1 := HV5.out.1.free 1
            have e2 := HV5.out.1.free 2
            have e3 := HV5.out.1.free 3
            have e4 := HV5.out.1.free 4
            have e5 := HV5.out.1.free 5
            unfold v6
            go_wp2_with fail
            refine bodyPost_ret (results_v rfl _ _ g rfl (HV5.out.2 K B n sv (.slice A1 n1 c1) (.slice A2 n2 c2)).1) rfl ?_
            have HP := HV5.out.2 K B n sv (.slice A1 n1 c1) (.slice A2 n2 c2)
            refine ⟨HP.2.1, K, B, n, sv, A1, n1, c1, A2, n2, c2, er, rfl, ?_⟩
            rcases HRES.out with ⟨h1, jj, mm, p, h2, h3, h4, h5⟩ | h1
            · exact .inl ⟨h1, jj, mm, p, h2, HP.2.2 _ _ h3, h4, RV.keep (w := w5) (F := fun b => w4.heap.size ≤ b) (fun b hb _ => put_heap w5 K B n sv _ _ b (fun e => by have h6 := HV4.out.1.lt; omega)) (fun b hb _ => by have h6 := HG4.out.size; have h7 := HX1.out.size; omega) _ _ h5⟩
            · exact .inr h1
        · by_cases h123 : c = 123
          · subst h123
            cases d with
            | zero =>
              have HE : Hid (valueS 0 many (sfx s i) = .error 4) := by
                unfold Hid
                rw [value_eq 0 many _ HSK.out, if_neg (by decide), if_neg HMB.out, if_neg (by decide), if_pos rfl]
              obtain rfl : deep = 10 := by have := HDP.out; omega
              obtain ⟨d0, d1, d2, d3, d4, d5⟩ := HV4.out.1.cells
              have e0 := HV4.out.1.free 0
              have e1 := HV4.out.1.free 1
              have e2 := HV4.out.1.free 2
              have e3 := HV4.out.1.free 3
              have e4 := HV4.out.1.free 4
              have e5 := HV4.out.1.free 5
              go_wp2_with fail
              refine bodyPost_ret (results_v rfl _ _ g rfl (HV4.out.2 0 false 0 ⟨#[]⟩ nilS nilS).1) rfl ?_
              exact ⟨(HV4.out.2 0 false 0 ⟨#[]⟩ nilS nilS).2.1, _, _, _, _, _, _, _, _, _, _, _, rfl, .inr ⟨by decide, HE.out⟩⟩
            | succ d' =>
              have bd : (deep == 10) = false := by rw [beq_eq_false_iff_ne]; have := HDP.out; omega
              have CA := Lib.hid (HLO.out.2 d' w4 j r rfl (Nat.le_of_not_lt HMB.out) HQ4.out hjs HS4.out HSK.out)
              go_wp2_with fail
              refine Calls.mono CA.out ?_
              rintro e w5 ⟨hg5, K, B, n, sv, A1, n1, c1, A2, n2, c2, er, rfl, hres⟩
              have HG5 := Lib.hid (grown_trans HG4.out hg5)
              have HRES := Lib.hid hres
              have HV5 := Lib.hid (HC.out w5 HG5.out)
              clear hg5 hres bd
              obtain ⟨d0, d1, d2, d3, d4, d5⟩ := HV5.out.1.cells
              have e0 := HV5.out.1.free 0
              have e1 := HV5.out.1.free 1
              have e2 := HV5.out.1.free 2
              have e3 := HV5.out.1.free 3
              have e4 := HV5.out.1.free 4
              have e5 := HV5.out.1.free 5
              unfold v6
              go_wp2_with fail
              refine bodyPost_ret (results_v rfl _ _ g rfl (HV5.out.2 K B n sv (.slice A1 n1 c1) (.slice A2 n2 c2)).1) rfl ?_
              have HP := HV5.out.2 K B n sv (.slice A1 n1 c1) (.slice A2 n2 c2)
              refine ⟨HP.2.1, K, B, n, sv, A1, n1, c1, A2, n2, c2, er, rfl, ?_⟩
              rcases HRES.out with ⟨h1, jj, mm, p, h2, h3, h4, h5⟩ | h1
              · exact .inl ⟨h1, jj, mm, p, h2, HP.2.2 _ _ h3, h4, RV.keep (w := w5) (F := fun b => w4.heap.size ≤ b) (fun b hb _ => put_heap w5 K B n sv _ _ b (fun e => by have h6 := HV4.out.1.lt; omega)) (fun b hb _ => by have h6 := HG4.out.size; have h7 := HX1.out.size; omega) _ _ h5⟩
              · exact .inr h1
          · have HVS : Hid (valueS d many (sfx s i) = match plainS (c :: r) with | .error e => .error e | .ok (j, r2) => .ok (j, many + 1, r2)) := by
              unfold Hid
              rw [value_eq d many _ HSK.out, if_neg (by rw [HST.out]; simp), if_neg HMB.out, if_neg h91, if_neg h123]
              rfl
            have hst4 := sfx_step HS4.out
            have hjl : j < s.size := hst4.1
            have HR4 : Hid (sfx s (j + 1) = r) := hst4.2.1
            clear hst4
            by_cases h34 : c = 34
            · subst h34
              have CA := Lib.hid (rtext_any k s j (many + 1) w4 HQ4.out hs hjl)
              clear h91 h123
              go_wp2_with fail
              refine Calls.mono CA.out ?_
              rintro e w5 ⟨p, hg5, hq5, hp5, ⟨t, ht, rfl⟩ | ⟨ht, rfl⟩⟩
              · have HE : Hid (valueS d many (sfx s i) = .ok (.text t, many + 1, sfx s p)) := by
                  unfold Hid
                  rw [HVS.out, plainS_eq, if_pos rfl, ← HR4.out, ht]
                clear ht
                have HG5 := Lib.hid (grown_trans HG4.out hg5)
                have HQ5 := Lib.hid (And.intro hq5 hp5)
                have HV5 := Lib.hid (HC.out w5 HG5.out)
                clear hg5 hq5 hp5
                obtain ⟨d0, d1, d2, d3, d4, d5⟩ := HV5.out.1.cells
                have e0 := HV5.out.1.free 0
                have e1 := HV5.out.1.free 1
                have e2 := HV5.out.1.free 2
                have e3 := HV5.out.1.free 3
                have e4 := HV5.out.1.free 4
                have e5 := HV5.out.1.free 5
                try unfold noV
                try unfold v6
                go_wp2_with fail
                refine bodyPost_ret (results_v rfl _ _ g rfl (HV5.out.2 4 false 0 (bx t) nilS nilS).1) rfl ?_
                have HP := HV5.out.2 4 false 0 (bx t) nilS nilS
                exact ⟨HP.2.1, _, _, _, _, _, _, _, _, _, _, _, rfl, .inl ⟨rfl, _, _, p, HE.out, HP.2.2 _ _ HQ5.out.1, HQ5.out.2, RV_text.2 rfl⟩⟩
              · have HE : Hid (valueS d many (sfx s i) = .error 3) := by
                  unfold Hid
                  rw [HVS.out, plainS_eq, if_pos rfl, ← HR4.out, ht]
                clear ht
                have HG5 := Lib.hid (grown_trans HG4.out hg5)
                have HQ5 := Lib.hid (And.intro hq5 hp5)
                have HV5 := Lib.hid (HC.out w5 HG5.out)
                clear hg5 hq5 hp5
                obtain ⟨d0, d1, d2, d3, d4, d5⟩ := HV5.out.1.cells
                have e0 := HV5.out.1.free 0
                have e1 := HV5.out.1.free 1
                have e2 := HV5.out.1.free 2
                have e3 := HV5.out.1.free 3
                have e4 := HV5.out.1.free 4
                have e5 := HV5.out.1.free 5
                try unfold noV
                try unfold v6
                go_wp2_with fail
                refine bodyPost_ret (results_v rfl _ _ g rfl (HV5.out.2 4 false 0 ⟨#[]⟩ nilS nilS).1) rfl ?_
                have HP := HV5.out.2 4 false 0 ⟨#[]⟩ nilS nilS
                exact ⟨HP.2.1, _, _, _, _, _, _, _, _, _, _, _, rfl, .inr ⟨by decide, HE.out⟩⟩
            · by_cases h110 : c = 110
              · subst h110
                have CA : Hid (Calls Tryz.prog 73 #[.pointer (some ⟨k, 0, none⟩), .string ⟨#[110, 117, 108, 108]⟩, .agg #[.int .i64 1, .bool false, .int .i64 0, .string ⟨#[]⟩, .slice none 0 0, .slice none 0 0]] w4 (RWordPost w4 k s j (many + 1) 1 false tN)) := rword_any k s j (many + 1) 1 false ⟨#[110, 117, 108, 108]⟩ w4 HQ4.out hs hjs (by decide)
                have HPL : Hid (plainS (sfx s j) = wordS tN .null (sfx s j)) := by
                  unfold Hid
                  rw [HS4.out]
                  rfl
                clear h91 h123
                go_wp2_with fail
                refine Calls.mono CA.out ?_
                rintro e w5 ⟨p, hg5, hq5, hp5, ⟨h1, h2, rfl⟩ | ⟨h1, rfl⟩⟩
                · have HE : Hid (valueS d many (sfx s i) = .ok (.null, many + 1, sfx s p)) := by
                    unfold Hid
                    rw [HVS.out, ← HS4.out, HPL.out]
                    unfold wordS
                    rw [if_pos h1, ← h2]
                  clear h1 h2
                  have HG5 := Lib.hid (grown_trans HG4.out hg5)
                  have HQ5 := Lib.hid (And.intro hq5 hp5)
                  have HV5 := Lib.hid (HC.out w5 HG5.out)
                  clear hg5 hq5 hp5
                  obtain ⟨d0, d1, d2, d3, d4, d5⟩ := HV5.out.1.cells
                  have e0 := HV5.out.1.free 0
                  have e1 := HV5.out.1.free 1
                  have e2 := HV5.out.1.free 2
                  have e3 := HV5.out.1.free 3
                  have e4 := HV5.out.1.free 4
                  have e5 := HV5.out.1.free 5
                  try unfold noV
                  try unfold v6
                  go_wp2_with fail
                  refine bodyPost_ret (results_v rfl _ _ g rfl (HV5.out.2 1 false 0 ⟨#[]⟩ nilS nilS).1) rfl ?_
                  have HP := HV5.out.2 1 false 0 ⟨#[]⟩ nilS nilS
                  exact ⟨HP.2.1, _, _, _, _, _, _, _, _, _, _, _, rfl, .inl ⟨rfl, _, _, p, HE.out, HP.2.2 _ _ HQ5.out.1, HQ5.out.2, RV_null.2 rfl⟩⟩
                · have HE : Hid (valueS d many (sfx s i) = .error 3) := by
                    unfold Hid
                    rw [HVS.out, ← HS4.out, HPL.out]
                    unfold wordS
                    rw [if_neg (by rw [h1]; simp)]
                  clear h1
                  have HG5 := Lib.hid (grown_trans HG4.out hg5)
                  have HQ5 := Lib.hid (And.intro hq5 hp5)
                  have HV5 := Lib.hid (HC.out w5 HG5.out)
                  clear hg5 hq5 hp5
                  obtain ⟨d0, d1, d2, d3, d4, d5⟩ := HV5.out.1.cells
                  have e0 := HV5.out.1.free 0
                  have e1 := HV5.out.1.free 1
                  have e2 := HV5.out.1.free 2
                  have e3 := HV5.out.1.free 3
                  have e4 := HV5.out.1.free 4
                  have e5 := HV5.out.1.free 5
                  try unfold noV
                  try unfold v6
                  go_wp2_with fail
                  refine bodyPost_ret (results_v rfl _ _ g rfl (HV5.out.2 0 false 0 ⟨#[]⟩ nilS nilS).1) rfl ?_
                  have HP := HV5.out.2 0 false 0 ⟨#[]⟩ nilS nilS
                  exact ⟨HP.2.1, _, _, _, _, _, _, _, _, _, _, _, rfl, .inr ⟨by decide, HE.out⟩⟩
              · by_cases h116 : c = 116
                · subst h116
                  have CA : Hid (Calls Tryz.prog 73 #[.pointer (some ⟨k, 0, none⟩), .string ⟨#[116, 114, 117, 101]⟩, .agg #[.int .i64 2, .bool true, .int .i64 0, .string ⟨#[]⟩, .slice none 0 0, .slice none 0 0]] w4 (RWordPost w4 k s j (many + 1) 2 true tT)) := rword_any k s j (many + 1) 2 true ⟨#[116, 114, 117, 101]⟩ w4 HQ4.out hs hjs (by decide)
                  have HPL : Hid (plainS (sfx s j) = wordS tT (.bool true) (sfx s j)) := by
                    unfold Hid
                    rw [HS4.out]
                    rfl
                  clear h91 h123
                  go_wp2_with fail
                  refine Calls.mono CA.out ?_
                  rintro e w5 ⟨p, hg5, hq5, hp5, ⟨h1, h2, rfl⟩ | ⟨h1, rfl⟩⟩
                  · have HE : Hid (valueS d many (sfx s i) = .ok ((.bool true), many + 1, sfx s p)) := by
                      unfold Hid
                      rw [HVS.out, ← HS4.out, HPL.out]
                      unfold wordS
                      rw [if_pos h1, ← h2]
                    clear h1 h2
                    have HG5 := Lib.hid (grown_trans HG4.out hg5)
                    have HQ5 := Lib.hid (And.intro hq5 hp5)
                    have HV5 := Lib.hid (HC.out w5 HG5.out)
                    clear hg5 hq5 hp5
                    obtain ⟨d0, d1, d2, d3, d4, d5⟩ := HV5.out.1.cells
                    have e0 := HV5.out.1.free 0
                    have e1 := HV5.out.1.free 1
                    have e2 := HV5.out.1.free 2
                    have e3 := HV5.out.1.free 3
                    have e4 := HV5.out.1.free 4
                    have e5 := HV5.out.1.free 5
                    try unfold noV
                    try unfold v6
                    go_wp2_with fail
                    refine bodyPost_ret (results_v rfl _ _ g rfl (HV5.out.2 2 true 0 ⟨#[]⟩ nilS nilS).1) rfl ?_
                    have HP := HV5.out.2 2 true 0 ⟨#[]⟩ nilS nilS
                    exact ⟨HP.2.1, _, _, _, _, _, _, _, _, _, _, _, rfl, .inl ⟨rfl, _, _, p, HE.out, HP.2.2 _ _ HQ5.out.1, HQ5.out.2, RV_bool.2 rfl⟩⟩
                  · have HE : Hid (valueS d many (sfx s i) = .error 3) := by
                      unfold Hid
                      rw [HVS.out, ← HS4.out, HPL.out]
                      unfold wordS
                      rw [if_neg (by rw [h1]; simp)]
                    clear h1
                    have HG5 := Lib.hid (grown_trans HG4.out hg5)
                    have HQ5 := Lib.hid (And.intro hq5 hp5)
                    have HV5 := Lib.hid (HC.out w5 HG5.out)
                    clear hg5 hq5 hp5
                    obtain ⟨d0, d1, d2, d3, d4, d5⟩ := HV5.out.1.cells
                    have e0 := HV5.out.1.free 0
                    have e1 := HV5.out.1.free 1
                    have e2 := HV5.out.1.free 2
                    have e3 := HV5.out.1.free 3
                    have e4 := HV5.out.1.free 4
                    have e5 := HV5.out.1.free 5
                    try unfold noV
                    try unfold v6
                    go_wp2_with fail
                    refine bodyPost_ret (results_v rfl _ _ g rfl (HV5.out.2 0 false 0 ⟨#[]⟩ nilS nilS).1) rfl ?_
                    have HP := HV5.out.2 0 false 0 ⟨#[]⟩ nilS nilS
                    exact ⟨HP.2.1, _, _, _, _, _, _, _, _, _, _, _, rfl, .inr ⟨by decide, HE.out⟩⟩
                · by_cases h102 : c = 102
                  · subst h102
                    have CA : Hid (Calls Tryz.prog 73 #[.pointer (some ⟨k, 0, none⟩), .string ⟨#[102, 97, 108, 115, 101]⟩, .agg #[.int .i64 2, .bool false, .int .i64 0, .string ⟨#[]⟩, .slice none 0 0, .slice none 0 0]] w4 (RWordPost w4 k s j (many + 1) 2 false tF)) := rword_any k s j (many + 1) 2 false ⟨#[102, 97, 108, 115, 101]⟩ w4 HQ4.out hs hjs (by decide)
                    have HPL : Hid (plainS (sfx s j) = wordS tF (.bool false) (sfx s j)) := by
                      unfold Hid
                      rw [HS4.out]
                      rfl
                    clear h91 h123
                    go_wp2_with fail
                    refine Calls.mono CA.out ?_
                    rintro e w5 ⟨p, hg5, hq5, hp5, ⟨h1, h2, rfl⟩ | ⟨h1, rfl⟩⟩
                    · have HE : Hid (valueS d many (sfx s i) = .ok ((.bool false), many + 1, sfx s p)) := by
                        unfold Hid
                        rw [HVS.out, ← HS4.out, HPL.out]
                        unfold wordS
                        rw [if_pos h1, ← h2]
                      clear h1 h2
                      have HG5 := Lib.hid (grown_trans HG4.out hg5)
                      have HQ5 := Lib.hid (And.intro hq5 hp5)
                      have HV5 := Lib.hid (HC.out w5 HG5.out)
                      clear hg5 hq5 hp5
                      obtain ⟨d0, d1, d2, d3, d4, d5⟩ := HV5.out.1.cells
                      have e0 := HV5.out.1.free 0
                      have e1 := HV5.out.1.free 1
                      have e2 := HV5.out.1.free 2
                      have e3 := HV5.out.1.free 3
                      have e4 := HV5.out.1.free 4
                      have e5 := HV5.out.1.free 5
                      try unfold noV
                      try unfold v6
                      go_wp2_with fail
                      refine bodyPost_ret (results_v rfl _ _ g rfl (HV5.out.2 2 false 0 ⟨#[]⟩ nilS nilS).1) rfl ?_
                      have HP := HV5.out.2 2 false 0 ⟨#[]⟩ nilS nilS
                      exact ⟨HP.2.1, _, _, _, _, _, _, _, _, _, _, _, rfl, .inl ⟨rfl, _, _, p, HE.out, HP.2.2 _ _ HQ5.out.1, HQ5.out.2, RV_bool.2 rfl⟩⟩
                    · have HE : Hid (valueS d many (sfx s i) = .error 3) := by
                        unfold Hid
                        rw [HVS.out, ← HS4.out, HPL.out]
                        unfold wordS
                        rw [if_neg (by rw [h1]; simp)]
                      clear h1
                      have HG5 := Lib.hid (grown_trans HG4.out hg5)
                      have HQ5 := Lib.hid (And.intro hq5 hp5)
                      have HV5 := Lib.hid (HC.out w5 HG5.out)
                      clear hg5 hq5 hp5
                      obtain ⟨d0, d1, d2, d3, d4, d5⟩ := HV5.out.1.cells
                      have e0 := HV5.out.1.free 0
                      have e1 := HV5.out.1.free 1
                      have e2 := HV5.out.1.free 2
                      have e3 := HV5.out.1.free 3
                      have e4 := HV5.out.1.free 4
                      have e5 := HV5.out.1.free 5
                      try unfold noV
                      try unfold v6
                      go_wp2_with fail
                      refine bodyPost_ret (results_v rfl _ _ g rfl (HV5.out.2 0 false 0 ⟨#[]⟩ nilS nilS).1) rfl ?_
                      have HP := HV5.out.2 0 false 0 ⟨#[]⟩ nilS nilS
                      exact ⟨HP.2.1, _, _, _, _, _, _, _, _, _, _, _, rfl, .inr ⟨by decide, HE.out⟩⟩
                  · have hb : ∀ (m : Nat), m < 256 → c ≠ UInt8.ofNat m → ((c.toNat : Int) == (m : Int)) = false := fun m hm h => by rw [byte_lit c m hm]; simp [h]
                    have b91 : ((c.toNat : Int) == 91) = false := hb 91 (by omega) h91
                    have b123 : ((c.toNat : Int) == 123) = false := hb 123 (by omega) h123
                    have b34 : ((c.toNat : Int) == 34) = false := hb 34 (by omega) h34
                    have b110 : ((c.toNat : Int) == 110) = false := hb 110 (by omega) h110
                    have b116 : ((c.toNat : Int) == 116) = false := hb 116 (by omega) h116
                    have b102 : ((c.toNat : Int) == 102) = false := hb 102 (by omega) h102
                    have HPL : Hid (plainS (c :: r) = (numS (sfx s j)).map fun p => (.num p.1, p.2)) := by
                      unfold Hid
                      rw [plainS_eq, if_neg h34, if_neg h116, if_neg h102, if_neg h110, HS4.out]
                    have CA := Lib.hid (rnumber_any k s j (many + 1) w4 HQ4.out hs hjl)
                    clear hb h91 h123 h34 h110 h116 h102
                    go_wp2_with fail
                    refine Calls.mono CA.out ?_
                    rintro e w5 ⟨p, hg5, hq5, hp5, hways⟩
                    rcases hways with ⟨n, hn, hi64, rfl⟩ | ⟨er, hn, her, rfl⟩
                    · have HE : Hid (valueS d many (sfx s i) = .ok (.num n, many + 1, sfx s p) ∧ I64 n) := ⟨by rw [HVS.out, HPL.out, hn]; rfl, hi64⟩
                      clear hn hi64 b91 b123 b34 b110 b116 b102
                      have HG5 := Lib.hid (grown_trans HG4.out hg5)
                      have HQ5 := Lib.hid (And.intro hq5 hp5)
                      have HV5 := Lib.hid (HC.out w5 HG5.out)
                      clear hg5 hq5 hp5
                      obtain ⟨d0, d1, d2, d3, d4, d5⟩ := HV5.out.1.cells
                      have e0 := HV5.out.1.free 0
                      have e1 := HV5.out.1.free 1
                      have e2 := HV5.out.1.free 2
                      have e3 := HV5.out.1.free 3
                      have e4 := HV5.out.1.free 4
                      have e5 := HV5.out.1.free 5
                      try unfold noV
                      try unfold v6
                      go_wp2_with fail
                      refine bodyPost_ret (results_v rfl _ _ g rfl (HV5.out.2 3 false n ⟨#[]⟩ nilS nilS).1) rfl ?_
                      have HP := HV5.out.2 3 false n ⟨#[]⟩ nilS nilS
                      exact ⟨HP.2.1, _, _, _, _, _, _, _, _, _, _, _, rfl, .inl ⟨rfl, _, _, p, HE.out.1, HP.2.2 _ _ HQ5.out.1, HQ5.out.2, RV_num.2 ⟨rfl, HE.out.2⟩⟩⟩
                    · have HE : Hid (valueS d many (sfx s i) = .error er ∧ er ≠ 0) := ⟨by rw [HVS.out, HPL.out, hn]; rfl, her⟩
                      clear hn her b91 b123 b34 b110 b116 b102
                      have HG5 := Lib.hid (grown_trans HG4.out hg5)
                      have HQ5 := Lib.hid (And.intro hq5 hp5)
                      have HV5 := Lib.hid (HC.out w5 HG5.out)
                      clear hg5 hq5 hp5
                      obtain ⟨d0, d1, d2, d3, d4, d5⟩ := HV5.out.1.cells
                      have e0 := HV5.out.1.free 0
                      have e1 := HV5.out.1.free 1
                      have e2 := HV5.out.1.free 2
                      have e3 := HV5.out.1.free 3
                      have e4 := HV5.out.1.free 4
                      have e5 := HV5.out.1.free 5
                      try unfold noV
                      try unfold v6
                      go_wp2_with fail
                      refine bodyPost_ret (results_v rfl _ _ g rfl (HV5.out.2 0 false 0 ⟨#[]⟩ nilS nilS).1) rfl ?_
                      have HP := HV5.out.2 0 false 0 ⟨#[]⟩ nilS nilS
                      exact ⟨HP.2.1, _, _, _, _, _, _, _, _, _, _, er, rfl, .inr ⟨HE.out.2, HE.out.1⟩⟩
end Go.Proofs.YtahinicpceokcaaGreatDoor.Jm
