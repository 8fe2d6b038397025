/-
  The law JsonSays.
-/
import Derived.Test.YtahinicpceokcaaGreatDoorJl1
import Derived.Test.YtahinicpceokcaaGreatDoorJka
import Derived.Test.YtahinicpceokcaaGreatDoorJkb
namespace Go.Proofs.YtahinicpceokcaaGreatDoor.Jm
open Go Go.RowKit Go.Proofs.YtahinicpceokcaaGreatDoor.Sx Go.Proofs.YtahinicpceokcaaGreatDoor.Js

def manyZ : Res J → Nat
  | .ok j => manyJ j
  | .error _ => 1
set_option maxRecDepth 100000 in
theorem noV_size (W : World) : Calls Tryz.prog 12 #[.agg #[.int .i64 0, .bool false, .int .i64 0, .string ⟨#[]⟩, .slice none 0 0, .slice none 0 0]] W fun e w'' => e = .returned (.tuple #[.int .i64 ((1 : Nat) : Int), .int .i64 ((0 : Nat) : Int)]) ∧ Ext W w'' := by
  have h := rsize_core (fun _ => True) W ([] : List J) (fun x hx => by cases hx) 0 false 0 ⟨#[]⟩ none 0 0 none 0 0 (.inr ⟨.inl rfl, rfl⟩) (fun i hi => absurd hi (Nat.not_lt_zero i)) (by simp)
  simp only [List.map_nil, List.sum_nil, List.length_nil, maxL, List.foldr_nil, Nat.add_zero] at h
  exact h
set_option maxRecDepth 100000 in
/-- What the reference's Read answered: its kind, its error; its size and sameness by the contracts. -/
theorem rread_facts {w w' : World} {T : Res J} {K : Int} {B : Bool} {n : Int} {sv : ByteArray} {A1 A2 : Option Addr} {n1 c1 n2 c2 : Nat} {er : Int}
    (h : (er = 0 ∧ ∃ j, T = .ok j ∧ RV (fun b => w.heap.size ≤ b) w' j (v6 K B n sv (.slice A1 n1 c1) (.slice A2 n2 c2))) ∨ (er ≠ 0 ∧ T = .error er ∧ v6 K B n sv (.slice A1 n1 c1) (.slice A2 n2 c2) = noV)) (hb : ∀ j, T = .ok j → bulkJ j ≤ 1048576) :
    er = eR T ∧ K = kR T ∧ ∀ W, Ext w' W → Calls Tryz.prog 12 #[.agg #[.int .i64 K, .bool B, .int .i64 n, .string sv, .slice A1 n1 c1, .slice A2 n2 c2]] W fun e w'' => e = .returned (.tuple #[.int .i64 (manyZ T), .int .i64 (deepR T)]) ∧ Ext W w'' := by
  rcases h with ⟨rfl, j, rfl, hj⟩ | ⟨_, rfl, hn⟩
  · refine ⟨rfl, ?_, fun W hx => rsize_val j _ _ W (hj.ext hx) (hb j rfl)⟩
    obtain ⟨A, c, B', d, e, _⟩ := hj.parts
    unfold v6 at e
    injection e with e1 _
    injection e1 with _ e2
  · unfold noV v6 nilS at hn
    injection hn with e1 r
    injection r with e2 r
    injection r with e3 r
    injection r with e4 r
    injection r with e5 r
    injection r with e6 _
    injection e1 with _ e1
    injection e2 with e2
    injection e3 with _ e3
    injection e4 with e4
    injection e5 with p1 p2 p3
    injection e6 with q1 q2 q3
    subst e1 e2 e3 e4 p1 p2 p3 q1 q2 q3
    refine ⟨rfl, rfl, fun W _ => ?_⟩
    simp only [manyZ, deepR]
    exact noV_size W
theorem same_text {a b : J} (ha : WJ a) (hb : WJ b) : (textJ a == textJ b) = true ↔ a = b := by
  rw [beq_iff_eq]
  exact ⟨fun h => text_inj (WJ.ok a ha) (WJ.ok b hb) h, fun h => by rw [h]⟩
set_option maxRecDepth 100000 in
set_option maxHeartbeats 4000000 in
theorem jsonSays_walk (s t : ByteArray) (w : World) (hs : s.size ≤ 1048576) (hm : MaxC w) (ht : Tab10 w) : Calls Tryz.prog 4 #[.string s, .string t] w fun e w' => e = .returned (.bool true) ∧ Ext w w' := by
  have R1 := Lib.hid (rread_any s w)
  have R2 := Lib.hid (fun W => rread_any t W)
  have C1 := Lib.hid (fun W => jkind_any s W)
  have C2 := Lib.hid (fun W => jsize_any s W)
  have C3 : Hid (∀ W, Calls Tryz.prog 13 #[.string s] W fun e w' => e = .returned (.tuple #[.string (bx (quoteR s.data.toList).1), .int .i64 (quoteR s.data.toList).2]) ∧ Ext W w') := fun W => by
    have h := jquote_any s.data.toList W (by simpa using hs)
    rw [of_bx] at h
    exact h
  have C4 : Hid (∀ W, Ext w W → Calls Tryz.prog 14 #[.string s] W fun e w' => e = .returned (.tuple #[.string (bx (quoteR s.data.toList).1), .int .i64 (quoteR s.data.toList).2]) ∧ Ext W w') := fun W hx => by
    have h := rjquote_any s.data.toList W (hm.ext hx) (by simpa using hs)
    rw [of_bx] at h
    exact h
  have C5 : Hid (∀ W, Ext w W → Calls Tryz.prog 15 #[.string s, .string t] W fun e w' => e = .returned (.tuple #[.bool (sameR (readS s.data.toList) (readS t.data.toList)), .int .i64 (eR2 (readS s.data.toList) (readS t.data.toList))]) ∧ Ext W w') := fun W hx => jsame_any s t W (ht.ext hx)
  have HG : Hid (∀ j, readS s.data.toList = .ok j → WJ j ∧ bulkJ j ≤ 128000) := fun j h => readS_good h
  have HG2 : Hid (∀ j, readS t.data.toList = .ok j → WJ j ∧ bulkJ j ≤ 128000) := fun j h => readS_good h
  obtain ⟨R, hR⟩ : ∃ R, R = readS s.data.toList := ⟨_, rfl⟩
  obtain ⟨Q, hQ⟩ : ∃ R, R = readS t.data.toList := ⟨_, rfl⟩
  obtain ⟨qx, hqx⟩ : ∃ x, x = bx (quoteR s.data.toList).1 := ⟨_, rfl⟩
  obtain ⟨qe, hqe⟩ : ∃ x, x = (quoteR s.data.toList).2 := ⟨_, rfl⟩
  rw [← hR] at R1 C1 C2 C5 HG
  rw [← hQ] at R2 C5 HG2
  rw [← hqx, ← hqe] at C3 C4
  clear hR hQ hqx hqe hs hm ht
  go_enter Tryz.func4, Tryz.ntmps4
  go_wp2_with fail
  refine Calls.mono R1.out ?_
  rintro e w2 ⟨x2, K, B, n, sv, A1, n1, c1, A2, n2, c2, er, rfl, hres⟩
  obtain ⟨re, rk, hsz⟩ := rread_facts hres (fun j h => by have := (HG.out j h).2; omega)
  rw [← rk, ← re] at C1
  rw [← re] at C2
  obtain ⟨mR, hmR⟩ : ∃ x, x = manyR R := ⟨_, rfl⟩
  obtain ⟨dR, hdR⟩ : ∃ x, x = deepR R := ⟨_, rfl⟩
  obtain ⟨mZ, hmZ⟩ : ∃ x, x = manyZ R := ⟨_, rfl⟩
  obtain ⟨sm, hsm⟩ : ∃ x, x = sameR R Q := ⟨_, rfl⟩
  obtain ⟨e2, he2⟩ : ∃ x, x = eR2 R Q := ⟨_, rfl⟩
  have HMR := Lib.hid hmR
  have HDR := Lib.hid hdR
  have HMZ := Lib.hid hmZ
  have HSM := Lib.hid hsm
  have HE2 := Lib.hid he2
  rw [← hmR, ← hdR] at C2
  rw [← hmZ, ← hdR] at hsz
  rw [← hsm, ← he2] at C5
  clear hmR hdR hmZ hsm he2
  have X2 := Lib.hid x2
  have HRES := Lib.hid hres
  have HSZ := Lib.hid hsz
  have HRE := Lib.hid re
  have HRK := Lib.hid rk
  clear x2 hres hsz re rk
  unfold v6
  go_upto_region 2 with (fail)
  obtain ⟨t4, ht4⟩ : ∃ t4, t4 = w2.heap.size := ⟨_, rfl⟩
  rw [← ht4]
  generalize hW : World.alloc w2 _ = w3
  have HX3 : Hid (Ext w2 w3) := by rw [← hW]; exact new_ext _ _
  have HU3 : Hid (VIn w3 t4 K B n sv (.slice A1 n1 c1) (.slice A2 n2 c2)) := by rw [← hW]; exact heap_new ht4
  clear hW ht4
  go_wp2_with fail
  refine Calls.mono (R2.out w3) ?_
  rintro e w4 ⟨x4, K', B', n', sv', A1', n1', c1', A2', n2', c2', er', rfl, hres⟩
  obtain ⟨re, rk, -⟩ := rread_facts hres (fun j h => by have := (HG2.out j h).2; omega)
  have X4 := Lib.hid ((X2.out.trans HX3.out).trans x4)
  have X34 := Lib.hid x4
  have HRES' := Lib.hid hres
  have HRE' := Lib.hid re
  clear x4 hres re rk
  unfold v6
  go_upto_region 3 with (fail)
  obtain ⟨t5, ht5⟩ : ∃ t4, t4 = w4.heap.size := ⟨_, rfl⟩
  rw [← ht5]
  generalize hW : World.alloc w4 _ = w5
  have HX5 : Hid (Ext w4 w5) := by rw [← hW]; exact new_ext _ _
  have HU5 : Hid (VIn w5 t5 K' B' n' sv' (.slice A1' n1' c1') (.slice A2' n2' c2')) := by rw [← hW]; exact heap_new ht5
  clear hW ht5
  have XW5 := Lib.hid (X4.out.trans HX5.out)
  go_wp2_with fail
  refine Calls.mono (C1.out w5) ?_
  rintro e w6 ⟨rfl, x6⟩
  have X6 := Lib.hid x6
  clear x6
  go_wp2_with fail
  refine Calls.mono (C2.out w6) ?_
  rintro e w7 ⟨rfl, x7⟩
  have X7 := Lib.hid (X6.out.trans x7)
  clear x7
  obtain ⟨a0, a1, a2, a3, a4, a5⟩ := (HU3.out.ext (X34.out.trans (HX5.out.trans X7.out))).cells
  go_wp2_with fail
  refine Calls.mono (HSZ.out w7 ((HX3.out.trans X34.out).trans (HX5.out.trans X7.out))) ?_
  rintro e w8 ⟨rfl, x8⟩
  have X8 := Lib.hid (X7.out.trans x8)
  have XW8 := Lib.hid (XW5.out.trans X8.out)
  clear x8
  rcases Classical.em (er = 0) with her | her
  · subst her
    obtain ⟨j, hj, hp⟩ : ∃ j, R = .ok j ∧ RV (fun b => w.heap.size ≤ b) w2 j (v6 K B n sv (.slice A1 n1 c1) (.slice A2 n2 c2)) := by
      rcases HRES.out with ⟨_, h⟩ | ⟨h1, _⟩
      · exact h
      · exact absurd rfl h1
    have hz : mZ = mR := by rw [HMZ.out, HMR.out, hj]; rfl
    subst hz
    have HJ := Lib.hid hj
    have HP := Lib.hid hp
    clear hj hp HRES
    go_wp2_with fail
    refine Calls.mono (C3.out w8) ?_
    rintro e w9 ⟨rfl, x9⟩
    have X9 := Lib.hid (X8.out.trans x9)
    clear x9
    go_wp2_with fail
    refine Calls.mono (C4.out w9 (XW5.out.trans X9.out)) ?_
    rintro e w10 ⟨rfl, x10⟩
    have X10 := Lib.hid (X9.out.trans x10)
    clear x10
    go_wp2_with fail
    refine Calls.mono (C5.out w10 (XW5.out.trans X10.out)) ?_
    rintro e w11 ⟨rfl, x11⟩
    have X11 := Lib.hid (X10.out.trans x11)
    clear x11 a0 a1 a2 a3 a4 a5
    obtain ⟨a0, a1, a2, a3, a4, a5⟩ := (HU3.out.ext (X34.out.trans (HX5.out.trans X11.out))).cells
    obtain ⟨b0, b1, b2, b3, b4, b5⟩ := (HU5.out.ext X11.out).cells
    have z1 : (K != K) = false := by simp
    have z2 : ((mZ : Int) != (mZ : Int)) = false := by simp
    have z3 : ((dR : Int) != (dR : Int)) = false := by simp
    have z4 : (qx.toList != qx.toList) = false := by simp
    have z5 : (qe != qe) = false := by simp
    have he : e2 = er' := by rw [HE2.out, HRE'.out, HJ.out]; rfl
    subst he
    have z6 : (e2 == e2) = true := by simp
    have XF := Lib.hid (XW5.out.trans X11.out)
    rcases Classical.em (e2 = 0) with he0 | he0
    · subst he0
      obtain ⟨k, hk, hq⟩ : ∃ k, Q = .ok k ∧ RV (fun b => w3.heap.size ≤ b) w4 k (v6 K' B' n' sv' (.slice A1' n1' c1') (.slice A2' n2' c2')) := by
        rcases HRES'.out with ⟨_, h⟩ | ⟨h1, _⟩
        · exact h
        · exact absurd rfl h1
      have g1 := HG.out j HJ.out
      have g2 := HG2.out k hk
      have HB : Hid (sm = true ↔ j = k) := by
        unfold Hid
        rw [HSM.out, HJ.out, hk]
        exact same_text g1.1 g2.1
      have CS : Hid (∀ W, Ext w11 W → Calls Tryz.prog 16 #[.agg #[.int .i64 K, .bool B, .int .i64 n, .string sv, .slice A1 n1 c1, .slice A2 n2 c2], .agg #[.int .i64 K', .bool B', .int .i64 n', .string sv', .slice A1' n1' c1', .slice A2' n2' c2']] W fun e w' => e = .returned (.bool sm) ∧ Ext W w') := fun W hx => by
        have h := same_val j k _ _ _ _ W (HP.out.ext ((HX3.out.trans X34.out).trans (HX5.out.trans (X11.out.trans hx)))) (hq.ext (HX5.out.trans (X11.out.trans hx))) (by omega) (by omega)
        refine h.mono fun e w' ⟨b, he, hb, hx'⟩ => ⟨?_, hx'⟩
        rw [he, Bool.eq_iff_iff.2 (hb.trans HB.out.symm)]
      clear hk hq g1 g2 HB HRES' HRE' HSM HE2 HJ HP
      go_wp2_with fail
      refine Calls.mono (CS.out w11 (Below.refl _ _)) ?_
      rintro e w12 ⟨rfl, x12⟩
      have X12 := Lib.hid (XF.out.trans x12)
      clear x12
      go_wp2_with fail
      go_ret
      exact ⟨by simp, X12.out⟩
    · have hsm : sm = false := by
        rcases HRES'.out with ⟨h, _⟩ | ⟨_, h, _⟩
        · exact absurd h he0
        · rw [HSM.out, HJ.out, h]; rfl
      subst hsm
      have z7 : (e2 == 0) = false := by rw [beq_eq_false_iff_ne]; exact he0
      clear he0 HRES' HRE' HSM HE2
      go_wp2_with fail
      go_ret
      exact ⟨rfl, XF.out⟩
  · have hj : R = .error er := by
      rcases HRES.out with ⟨h, _⟩ | ⟨_, h, _⟩
      · exact absurd h her
      · exact h
    have h1 : mR = 0 := by rw [HMR.out, hj]; rfl
    have h2 : dR = 0 := by rw [HDR.out, hj]; rfl
    have h3 : sm = false := by rw [HSM.out, hj]; rfl
    have h4 : e2 = er := by rw [HE2.out, hj]; unfold eR2; rw [if_neg (show ¬ eR (.error er : Res J) = 0 from her)]; rfl
    subst h1 h2 h3 h4
    have y1 : (e2 != 0) = true := by rw [bne_iff_ne]; exact her
    have y2 : (e2 == 0) = false := by rw [beq_eq_false_iff_ne]; exact her
    clear her hj HRES HRES' HRE HRE' HMR HDR HSM HE2 HMZ
    go_wp2_with fail
    refine Calls.mono (C3.out w8) ?_
    rintro e w9 ⟨rfl, x9⟩
    have X9 := Lib.hid (X8.out.trans x9)
    clear x9
    go_wp2_with fail
    refine Calls.mono (C4.out w9 (XW5.out.trans X9.out)) ?_
    rintro e w10 ⟨rfl, x10⟩
    have X10 := Lib.hid (X9.out.trans x10)
    clear x10
    go_wp2_with fail
    refine Calls.mono (C5.out w10 (XW5.out.trans X10.out)) ?_
    rintro e w11 ⟨rfl, x11⟩
    have X11 := Lib.hid (X10.out.trans x11)
    clear x11 a0 a1 a2 a3 a4 a5
    obtain ⟨a0, a1, a2, a3, a4, a5⟩ := (HU3.out.ext (X34.out.trans (HX5.out.trans X11.out))).cells
    have z1 : (K != K) = false := by simp
    have z4 : (qx.toList != qx.toList) = false := by simp
    have z5 : (qe != qe) = false := by simp
    have z6 : (e2 == e2) = true := by simp
    have z7 : (e2 != e2) = false := by simp
    have XF := Lib.hid (XW5.out.trans X11.out)
    go_wp2_with fail
    go_ret
    exact ⟨by simp, XF.out⟩
end Go.Proofs.YtahinicpceokcaaGreatDoor.Jm
