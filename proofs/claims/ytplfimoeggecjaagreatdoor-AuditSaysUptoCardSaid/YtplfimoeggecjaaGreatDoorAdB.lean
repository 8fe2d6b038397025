/-
  Entries of the log: the reference's AuditLine.
  Entries of the log: the program's Parse.
  Entries of the log: the reference's AuditParse.
  Lines of the log chained: both sides; the law AuditSays: it returns true.
  The law AuditSays: it returns true.
-/
import Derived.Test.YtplfimoeggecjaaGreatDoorAdA
import Derived.Test.YtplfimoeggecjaaGreatDoorFlw2
import Derived.Test.YtplfimoeggecjaaGreatDoorDig
import Derived.Test.YtplfimoeggecjaaGreatDoorTkB
import Derived.Deep.RegionHeld3
namespace Go.Proofs.YtplfimoeggecjaaGreatDoor.Sx
open Go Go.RowKit Go.Lib Go.Proofs.YtplfimoeggecjaaGreatDoor.Dc Go.Proofs.YtplfimoeggecjaaGreatDoor.Tk

def slB : ByteArray := ⟨#[47]⟩
theorem slash_seven (a b c d e f h : ByteArray) : a ++ slB ++ b ++ slB ++ c ++ slB ++ d ++ slB ++ e ++ slB ++ f ++ slB ++ h = slashJ [a, b, c, d, e, f, h] := by
  apply ba_ext
  show _ = Lib.join ([a, b, c, d, e, f, h].map (·.data.toList)) [47]
  simp only [List.map_cons, List.map_nil]
  rw [← glue_join]
  simp only [ba_app, glue, slB]
  simp

set_option maxRecDepth 100000 in
set_option maxHeartbeats 8000000 in
theorem rline_any (e : Ent) (w : World) (hs : e.small) : Calls Tryz.prog 12 #[e.val] w fun r w' => r = .returned (.tuple #[.string (entB e), .int .i64 (entE e)]) ∧ Ext w w' := by
  have HS := Lib.hid hs
  clear hs
  unfold Ent.val
  obtain ⟨g, hg⟩ : ∃ g, g = w.heap.size := ⟨_, rfl⟩
  obtain ⟨w1, hw1⟩ : ∃ w1, w1 = (w.alloc (.cells #[.string e.who, .string e.verb, .string e.kind, .string e.space, .string e.name, .int .i64 e.what, .int .i64 e.rev] 36 (0, 0))).alloc (.cells #[.slice none 0 0] 63) := ⟨_, rfl⟩
  have HX1 : Hid (Ext w w1) := by rw [hw1]; exact (new_ext _ _).trans (new_ext _ _)
  have HE1 : Hid (EntIn w1 g e) := by rw [hw1]; exact heap_old (heap_new hg)
  have HF1 : Hid (Flw w1 (g + 1) 0 0) := by rw [hw1]; exact Flw.new (by rw [hg]; simp)
  have HGW : Hid (w.heap.size ≤ g) := by rw [hg]; exact Nat.le_refl _
  go_enter Tryz.func12, Tryz.ntmps12
  go_wp2_with fail
  rw [← hw1, ← hg]
  clear hw1 hg
  have hsz : g + 1 ≤ w1.heap.size := Nat.le_of_lt HF1.out.lt
  have HST : Hid (∀ w', Mod eT (g + 1) w1 w' → EntIn w' g e ∧ Ext w w') := fun w' hm =>
    ⟨hm.heap (.inl (by omega)) HE1.out, Below.trans HX1.out ((hm.below hsz).mono (by have := HGW.out; omega))⟩
  clear hsz
  refine Calls.mono (fspace_any _ _ _ e.who _ HF1.out (by omega) HS.out.1) ?_
  rintro r w2 ⟨rfl, hc, hm2⟩
  have HC2 := Lib.hid hc
  have HM2 := Lib.hid hm2
  clear hc hm2
  obtain ⟨-, y1, -, -, -, -, -⟩ := (HST.out _ HM2.out).1.cells
  go_wp2_with fail
  refine Calls.mono (rname_any e.verb _ (by have := HS.out.2.1; unfold maxLen; omega)) ?_
  rintro r w' ⟨rfl, rfl⟩
  go_wp2_with fail
  refine Calls.mono (fsays_any _ _ _ _ _ HC2.out (by omega)) ?_
  rintro r w3 ⟨rfl, hc, hm⟩
  have HC3 := Lib.hid hc
  have HM3 := Lib.hid (HM2.out.trans hm)
  clear hc hm y1
  obtain ⟨-, -, y2, -, -, -, -⟩ := (HST.out _ HM3.out).1.cells
  go_wp2_with fail
  refine Calls.mono (rname_any e.kind _ (by have := HS.out.2.2.1; unfold maxLen; omega)) ?_
  rintro r w' ⟨rfl, rfl⟩
  go_wp2_with fail
  refine Calls.mono (fsays_any _ _ _ _ _ HC3.out (by omega)) ?_
  rintro r w4 ⟨rfl, hc, hm⟩
  have HC4 := Lib.hid hc
  have HM4 := Lib.hid (HM3.out.trans hm)
  clear hc hm y2
  obtain ⟨-, -, -, y3, -, -, -⟩ := (HST.out _ HM4.out).1.cells
  go_wp2_with fail
  refine Calls.mono (fspace_any _ _ _ e.space _ HC4.out (by omega) HS.out.2.2.2.1) ?_
  rintro r w5 ⟨rfl, hc, hm⟩
  have HC5 := Lib.hid hc
  have HM5 := Lib.hid (HM4.out.trans hm)
  clear hc hm y3
  obtain ⟨-, -, -, -, y4, -, -⟩ := (HST.out _ HM5.out).1.cells
  go_wp2_with fail
  refine Calls.mono (fspace_any _ _ _ e.name _ HC5.out (by omega) HS.out.2.2.2.2) ?_
  rintro r w6 ⟨rfl, hc, hm⟩
  have HC6 := Lib.hid hc
  have HM6 := Lib.hid (HM5.out.trans hm)
  clear hc hm y4
  obtain ⟨-, -, -, -, -, y5, y6⟩ := (HST.out _ HM6.out).1.cells
  obtain ⟨o1, ho1⟩ : ∃ o, o = outB e.what 0 99 := ⟨_, rfl⟩
  obtain ⟨o2, ho2⟩ : ∃ o, o = outB e.rev 0 1099511627776 := ⟨_, rfl⟩
  have C1 : Hid (∀ W, Calls Tryz.prog 38 #[.int .i64 e.what, .int .i64 0, .int .i64 99] W fun r w' => r = .returned (.bool o1) ∧ W = w') := fun W => by rw [ho1]; exact outside_any _ _ _ W
  have C2 : Hid (∀ W, Calls Tryz.prog 38 #[.int .i64 e.rev, .int .i64 0, .int .i64 1099511627776] W fun r w' => r = .returned (.bool o2) ∧ W = w') := fun W => by rw [ho2]; exact outside_any _ _ _ W
  have HO : Hid (rangeBad e = (o1 || o2)) := by rw [ho1, ho2]; rfl
  clear ho1 ho2
  cases o1 <;> cases o2
  all_goals
    go_wp2_with (first
      | (go_at_call 38; (with_reducible refine (C1.out _).mono ?_); rintro r w' ⟨rfl, rfl⟩)
      | (go_at_call 38; (with_reducible refine (C2.out _).mono ?_); rintro r w' ⟨rfl, rfl⟩))
    refine Calls.mono (add_any _ _ _ _ _ _ HC6.out (by omega)) ?_
    rintro r w7 ⟨rfl, hc, hm⟩
    have HC7 : Hid (Flw w7 (g + 1) (entE e) (0 + 1 + 1 + 1 + 1 + 1 + 1)) := by
      have he : entE e = say (spaceI (spaceI (say (say (spaceI 0 e.who) (nameI e.verb)) (nameI e.kind)) e.space) e.name) (if rangeBad e = true then 1 else 0) := rfl
      rw [he, HO.out]
      exact hc
    have HM7 := Lib.hid (HM6.out.trans hm)
    clear hc hm y5 y6 C1 C2 HO
    obtain ⟨vf, Lf, hf1, hf2⟩ := HC7.out
    have hcf := cell_of hf1 0
    simp at hcf
    clear hf1 hf2
    go_wp2_with fail
    refine Calls.mono (flaws_first _ _ _ _ _ HC7.out hcf (by omega)) ?_
    rintro r w' ⟨rfl, rfl⟩
    clear hcf
    by_cases h0 : entE e = 0
    · have hb1 : (entE e != 0) = false := by simp [h0]
      have hE : entE e = 0 ∧ entB e = slashJ (entL e) := ⟨h0, if_pos h0⟩
      obtain ⟨⟨r1, r2⟩, r3, r4⟩ := range_fine h0
      have HE := Lib.hid hE
      clear hE h0
      obtain ⟨m1, hm1⟩ := Int.eq_ofNat_of_zero_le r1
      obtain ⟨m2, hm2⟩ := Int.eq_ofNat_of_zero_le r3
      have HM : Hid (m1 ≤ 99 ∧ m2 ≤ 1099511627776 ∧ e.what = (m1 : Int) ∧ e.rev = (m2 : Int)) := ⟨by omega, by omega, hm1, hm2⟩
      clear r1 r2 r3 r4 hm1 hm2
      go_wp2_with fail
      have HEX : Hid (∀ W, Ext w7 W → Ext w7 W ∧ W.cell? ⟨g, 0, none⟩ = some (.string e.who) ∧ W.cell? ⟨g, 1, none⟩ = some (.string e.verb) ∧ W.cell? ⟨g, 2, none⟩ = some (.string e.kind) ∧ W.cell? ⟨g, 3, none⟩ = some (.string e.space) ∧ W.cell? ⟨g, 4, none⟩ = some (.string e.name) ∧ W.cell? ⟨g, 5, none⟩ = some (.int .i64 (m1 : Int)) ∧ W.cell? ⟨g, 6, none⟩ = some (.int .i64 (m2 : Int))) := fun W hW => by
        obtain ⟨a0, a1, a2, a3, a4, a5, a6⟩ := ((HST.out _ HM7.out).1.ext hW).cells
        rw [HM.out.2.2.1] at a5
        rw [HM.out.2.2.2] at a6
        exact ⟨hW, a0, a1, a2, a3, a4, a5, a6⟩
      have CI : Hid (∀ (u : Nat) W, u ≤ 1099511627776 → Ext w7 W → Calls Tryz.prog 40 #[.int .i64 (u : Int)] W fun r w' => r = .returned (.string (decB u)) ∧ Ext w7 w' ∧ w'.cell? ⟨g, 0, none⟩ = some (.string e.who) ∧ w'.cell? ⟨g, 1, none⟩ = some (.string e.verb) ∧ w'.cell? ⟨g, 2, none⟩ = some (.string e.kind) ∧ w'.cell? ⟨g, 3, none⟩ = some (.string e.space) ∧ w'.cell? ⟨g, 4, none⟩ = some (.string e.name) ∧ w'.cell? ⟨g, 5, none⟩ = some (.int .i64 (m1 : Int)) ∧ w'.cell? ⟨g, 6, none⟩ = some (.int .i64 (m2 : Int))) := fun u W hu hW =>
        (digits_any u W (by omega)).mono fun r w' ⟨he, hx⟩ => ⟨he, HEX.out w' (hW.trans hx)⟩
      obtain ⟨hxx, a0, a1, a2, a3, a4, a5, a6⟩ := HEX.out w7 (Below.refl _ _)
      have z1 := HS.out.1
      have z2 := HS.out.2.1
      have z3 := HS.out.2.2.1
      have z4 := HS.out.2.2.2.1
      have z5 := HS.out.2.2.2.2
      have z6 := decB_le (n := m1) (by have := HM.out.1; omega)
      have z7 := decB_le (n := m2) HM.out.2.1
      have g1 : (9223372036854775807 < e.who.size + 1) = False := eq_false (by omega)
      have g2 : (9223372036854775807 < e.who.size + 1 + e.verb.size) = False := eq_false (by omega)
      have g3 : (9223372036854775807 < e.who.size + 1 + e.verb.size + 1) = False := eq_false (by omega)
      have g4 : (9223372036854775807 < e.who.size + 1 + e.verb.size + 1 + e.kind.size) = False := eq_false (by omega)
      have g5 : (9223372036854775807 < e.who.size + 1 + e.verb.size + 1 + e.kind.size + 1) = False := eq_false (by omega)
      have g6 : (9223372036854775807 < e.who.size + 1 + e.verb.size + 1 + e.kind.size + 1 + e.space.size) = False := eq_false (by omega)
      have g7 : (9223372036854775807 < e.who.size + 1 + e.verb.size + 1 + e.kind.size + 1 + e.space.size + 1) = False := eq_false (by omega)
      have g8 : (9223372036854775807 < e.who.size + 1 + e.verb.size + 1 + e.kind.size + 1 + e.space.size + 1 + e.name.size) = False := eq_false (by omega)
      have g9 : (9223372036854775807 < e.who.size + 1 + e.verb.size + 1 + e.kind.size + 1 + e.space.size + 1 + e.name.size + 1) = False := eq_false (by omega)
      have g10 : (9223372036854775807 < e.who.size + 1 + e.verb.size + 1 + e.kind.size + 1 + e.space.size + 1 + e.name.size + 1 + (decB m1).size) = False := eq_false (by omega)
      have g11 : (9223372036854775807 < e.who.size + 1 + e.verb.size + 1 + e.kind.size + 1 + e.space.size + 1 + e.name.size + 1 + (decB m1).size + 1) = False := eq_false (by omega)
      have g12 : (9223372036854775807 < e.who.size + 1 + e.verb.size + 1 + e.kind.size + 1 + e.space.size + 1 + e.name.size + 1 + (decB m1).size + 1 + (decB m2).size) = False := eq_false (by omega)
      clear z1 z2 z3 z4 z5 z6 z7
      go_region_held3 (fun W => Ext w7 W ∧ W.cell? ⟨g, 0, none⟩ = some (.string e.who) ∧ W.cell? ⟨g, 1, none⟩ = some (.string e.verb) ∧ W.cell? ⟨g, 2, none⟩ = some (.string e.kind) ∧ W.cell? ⟨g, 3, none⟩ = some (.string e.space) ∧ W.cell? ⟨g, 4, none⟩ = some (.string e.name) ∧ W.cell? ⟨g, 5, none⟩ = some (.int .i64 (m1 : Int)) ∧ W.cell? ⟨g, 6, none⟩ = some (.int .i64 (m2 : Int)))
        (first | (refine ⟨by assumption, by assumption, by assumption, by assumption, by assumption, by assumption, by assumption, by assumption⟩) | (refine ⟨Below.drew (by assumption), ?_, ?_, ?_, ?_, ?_, ?_, ?_⟩ <;> go_keep) | go_keep)
        (first
          | (go_at_call 40; refine (CI.out _ _ (by first | exact HM.out.2.1 | (have := HM.out.1; omega)) (by first | assumption | (apply Below.drew; assumption))).mono ?_; rintro r w' ⟨rfl, q0, q1, q2, q3, q4, q5, q6, q7⟩))
      all_goals
        have HX9 := Lib.hid q0
        clear q0 q1 q2 q3 q4 q5 q6 q7 a0 a1 a2 a3 a4 a5 a6 hxx
        go_wp2_with fail
        go_ret2
        refine ⟨?_, (HST.out _ HM7.out).2.trans HX9.out⟩
        rw [HE.out.1, HE.out.2]
        have hl : entL e = [e.who, e.verb, e.kind, e.space, e.name, decB m1, decB m2] := by unfold entL; rw [HM.out.2.2.1, HM.out.2.2.2]; rfl
        rw [hl, ← slash_seven]
        rfl
    · have hb1 : (entE e != 0) = true := by simp [h0]
      have HB : Hid (entB e = ⟨#[]⟩) := if_neg h0
      clear h0
      go_wp2_with fail
      go_ret2
      exact ⟨by rw [HB.out]; rfl, (HST.out _ HM7.out).2⟩
end Go.Proofs.YtplfimoeggecjaaGreatDoor.Sx
namespace Go.Proofs.YtplfimoeggecjaaGreatDoor.Sx
open Go Go.RowKit Go.Lib Go.Proofs.YtplfimoeggecjaaGreatDoor.Dc Go.Proofs.YtplfimoeggecjaaGreatDoor.Tk

set_option maxRecDepth 100000 in
set_option maxHeartbeats 8000000 in
theorem aparse_any (t : ByteArray) (w : World) (ht : t.size ≤ 1048575) (hm : MaxC w) (htab : Tab10 w) (her : Errs w) :
    Calls Tryz.prog 13 #[.string t] w (ParPost w t) := by
  have HZ := Lib.hid ht
  have HM := Lib.hid hm
  have HW := Lib.hid (And.intro htab her)
  clear ht hm htab her
  obtain ⟨g, hg⟩ : ∃ g, g = w.heap.size := ⟨_, rfl⟩
  obtain ⟨w1, hw1⟩ : ∃ w1, w1 = w.alloc (.cells #[.string ⟨#[]⟩, .string ⟨#[]⟩, .string ⟨#[]⟩, .string ⟨#[]⟩, .string ⟨#[]⟩, .int .i64 0, .int .i64 0] 36 (0, 0)) := ⟨_, rfl⟩
  have HX1 : Hid (Ext w w1) := by rw [hw1]; exact new_ext _ _
  have HG1 : Hid (EntIn w1 g noEnt) := by rw [hw1]; exact heap_new hg
  have HGW : Hid (w.heap.size ≤ g) := by rw [hg]; exact Nat.le_refl _
  have HC : Hid (∀ W, Ext w1 W → EntIn W g noEnt ∧ (W.frozen? ⟨g, 0, none⟩ = false ∧ W.frozen? ⟨g, 1, none⟩ = false ∧ W.frozen? ⟨g, 2, none⟩ = false ∧ W.frozen? ⟨g, 3, none⟩ = false ∧ W.frozen? ⟨g, 4, none⟩ = false ∧ W.frozen? ⟨g, 5, none⟩ = false ∧ W.frozen? ⟨g, 6, none⟩ = false) ∧ (∀ e, EntIn (putEnt W g e) g e ∧ Ext w (putEnt W g e)) ∧ Ext w W) := fun W hW => by
    have hb := HG1.out.ext hW
    exact ⟨hb, ⟨free_cells hb 0, free_cells hb 1, free_cells hb 2, free_cells hb 3, free_cells hb 4, free_cells hb 5, free_cells hb 6⟩, fun e => put_ent e hb (HX1.out.trans hW) HGW.out, HX1.out.trans hW⟩
  go_enter Tryz.func13, Tryz.ntmps13
  go_wp2_with fail
  rw [← hw1, ← hg]
  clear hw1 hg
  refine Calls.mono (spl_any t 47 w1 (HM.out.ext HX1.out) HZ.out) ?_
  rintro r w2 ⟨rfl, hr, -, hx⟩
  have HR2 := Lib.hid hr
  have HX2 := Lib.hid hx
  clear hr hx
  obtain ⟨b, hb⟩ : ∃ b, b = w1.heap.size := ⟨_, rfl⟩
  rw [← hb] at HR2
  rw [← hb]
  clear hb
  by_cases h7 : (parts 47 t).length = 7
  · have HP : Hid (∀ W, Ext w2 W → (W.cell? ⟨b, 0, none⟩ = some (.string (sAt t 0)) ∧ W.cell? ⟨b, 1, none⟩ = some (.string (sAt t 1)) ∧ W.cell? ⟨b, 2, none⟩ = some (.string (sAt t 2)) ∧ W.cell? ⟨b, 3, none⟩ = some (.string (sAt t 3)) ∧ W.cell? ⟨b, 4, none⟩ = some (.string (sAt t 4)) ∧ W.cell? ⟨b, 5, none⟩ = some (.string (sAt t 5)) ∧ W.cell? ⟨b, 6, none⟩ = some (.string (sAt t 6)))) := fun W hW =>
      seven_cells h7 ((hW.block _ (heap_lt HR2.out)).trans HR2.out)
    have H7 := Lib.hid h7
    have HBL : Hid (b < w2.heap.size) := heap_lt HR2.out
    rw [h7]
    clear h7
    obtain ⟨-, -, -, -, -, p5, p6⟩ := HP.out w2 (Below.refl _ _)
    go_wp2_with fail
    refine Calls.mono (atoi_any (sAt t 5) w2 (Nat.le_trans (sAt_size 5) (by have := HZ.out; omega)) (HW.out.2.ext (HX1.out.trans HX2.out))) ?_
    rintro r w3 ⟨v5, er5, rfl, hr5, hx3⟩
    have HR5 := Lib.hid hr5
    have HX23 := Lib.hid hx3
    have HX3 := Lib.hid (HX2.out.trans hx3)
    clear hr5 hx3 p5 p6
    obtain ⟨-, -, -, -, -, p5, p6⟩ := HP.out w3 HX23.out
    go_wp2_with fail
    refine Calls.mono (atoi_any (sAt t 6) w3 (Nat.le_trans (sAt_size 6) (by have := HZ.out; omega)) (HW.out.2.ext (HX1.out.trans HX3.out))) ?_
    rintro r w4 ⟨v6, er6, rfl, hr6, hx4⟩
    have HR6 := Lib.hid hr6
    have HX24 := Lib.hid (HX23.out.trans hx4)
    have HX4 := Lib.hid (HX3.out.trans hx4)
    clear hr6 hx4 p5 p6
    obtain ⟨p0, p1, p2, p3, p4, -, -⟩ := HP.out w4 HX24.out
    have hp4 : b < w4.heap.size := Nat.lt_of_lt_of_le HBL.out HX24.out.size
    have hxx : Ext w4 w4 := Below.refl _ _
    go_wp2_with fail
    go_region_held3 (fun W => Ext w4 W ∧ W.cell? ⟨b, 0, none⟩ = some (.string (sAt t 0)) ∧ W.cell? ⟨b, 1, none⟩ = some (.string (sAt t 1)) ∧ W.cell? ⟨b, 2, none⟩ = some (.string (sAt t 2)) ∧ W.cell? ⟨b, 3, none⟩ = some (.string (sAt t 3)) ∧ W.cell? ⟨b, 4, none⟩ = some (.string (sAt t 4)))
      (first | (refine ⟨by assumption, by assumption, by assumption, by assumption, by assumption, by assumption⟩) | (refine ⟨Below.drew (by assumption), ?_, ?_, ?_, ?_, ?_⟩ <;> go_keep) | (refine ⟨Below.drew (Below.alloc (by assumption) (Nat.le_refl _) _), ?_, ?_, ?_, ?_, ?_⟩ <;> go_keep) | (refine ⟨Below.drew (Below.alloc (Below.drew (by assumption)) (Nat.le_refl _) _), ?_, ?_, ?_, ?_, ?_⟩ <;> go_keep) | go_keep)
      (fail)
    all_goals
      clear p0 p1 p2 p3 p4 hxx hp4
      go_upto_region 7 with (fail)
      obtain ⟨k, hk⟩ : ∃ k, k = w4.heap.size := ⟨_, rfl⟩
      obtain ⟨w5, hw5⟩ : ∃ w5, w5 = (w4.alloc (.cells #[.string (sAt t 0), .string (sAt t 1), .string (sAt t 2), .string (sAt t 3), .string (sAt t 4), .int .i64 v5, .int .i64 v6] 36 (0, 0))).drew := ⟨_, rfl⟩
      have HX45 : Hid (Ext w4 w5) := by rw [hw5]; exact Below.drew (new_ext _ _)
      have HU5 : Hid (EntIn w5 k (entOf t v5 v6)) := by rw [hw5]; exact heap_new hk
      rw [← hw5, ← hk]
      clear hw5 hk
      have HX5 := Lib.hid (HX4.out.trans HX45.out)
      obtain ⟨u0, u1, u2, u3, u4, u5, u6⟩ := HU5.out.cells
      simp only [entOf] at u0 u1 u2 u3 u4 u5 u6
      go_wp2_with fail
      refine Calls.mono (aline_any (entOf t v5 v6) w5 (entOf_small (by have := HZ.out; omega) v5 v6) (HW.out.1.ext (HX1.out.trans HX5.out))) ?_
      rintro r w6 ⟨rfl, hx6⟩
      have HX6 := Lib.hid (HX5.out.trans hx6)
      have HU6 := Lib.hid (HU5.out.ext hx6)
      clear hx6 u0 u1 u2 u3 u4 u5 u6
      obtain ⟨A, hA⟩ : ∃ A, A = entB (entOf t v5 v6) := ⟨_, rfl⟩
      obtain ⟨E, hE⟩ : ∃ E, E = entE (entOf t v5 v6) := ⟨_, rfl⟩
      rw [← hA, ← hE]
      have HEA := Lib.hid (And.intro hE hA)
      clear hE hA
      obtain ⟨u0, u1, u2, u3, u4, u5, u6⟩ := HU6.out.cells
      simp only [entOf] at u0 u1 u2 u3 u4 u5 u6
      obtain ⟨s0, s1, s2, s3, s4, s5, s6⟩ := (HC.out w6 HX6.out).1.cells
      obtain ⟨f0, f1, f2, f3, f4, f5, f6⟩ := (HC.out w6 HX6.out).2.1
      simp only [noEnt] at s0 s1 s2 s3 s4 s5 s6
      by_cases hgood : entE (timeEnt t) = 0
      · obtain ⟨a1, a2, a3⟩ := par_good H7.out hgood
        have h5 : v5 = timeI (sAt t 5).data.toList ∧ er5 = .nilIface := by
          rcases HR5.out with ⟨h1, h2⟩ | ⟨h1, _⟩
          · rw [a1] at h1
            injection h1 with h1
            exact ⟨h1.symm, h2⟩
          · exact absurd a1 (h1 _)
        have h6 : v6 = timeI (sAt t 6).data.toList ∧ er6 = .nilIface := by
          rcases HR6.out with ⟨h1, h2⟩ | ⟨h1, _⟩
          · rw [a2] at h1
            injection h1 with h1
            exact ⟨h1.symm, h2⟩
          · exact absurd a2 (h1 _)
        obtain ⟨h5a, rfl⟩ := h5
        obtain ⟨h6a, rfl⟩ := h6
        have ht : entOf t v5 v6 = timeEnt t := by unfold timeEnt; rw [h5a, h6a]
        have e1 := HEA.out.1
        have e2 := HEA.out.2
        rw [ht, hgood] at e1
        rw [ht, a3] at e2
        have HE := Lib.hid (par_3 H7.out hgood)
        have HT5 := Lib.hid (And.intro h5a h6a)
        clear hgood a1 a2 a3 HR5 HR6 HEA ht h5a h6a HU6
        subst e1
        have q1 : (A.toList == t.toList) = true := by rw [e2]; simp
        clear e2
        go_wp2_with fail
        obtain ⟨t1, t2⟩ := (HC.out w6 HX6.out).2.2.1 (entOf t v5 v6)
        unfold putEnt entOf at t1 t2
        refine bodyPost_ret (results_ent rfl _ _ g rfl t1) rfl ?_
        have hf := parPost_good HE.out t2
        unfold timeEnt entOf at hf
        rw [← HT5.out.1, ← HT5.out.2] at hf
        exact hf
      · have HE := Lib.hid (par_2 H7.out hgood)
        have hways : (∃ tt pp, er5 = .iface tt pp) ∨ (er5 = .nilIface ∧ ∃ tt pp, er6 = .iface tt pp) ∨ (er5 = .nilIface ∧ er6 = .nilIface ∧ (E != 0) = true) ∨ (er5 = .nilIface ∧ er6 = .nilIface ∧ E = 0 ∧ (A.toList == t.toList) = false) := by
          rcases HR5.out with ⟨_, h5⟩ | ⟨_, h5⟩
          · rcases HR6.out with ⟨_, h6⟩ | ⟨_, h6⟩
            · by_cases h0 : E = 0
              · refine .inr (.inr (.inr ⟨h5, h6, h0, eq_letters.2 ?_⟩))
                rw [HEA.out.2]
                exact par_bad H7.out hgood (HEA.out.1.symm.trans h0)
              · exact .inr (.inr (.inl ⟨h5, h6, by simp [h0]⟩))
            · exact .inr (.inl ⟨h5, h6⟩)
          · exact .inl h5
        clear hgood HR5 HR6 HEA
        rcases hways with ⟨tt, pp, rfl⟩ | ⟨rfl, tt, pp, rfl⟩ | ⟨rfl, rfl, q1⟩ | ⟨rfl, rfl, rfl, q1⟩
        all_goals
          go_wp2_with fail
          obtain ⟨t1, t2⟩ := (HC.out w6 HX6.out).2.2.1 noEnt
          unfold putEnt noEnt at t1 t2
          refine bodyPost_ret (results_ent rfl _ _ g rfl t1) rfl ?_
          exact parPost_bad HE.out t2
  · have hb1 : (((parts 47 t).length : Int) != 7) = true := by rw [bne_iff_ne]; omega
    have HE := Lib.hid (par_1 h7)
    clear h7
    obtain ⟨s0, s1, s2, s3, s4, s5, s6⟩ := (HC.out w2 HX2.out).1.cells
    obtain ⟨f0, f1, f2, f3, f4, f5, f6⟩ := (HC.out w2 HX2.out).2.1
    simp only [noEnt] at s0 s1 s2 s3 s4 s5 s6
    go_wp2_with fail
    obtain ⟨t1, t2⟩ := (HC.out w2 HX2.out).2.2.1 noEnt
    unfold putEnt noEnt at t1 t2
    refine bodyPost_ret (results_ent rfl _ _ g rfl t1) rfl ?_
    exact parPost_bad HE.out t2
end Go.Proofs.YtplfimoeggecjaaGreatDoor.Sx
namespace Go.Proofs.YtplfimoeggecjaaGreatDoor.Sx
open Go Go.RowKit Go.Lib Go.Proofs.YtplfimoeggecjaaGreatDoor.Dc Go.Proofs.YtplfimoeggecjaaGreatDoor.Tk

set_option maxRecDepth 100000 in
set_option maxHeartbeats 8000000 in
theorem rparse_any (t : ByteArray) (w : World) (ht : t.size ≤ 1048575) (hm : MaxC w) :
    Calls Tryz.prog 14 #[.string t] w (ParPost w t) := by
  have HZ := Lib.hid ht
  have HM := Lib.hid hm
  clear ht hm
  obtain ⟨g, hg⟩ : ∃ g, g = w.heap.size := ⟨_, rfl⟩
  obtain ⟨w1, hw1⟩ : ∃ w1, w1 = w.alloc (.cells #[.string ⟨#[]⟩, .string ⟨#[]⟩, .string ⟨#[]⟩, .string ⟨#[]⟩, .string ⟨#[]⟩, .int .i64 0, .int .i64 0] 36 (0, 0)) := ⟨_, rfl⟩
  have HX1 : Hid (Ext w w1) := by rw [hw1]; exact new_ext _ _
  have HG1 : Hid (EntIn w1 g noEnt) := by rw [hw1]; exact heap_new hg
  have HGW : Hid (w.heap.size ≤ g) := by rw [hg]; exact Nat.le_refl _
  have HC : Hid (∀ W, Ext w1 W → EntIn W g noEnt ∧ (W.frozen? ⟨g, 0, none⟩ = false ∧ W.frozen? ⟨g, 1, none⟩ = false ∧ W.frozen? ⟨g, 2, none⟩ = false ∧ W.frozen? ⟨g, 3, none⟩ = false ∧ W.frozen? ⟨g, 4, none⟩ = false ∧ W.frozen? ⟨g, 5, none⟩ = false ∧ W.frozen? ⟨g, 6, none⟩ = false) ∧ (∀ e, EntIn (putEnt W g e) g e ∧ Ext w (putEnt W g e)) ∧ Ext w W) := fun W hW => by
    have hb := HG1.out.ext hW
    exact ⟨hb, ⟨free_cells hb 0, free_cells hb 1, free_cells hb 2, free_cells hb 3, free_cells hb 4, free_cells hb 5, free_cells hb 6⟩, fun e => put_ent e hb (HX1.out.trans hW) HGW.out, HX1.out.trans hW⟩
  go_enter Tryz.func14, Tryz.ntmps14
  go_wp2_with fail
  rw [← hw1, ← hg]
  clear hw1 hg
  refine Calls.mono (spl_any t 47 w1 (HM.out.ext HX1.out) HZ.out) ?_
  rintro r w2 ⟨rfl, hr, -, hx⟩
  have HR2 := Lib.hid hr
  have HX2 := Lib.hid hx
  clear hr hx
  obtain ⟨b, hb⟩ : ∃ b, b = w1.heap.size := ⟨_, rfl⟩
  rw [← hb] at HR2
  rw [← hb]
  clear hb
  by_cases h7 : (parts 47 t).length = 7
  · have HP : Hid (∀ W, Ext w2 W → (W.cell? ⟨b, 0, none⟩ = some (.string (sAt t 0)) ∧ W.cell? ⟨b, 1, none⟩ = some (.string (sAt t 1)) ∧ W.cell? ⟨b, 2, none⟩ = some (.string (sAt t 2)) ∧ W.cell? ⟨b, 3, none⟩ = some (.string (sAt t 3)) ∧ W.cell? ⟨b, 4, none⟩ = some (.string (sAt t 4)) ∧ W.cell? ⟨b, 5, none⟩ = some (.string (sAt t 5)) ∧ W.cell? ⟨b, 6, none⟩ = some (.string (sAt t 6)))) := fun W hW =>
      seven_cells h7 ((hW.block _ (heap_lt HR2.out)).trans HR2.out)
    have H7 := Lib.hid h7
    have HBL : Hid (b < w2.heap.size) := heap_lt HR2.out
    rw [h7]
    clear h7
    obtain ⟨p0, p1, p2, p3, p4, p5, p6⟩ := HP.out w2 (Below.refl _ _)
    have hp2 := HBL.out
    have hxx : Ext w2 w2 := Below.refl _ _
    have HZ5 : Hid ((sAt t 5).size ≤ 1048576) := Nat.le_trans (sAt_size 5) (by have := HZ.out; omega)
    have HZ6 : Hid ((sAt t 6).size ≤ 1048576) := Nat.le_trans (sAt_size 6) (by have := HZ.out; omega)
    go_wp2_with fail
    go_region_held3 (fun W => Ext w2 W ∧ W.cell? ⟨b, 0, none⟩ = some (.string (sAt t 0)) ∧ W.cell? ⟨b, 1, none⟩ = some (.string (sAt t 1)) ∧ W.cell? ⟨b, 2, none⟩ = some (.string (sAt t 2)) ∧ W.cell? ⟨b, 3, none⟩ = some (.string (sAt t 3)) ∧ W.cell? ⟨b, 4, none⟩ = some (.string (sAt t 4)) ∧ W.cell? ⟨b, 5, none⟩ = some (.string (sAt t 5)) ∧ W.cell? ⟨b, 6, none⟩ = some (.string (sAt t 6)))
      (first | (refine ⟨by assumption, by assumption, by assumption, by assumption, by assumption, by assumption, by assumption, by assumption⟩) | (refine ⟨Below.drew (by assumption), ?_, ?_, ?_, ?_, ?_, ?_, ?_⟩ <;> go_keep) | (refine ⟨Below.drew (Below.alloc (by assumption) (Nat.le_refl _) _), ?_, ?_, ?_, ?_, ?_, ?_, ?_⟩ <;> go_keep) | (refine ⟨Below.drew (Below.alloc (Below.drew (by assumption)) (Nat.le_refl _) _), ?_, ?_, ?_, ?_, ?_, ?_, ?_⟩ <;> go_keep) | go_keep)
      (first
        | (go_at_call 43; refine (rtime_any _ _ (by first | exact HZ5.out | exact HZ6.out)).mono ?_; rintro r w' ⟨rfl, rfl⟩))
    all_goals
      clear p0 p1 p2 p3 p4 p5 p6 hxx hp2
      go_upto_region 5 with (fail)
      obtain ⟨v5, hv5⟩ : ∃ v, v = timeI (sAt t 5).data.toList := ⟨_, rfl⟩
      obtain ⟨v6, hv6⟩ : ∃ v, v = timeI (sAt t 6).data.toList := ⟨_, rfl⟩
      rw [← hv5, ← hv6]
      have HV := Lib.hid (And.intro hv5 hv6)
      clear hv5 hv6
      obtain ⟨k, hk⟩ : ∃ k, k = w2.heap.size := ⟨_, rfl⟩
      obtain ⟨w5, hw5⟩ : ∃ w5, w5 = (w2.alloc (.cells #[.string (sAt t 0), .string (sAt t 1), .string (sAt t 2), .string (sAt t 3), .string (sAt t 4), .int .i64 v5, .int .i64 v6] 36 (0, 0))).drew := ⟨_, rfl⟩
      have HX45 : Hid (Ext w2 w5) := by rw [hw5]; exact Below.drew (new_ext _ _)
      have HU5 : Hid (EntIn w5 k (entOf t v5 v6)) := by rw [hw5]; exact heap_new hk
      rw [← hw5, ← hk]
      clear hw5 hk
      have HX5 := Lib.hid (HX2.out.trans HX45.out)
      have HTE : Hid (entOf t v5 v6 = timeEnt t) := by unfold Hid timeEnt; rw [HV.out.1, HV.out.2]
      obtain ⟨u0, u1, u2, u3, u4, u5, u6⟩ := HU5.out.cells
      simp only [entOf] at u0 u1 u2 u3 u4 u5 u6
      go_wp2_with fail
      refine Calls.mono (rline_any (entOf t v5 v6) w5 (entOf_small (by have := HZ.out; omega) v5 v6)) ?_
      rintro r w6 ⟨rfl, hx6⟩
      have HX6 := Lib.hid (HX5.out.trans hx6)
      have HU6 := Lib.hid (HU5.out.ext hx6)
      clear hx6 u0 u1 u2 u3 u4 u5 u6
      obtain ⟨E, hE⟩ : ∃ E, E = entE (entOf t v5 v6) := ⟨_, rfl⟩
      rw [← hE]
      have HEA := Lib.hid hE
      clear hE
      obtain ⟨u0, u1, u2, u3, u4, u5, u6⟩ := HU6.out.cells
      simp only [entOf] at u0 u1 u2 u3 u4 u5 u6
      obtain ⟨s0, s1, s2, s3, s4, s5, s6⟩ := (HC.out w6 HX6.out).1.cells
      obtain ⟨f0, f1, f2, f3, f4, f5, f6⟩ := (HC.out w6 HX6.out).2.1
      simp only [noEnt] at s0 s1 s2 s3 s4 s5 s6
      by_cases h0 : E = 0
      · have hb1 : (E != 0) = false := by simp [h0]
        have HE := Lib.hid (par_3 H7.out (by rw [← HTE.out, ← HEA.out]; exact h0))
        clear h0 HU6
        go_wp2_with fail
        obtain ⟨t1, t2⟩ := (HC.out w6 HX6.out).2.2.1 (entOf t v5 v6)
        unfold putEnt entOf at t1 t2
        refine bodyPost_ret (results_ent rfl _ _ g rfl t1) rfl ?_
        have hf := parPost_good HE.out t2
        unfold timeEnt entOf at hf
        rw [← HV.out.1, ← HV.out.2] at hf
        exact hf
      · have hb1 : (E != 0) = true := by simp [h0]
        have HE := Lib.hid (par_2 H7.out (by rw [← HTE.out, ← HEA.out]; exact h0))
        clear h0
        go_wp2_with fail
        obtain ⟨t1, t2⟩ := (HC.out w6 HX6.out).2.2.1 noEnt
        unfold putEnt noEnt at t1 t2
        refine bodyPost_ret (results_ent rfl _ _ g rfl t1) rfl ?_
        exact parPost_bad HE.out t2
  · have hb1 : (((parts 47 t).length : Int) != 7) = true := by rw [bne_iff_ne]; omega
    have HE := Lib.hid (par_1 h7)
    clear h7
    obtain ⟨s0, s1, s2, s3, s4, s5, s6⟩ := (HC.out w2 HX2.out).1.cells
    obtain ⟨f0, f1, f2, f3, f4, f5, f6⟩ := (HC.out w2 HX2.out).2.1
    simp only [noEnt] at s0 s1 s2 s3 s4 s5 s6
    go_wp2_with fail
    obtain ⟨t1, t2⟩ := (HC.out w2 HX2.out).2.2.1 noEnt
    unfold putEnt noEnt at t1 t2
    refine bodyPost_ret (results_ent rfl _ _ g rfl t1) rfl ?_
    exact parPost_bad HE.out t2
end Go.Proofs.YtplfimoeggecjaaGreatDoor.Sx
namespace Go.Proofs.YtplfimoeggecjaaGreatDoor.Sx
open Go Go.RowKit Go.Lib Go.Proofs.YtplfimoeggecjaaGreatDoor.Dc Go.Proofs.YtplfimoeggecjaaGreatDoor.Tk

def nlB : ByteArray := ⟨#[10]⟩
def linkB (r s : ByteArray) : ByteArray := ⟨(hex (sha (r ++ nlB ++ s).data.toList)).toArray⟩
def chainB (r : ByteArray) (l : List ByteArray) : ByteArray := l.foldl linkB r
theorem chain_succ (r : ByteArray) {l : List ByteArray} {k : Nat} (h : k < l.length) : chainB r (l.take (k + 1)) = linkB (chainB r (l.take k)) l[k] := by
  unfold chainB
  rw [List.take_succ_eq_append_getElem h, List.foldl_append]
  rfl
theorem link_size (r s : ByteArray) : (linkB r s).size = 64 := by
  rw [Lib.size_eq]
  show (hex (sha (r ++ nlB ++ s).data.toList)).length = 64
  rw [hex_length]
  rfl
theorem chain_size {r : ByteArray} (h : r.size ≤ 1048576) (l : List ByteArray) : (chainB r l).size ≤ 1048576 := by
  rcases List.eq_nil_or_concat l with rfl | ⟨l', x, rfl⟩
  · exact h
  · unfold chainB
    rw [List.concat_eq_append, List.foldl_append]
    show (linkB _ x).size ≤ _
    rw [link_size]
    omega
theorem sha_length (l : List UInt8) : (sha l).length = 32 := rfl

set_option maxRecDepth 100000 in
set_option maxHeartbeats 4000000 in
theorem achain_any (B : Nat) (v : Value) (root : ByteArray) (l : List ByteArray) (w : World) (hB : B ≤ w.heap.size) (hv : StrsAt B w v l) (hr : root.size ≤ 1048576) :
    Calls Tryz.prog 15 #[.string root, v] w fun e w' => e = .returned (.string (chainB root l)) ∧ Ext w w' := by
  have HV := Lib.hid (StrsAt.toR hv)
  have HR := Lib.hid hr
  have HL := Lib.hid hv.1
  obtain ⟨_, A, c, rfl, _⟩ := hv
  clear hr
  go_enter Tryz.func15, Tryz.ntmps15
  go_wp2_with fail
  go_loopw [0, 6, 9] (fun r s k wr => ∃ j : Nat, j ≤ l.length ∧ k = .int .i64 (j : Int) ∧ r = .string (chainB root (l.take j)) ∧ Hid (Ext w wr)) (fun _ _ k _ => l.length - (intOf k).toNat)
  case atStart => exact ⟨0, Nat.zero_le _, rfl, rfl, Below.refl _ _⟩
  case round =>
    obtain ⟨j, hj, rfl, rfl, hX⟩ := hrel
    obtain ⟨wj, rfl⟩ : ∃ wj : World, wj = wr := ⟨_, rfl⟩
    by_cases hlt : j < l.length
    · obtain ⟨b, off, c', e, hbB, hc⟩ := (HV.out.below (hX.out.mono hB) (Nat.le_refl _)).cells (by omega)
      injection e with e1 _ e3
      subst e1 e3
      obtain ⟨x0, hz⟩ := hc j hlt
      have HS := Lib.hid (chain_succ root hlt)
      have hRz := chain_size HR.out (l.take j)
      obtain ⟨R, hR⟩ : ∃ R, R = chainB root (l.take j) := ⟨_, rfl⟩
      obtain ⟨s, hs⟩ : ∃ s, s = l[j] := ⟨_, rfl⟩
      rw [← hR] at HS hRz
      rw [← hs] at x0 hz HS
      rw [← hR]
      have g1 : (9223372036854775807 < R.size + 1) = False := eq_false (by omega)
      have g2 : (9223372036854775807 < R.size + 1 + s.size) = False := eq_false (by omega)
      have HZ := Lib.hid (And.intro hRz hz)
      clear hR hs hRz hz hc
      go_wp2_with fail
      refine Calls.mono (sum_any (R ++ nlB ++ s) wj (by have h1 := HZ.out.1; have h2 := HZ.out.2; have h3 : nlB.size = 1 := rfl; simp only [ByteArray.size_append]; omega)) ?_
      rintro r w2 ⟨rfl, hx2⟩
      have HX2 := Lib.hid hx2
      obtain ⟨S, hS⟩ : ∃ S : ByteArray, S = ⟨(sha (R ++ nlB ++ s).data.toList).toArray⟩ := ⟨_, rfl⟩
      rw [← hS]
      have hSz : S.size ≤ 1099511627776 := by
        rw [hS, Lib.size_eq]
        show (sha (R ++ nlB ++ s).data.toList).length ≤ _
        rw [sha_length]
        omega
      have hSL : (⟨(hex S.data.toList).toArray⟩ : ByteArray) = linkB R s := by rw [hS]; rfl
      have HSZ := Lib.hid (And.intro hSz hSL)
      clear hx2 hS hSz hSL g1 g2
      go_wp2_with fail
      refine Calls.mono (hex_any S w2 HSZ.out.1) ?_
      rintro r w3 ⟨rfl, hx3⟩
      rw [HSZ.out.2, ← HS.out]
      have HX3 := Lib.hid (HX2.out.trans hx3)
      clear hx3 x0
      go_wp2_with fail
      go_roundw
      case rel => exact ⟨j + 1, hlt, by go_num, rfl, hX.out.trans HX3.out⟩
      case measure => simp [intOf]; omega
    · obtain rfl : j = l.length := by omega
      have tk : decide (l.length < l.length) = false := by simp
      rw [List.take_of_length_le (Nat.le_refl _)]
      go_wp2_with fail
      go_ret
      exact ⟨rfl, hX.out⟩

set_option maxRecDepth 100000 in
set_option maxHeartbeats 4000000 in
theorem rchain_any (B : Nat) (root : ByteArray) (hr : root.size ≤ 1048576) : ∀ (n : Nat) (v : Value) (l : List ByteArray) (w : World), l.length ≤ n → B ≤ w.heap.size → StrsAt B w v l →
    Calls Tryz.prog 16 #[.string root, v] w fun e w' => e = .returned (.string (chainB root l)) ∧ Ext w w' := by
  intro n
  have HR := Lib.hid hr
  clear hr
  induction n with
  | zero =>
    intro v l w hn hB hv
    obtain rfl : l = [] := List.length_eq_zero_iff.1 (by omega)
    obtain ⟨_, A, c, rfl, _⟩ := hv
    have e0 : (([] : List ByteArray).length) = 0 := rfl
    rw [e0]
    clear e0 hn
    go_enter Tryz.func16, Tryz.ntmps16
    go_wp2_with fail
    go_ret
    exact ⟨rfl, Below.refl _ _⟩
  | succ n ih =>
    intro v l w hn hB hv
    by_cases h0 : l.length = 0
    · obtain rfl : l = [] := List.length_eq_zero_iff.1 h0
      obtain ⟨_, A, c, rfl, _⟩ := hv
      have e0 : (([] : List ByteArray).length) = 0 := rfl
      rw [e0]
      clear e0 hn h0
      go_enter Tryz.func16, Tryz.ntmps16
      go_wp2_with fail
      go_ret
      exact ⟨rfl, Below.refl _ _⟩
    · obtain ⟨m, hm⟩ : ∃ m, l.length = m + 1 := ⟨l.length - 1, by omega⟩
      have hv0 := hv
      obtain ⟨hl, A, c, rfl, hc, hc2, hi⟩ := hv
      have hlt : m < l.length := by omega
      obtain ⟨b, off, cs, rfl, hbB, _, ⟨rfl, hz⟩, hcell⟩ := hi m hlt
      have x0 : w.cell? ⟨b, off + m, none⟩ = some (.string l[m]) := by simpa using hcell 0 _ rfl
      have HS : Hid (chainB root l = linkB (chainB root (l.take m)) l[m]) := by
        have h := chain_succ root hlt
        rw [← hm, List.take_of_length_le (Nat.le_refl _)] at h
        exact h
      have IH : Hid (∀ W, Ext w W → Calls Tryz.prog 16 #[.string root, .slice (some ⟨b, off, none⟩) m c] W fun e w' => e = .returned (.string (chainB root (l.take m))) ∧ Ext W w') := fun W hW =>
        ih _ (l.take m) W (by rw [List.length_take]; omega) (Nat.le_trans hB hW.size) (SlAt.take (hv0.below (hW.mono hB)) (by omega))
      have hRz := chain_size HR.out (l.take m)
      obtain ⟨R, hR⟩ : ∃ R, R = chainB root (l.take m) := ⟨_, rfl⟩
      obtain ⟨s, hs⟩ : ∃ s, s = l[m] := ⟨_, rfl⟩
      rw [← hR] at HS hRz IH
      rw [← hs] at x0 hz HS
      have hbw : b < w.heap.size := Nat.lt_of_lt_of_le hbB hB
      obtain ⟨S, hS⟩ : ∃ S : ByteArray, S = shaS (R ++ nlB ++ s) := ⟨_, rfl⟩
      have hSz : S.size ≤ 1099511627776 := by
        rw [hS, Lib.size_eq]
        show (sha (R ++ nlB ++ s).data.toList).length ≤ _
        rw [sha_length]
        omega
      have HXC : Hid (∀ W, Ext w W → Ext w W ∧ W.cell? ⟨b, off + m, none⟩ = some (.string s)) := fun W hW => ⟨hW, (hW.cell (p := ⟨b, off + m, none⟩) hbw).trans x0⟩
      have C1 : Hid (∀ W, Ext w W → Calls Tryz.prog 16 #[.string root, .slice (some ⟨b, off, none⟩) m c] W fun e w' => e = .returned (.string R) ∧ Ext w w' ∧ w'.cell? ⟨b, off + m, none⟩ = some (.string s)) := fun W hW =>
        (IH.out W hW).mono fun e w' ⟨he, hx⟩ => ⟨he, HXC.out w' (hW.trans hx)⟩
      have C2 : Hid (∀ W, Ext w W → Calls Tryz.prog 48 #[.int .i64 10] W fun e w' => e = .returned (.string ⟨#[10]⟩) ∧ Ext w w' ∧ w'.cell? ⟨b, off + m, none⟩ = some (.string s)) := fun W hW =>
        (chr_at 10 10 rfl W).mono fun e w' ⟨he, hx⟩ => ⟨he, HXC.out w' (hW.trans hx)⟩
      have C3 : Hid (∀ W, Ext w W → Calls Tryz.prog 47 #[.string (R ++ ⟨#[10]⟩ ++ s)] W fun e w' => e = .returned (.string S) ∧ Ext w w' ∧ w'.cell? ⟨b, off + m, none⟩ = some (.string s)) := fun W hW => by
        rw [hS]
        exact (rsum_any (R ++ nlB ++ s) W (by have h3 : nlB.size = 1 := rfl; simp only [ByteArray.size_append]; omega)).mono fun e w' ⟨he, hx⟩ => ⟨he, HXC.out w' (hW.trans hx)⟩
      have C4 : Hid (∀ W, Ext w W → Calls Tryz.prog 46 #[.string S] W fun e w' => e = .returned (.string (linkB R s)) ∧ Ext w w' ∧ w'.cell? ⟨b, off + m, none⟩ = some (.string s)) := fun W hW =>
        (rhex_any S W hSz).mono fun e w' ⟨he, hx⟩ => ⟨by rw [he, hS]; rfl, HXC.out w' (hW.trans hx)⟩
      have g1 : (9223372036854775807 < R.size + 1) = False := eq_false (by omega)
      have g2 : (9223372036854775807 < R.size + 1 + s.size) = False := eq_false (by omega)
      have hxx : Ext w w := Below.refl _ _
      have p1 : (0 : Int) ≤ (m : Int) := by omega
      have p2 : (m : Int) ≤ (c : Int) := by omega
      have p3 : (m : Int) < (m : Int) + 1 := by omega
      have p4 : (c : Int) ≤ 1048576 := by omega
      have p5 : (m : Int) ≤ 1048576 := by omega
      have hb0 : (((m + 1 : Nat) : Int) == 0) = false := by rw [beq_eq_false_iff_ne]; omega
      rw [hm]
      clear hS hSz hR hs hRz hz hi hcell hv0
      clear hn h0 hm hl hc hc2 IH
      go_enter Tryz.func16, Tryz.ntmps16
      go_wp2_with fail
      go_region_held3 (fun W => Ext w W ∧ W.cell? ⟨b, off + m, none⟩ = some (.string s))
        (first | (refine ⟨by assumption, by assumption⟩) | (refine ⟨Below.drew (by assumption), ?_⟩ <;> go_keep) | go_keep)
        (first
          | (go_at_call 16; refine (C1.out _ (by first | assumption | (apply Below.drew; assumption))).mono ?_; rintro r w' ⟨rfl, q0, q1⟩)
          | (go_at_call 48; refine (C2.out _ (by first | assumption | (apply Below.drew; assumption))).mono ?_; rintro r w' ⟨rfl, q0, q1⟩)
          | (go_at_call 47; refine (C3.out _ (by first | assumption | (apply Below.drew; assumption))).mono ?_; rintro r w' ⟨rfl, q0, q1⟩)
          | (go_at_call 46; refine (C4.out _ (by first | assumption | (apply Below.drew; assumption))).mono ?_; rintro r w' ⟨rfl, q0, q1⟩))
      all_goals
        have HX9 := Lib.hid q0
        clear q0 q1 x0 hxx
        go_wp2_with fail
        go_ret
        exact ⟨by rw [HS.out]; rfl, HX9.out⟩
end Go.Proofs.YtplfimoeggecjaaGreatDoor.Sx
namespace Go.Proofs.YtplfimoeggecjaaGreatDoor.Sx
open Go Go.RowKit Go.Lib Go.Proofs.YtplfimoeggecjaaGreatDoor.Dc Go.Proofs.YtplfimoeggecjaaGreatDoor.Tk

set_option maxRecDepth 100000 in
set_option maxHeartbeats 8000000 in
theorem auditSays_walk (B : Nat) (vl : Value) (x : Ent) (s root : ByteArray) (l : List ByteArray) (w : World) (hB : B ≤ w.heap.size) (hx : x.small) (hs : s.size ≤ 1048575) (hr : root.size ≤ 1048576) (hl : StrsAt B w vl l) (hm : MaxC w) (htab : Tab10 w) (her : Errs w) :
    Calls Tryz.prog 4 #[x.val, .string s, .string root, vl] w fun e w' => e = .returned (.bool true) ∧ Ext w w' := by
  have HZ := Lib.hid (And.intro hx (And.intro hs hr))
  have HW := Lib.hid (And.intro hm (And.intro htab her))
  have HL := Lib.hid hl
  obtain ⟨_, Al, cl, rfl, _⟩ := hl
  clear hx hs hr hm htab her
  unfold Ent.val
  go_enter Tryz.func4, Tryz.ntmps4
  go_wp2_with fail
  obtain ⟨k0, hk0⟩ : ∃ k, k = w.heap.size := ⟨_, rfl⟩
  obtain ⟨w1, hw1⟩ : ∃ w1, w1 = w.alloc (.cells #[.string x.who, .string x.verb, .string x.kind, .string x.space, .string x.name, .int .i64 x.what, .int .i64 x.rev] 36 (0, 0)) := ⟨_, rfl⟩
  rw [← hw1, ← hk0]
  have HX1 : Hid (Ext w w1) := by rw [hw1]; exact new_ext _ _
  have HE1 : Hid (EntIn w1 k0 x) := by rw [hw1]; exact heap_new hk0
  clear hw1 hk0
  refine Calls.mono (aline_any x w1 HZ.out.1 (HW.out.2.1.ext HX1.out)) ?_
  rintro r w2 ⟨rfl, hx2⟩
  have HX2 := Lib.hid hx2
  clear hx2
  obtain ⟨u0, u1, u2, u3, u4, u5, u6⟩ := (HE1.out.ext HX2.out).cells
  go_wp2_with fail
  refine Calls.mono (rline_any x w2 HZ.out.1) ?_
  rintro r w3 ⟨rfl, hx3⟩
  have HX3 := Lib.hid (HX2.out.trans hx3)
  clear hx3 u0 u1 u2 u3 u4 u5 u6
  obtain ⟨A, hA⟩ : ∃ A, A = entB x := ⟨_, rfl⟩
  obtain ⟨E, hE⟩ : ∃ E, E = entE x := ⟨_, rfl⟩
  rw [← hA, ← hE]
  clear hA hE
  go_wp2_with fail
  refine Calls.mono (aparse_any s w3 HZ.out.2.1 (HW.out.1.ext (HX1.out.trans HX3.out)) (HW.out.2.1.ext (HX1.out.trans HX3.out)) (HW.out.2.2.ext (HX1.out.trans HX3.out))) ?_
  rintro r w4 ⟨rfl, hx4⟩
  have HX4 := Lib.hid (HX3.out.trans hx4)
  clear hx4
  obtain ⟨P, hP⟩ : ∃ P, P = parU s := ⟨_, rfl⟩
  obtain ⟨N, hN⟩ : ∃ N, N = parE s := ⟨_, rfl⟩
  rw [← hP, ← hN]
  have HPN := Lib.hid (And.intro hP hN)
  clear hP hN
  unfold Ent.val
  go_wp2_with fail
  obtain ⟨k5, hk5⟩ : ∃ k, k = w4.heap.size := ⟨_, rfl⟩
  obtain ⟨w5, hw5⟩ : ∃ w5, w5 = w4.alloc (.cells #[.string P.who, .string P.verb, .string P.kind, .string P.space, .string P.name, .int .i64 P.what, .int .i64 P.rev] 36 (0, 0)) := ⟨_, rfl⟩
  rw [← hw5, ← hk5]
  have HX45 : Hid (Ext w4 w5) := by rw [hw5]; exact new_ext _ _
  have HX5 := Lib.hid (HX4.out.trans HX45.out)
  have HE5 : Hid (EntIn w5 k5 P) := by rw [hw5]; exact heap_new hk5
  clear hw5 hk5
  refine Calls.mono (rparse_any s w5 HZ.out.2.1 (HW.out.1.ext (HX1.out.trans HX5.out))) ?_
  rintro r w6 ⟨rfl, hx6⟩
  have HX56 := Lib.hid hx6
  clear hx6
  rw [← HPN.out.1, ← HPN.out.2]
  unfold Ent.val
  go_upto_region 5 with (fail)
  obtain ⟨k7, hk7⟩ : ∃ k, k = w6.heap.size := ⟨_, rfl⟩
  obtain ⟨w7, hw7⟩ : ∃ w7, w7 = w6.alloc (.cells #[.string P.who, .string P.verb, .string P.kind, .string P.space, .string P.name, .int .i64 P.what, .int .i64 P.rev] 36 (0, 0)) := ⟨_, rfl⟩
  rw [← hw7, ← hk7]
  have HX67 : Hid (Ext w6 w7) := by rw [hw7]; exact new_ext _ _
  have HX7 := Lib.hid (HX5.out.trans (HX56.out.trans HX67.out))
  have HE7 : Hid (EntIn w7 k7 P) := by rw [hw7]; exact heap_new hk7
  have HE57 : Hid (EntIn w7 k5 P) := HE5.out.ext (HX56.out.trans HX67.out)
  clear hw7 hk7
  obtain ⟨a0, a1, a2, a3, a4, a5, a6⟩ := HE57.out.cells
  obtain ⟨b0, b1, b2, b3, b4, b5, b6⟩ := HE7.out.cells
  have q0 : (A.toList == A.toList) = true := by simp
  have q1 : (E == E) = true := by simp
  have q2 : (N == N) = true := by simp
  have q3 : (P.who.toList == P.who.toList) = true := by simp
  have q4 : (P.verb.toList == P.verb.toList) = true := by simp
  have q5 : (P.kind.toList == P.kind.toList) = true := by simp
  have q6 : (P.space.toList == P.space.toList) = true := by simp
  have q7 : (P.name.toList == P.name.toList) = true := by simp
  have q8 : (P.what == P.what) = true := by simp
  have q9 : (P.rev == P.rev) = true := by simp
  have HV : Hid (∀ W, Ext w7 W → StrsAt B W (.slice Al l.length cl) l ∧ B ≤ W.heap.size) := fun W hW =>
    have hx := HX1.out.trans (HX7.out.trans hW)
    ⟨HL.out.below (hx.mono hB), Nat.le_trans hB hx.size⟩
  obtain ⟨C, hC⟩ : ∃ C, C = chainB root l := ⟨_, rfl⟩
  have C1 : Hid (∀ W, Ext w7 W → Calls Tryz.prog 15 #[.string root, .slice Al l.length cl] W fun e w' => e = .returned (.string C) ∧ Ext W w') := fun W hW => by
    rw [hC]
    exact achain_any B _ root l W (HV.out W hW).2 (HV.out W hW).1 HZ.out.2.2
  have C2 : Hid (∀ W, Ext w7 W → Calls Tryz.prog 16 #[.string root, .slice Al l.length cl] W fun e w' => e = .returned (.string C) ∧ Ext W w') := fun W hW => by
    rw [hC]
    exact rchain_any B root HZ.out.2.2 l.length _ l W (Nat.le_refl _) (HV.out W hW).2 (HV.out W hW).1
  have q10 : (C.toList == C.toList) = true := by simp
  clear hC
  go_wp2_with (first
    | (go_at_call 15; (with_reducible refine (C1.out _ (Below.refl _ _)).mono ?_); rintro r w8 ⟨rfl, hx8⟩; have HX8 := Lib.hid hx8; clear hx8)
    | (go_at_call 16; (with_reducible refine (C2.out _ HX8.out).mono ?_); rintro r w9 ⟨rfl, hx9⟩; have HX9 := Lib.hid (HX8.out.trans hx9); clear hx9))
  go_ret
  exact ⟨rfl, HX1.out.trans (HX7.out.trans HX9.out)⟩
end Go.Proofs.YtplfimoeggecjaaGreatDoor.Sx
