/-
  The reference's reader: value at every depth, Read (printed by gen/jq11.py).
-/
import Derived.Test.YtahinicpceokcaaGreatDoorJqc
namespace Go.Proofs.YtahinicpceokcaaGreatDoor.Jm
open Go Go.RowKit Go.Proofs.YtahinicpceokcaaGreatDoor.Sx Go.Proofs.YtahinicpceokcaaGreatDoor.Js Go.Proofs.YtahinicpceokcaaGreatDoor.Gr
theorem value_list {d many : Nat} {s r : Tx} (h : skipW s = 91 :: r) (hm : many + 1 ≤ 200) : valueS (d + 1) many s = match skipW r with | 93 :: r2 => .ok (.list [], many + 1, r2) | _ => listE (valueS d) fuelN [] (many + 1) r := by
  rw [value_eq (d + 1) many s h, if_neg (by decide), if_neg (by omega), if_pos rfl]
  rfl
theorem value_obj {d many : Nat} {s r : Tx} (h : skipW s = 123 :: r) (hm : many + 1 ≤ 200) : valueS (d + 1) many s = match skipW r with | 125 :: r2 => .ok (.obj [] [], many + 1, r2) | _ => fldE (valueS d) fuelN [] [] (many + 1) r := by
  rw [value_eq (d + 1) many s h, if_neg (by decide), if_neg (by omega), if_neg (by decide), if_pos rfl]
  rfl
theorem rvalue_all (k : Nat) (s : ByteArray) (hs : s.size ≤ 2000) : ∀ (d : Nat), d ≤ 10 → ∀ (i many : Nat) (deep : Int) (w : World), QIn w k s i many → i ≤ s.size → many ≤ 200 → deep = 10 - (d : Int) →
    Calls Tryz.prog 32 #[.pointer (some ⟨k, 0, none⟩), .int .i64 deep] w (RRes w k s (valueS d many (sfx s i)))
  | 0, _, i, many, deep, w, h, hi, hm, hd => rvalue_any k s i many 0 deep w h hs hi hd hm (by omega) (fun d' W j r e => by omega) (fun d' W j r e => by omega)
  | d + 1, hdd, i, many, deep, w, h, hi, hm, hd => by
    have ih : ∀ (i many : Nat) (w : World), QIn w k s i many → i ≤ s.size → many ≤ 200 → Calls Tryz.prog 32 #[.pointer (some ⟨k, 0, none⟩), .int .i64 (deep + 1)] w (RRes w k s (valueS d many (sfx s i))) :=
      fun i many w h hi hm => rvalue_all k s hs d (by omega) i many (deep + 1) w h hi hm (by omega)
    refine rvalue_any k s i many (d + 1) deep w h hs hi hd hm hdd (fun d' W j r e hm1 hq hj hsj hsk => ?_) (fun d' W j r e hm1 hq hj hsj hsk => ?_)
    · exact rlist_any k s j (many + 1) d r deep W hq hs hj hsj (by omega) (by omega) hm1 _ (value_list hsk hm1) ih
    · exact robject_any k s j (many + 1) d r deep W hq hs hj hsj (by omega) (by omega) hm1 _ (value_obj hsk hm1) ih
/-- What Read of the reference gives where the plain law gives T. -/
def RRead (w : World) (T : Res J) (e : Ending) (w' : World) : Prop :=
  Ext w w' ∧ ∃ K B n sv A1 n1 c1 A2 n2 c2 er, e = .returned (.tuple #[.agg (v6 K B n sv (.slice A1 n1 c1) (.slice A2 n2 c2)).toArray, .int .i64 er]) ∧
    ((er = 0 ∧ ∃ j, T = .ok j ∧ RV (fun b => w.heap.size ≤ b) w' j (v6 K B n sv (.slice A1 n1 c1) (.slice A2 n2 c2))) ∨ (er ≠ 0 ∧ T = .error er ∧ v6 K B n sv (.slice A1 n1 c1) (.slice A2 n2 c2) = noV))
set_option maxRecDepth 100000 in
set_option maxHeartbeats 8000000 in
theorem rread_any (s : ByteArray) (w : World) : Calls Tryz.prog 9 #[.string s] w (RRead w (readS s.data.toList)) := by
  obtain ⟨T, hT⟩ : ∃ T, T = readS s.data.toList := ⟨_, rfl⟩
  rw [← hT]
  have HT : Hid (T = if 2000 < s.size then .error 2 else match valueS 10 0 (sfx s 0) with | .error e => .error e | .ok (j, _, r) => if skipW r = [] then .ok j else .error 3) := by
    unfold Hid
    rw [hT, readS, size_list]
    rfl
  clear hT
  obtain ⟨g, hg⟩ : ∃ g, g = w.heap.size := ⟨_, rfl⟩
  obtain ⟨w1, hw1⟩ : ∃ w1, w1 = w.alloc (.cells #[.int .i64 0, .bool false, .int .i64 0, .string ⟨#[]⟩, nilS, nilS] vT (0, 0)) := ⟨_, rfl⟩
  have HX1 : Hid (Ext w w1) := by rw [hw1]; exact new_ext _ _
  have HR1 : Hid (VIn w1 g 0 false 0 ⟨#[]⟩ nilS nilS) := by rw [hw1]; exact heap_new hg
  have HGW : Hid (w.heap.size = g) := by rw [hg]; rfl
  have HGS : Hid (w1.heap.size = g + 1) := by rw [hw1, hg]; simp [Hid]
  have HC : Hid (∀ W, w1.grownBy W (some (g + 1)) → VIn W g 0 false 0 ⟨#[]⟩ nilS nilS ∧ ∀ K B n t a l, VIn (putV W g K B n t a l) g K B n t a l ∧ Ext w (putV W g K B n t a l)) := fun W hW => by
    have hv := HR1.out.kept hW (fun e => by injection e; omega)
    have hx : Ext w W := ext_row HX1.out hW (fun b e => by injection e; have := HGW.out; omega)
    exact ⟨hv, fun K B n t a l => ⟨put_in K B n t a l hv, put_ext K B n t a l hx (Nat.le_of_eq HGW.out)⟩⟩
  by_cases hbig : 2000 < s.size
  · have HTE : Hid (T = .error 2) := by unfold Hid; rw [HT.out, if_pos hbig]
    have b1 : decide (2000 < (s.size : Int)) = true := decide_eq_true (by omega)
    have b2 : decide (2000 < s.size) = true := decide_eq_true hbig
    clear hbig
    go_enter Tryz.func9, Tryz.ntmps9
    go_upto_region 1 with (fail)
    rw [← hw1, ← hg]
    clear hw1 hg
    have hrefl := grown_refl w1 (some (g + 1))
    have HCE := Lib.hid (HC.out w1 hrefl)
    clear hrefl
    obtain ⟨d0, d1, d2, d3, d4, d5⟩ := HCE.out.1.cells
    have e0 := HCE.out.1.free 0
    have e1 := HCE.out.1.free 1
    have e2 := HCE.out.1.free 2
    have e3 := HCE.out.1.free 3
    have e4 := HCE.out.1.free 4
    have e5 := HCE.out.1.free 5
    go_wp2_with fail
    refine bodyPost_ret (results_v rfl _ _ g rfl (HCE.out.2 0 false 0 ⟨#[]⟩ nilS nilS).1) rfl ?_
    exact ⟨(HCE.out.2 0 false 0 ⟨#[]⟩ nilS nilS).2, _, _, _, _, _, _, _, _, _, _, 2, rfl, .inr ⟨by decide, HTE.out, rfl⟩⟩
  · have HT2 : Hid (T = match valueS 10 0 (sfx s 0) with | .error e => .error e | .ok (j, _, r) => if skipW r = [] then .ok j else .error 3) := by unfold Hid; rw [HT.out, if_neg hbig]
    have hs : s.size ≤ 2000 := by omega
    have b1 : decide (2000 < (s.size : Int)) = false := decide_eq_false (by omega)
    have b2 : decide (2000 < s.size) = false := decide_eq_false hbig
    clear hbig HT
    go_enter Tryz.func9, Tryz.ntmps9
    go_upto_region 1 with (fail)
    rw [← hw1, ← hg]
    clear hw1 hg
    go_upto_region 4 with (fail)
    obtain ⟨w2, hw2⟩ : ∃ w2, w2 = w1.alloc (.cells #[.string s, .int .i64 0, .int .i64 0] inT (0, 0)) := ⟨_, rfl⟩
    have HX2 : Hid (Ext w1 w2) := by rw [hw2]; exact new_ext _ _
    have HQ2 : Hid (QIn w2 (g + 1) s 0 0) := by rw [hw2]; exact heap_new HGS.out.symm
    have HS2 : Hid (w2.heap.size = g + 2) := by
      unfold Hid
      rw [hw2]
      show (w1.heap.push _).size = _
      rw [Array.size_push, HGS.out]
    have hsz : w1.heap.size = g + 1 := HGS.out
    rw [← hw2, hsz]
    clear hw2 hsz
    have CV := Lib.hid (rvalue_all (g + 1) s hs 10 (Nat.le_refl _) 0 0 0 w2 HQ2.out (Nat.zero_le _) (by omega) (by omega))
    go_wp2_with fail
    refine Calls.mono CV.out ?_
    rintro e w3 ⟨hg3, K, B, n, sv, A1, n1, c1, A2, n2, c2, er, rfl, hres⟩
    have HG3 := Lib.hid hg3
    have HRES := Lib.hid hres
    clear hg3 hres
    unfold v6
    go_upto_region 5 with (fail)
    obtain ⟨t5, ht5⟩ : ∃ t5, t5 = w3.heap.size := ⟨_, rfl⟩
    rw [← ht5]
    generalize hW : World.alloc w3 _ = w4
    have HX4 : Hid (Ext w3 w4) := by rw [← hW]; exact new_ext _ _
    have HU4 : Hid (VIn w4 t5 K B n sv (.slice A1 n1 c1) (.slice A2 n2 c2)) := by rw [← hW]; exact heap_new ht5
    have HT5 : Hid (g + 2 ≤ t5) := by have h1 := HG3.out.size; have h2 := HS2.out; unfold Hid; omega
    have HG4 : Hid (w1.grownBy w4 (some (g + 1))) := grown_trans (grown_ext HX2.out) (grown_trans HG3.out (grown_ext HX4.out))
    clear hW ht5
    rcases Classical.em (er = 0) with her | her
    · subst her
      have HOK : Hid (∃ jj mm q, valueS 10 0 (sfx s 0) = .ok (jj, mm, sfx s q) ∧ QIn w3 (g + 1) s q mm ∧ q ≤ s.size ∧ RV (fun b => w2.heap.size ≤ b) w3 jj (v6 K B n sv (.slice A1 n1 c1) (.slice A2 n2 c2))) := by
        rcases HRES.out with ⟨_, h⟩ | ⟨h1, _⟩
        · exact h
        · exact absurd rfl h1
      clear HRES
      obtain ⟨jj, mm, q, hok⟩ := HOK
      have HOK := Lib.hid hok
      clear hok
      have CL := Lib.hid (look_any (g + 1) s q mm w4 (HOK.out.2.1.ext HX4.out) hs HOK.out.2.2.1)
      go_wp2_with fail
      refine Calls.mono CL.out ?_
      rintro e w5 ⟨j5, rfl, hq5, hpj, hjs, hsk, hg5⟩
      have HG5 := Lib.hid hg5
      have HGA := Lib.hid (grown_trans HG4.out hg5)
      have HU5 := Lib.hid (HU4.out.kept hg5 (fun e => by injection e; have := HT5.out; omega))
      clear hq5 hpj hjs hsk hg5 CL
      cases hskw : skipW (sfx s q) with
      | nil =>
        have HTE : Hid (T = .ok jj) := by
          unfold Hid
          rw [HT2.out, HOK.out.1]
          simp only
          rw [if_pos hskw]
        have hh : headI ([] : Tx) = -1 := rfl
        rw [hh]
        have HCE := Lib.hid (HC.out w5 HGA.out)
        clear hskw hh
        obtain ⟨a0, a1, a2, a3, a4, a5⟩ := HU5.out.cells
        obtain ⟨d0, d1, d2, d3, d4, d5⟩ := HCE.out.1.cells
        have e0 := HCE.out.1.free 0
        have e1 := HCE.out.1.free 1
        have e2 := HCE.out.1.free 2
        have e3 := HCE.out.1.free 3
        have e4 := HCE.out.1.free 4
        have e5 := HCE.out.1.free 5
        go_wp2_with fail
        refine bodyPost_ret (results_v rfl _ _ g rfl (HCE.out.2 K B n sv (.slice A1 n1 c1) (.slice A2 n2 c2)).1) rfl ?_
        refine ⟨(HCE.out.2 K B n sv (.slice A1 n1 c1) (.slice A2 n2 c2)).2, K, B, n, sv, A1, n1, c1, A2, n2, c2, 0, rfl, .inl ⟨rfl, jj, HTE.out, ?_⟩⟩
        have hgw := HGW.out
        have hs2 := HS2.out
        refine RV.keep (w := w3) (F := fun b => w2.heap.size ≤ b) (fun b hb hlt => ?_) (fun b hb _ => by omega) _ _ HOK.out.2.2.2
        exact (put_heap w5 K B n sv _ _ b (by omega)).trans ((HG5.out.block b (Nat.lt_of_lt_of_le hlt HX4.out.size) (fun e => by injection e; omega)).trans (HX4.out.block b hlt))
      | cons c r =>
        have HTE : Hid (T = .error 3) := by
          unfold Hid
          rw [HT2.out, HOK.out.1]
          simp only
          rw [if_neg (by rw [hskw]; exact List.cons_ne_nil _ _)]
        have hh : headI (c :: r) = (c.toNat : Int) := rfl
        rw [hh]
        have HCE := Lib.hid (HC.out w5 HGA.out)
        clear hskw hh
        obtain ⟨d0, d1, d2, d3, d4, d5⟩ := HCE.out.1.cells
        have e0 := HCE.out.1.free 0
        have e1 := HCE.out.1.free 1
        have e2 := HCE.out.1.free 2
        have e3 := HCE.out.1.free 3
        have e4 := HCE.out.1.free 4
        have e5 := HCE.out.1.free 5
        go_wp2_with fail
        refine bodyPost_ret (results_v rfl _ _ g rfl (HCE.out.2 0 false 0 ⟨#[]⟩ nilS nilS).1) rfl ?_
        exact ⟨(HCE.out.2 0 false 0 ⟨#[]⟩ nilS nilS).2, _, _, _, _, _, _, _, _, _, _, 3, rfl, .inr ⟨by decide, HTE.out, rfl⟩⟩
    · have HE : Hid (T = .error er ∧ er ≠ 0) := by
        rcases HRES.out with ⟨h1, _⟩ | ⟨h1, h2⟩
        · exact absurd h1 her
        · exact ⟨by rw [HT2.out, h2], h1⟩
      have ber : (er == 0) = false := by rw [beq_eq_false_iff_ne]; exact her
      have ber2 : (er != 0) = true := by rw [bne_iff_ne]; exact her
      have HCE := Lib.hid (HC.out w4 HG4.out)
      clear her
      obtain ⟨d0, d1, d2, d3, d4, d5⟩ := HCE.out.1.cells
      have e0 := HCE.out.1.free 0
      have e1 := HCE.out.1.free 1
      have e2 := HCE.out.1.free 2
      have e3 := HCE.out.1.free 3
      have e4 := HCE.out.1.free 4
      have e5 := HCE.out.1.free 5
      go_wp2_with fail
      refine bodyPost_ret (results_v rfl _ _ g rfl (HCE.out.2 0 false 0 ⟨#[]⟩ nilS nilS).1) rfl ?_
      exact ⟨(HCE.out.2 0 false 0 ⟨#[]⟩ nilS nilS).2, _, _, _, _, _, _, _, _, _, _, er, rfl, .inr ⟨HE.out.2, HE.out.1, rfl⟩⟩
end Go.Proofs.YtahinicpceokcaaGreatDoor.Jm
