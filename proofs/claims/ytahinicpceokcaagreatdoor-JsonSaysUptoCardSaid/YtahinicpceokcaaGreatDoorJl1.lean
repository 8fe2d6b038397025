/-
  Canon of the program and of the reference; the law JsonCanons (printed by gen/jl1.py).
-/
import Derived.Test.YtahinicpceokcaaGreatDoorJt4
namespace Go.Proofs.YtahinicpceokcaaGreatDoor.Jm
open Go Go.RowKit Go.Proofs.YtahinicpceokcaaGreatDoor.Sx Go.Proofs.YtahinicpceokcaaGreatDoor.Js Go.Proofs.YtahinicpceokcaaGreatDoor.Gr

theorem RV.ij {F : Nat → Prop} {w : World} (j : J) : ∀ v, RV F w j v → WJ j → IJ j := by
  induction j using J.ind with
  | hn => intro v _ _; rw [IJ]; trivial
  | hb b => intro v _ _; rw [IJ]; trivial
  | hi n => intro v h _; exact IJ_num.2 (RV_num.1 h).2
  | ht s => intro v _ _; rw [IJ]; trivial
  | hl l ih =>
    intro v h hw
    obtain ⟨A, c, _, _, hv⟩ := RV_list.1 h
    refine IJ_list.2 (fun x hx => ?_)
    obtain ⟨i, hi, rfl⟩ := List.mem_iff_getElem.1 hx
    obtain ⟨g, off, u, _, _, _, _, hp⟩ := hv i hi
    exact ih _ hx u hp (WJ_list.1 hw _ hx)
  | ho ns l ih =>
    intro v h hw
    obtain ⟨A, c, B, d, _, _, _, _, hv⟩ := RV_obj.1 h
    refine IJ_obj.2 ⟨(WJ_obj.1 hw).1.1, fun x hx => ?_⟩
    obtain ⟨i, hi, rfl⟩ := List.mem_iff_getElem.1 hx
    obtain ⟨g, off, u, _, _, _, _, hp⟩ := hv i hi
    exact ih _ hx u hp ((WJ_obj.1 hw).2 _ hx)
def cB : Res J → ByteArray
  | .ok j => bx (textJ j)
  | .error _ => ⟨#[]⟩
def cE : Res J → Int
  | .ok _ => 0
  | .error e => e
set_option maxRecDepth 100000 in
set_option maxHeartbeats 2000000 in
theorem canon_any (s : ByteArray) (w : World) (ht : Tab10 w) : Calls Tryz.prog 7 #[.string s] w fun e w' => e = .returned (.tuple #[.string (cB (readS s.data.toList)), .int .i64 (cE (readS s.data.toList))]) ∧ Ext w w' := by
  have CR := Lib.hid (read_any s w)
  have HT := Lib.hid ht
  have HG : Hid (∀ j, readS s.data.toList = .ok j → WJ j ∧ bulkJ j ≤ 128000) := fun j h => readS_good h
  obtain ⟨R, hR⟩ : ∃ R, R = readS s.data.toList := ⟨_, rfl⟩
  rw [← hR] at CR HG ⊢
  clear hR ht
  go_enter Tryz.func7, Tryz.ntmps7
  go_wp2_with fail
  refine Calls.mono CR.out ?_
  rintro e w2 ⟨x2, ⟨j, u, hj, hp, rfl⟩ | ⟨er, her, hj, rfl⟩⟩
  · have X2 := Lib.hid x2
    have HJ := Lib.hid hj
    have hg := HG.out j hj
    have CT := Lib.hid (text_val j _ u w2 hp (hp.ij j u hg.1) (HT.out.ext x2) (by omega))
    clear x2 hj hp hg
    go_wp2_with fail
    refine Calls.mono CT.out ?_
    rintro e w3 ⟨rfl, x3⟩
    have X3 := Lib.hid (X2.out.trans x3)
    clear x3
    go_wp2_with fail
    go_ret2
    exact ⟨by rw [HJ.out]; rfl, X3.out⟩
  · have X2 := Lib.hid x2
    have HJ := Lib.hid hj
    have b1 : (er != 0) = true := by rw [bne_iff_ne]; exact her
    clear x2 hj her
    go_wp2_with fail
    go_ret2
    exact ⟨by rw [HJ.out]; rfl, X2.out⟩
set_option maxRecDepth 100000 in
set_option maxHeartbeats 2000000 in
theorem rcanon_any (s : ByteArray) (w : World) (hm : MaxC w) : Calls Tryz.prog 8 #[.string s] w fun e w' => e = .returned (.tuple #[.string (cB (readS s.data.toList)), .int .i64 (cE (readS s.data.toList))]) ∧ Ext w w' := by
  have CR := Lib.hid (rread_any s w)
  have HM := Lib.hid hm
  have HG : Hid (∀ j, readS s.data.toList = .ok j → WJ j ∧ bulkJ j ≤ 128000) := fun j h => readS_good h
  obtain ⟨R, hR⟩ : ∃ R, R = readS s.data.toList := ⟨_, rfl⟩
  rw [← hR] at CR HG ⊢
  clear hR hm
  go_enter Tryz.func8, Tryz.ntmps8
  go_wp2_with fail
  refine Calls.mono CR.out ?_
  rintro e w2 ⟨x2, K, B, n, sv, A1, n1, c1, A2, n2, c2, er, rfl, hres⟩
  have X2 := Lib.hid x2
  have HRES := Lib.hid hres
  clear x2 hres
  unfold v6
  go_upto_region 2 with (fail)
  obtain ⟨t4, ht4⟩ : ∃ t4, t4 = w2.heap.size := ⟨_, rfl⟩
  rw [← ht4]
  generalize hW : World.alloc w2 _ = w3
  have HX3 : Hid (Ext w2 w3) := by rw [← hW]; exact new_ext _ _
  have HU3 : Hid (VIn w3 t4 K B n sv (.slice A1 n1 c1) (.slice A2 n2 c2)) := by rw [← hW]; exact heap_new ht4
  clear hW ht4
  rcases Classical.em (er = 0) with her | her
  · subst her
    have HOK : Hid (∃ j, R = .ok j ∧ RV (fun b => w.heap.size ≤ b) w2 j (v6 K B n sv (.slice A1 n1 c1) (.slice A2 n2 c2))) := by
      rcases HRES.out with ⟨_, h⟩ | ⟨h1, _⟩
      · exact h
      · exact absurd rfl h1
    clear HRES
    obtain ⟨j, hj, hp⟩ := HOK
    have HJ := Lib.hid hj
    have hg := HG.out j hj
    have CT : Hid (Calls Tryz.prog 31 #[.agg #[.int .i64 K, .bool B, .int .i64 n, .string sv, .slice A1 n1 c1, .slice A2 n2 c2]] w3 fun e w' => e = .returned (.string (bx (textJ j))) ∧ Ext w3 w') :=
      rtext_val j _ _ w3 (hp.ext HX3.out) (hp.ij j _ hg.1) (HM.out.ext (X2.out.trans HX3.out)) (by omega)
    clear hj hp hg
    obtain ⟨d0, d1, d2, d3, d4, d5⟩ := HU3.out.cells
    go_wp2_with fail
    refine Calls.mono CT.out ?_
    rintro e w4 ⟨rfl, x4⟩
    have X4 := Lib.hid (X2.out.trans (HX3.out.trans x4))
    clear x4
    go_wp2_with fail
    go_ret2
    exact ⟨by rw [HJ.out]; rfl, X4.out⟩
  · have HJ : Hid (R = .error er) := by
      rcases HRES.out with ⟨h1, _⟩ | ⟨_, h2, _⟩
      · exact absurd h1 her
      · exact h2
    have b1 : (er != 0) = true := by rw [bne_iff_ne]; exact her
    clear her
    go_wp2_with fail
    go_ret2
    exact ⟨by rw [HJ.out]; rfl, X2.out.trans HX3.out⟩
set_option maxRecDepth 100000 in
set_option maxHeartbeats 2000000 in
theorem jsonCanons_walk (s : ByteArray) (w : World) (hm : MaxC w) (ht : Tab10 w) : Calls Tryz.prog 3 #[.string s] w fun e w' => e = .returned (.bool true) ∧ Ext w w' := by
  have C1 := Lib.hid (canon_any s w ht)
  have C2 : Hid (∀ W, Ext w W → Calls Tryz.prog 8 #[.string s] W fun e w' => e = .returned (.tuple #[.string (cB (readS s.data.toList)), .int .i64 (cE (readS s.data.toList))]) ∧ Ext W w') := fun W hx => rcanon_any s W (hm.ext hx)
  obtain ⟨x, hx⟩ : ∃ x, x = cB (readS s.data.toList) := ⟨_, rfl⟩
  obtain ⟨y, hy⟩ : ∃ y, y = cE (readS s.data.toList) := ⟨_, rfl⟩
  rw [← hx, ← hy] at C1 C2
  have b1 : (x.toList == x.toList) = true := beq_self_eq_true _
  clear hx hy hm ht
  go_enter Tryz.func3, Tryz.ntmps3
  go_wp2_with fail
  refine Calls.mono C1.out ?_
  rintro e w2 ⟨rfl, x2⟩
  have X2 := Lib.hid x2
  clear x2
  go_wp2_with fail
  refine Calls.mono (C2.out w2 X2.out) ?_
  rintro e w3 ⟨rfl, x3⟩
  have X3 := Lib.hid (X2.out.trans x3)
  clear x3
  go_wp2_with fail
  go_ret
  exact ⟨by simp, X3.out⟩
end Go.Proofs.YtahinicpceokcaaGreatDoor.Jm
