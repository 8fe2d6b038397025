/-
  The reference's At over one step (printed by gen/rp2.py).
-/
import Derived.Test.YtahinicpceokcaaGreatDoorRpe
namespace Go.Proofs.YtahinicpceokcaaGreatDoor.Jm
open Go Go.RowKit Go.Proofs.YtahinicpceokcaaGreatDoor.Sx Go.Proofs.YtahinicpceokcaaGreatDoor.Js Go.Proofs.YtahinicpceokcaaGreatDoor.Gr Go.Proofs.YtahinicpceokcaaGreatDoor.Ur
theorem undrew2 {a b : World} (h : Ext a.drew b) : Ext a b := ⟨h.os, h.tape, h.output, h.size, h.block⟩
theorem RV_lists {F : Nat → Prop} {w : World} {l : List J} {K : Int} {B : Bool} {z : Int} {s : ByteArray} {A1 A2 : Option Addr} {n1 c1 n2 c2 : Nat} (h : RV F w (.list l) (v6  K B  z s (.slice A1 n1 c1) (.slice A2 n2 c2))) : K = 5 ∧ n2 = l.length ∧ l.length ≤ c2 ∧ RValsAt F w A2 l := by
  obtain ⟨A, c, e, h1, h2⟩ := RV_list.1 h
  unfold v6 at e
  simp only [List.cons.injEq, Value.int.injEq, Value.slice.injEq, and_true, true_and] at e
  obtain ⟨rfl, -, -, -, -, rfl, rfl, rfl⟩ := e
  exact ⟨rfl, rfl, h1, h2⟩
/-- A value is stored into a box. -/
theorem step_storeV {ops : Array Oper} {o : Oper} {a : Act} {K : Act → World → Prop} {Q : Exit → Act → World → Prop} {E : Prop} {w : World} {g : Nat} {K0 K1 : Int} {B0 B1 : Bool} {z0 z1 : Int} {s0 s1 : ByteArray} {l0 m0 : Value} {A1 A2 : Option Addr} {n1 c1 n2 c2 : Nat} (hgd : o.guard = none) (x y : Operand) (ho : o.op = .store vT x y)
    (hv : VIn w g K0 B0 z0 s0 l0 m0) (hx : a.eval x = .pointer (some ⟨g, 0, none⟩)) (hy : a.eval y = .agg #[.int .i64 K1, .bool B1, .int .i64 z1, .string s1, .slice A1 n1 c1, .slice A2 n2 c2])
    (h : ∀ W, VIn W g K1 B1 z1 s1 (.slice A1 n1 c1) (.slice A2 n2 c2) → (∀ w0, Ext w0 w → w0.heap.size ≤ g → Ext w0 W) → (∀ b, b ≠ g → W.heap[b]? = w.heap[b]?) → K (a.put o.dst undef) W) : if Region.wanted o (yielded ops a.tmps) = true then Oper.wp Tryz.prog o a w K Q else E := by
  have hw : Region.wanted o (yielded ops a.tmps) = true := by simp [Region.wanted, hgd]
  rw [if_pos hw]
  exact wp_store_row vT x y ho g _ hx hy vT _ hv (by kernel_rfl) rfl (by simp [Value.oneCell']) (h _ (setRow_heap _ _ _ _ _ _ hv) (fun w0 h1 h2 => ⟨h1.os, h1.tape, h1.output, by rw [size_setRow]; exact h1.size, fun k hk => (setRow_other w g k _ (by omega)).trans (h1.block k hk)⟩) fun b hb => setRow_other w g b _ hb)
set_option maxRecDepth 100000 in
set_option maxHeartbeats 16000000 in
theorem rat_cons (st : Tx) (r : List Tx) (ih : RAtC r) : RAtC (st :: r) := by
  intro F v cs A c w hF hv hw hb hn hc
  obtain ⟨K, B, z, s, A1, n1, c1, A2, n2, c2, rfl⟩ := RV.shape hv
  obtain ⟨gs, off, rfl, -, hca0⟩ := hn 0 (by simp)
  have hca0' : w.cell? ⟨gs, off, none⟩ = some (.string (bx st)) := hca0
  obtain ⟨A9, ht, hn9, hc9⟩ := names_tail hn (by simpa using hc)
  obtain ⟨N, hN⟩ : ∃ N, N = r.length := ⟨_, rfl⟩
  rw [← hN] at ht
  have HCA : Hid (∀ W, Ext w W → W.cell? ⟨gs, off, none⟩ = some (.string (bx st))) := fun W hW => (cell_keep (hW.block gs (cell_lt hca0'))).trans hca0'
  have hK := RV_kind hv
  have HAT : Hid (atJ v (st :: r) = match childJ v st with | none => none | some u => atJ u r) := by unfold Hid; rw [atJ]; cases childJ v st <;> rfl
  have CAT : Hid (∀ (y : J) (G : Nat → Prop) W K4 B4 z4 s4 A7 n7 c7 A8 n8 c8, Ext w W → (∀ b, W.heap.size ≤ b → G b) → RV G W y (v6  K4 B4  z4 s4 (.slice A7 n7 c7) (.slice A8 n8 c8)) → childJ v st = some y → Calls Tryz.prog 55 #[.agg #[.int .i64 K4, .bool B4, .int .i64 z4, .string s4, .slice A7 n7 c7, .slice A8 n8 c8], .slice A9 N (c - 1)] W (RAtPost G (atJ y r) W)) := fun y G W K4 B4 z4 s4 A7 n7 c7 A8 n8 c8 hW hG hy hc2 => by
    rw [hN]
    exact ih G y _ A9 (c - 1) W hG hy (child_wj hw hc2) (by have := child_bulk hc2; omega) (hn9.ext hW) hc9
  obtain ⟨g, hg⟩ : ∃ g, g = w.heap.size := ⟨_, rfl⟩
  obtain ⟨w1, hw1⟩ : ∃ w1, w1 = (w.alloc (.cells #[.int .i64 K, .bool B, .int .i64 z, .string s, .slice A1 n1 c1, .slice A2 n2 c2] vT (0, 0))).alloc (.cells #[.int .i64 0, .bool false, .int .i64 0, .string ⟨#[]⟩, nilS, nilS] vT (0, 0)) := ⟨_, rfl⟩
  obtain ⟨x1, v1, r1, s1⟩ := two_cells hg hw1
  have HX1 := Lib.hid x1
  have HVV : Hid (VIn w1 g K B z s (.slice A1 n1 c1) (.slice A2 n2 c2)) := v1
  have HVR : Hid (VIn w1 (g + 1) 0 false 0 ⟨#[]⟩ nilS nilS) := r1
  have HGS := Lib.hid s1
  have HGW : Hid (w.heap.size = g) := hg.symm
  have HGW2 : Hid (w.heap.size ≤ g + 1) := by rw [hg]; exact Nat.le_add_right _ _
  have HF := Lib.hid hF
  have HV := Lib.hid hv
  obtain ⟨G, hG⟩ : ∃ G : Nat → Prop, G = NF g 2 F := ⟨_, rfl⟩
  have HG : Hid ((∀ b, F b → b < w.heap.size → G b) ∧ (∀ W : World, g + 2 ≤ W.heap.size → ∀ b, W.heap.size ≤ b → G b) ∧ (∀ b, G b → F b ∧ b ≠ g + 1)) := by
    rw [hG]
    exact ⟨fun b h hb => ⟨h, .inl (by omega)⟩, fun W hW => nf_new hF (by omega) hW, fun b h => ⟨h.1, by have := h.2; omega⟩⟩
  obtain ⟨G3, hG3⟩ : ∃ G3 : Nat → Prop, G3 = fun b => F b ∧ b < g := ⟨_, rfl⟩
  have HG3 : Hid (∀ b, G3 b → G b) := by rw [hG3, hG]; exact fun b h => ⟨h.1, .inl h.2⟩
  have HG3b : Hid ((∀ b, G3 b → b < w.heap.size) ∧ ∀ b, F b → b < w.heap.size → G3 b) := by rw [hG3, ← hg]; exact ⟨fun b h => h.2, fun b h hb => ⟨h, hb⟩⟩
  have HWB : Hid (WJ v ∧ bulkJ v ≤ 16000000) := ⟨hw, hb⟩
  show Calls Tryz.prog 55 #[.agg (v6  K B  z s (.slice A1 n1 c1) (.slice A2 n2 c2)).toArray, .slice (some ⟨gs, off, none⟩) (r.length + 1) c] w _
  rw [← hN]
  unfold v6
  obtain ⟨sx, hsx⟩ : ∃ x, x = bx st := ⟨_, rfl⟩
  have HSX := Lib.hid hsx
  rw [← hsx] at HCA
  have hN0 : ¬ (N + 1 = 0) := by omega
  have hcc : N + 1 ≤ c := by simp at hc; omega
  clear hv hn hc hF x1 v1 r1 s1 hca0 hca0' hn9 hc9 hN hG hG3 hsx ih hw hb
  by_cases hk5 : K = 5
  · obtain ⟨l, rfl⟩ := kind_list v (hK.symm.trans hk5)
    obtain ⟨-, hn2, hc2, hLV⟩ := RV_lists HV.out
    subst hk5
    have HLV := Lib.hid hLV
    have hlen : n2 ≤ 1000000 := by have := len_list (l := l); have := HWB.out.2; omega
    have HCL : Hid (childJ (.list l) st = match idxS st n2 with | some k => l[k]? | none => none) := by unfold Hid; rw [hn2]; rfl
    have HRI : Hid (∀ W, Calls Tryz.prog 91 #[.string (bx st), .int .i64 (n2 : Int)] W (RIdx (idxS st n2) W)) := fun W => rplace_any st n2 W hlen
    have HLN : Hid (n2 = l.length) := hn2
    have HIL : Hid (∀ k, idxS st n2 = some k → k < n2) := fun k h => (idxS_some h).1
    obtain ⟨o, ho⟩ : ∃ o, o = idxS st n2 := ⟨_, rfl⟩
    rw [← ho] at HCL HRI HIL
    clear hLV hn2 hc2 hK hlen ho
    cases o with
    | none =>
      have HE : Hid (atJ (.list l) (st :: r) = none) := by
        have h1 : childJ (.list l) st = none := HCL.out
        unfold Hid
        rw [HAT.out, h1]
      rw [HE.out]
      have CP : Hid (∀ W, Ext w1 W → Calls Tryz.prog 91 #[.string sx, .int .i64 (n2 : Int)] W fun e w' => e = .returned (.int .i64 (-1)) ∧ Ext w1 w' ∧ w'.cell? ⟨gs, off, none⟩ = some (.string sx) ∧ w'.cell? ⟨g, 5, none⟩ = some (.slice A2 n2 c2)) := fun W hW => by
        rw [HSX.out]
        refine (HRI.out W).mono fun e w' ⟨⟨n, he, _, h2⟩, hx⟩ => ?_
        rw [← HSX.out]
        exact ⟨by rw [he, h2 rfl], hW.trans hx, HCA.out _ (HX1.out.trans (hW.trans hx)), (HVV.out.ext (hW.trans hx)).cells.2.2.2.2.2⟩
      go_enter Tryz.func55, Tryz.ntmps55
      go_upto_region 1 with (fail)
      rw [← hw1, ← hg]
      clear hw1 hg
      obtain ⟨a0, a1, a2, a3, a4, a5⟩ := HVV.out.cells
      have ca := HCA.out w1 HX1.out
      have hxx : Ext w1 w1 := Below.refl _ _
      go_upto_region 4 with (fail)
      go_region_held3 (fun W => Ext w1 W ∧ W.cell? ⟨gs, off, none⟩ = some (.string sx) ∧ W.cell? ⟨g, 5, none⟩ = some (.slice A2 n2 c2))
        (first | (refine ⟨by assumption, by assumption, by assumption⟩) | (refine ⟨Below.drew (by assumption), ?_, ?_⟩ <;> go_keep) | go_keep)
        (first | (go_at_call 91; refine (CP.out _ (by repeat (first | assumption | apply ext_al | apply ext_dr))).mono ?_; rintro r w5 ⟨rfl, x5, ca5, b5⟩))
      all_goals
        have HX6 : Hid (Ext w _) := HX1.out.trans x5
        have HR6 := Lib.hid (HVR.out.ext x5)
        clear ca5 b5 x5 ca a0 a1 a2 a3 a4 a5 hxx
        obtain ⟨r0, r1, r2, r3, r4, r5⟩ := (HR6.out).cells
        have f0 := (HR6.out).free 0
        have f1 := (HR6.out).free 1
        have f2 := (HR6.out).free 2
        have f3 := (HR6.out).free 3
        have f4 := (HR6.out).free 4
        have f5 := (HR6.out).free 5
        go_wp2_with fail
        refine bodyPost_ret (results_v rfl _ _ (g + 1) rfl (put_in 0 false 0 ⟨#[]⟩ nilS nilS HR6.out)) rfl ?_
        (try rw [HE.out])
        exact ⟨put_ext 0 false 0 ⟨#[]⟩ nilS nilS HX6.out HGW2.out, _, _, _, _, _, _, _, _, _, _, rfl, .inr ⟨rfl, rfl⟩, fun h => by cases h⟩
    | some k =>
      have hkn := HIL.out k rfl
      have hkl : k < l.length := by rw [← HLN.out]; exact hkn
      obtain ⟨gb, ob, u, rfl, -, -, hu, hrv⟩ := HLV.out k hkl
      obtain ⟨K3, B3, z3, s3, A5, n5, c5, A6, n6, c6, rfl⟩ := RV.shape hrv
      have hcy : childJ (.list l) st = some l[k] := HCL.out.trans (List.getElem?_eq_getElem hkl)
      have HE : Hid (atJ (.list l) (st :: r) = atJ l[k] r) := by unfold Hid; rw [HAT.out, hcy]
      rw [HE.out]
      have HSRC : Hid (∀ W, Ext w W → W.cell? ⟨gb, ob + k * 6, none⟩ = some (.int .i64 K3) ∧ W.cell? ⟨gb, ob + k * 6 + 1, none⟩ = some (.bool B3) ∧ W.cell? ⟨gb, ob + k * 6 + 2, none⟩ = some (.int .i64 z3) ∧ W.cell? ⟨gb, ob + k * 6 + 3, none⟩ = some (.string s3) ∧ W.cell? ⟨gb, ob + k * 6 + 4, none⟩ = some (.slice A5 n5 c5) ∧ W.cell? ⟨gb, ob + k * 6 + 5, none⟩ = some (.slice A6 n6 c6)) := fun W hW => by
        have hk : ∀ i x, (v6  K3 B3  z3 s3 (.slice A5 n5 c5) (.slice A6 n6 c6))[i]? = some x → W.cell? ⟨gb, ob + k * 6 + i, none⟩ = some x := fun i x h => (cell_keep (hW.block gb (cell_lt (hu i x h)))).trans (hu i x h)
        exact ⟨by have := hk 0 _ rfl; rwa [Nat.add_zero] at this, hk 1 _ rfl, hk 2 _ rfl, hk 3 _ rfl, hk 4 _ rfl, hk 5 _ rfl⟩
      have CAT0 : Hid (∀ W, Ext w W → g + 2 ≤ W.heap.size → Calls Tryz.prog 55 #[.agg #[.int .i64 K3, .bool B3, .int .i64 z3, .string s3, .slice A5 n5 c5, .slice A6 n6 c6], .slice A9 N (c - 1)] W (RAtPost G (atJ l[k] r) W)) := fun W hW hs => CAT.out l[k] G W _ _ _ _ _ _ _ _ _ _ hW (HG.out.2.1 W hs) (RV.keep (fun b _ hb => hW.block b hb) HG.out.1 _ _ hrv) hcy
      generalize l[k] = y at *
      have CP : Hid (∀ W, Ext w1 W → Calls Tryz.prog 91 #[.string sx, .int .i64 (n2 : Int)] W fun e w' => e = .returned (.int .i64 (k : Int)) ∧ Ext w1 w' ∧ w'.cell? ⟨gs, off, none⟩ = some (.string sx) ∧ w'.cell? ⟨g, 5, none⟩ = some (.slice (some ⟨gb, ob, none⟩) n2 c2)) := fun W hW => by
        rw [HSX.out]
        refine (HRI.out W).mono fun e w' ⟨⟨n, he, h2, _⟩, hx⟩ => ?_
        rw [← HSX.out]
        exact ⟨by rw [he, h2 k rfl], hW.trans hx, HCA.out _ (HX1.out.trans (hW.trans hx)), (HVV.out.ext (hW.trans hx)).cells.2.2.2.2.2⟩
      have hk0 : (0 : Int) ≤ (k : Int) := by omega
      have hkI : (k : Int) < (n2 : Int) := by omega
      have hkb : ¬ ((k : Int) < 0) := by omega
      clear hu hrv hcy hkl
      go_enter Tryz.func55, Tryz.ntmps55
      go_upto_region 1 with (fail)
      rw [← hw1, ← hg]
      clear hw1 hg
      obtain ⟨a0, a1, a2, a3, a4, a5⟩ := HVV.out.cells
      have ca := HCA.out w1 HX1.out
      have hxx : Ext w1 w1 := Below.refl _ _
      go_upto_region 4 with (fail)
      go_region_held3 (fun W => Ext w1 W ∧ W.cell? ⟨gs, off, none⟩ = some (.string sx) ∧ W.cell? ⟨g, 5, none⟩ = some (.slice (some ⟨gb, ob, none⟩) n2 c2))
        (first | (refine ⟨by assumption, by assumption, by assumption⟩) | (refine ⟨Below.drew (by assumption), ?_, ?_⟩ <;> go_keep) | go_keep)
        (first | (go_at_call 91; refine (CP.out _ (by repeat (first | assumption | apply ext_al | apply ext_dr))).mono ?_; rintro r w6 ⟨rfl, x5, ca5, b5⟩))
      clear ca5 b5 ca a0 a1 a2 a3 a4 a5 hxx
      have HX16 : Hid (Ext w1 w6) := x5
      clear x5
      have HX6 : Hid (Ext w w6) := HX1.out.trans HX16.out
      have HR6 := Lib.hid (HVR.out.ext HX16.out)
      have hsz : g + 2 ≤ w6.heap.size := by have := HX16.out.size; have := HGS.out; omega
      have CAT1 : Hid (∀ W, Ext w6 W → Calls Tryz.prog 55 #[.agg #[.int .i64 K3, .bool B3, .int .i64 z3, .string s3, .slice A5 n5 c5, .slice A6 n6 c6], .slice A9 N (c - 1)] W (RAtPost G (atJ y r) W)) := fun W hW => CAT0.out W (HX6.out.trans hW) (Nat.le_trans hsz hW.size)
      have HS7 : Hid (∀ W, Ext w6 W → W.cell? ⟨g, 5, none⟩ = some (.slice (some ⟨gb, ob, none⟩) n2 c2) ∧ W.cell? ⟨gb, ob + k * 6, none⟩ = some (.int .i64 K3) ∧ W.cell? ⟨gb, ob + k * 6 + 1, none⟩ = some (.bool B3) ∧ W.cell? ⟨gb, ob + k * 6 + 2, none⟩ = some (.int .i64 z3) ∧ W.cell? ⟨gb, ob + k * 6 + 3, none⟩ = some (.string s3) ∧ W.cell? ⟨gb, ob + k * 6 + 4, none⟩ = some (.slice A5 n5 c5) ∧ W.cell? ⟨gb, ob + k * 6 + 5, none⟩ = some (.slice A6 n6 c6)) := fun W hW => ⟨(HVV.out.ext (HX16.out.trans hW)).cells.2.2.2.2.2, HSRC.out W (HX6.out.trans hW)⟩
      clear hsz
      have hxx : Ext w6 w6 := Below.refl _ _
      go_upto_region 7 with (fail)
      refine wp_region_split (fun w' => w'.cell? ⟨g, 5, none⟩ = some (.slice (some ⟨gb, ob, none⟩) n2 c2) ∧ w'.cell? ⟨gb, ob + k * 6, none⟩ = some (.int .i64 K3) ∧ w'.cell? ⟨gb, ob + k * 6 + 1, none⟩ = some (.bool B3) ∧ w'.cell? ⟨gb, ob + k * 6 + 2, none⟩ = some (.int .i64 z3) ∧ w'.cell? ⟨gb, ob + k * 6 + 3, none⟩ = some (.string s3) ∧ w'.cell? ⟨gb, ob + k * 6 + 4, none⟩ = some (.slice A5 n5 c5) ∧ w'.cell? ⟨gb, ob + k * 6 + 5, none⟩ = some (.slice A6 n6 c6)) 10 (by kernel_rfl) (by kernel_rfl) (by exact HS7.out _ (by repeat (first | assumption | apply ext_al | apply ext_dr))) (fun hHeld => ?_)
      simp only [List.take_succ_cons, List.take_zero, List.drop_succ_cons, List.drop_zero]
      refine wpAnyH_take (i := 0) (v := ?_) rfl (by kernel_rfl) (by kernel_rfl) (by kernel_rfl) (fun _ _ _ h => h) (Or.inl ⟨by rfl, ?_⟩) (by assumption) ?_
      rotate_left
      · intro w hSw
        (try dsimp only at hSw)
        go_simp
        (try with_reducible rfl)
      (try simp only [Act.put, List.setIfInBounds_toArray])
      refine wpAnyH_take (i := 1) (v := ?_) rfl (by kernel_rfl) (by kernel_rfl) (by kernel_rfl) (fun _ _ _ h => h) (Or.inl ⟨by rfl, ?_⟩) (by assumption) ?_
      rotate_left
      · intro w hSw
        (try dsimp only at hSw)
        go_simp
        (try with_reducible rfl)
      (try simp only [Act.put])
      refine wpAnyH_take (i := 2) (v := ?_) rfl (by kernel_rfl) (by kernel_rfl) (by kernel_rfl) (fun _ _ _ h => h) (Or.inl ⟨by rfl, ?_⟩) (by assumption) ?_
      rotate_left
      · intro w hSw
        (try dsimp only at hSw)
        go_simp
        (try with_reducible rfl)
      (try simp only [Act.put])
      refine wpAnyH_take (i := 3) (v := ?_) rfl (by kernel_rfl) (by kernel_rfl) (by kernel_rfl) (fun _ _ _ h => h) (Or.inl ⟨by rfl, ?_⟩) (by assumption) ?_
      rotate_left
      · intro w hSw
        (try dsimp only at hSw)
        go_simp
        (try with_reducible rfl)
      (try simp only [Act.put])
      refine wpAnyH_take (i := 4) (v := ?_) rfl (by kernel_rfl) (by kernel_rfl) (by kernel_rfl) (fun _ _ _ h => h) (Or.inl ⟨by rfl, ?_⟩) (by assumption) ?_
      rotate_left
      · intro w hSw
        (try dsimp only at hSw)
        go_simp
        (try with_reducible rfl)
      (try simp only [Act.put])
      refine wpAnyH_take (i := 5) (v := ?_) rfl (by kernel_rfl) (by kernel_rfl) (by kernel_rfl) (fun _ _ _ h => h) (Or.inl ⟨by rfl, ?_⟩) (by assumption) ?_
      rotate_left
      · intro w hSw
        (try dsimp only at hSw)
        go_simp
        (try with_reducible rfl)
      (try simp only [Act.put])
      refine wpAnyH_take (i := 6) (v := ?_) rfl (by kernel_rfl) (by kernel_rfl) (by kernel_rfl) (fun _ _ _ h => h) (Or.inl ⟨by rfl, ?_⟩) (by assumption) ?_
      rotate_left
      · intro w hSw
        (try dsimp only at hSw)
        go_simp
        (try with_reducible rfl)
      (try simp only [Act.put])
      refine wpAnyH_ready (rs := [7]) (by kernel_rfl) (by simp) ?_
      refine AllReadyH.cons rfl (fun KQ hKQ => ?_) AllReadyH.nil
      go_simp; (refine Calls.mono (CAT1.out _ (by repeat (first | assumption | apply ext_al | apply ext_dr))) ?_); rintro e w8 ⟨x8, K9, B9, z9, s9, A9', n9, c9, A10, n10, c10, rfl, hz8⟩; (try dsimp only); have X8 : Ext w6 w8 := Below.trans (by repeat (first | assumption | apply ext_al | apply ext_dr)) x8
      refine hKQ.out _ _ (by exact HS7.out _ (by repeat (first | assumption | apply ext_al | apply ext_dr))) (fun hHeld => ?_)
      clear hKQ KQ
      (try simp only [Act.put, List.setIfInBounds_toArray, List.set_cons_zero, List.set_cons_succ])
      refine wpAnyH_take (i := 8) (v := ?_) rfl (by kernel_rfl) (by kernel_rfl) (by kernel_rfl) (fun _ _ _ h => h) (Or.inl ⟨by rfl, ?_⟩) (by assumption) ?_
      rotate_left
      · intro w hSw
        (try dsimp only at hSw)
        go_simp
        (try with_reducible rfl)
      (try simp only [Act.put, List.setIfInBounds_toArray])
      refine wpAnyH_take (i := 9) (v := ?_) rfl (by kernel_rfl) (by kernel_rfl) (by kernel_rfl) (fun _ _ _ h => h) (Or.inl ⟨by rfl, ?_⟩) (by assumption) ?_
      rotate_left
      · intro w hSw
        (try dsimp only at hSw)
        go_simp
        (try with_reducible rfl)
      (try simp only [Act.put])
      refine wpAnyH_done (by kernel_rfl) ?_ _
      refine TailQ.normal ?_
      have HX8 : Hid (Ext w w8) := (HX6.out).trans (show Ext w6 w8 by assumption)
      have HR8 : Hid (VIn w8 (g + 1) 0 false 0 ⟨#[]⟩ nilS nilS) := HR6.out.ext (show Ext w6 w8 by assumption)
      have HZ8 := Lib.hid hz8
      clear hz8
      obtain ⟨r0, r1, r2, r3, r4, r5⟩ := (HR8.out).cells
      have f0 := (HR8.out).free 0
      have f1 := (HR8.out).free 1
      have f2 := (HR8.out).free 2
      have f3 := (HR8.out).free 3
      have f4 := (HR8.out).free 4
      have f5 := (HR8.out).free 5
      go_wp2_with fail
      refine bodyPost_ret (results_v rfl _ _ (g + 1) rfl (put_in K9 B9 z9 s9 (.slice A9' n9 c9) (.slice A10 n10 c10) HR8.out)) rfl ?_
      (try rw [HE.out])
      exact ⟨put_ext K9 B9 z9 s9 (.slice A9' n9 c9) (.slice A10 n10 c10) HX8.out HGW2.out, _, _, _, _, _, _, _, _, _, _, rfl, RZ.keep HZ8.out.1 (fun b hb _ => put_heap _ K9 B9 z9 s9 (.slice A9' n9 c9) (.slice A10 n10 c10) b (HG.out.2.2 b hb).2) (fun b hb _ => (HG.out.2.2 b hb).1), fun h => RV.keep (fun b hb _ => put_heap _ K9 B9 z9 s9 (.slice A9' n9 c9) (.slice A10 n10 c10) b (HG.out.2.2 b hb).2) (fun b hb _ => (HG.out.2.2 b hb).1) _ _ (HZ8.out.2 h)⟩
  · have b5 : (K == 5) = false := by rw [beq_eq_false_iff_ne]; exact hk5
    have HCO : Hid (childJ v st = getO (objO v) st) := child_nolist (by rw [← hK]; exact hk5) st
    have CF : Hid (∀ W, Ext w1 W → Calls Tryz.prog 82 #[.agg #[.int .i64 K, .bool B, .int .i64 z, .string s, .slice A1 n1 c1, .slice A2 n2 c2], .string sx] W fun e w' => ∃ K4 B4 z4 s4 A7 n7 c7 A8 n8 c8, Hid ((∀ W', Ext w W' → RZ G3 W' (valO (objO v) st) (v6  K4 B4  z4 s4 (.slice A7 n7 c7) (.slice A8 n8 c8))) ∧ ((getO (objO v) st).isSome = true → ∀ W', Ext w W' → RV G3 W' (valO (objO v) st) (v6  K4 B4  z4 s4 (.slice A7 n7 c7) (.slice A8 n8 c8)))) ∧ e = .returned (.tuple #[.agg #[.int .i64 K4, .bool B4, .int .i64 z4, .string s4, .slice A7 n7 c7, .slice A8 n8 c8], .bool (getO (objO v) st).isSome]) ∧ Ext W w') := fun W hW => by
      rw [HSX.out]
      refine (rfindZ_any G3 v K B z s A1 n1 c1 A2 n2 c2 st W (.inl (RV.keep (fun b _ hb => (HX1.out.trans hW).block b hb) HG3b.out.2 _ _ HV.out)) HWB.out.1 HWB.out.2).mono fun e w' ⟨hx, u, h1, h2, h3⟩ => ?_
      obtain ⟨K4, B4, z4, s4, A7, n7, c7, A8, n8, c8, rfl, -⟩ := h1.shape
      have hk : ∀ W', Ext w W' → ∀ b, G3 b → b < W.heap.size → W'.heap[b]? = W.heap[b]? := fun W' hW' b hb _ => (hW'.block b (HG3b.out.1 b hb)).trans ((HX1.out.trans hW).block b (HG3b.out.1 b hb)).symm
      exact ⟨K4, B4, z4, s4, A7, n7, c7, A8, n8, c8, ⟨fun W' hW' => h1.keep (hk W' hW') (fun _ h _ => h), fun hs W' hW' => RV.keep (hk W' hW') (fun _ h _ => h) _ _ (h3 hs)⟩, h2, hx⟩
    have HS8 : Hid (∀ W, Ext w1 W → W.cell? ⟨gs, off, none⟩ = some (.string sx) ∧ W.cell? ⟨g, 0, none⟩ = some (.int .i64 K) ∧ W.cell? ⟨g, 1, none⟩ = some (.bool B) ∧ W.cell? ⟨g, 2, none⟩ = some (.int .i64 z) ∧ W.cell? ⟨g, 3, none⟩ = some (.string s) ∧ W.cell? ⟨g, 4, none⟩ = some (.slice A1 n1 c1) ∧ W.cell? ⟨g, 5, none⟩ = some (.slice A2 n2 c2)) := fun W hW => ⟨HCA.out W (HX1.out.trans hW), (HVV.out.ext hW).cells⟩
    clear hK hk5
    go_enter Tryz.func55, Tryz.ntmps55
    go_upto_region 1 with (fail)
    rw [← hw1, ← hg]
    clear hw1 hg
    obtain ⟨a0, a1, a2, a3, a4, a5⟩ := HVV.out.cells
    have ca := HCA.out w1 HX1.out
    have hxx : Ext w1 w1 := Below.refl _ _
    go_upto_region 8 with (fail)
    refine wp_region_split (fun w' => w'.cell? ⟨gs, off, none⟩ = some (.string sx) ∧ w'.cell? ⟨g, 0, none⟩ = some (.int .i64 K) ∧ w'.cell? ⟨g, 1, none⟩ = some (.bool B) ∧ w'.cell? ⟨g, 2, none⟩ = some (.int .i64 z) ∧ w'.cell? ⟨g, 3, none⟩ = some (.string s) ∧ w'.cell? ⟨g, 4, none⟩ = some (.slice A1 n1 c1) ∧ w'.cell? ⟨g, 5, none⟩ = some (.slice A2 n2 c2)) 10 (by kernel_rfl) (by kernel_rfl) (by exact HS8.out _ (by repeat (first | assumption | with_reducible apply ext_al | with_reducible apply ext_dr))) (fun hHeld => ?_)
    simp only [List.take_succ_cons, List.take_zero, List.drop_succ_cons, List.drop_zero]
    refine wpAnyH_take (i := 0) (v := ?_) rfl (by kernel_rfl) (by kernel_rfl) (by kernel_rfl) (fun _ _ _ h => h) (Or.inl ⟨by rfl, ?_⟩) (by assumption) ?_
    rotate_left
    · intro w hSw
      (try dsimp only at hSw)
      go_simp
      (try with_reducible rfl)
    (try simp only [Act.put, List.setIfInBounds_toArray])
    refine wpAnyH_take (i := 1) (v := ?_) rfl (by kernel_rfl) (by kernel_rfl) (by kernel_rfl) (fun _ _ _ h => h) (Or.inl ⟨by rfl, ?_⟩) (by assumption) ?_
    rotate_left
    · intro w hSw
      (try dsimp only at hSw)
      go_simp
      (try with_reducible rfl)
    (try simp only [Act.put])
    refine wpAnyH_take (i := 2) (v := ?_) rfl (by kernel_rfl) (by kernel_rfl) (by kernel_rfl) (fun _ _ _ h => h) (Or.inl ⟨by rfl, ?_⟩) (by assumption) ?_
    rotate_left
    · intro w hSw
      (try dsimp only at hSw)
      go_simp
      (try with_reducible rfl)
    (try simp only [Act.put])
    refine wpAnyH_take (i := 3) (v := ?_) rfl (by kernel_rfl) (by kernel_rfl) (by kernel_rfl) (fun _ _ _ h => h) (Or.inl ⟨by rfl, ?_⟩) (by assumption) ?_
    rotate_left
    · intro w hSw
      (try dsimp only at hSw)
      go_simp
      (try with_reducible rfl)
    (try simp only [Act.put])
    refine wpAnyH_ready (rs := [4, 8]) (by kernel_rfl) (by simp) ?_
    refine AllReadyH.cons rfl (fun KQ hKQ => ?_) ?_
    · skip
      go_simp; (refine Calls.mono (CF.out _ (by repeat (first | assumption | apply ext_al | apply ext_dr))) ?_); rintro e w5 ⟨K4, B4, z4, s4, A7, n7, c7, A8, n8, c8, hu, rfl, x5⟩; (try dsimp only); have X5 : Ext w1 w5 := Ext.trans (by repeat (first | assumption | apply ext_al | apply ext_dr)) x5
      refine hKQ.out _ _ (by exact HS8.out _ (by repeat (first | assumption | with_reducible apply ext_al | with_reducible apply ext_dr))) (fun hHeld => ?_)
      clear hKQ KQ
      (try simp only [Act.put, List.setIfInBounds_toArray, List.set_cons_zero, List.set_cons_succ])
      refine wpAnyH_take (i := 5) (v := ?_) rfl (by kernel_rfl) (by kernel_rfl) (by kernel_rfl) (fun _ _ _ h => h) (Or.inl ⟨by rfl, ?_⟩) (by assumption) ?_
      rotate_left
      · intro w hSw
        (try dsimp only at hSw)
        go_simp
        (try with_reducible rfl)
      (try simp only [Act.put, List.setIfInBounds_toArray])
      refine wpAnyH_take (i := 6) (v := ?_) rfl (by kernel_rfl) (by kernel_rfl) (by kernel_rfl) (fun _ _ _ h => h) (Or.inl ⟨by rfl, ?_⟩) (by assumption) ?_
      rotate_left
      · intro w hSw
        (try dsimp only at hSw)
        go_simp
        (try with_reducible rfl)
      (try simp only [Act.put])
      refine wpAnyH_take (i := 7) (v := ?_) rfl (by kernel_rfl) (by kernel_rfl) (by kernel_rfl) (fun _ _ _ h => h) (Or.inl ⟨by rfl, ?_⟩) (by assumption) ?_
      rotate_left
      · intro w hSw
        (try dsimp only at hSw)
        go_simp
        (try with_reducible rfl)
      (try simp only [Act.put])
      refine wpAnyH_ready (rs := [8]) (by kernel_rfl) (by simp) ?_
      refine AllReadyH.cons rfl (fun KQ hKQ => ?_) AllReadyH.nil
      go_simp
      refine hKQ.out _ _ (by exact HS8.out _ (by repeat (first | assumption | with_reducible apply ext_al | with_reducible apply ext_dr))) (fun hHeld => ?_)
      clear hKQ KQ
      (try simp only [Act.put, List.setIfInBounds_toArray, List.set_cons_zero, List.set_cons_succ])
      refine wpAnyH_ready (rs := [9]) (by kernel_rfl) (by simp) ?_
      refine AllReadyH.cons rfl (fun KQ hKQ => ?_) AllReadyH.nil
      (refine step_storeV rfl _ _ rfl (heap_new rfl) (by rfl) (by rfl) ?_; intro w6 hv6 he6 _; have X6 : Ext w1 w6 := he6 _ (by repeat (first | assumption | apply ext_al | apply ext_dr)) (by first | exact Nat.le_refl _ | exact X5.size | (have h3 := X5.size; omega)))
      refine hKQ.out _ _ (by exact HS8.out _ (by repeat (first | assumption | with_reducible apply ext_al | with_reducible apply ext_dr))) (fun hHeld => ?_)
      clear hKQ KQ
      (try simp only [Act.put, List.setIfInBounds_toArray])
      refine wpAnyH_done (by kernel_rfl) ?_ _
      refine TailQ.normal ?_
      have HU := Lib.hid (And.intro hu.out.1 hu.out.2)
      have HX16 : Hid (Ext w1 w6) := X6
      obtain ⟨gb8, hgb⟩ : ∃ b, b = w5.heap.size := ⟨_, rfl⟩
      have HB6 : Hid (VIn w6 gb8 K4 B4 z4 s4 (.slice A7 n7 c7) (.slice A8 n8 c8)) := by unfold Hid; rw [hgb]; exact hv6
      go_upto_region 9 with (fail)
      rw [← hgb]
      have HX6 : Hid (Ext w w6) := HX1.out.trans HX16.out
      have HR6 : Hid (VIn w6 (g + 1) 0 false 0 ⟨#[]⟩ nilS nilS) := HVR.out.ext HX16.out
      have HSZ6 : Hid (g + 2 ≤ w6.heap.size) := by have h1 := HX16.out.size; have h2 := HGS.out; unfold Hid; omega
      obtain ⟨p0, p1, p2, p3, p4, p5⟩ := HB6.out.cells
      clear hgb hv6 X6
      clear hu
      cases hio : (getO (objO v) st).isSome with
      | false =>
        have HE : Hid (atJ v (st :: r) = none) := by
          have h1 : childJ v st = none := HCO.out.trans (by cases h : getO (objO v) st with | none => rfl | some y => rw [h] at hio; cases hio)
          unfold Hid
          rw [HAT.out, h1]
        clear hio
        obtain ⟨r0, r1, r2, r3, r4, r5⟩ := (HR6.out).cells
        have f0 := (HR6.out).free 0
        have f1 := (HR6.out).free 1
        have f2 := (HR6.out).free 2
        have f3 := (HR6.out).free 3
        have f4 := (HR6.out).free 4
        have f5 := (HR6.out).free 5
        go_wp2_with fail
        refine bodyPost_ret (results_v rfl _ _ (g + 1) rfl (put_in 0 false 0 ⟨#[]⟩ nilS nilS HR6.out)) rfl ?_
        (try rw [HE.out])
        exact ⟨put_ext 0 false 0 ⟨#[]⟩ nilS nilS HX6.out HGW2.out, _, _, _, _, _, _, _, _, _, _, rfl, .inr ⟨rfl, rfl⟩, fun h => by cases h⟩
      | true =>
        obtain ⟨y, hy⟩ := Option.isSome_iff_exists.1 hio
        have hcy : childJ v st = some y := HCO.out.trans hy
        have HE : Hid (atJ v (st :: r) = atJ y r) := by unfold Hid; rw [HAT.out, hcy]
        have hvy : valO (objO v) st = y := val_some hy
        have CAT1 : Hid (∀ W, Ext w6 W → Calls Tryz.prog 55 #[.agg #[.int .i64 K4, .bool B4, .int .i64 z4, .string s4, .slice A7 n7 c7, .slice A8 n8 c8], .slice A9 N (c - 1)] W (RAtPost G (atJ y r) W)) := fun W hW => CAT.out y G W _ _ _ _ _ _ _ _ _ _ (HX6.out.trans hW) (HG.out.2.1 W (Nat.le_trans HSZ6.out hW.size)) (by rw [← hvy]; exact RV.keep (fun _ _ _ => rfl) (fun b hb _ => HG3.out b hb) _ _ ((HU.out.2 hio) W (HX6.out.trans hW))) hcy
        have HS11 : Hid (∀ W, Ext w6 W → W.cell? ⟨gb8, 0, none⟩ = some (.int .i64 K4) ∧ W.cell? ⟨gb8, 1, none⟩ = some (.bool B4) ∧ W.cell? ⟨gb8, 2, none⟩ = some (.int .i64 z4) ∧ W.cell? ⟨gb8, 3, none⟩ = some (.string s4) ∧ W.cell? ⟨gb8, 4, none⟩ = some (.slice A7 n7 c7) ∧ W.cell? ⟨gb8, 5, none⟩ = some (.slice A8 n8 c8)) := fun W hW => (HB6.out.ext hW).cells
        clear hio hy hcy hvy
        have hxx : Ext w6 w6 := Below.refl _ _
        go_upto_region 11 with (fail)
        refine wp_region_split (fun w' => w'.cell? ⟨gb8, 0, none⟩ = some (.int .i64 K4) ∧ w'.cell? ⟨gb8, 1, none⟩ = some (.bool B4) ∧ w'.cell? ⟨gb8, 2, none⟩ = some (.int .i64 z4) ∧ w'.cell? ⟨gb8, 3, none⟩ = some (.string s4) ∧ w'.cell? ⟨gb8, 4, none⟩ = some (.slice A7 n7 c7) ∧ w'.cell? ⟨gb8, 5, none⟩ = some (.slice A8 n8 c8)) 6 (by kernel_rfl) (by kernel_rfl) (by exact HS11.out _ (by repeat (first | assumption | apply ext_al | apply ext_dr))) (fun hHeld => ?_)
        simp only [List.take_succ_cons, List.take_zero, List.drop_succ_cons, List.drop_zero]
        refine wpAnyH_take (i := 0) (v := ?_) rfl (by kernel_rfl) (by kernel_rfl) (by kernel_rfl) (fun _ _ _ h => h) (Or.inl ⟨by rfl, ?_⟩) (by assumption) ?_
        rotate_left
        · intro w hSw
          (try dsimp only at hSw)
          go_simp
          (try with_reducible rfl)
        (try simp only [Act.put, List.setIfInBounds_toArray])
        refine wpAnyH_take (i := 1) (v := ?_) rfl (by kernel_rfl) (by kernel_rfl) (by kernel_rfl) (fun _ _ _ h => h) (Or.inl ⟨by rfl, ?_⟩) (by assumption) ?_
        rotate_left
        · intro w hSw
          (try dsimp only at hSw)
          go_simp
          (try with_reducible rfl)
        (try simp only [Act.put])
        refine wpAnyH_take (i := 2) (v := ?_) rfl (by kernel_rfl) (by kernel_rfl) (by kernel_rfl) (fun _ _ _ h => h) (Or.inl ⟨by rfl, ?_⟩) (by assumption) ?_
        rotate_left
        · intro w hSw
          (try dsimp only at hSw)
          go_simp
          (try with_reducible rfl)
        (try simp only [Act.put])
        refine wpAnyH_ready (rs := [3]) (by kernel_rfl) (by simp) ?_
        refine AllReadyH.cons rfl (fun KQ hKQ => ?_) AllReadyH.nil
        go_simp; (refine Calls.mono (CAT1.out _ (by repeat (first | assumption | apply ext_al | apply ext_dr))) ?_); rintro e w8 ⟨x8, K9, B9, z9, s9, A9', n9, c9, A10, n10, c10, rfl, hz8⟩; (try dsimp only); have X8 : Ext w6 w8 := Below.trans (by repeat (first | assumption | apply ext_al | apply ext_dr)) x8
        refine hKQ.out _ _ (by exact HS11.out _ (by repeat (first | assumption | apply ext_al | apply ext_dr))) (fun hHeld => ?_)
        clear hKQ KQ
        (try simp only [Act.put, List.setIfInBounds_toArray, List.set_cons_zero, List.set_cons_succ])
        refine wpAnyH_take (i := 4) (v := ?_) rfl (by kernel_rfl) (by kernel_rfl) (by kernel_rfl) (fun _ _ _ h => h) (Or.inl ⟨by rfl, ?_⟩) (by assumption) ?_
        rotate_left
        · intro w hSw
          (try dsimp only at hSw)
          go_simp
          (try with_reducible rfl)
        (try simp only [Act.put, List.setIfInBounds_toArray])
        refine wpAnyH_take (i := 5) (v := ?_) rfl (by kernel_rfl) (by kernel_rfl) (by kernel_rfl) (fun _ _ _ h => h) (Or.inl ⟨by rfl, ?_⟩) (by assumption) ?_
        rotate_left
        · intro w hSw
          (try dsimp only at hSw)
          go_simp
          (try with_reducible rfl)
        (try simp only [Act.put])
        refine wpAnyH_done (by kernel_rfl) ?_ _
        refine TailQ.normal ?_
        have HX8 : Hid (Ext w w8) := (HX6.out).trans (show Ext w6 w8 by assumption)
        have HR8 : Hid (VIn w8 (g + 1) 0 false 0 ⟨#[]⟩ nilS nilS) := HR6.out.ext (show Ext w6 w8 by assumption)
        have HZ8 := Lib.hid hz8
        clear hz8
        obtain ⟨r0, r1, r2, r3, r4, r5⟩ := (HR8.out).cells
        have f0 := (HR8.out).free 0
        have f1 := (HR8.out).free 1
        have f2 := (HR8.out).free 2
        have f3 := (HR8.out).free 3
        have f4 := (HR8.out).free 4
        have f5 := (HR8.out).free 5
        go_wp2_with fail
        refine bodyPost_ret (results_v rfl _ _ (g + 1) rfl (put_in K9 B9 z9 s9 (.slice A9' n9 c9) (.slice A10 n10 c10) HR8.out)) rfl ?_
        (try rw [HE.out])
        exact ⟨put_ext K9 B9 z9 s9 (.slice A9' n9 c9) (.slice A10 n10 c10) HX8.out HGW2.out, _, _, _, _, _, _, _, _, _, _, rfl, RZ.keep HZ8.out.1 (fun b hb _ => put_heap _ K9 B9 z9 s9 (.slice A9' n9 c9) (.slice A10 n10 c10) b (HG.out.2.2 b hb).2) (fun b hb _ => (HG.out.2.2 b hb).1), fun h => RV.keep (fun b hb _ => put_heap _ K9 B9 z9 s9 (.slice A9' n9 c9) (.slice A10 n10 c10) b (HG.out.2.2 b hb).2) (fun b hb _ => (HG.out.2.2 b hb).1) _ _ (HZ8.out.2 h)⟩
    refine AllReadyH.cons rfl (fun KQ hKQ => ?_) ?_
    · skip
      go_simp
      refine hKQ.out _ _ (by exact HS8.out _ (by repeat (first | assumption | with_reducible apply ext_al | with_reducible apply ext_dr))) (fun hHeld => ?_)
      clear hKQ KQ
      (try simp only [Act.put, List.setIfInBounds_toArray, List.set_cons_zero, List.set_cons_succ])
      refine wpAnyH_ready (rs := [4]) (by kernel_rfl) (by simp) ?_
      refine AllReadyH.cons rfl (fun KQ hKQ => ?_) AllReadyH.nil
      go_simp; (refine Calls.mono (CF.out _ (by repeat (first | assumption | apply ext_al | apply ext_dr))) ?_); rintro e w5 ⟨K4, B4, z4, s4, A7, n7, c7, A8, n8, c8, hu, rfl, x5⟩; (try dsimp only); have X5 : Ext w1 w5 := Ext.trans (by repeat (first | assumption | apply ext_al | apply ext_dr)) x5
      refine hKQ.out _ _ (by exact HS8.out _ (by repeat (first | assumption | with_reducible apply ext_al | with_reducible apply ext_dr))) (fun hHeld => ?_)
      clear hKQ KQ
      (try simp only [Act.put, List.setIfInBounds_toArray, List.set_cons_zero, List.set_cons_succ])
      refine wpAnyH_take (i := 5) (v := ?_) rfl (by kernel_rfl) (by kernel_rfl) (by kernel_rfl) (fun _ _ _ h => h) (Or.inl ⟨by rfl, ?_⟩) (by assumption) ?_
      rotate_left
      · intro w hSw
        (try dsimp only at hSw)
        go_simp
        (try with_reducible rfl)
      (try simp only [Act.put, List.setIfInBounds_toArray])
      refine wpAnyH_take (i := 6) (v := ?_) rfl (by kernel_rfl) (by kernel_rfl) (by kernel_rfl) (fun _ _ _ h => h) (Or.inl ⟨by rfl, ?_⟩) (by assumption) ?_
      rotate_left
      · intro w hSw
        (try dsimp only at hSw)
        go_simp
        (try with_reducible rfl)
      (try simp only [Act.put])
      refine wpAnyH_take (i := 7) (v := ?_) rfl (by kernel_rfl) (by kernel_rfl) (by kernel_rfl) (fun _ _ _ h => h) (Or.inl ⟨by rfl, ?_⟩) (by assumption) ?_
      rotate_left
      · intro w hSw
        (try dsimp only at hSw)
        go_simp
        (try with_reducible rfl)
      (try simp only [Act.put])
      refine wpAnyH_ready (rs := [9]) (by kernel_rfl) (by simp) ?_
      refine AllReadyH.cons rfl (fun KQ hKQ => ?_) AllReadyH.nil
      (refine step_storeV rfl _ _ rfl (VIn.ext (w := w1.alloc (.cells #[.int .i64 0, .bool false, .int .i64 0, .string ⟨#[]⟩, nilS, nilS] vT (0, 0))) (heap_new rfl) (by first | exact x5 | exact undrew2 x5)) (by rfl) (by rfl) ?_; intro w6 hv6 he6 _; have X6 : Ext w1 w6 := he6 _ (by repeat (first | assumption | apply ext_al | apply ext_dr)) (by first | exact Nat.le_refl _ | exact X5.size | (have h3 := X5.size; omega)))
      refine hKQ.out _ _ (by exact HS8.out _ (by repeat (first | assumption | with_reducible apply ext_al | with_reducible apply ext_dr))) (fun hHeld => ?_)
      clear hKQ KQ
      (try simp only [Act.put])
      refine wpAnyH_done (by kernel_rfl) ?_ _
      refine TailQ.normal ?_
      have HU := Lib.hid (And.intro hu.out.1 hu.out.2)
      have HX16 : Hid (Ext w1 w6) := X6
      obtain ⟨gb8, hgb⟩ : ∃ b, b = w1.heap.size := ⟨_, rfl⟩
      have HB6 : Hid (VIn w6 gb8 K4 B4 z4 s4 (.slice A7 n7 c7) (.slice A8 n8 c8)) := by unfold Hid; rw [hgb]; exact hv6
      go_upto_region 9 with (fail)
      rw [← hgb]
      have HX6 : Hid (Ext w w6) := HX1.out.trans HX16.out
      have HR6 : Hid (VIn w6 (g + 1) 0 false 0 ⟨#[]⟩ nilS nilS) := HVR.out.ext HX16.out
      have HSZ6 : Hid (g + 2 ≤ w6.heap.size) := by have h1 := HX16.out.size; have h2 := HGS.out; unfold Hid; omega
      obtain ⟨p0, p1, p2, p3, p4, p5⟩ := HB6.out.cells
      clear hgb hv6 X6
      clear hu
      cases hio : (getO (objO v) st).isSome with
      | false =>
        have HE : Hid (atJ v (st :: r) = none) := by
          have h1 : childJ v st = none := HCO.out.trans (by cases h : getO (objO v) st with | none => rfl | some y => rw [h] at hio; cases hio)
          unfold Hid
          rw [HAT.out, h1]
        clear hio
        obtain ⟨r0, r1, r2, r3, r4, r5⟩ := (HR6.out).cells
        have f0 := (HR6.out).free 0
        have f1 := (HR6.out).free 1
        have f2 := (HR6.out).free 2
        have f3 := (HR6.out).free 3
        have f4 := (HR6.out).free 4
        have f5 := (HR6.out).free 5
        go_wp2_with fail
        refine bodyPost_ret (results_v rfl _ _ (g + 1) rfl (put_in 0 false 0 ⟨#[]⟩ nilS nilS HR6.out)) rfl ?_
        (try rw [HE.out])
        exact ⟨put_ext 0 false 0 ⟨#[]⟩ nilS nilS HX6.out HGW2.out, _, _, _, _, _, _, _, _, _, _, rfl, .inr ⟨rfl, rfl⟩, fun h => by cases h⟩
      | true =>
        obtain ⟨y, hy⟩ := Option.isSome_iff_exists.1 hio
        have hcy : childJ v st = some y := HCO.out.trans hy
        have HE : Hid (atJ v (st :: r) = atJ y r) := by unfold Hid; rw [HAT.out, hcy]
        have hvy : valO (objO v) st = y := val_some hy
        have CAT1 : Hid (∀ W, Ext w6 W → Calls Tryz.prog 55 #[.agg #[.int .i64 K4, .bool B4, .int .i64 z4, .string s4, .slice A7 n7 c7, .slice A8 n8 c8], .slice A9 N (c - 1)] W (RAtPost G (atJ y r) W)) := fun W hW => CAT.out y G W _ _ _ _ _ _ _ _ _ _ (HX6.out.trans hW) (HG.out.2.1 W (Nat.le_trans HSZ6.out hW.size)) (by rw [← hvy]; exact RV.keep (fun _ _ _ => rfl) (fun b hb _ => HG3.out b hb) _ _ ((HU.out.2 hio) W (HX6.out.trans hW))) hcy
        have HS11 : Hid (∀ W, Ext w6 W → W.cell? ⟨gb8, 0, none⟩ = some (.int .i64 K4) ∧ W.cell? ⟨gb8, 1, none⟩ = some (.bool B4) ∧ W.cell? ⟨gb8, 2, none⟩ = some (.int .i64 z4) ∧ W.cell? ⟨gb8, 3, none⟩ = some (.string s4) ∧ W.cell? ⟨gb8, 4, none⟩ = some (.slice A7 n7 c7) ∧ W.cell? ⟨gb8, 5, none⟩ = some (.slice A8 n8 c8)) := fun W hW => (HB6.out.ext hW).cells
        clear hio hy hcy hvy
        have hxx : Ext w6 w6 := Below.refl _ _
        go_upto_region 11 with (fail)
        refine wp_region_split (fun w' => w'.cell? ⟨gb8, 0, none⟩ = some (.int .i64 K4) ∧ w'.cell? ⟨gb8, 1, none⟩ = some (.bool B4) ∧ w'.cell? ⟨gb8, 2, none⟩ = some (.int .i64 z4) ∧ w'.cell? ⟨gb8, 3, none⟩ = some (.string s4) ∧ w'.cell? ⟨gb8, 4, none⟩ = some (.slice A7 n7 c7) ∧ w'.cell? ⟨gb8, 5, none⟩ = some (.slice A8 n8 c8)) 6 (by kernel_rfl) (by kernel_rfl) (by exact HS11.out _ (by repeat (first | assumption | apply ext_al | apply ext_dr))) (fun hHeld => ?_)
        simp only [List.take_succ_cons, List.take_zero, List.drop_succ_cons, List.drop_zero]
        refine wpAnyH_take (i := 0) (v := ?_) rfl (by kernel_rfl) (by kernel_rfl) (by kernel_rfl) (fun _ _ _ h => h) (Or.inl ⟨by rfl, ?_⟩) (by assumption) ?_
        rotate_left
        · intro w hSw
          (try dsimp only at hSw)
          go_simp
          (try with_reducible rfl)
        (try simp only [Act.put, List.setIfInBounds_toArray])
        refine wpAnyH_take (i := 1) (v := ?_) rfl (by kernel_rfl) (by kernel_rfl) (by kernel_rfl) (fun _ _ _ h => h) (Or.inl ⟨by rfl, ?_⟩) (by assumption) ?_
        rotate_left
        · intro w hSw
          (try dsimp only at hSw)
          go_simp
          (try with_reducible rfl)
        (try simp only [Act.put])
        refine wpAnyH_take (i := 2) (v := ?_) rfl (by kernel_rfl) (by kernel_rfl) (by kernel_rfl) (fun _ _ _ h => h) (Or.inl ⟨by rfl, ?_⟩) (by assumption) ?_
        rotate_left
        · intro w hSw
          (try dsimp only at hSw)
          go_simp
          (try with_reducible rfl)
        (try simp only [Act.put])
        refine wpAnyH_ready (rs := [3]) (by kernel_rfl) (by simp) ?_
        refine AllReadyH.cons rfl (fun KQ hKQ => ?_) AllReadyH.nil
        go_simp; (refine Calls.mono (CAT1.out _ (by repeat (first | assumption | apply ext_al | apply ext_dr))) ?_); rintro e w8 ⟨x8, K9, B9, z9, s9, A9', n9, c9, A10, n10, c10, rfl, hz8⟩; (try dsimp only); have X8 : Ext w6 w8 := Below.trans (by repeat (first | assumption | apply ext_al | apply ext_dr)) x8
        refine hKQ.out _ _ (by exact HS11.out _ (by repeat (first | assumption | apply ext_al | apply ext_dr))) (fun hHeld => ?_)
        clear hKQ KQ
        (try simp only [Act.put, List.setIfInBounds_toArray, List.set_cons_zero, List.set_cons_succ])
        refine wpAnyH_take (i := 4) (v := ?_) rfl (by kernel_rfl) (by kernel_rfl) (by kernel_rfl) (fun _ _ _ h => h) (Or.inl ⟨by rfl, ?_⟩) (by assumption) ?_
        rotate_left
        · intro w hSw
          (try dsimp only at hSw)
          go_simp
          (try with_reducible rfl)
        (try simp only [Act.put, List.setIfInBounds_toArray])
        refine wpAnyH_take (i := 5) (v := ?_) rfl (by kernel_rfl) (by kernel_rfl) (by kernel_rfl) (fun _ _ _ h => h) (Or.inl ⟨by rfl, ?_⟩) (by assumption) ?_
        rotate_left
        · intro w hSw
          (try dsimp only at hSw)
          go_simp
          (try with_reducible rfl)
        (try simp only [Act.put])
        refine wpAnyH_done (by kernel_rfl) ?_ _
        refine TailQ.normal ?_
        have HX8 : Hid (Ext w w8) := (HX6.out).trans (show Ext w6 w8 by assumption)
        have HR8 : Hid (VIn w8 (g + 1) 0 false 0 ⟨#[]⟩ nilS nilS) := HR6.out.ext (show Ext w6 w8 by assumption)
        have HZ8 := Lib.hid hz8
        clear hz8
        obtain ⟨r0, r1, r2, r3, r4, r5⟩ := (HR8.out).cells
        have f0 := (HR8.out).free 0
        have f1 := (HR8.out).free 1
        have f2 := (HR8.out).free 2
        have f3 := (HR8.out).free 3
        have f4 := (HR8.out).free 4
        have f5 := (HR8.out).free 5
        go_wp2_with fail
        refine bodyPost_ret (results_v rfl _ _ (g + 1) rfl (put_in K9 B9 z9 s9 (.slice A9' n9 c9) (.slice A10 n10 c10) HR8.out)) rfl ?_
        (try rw [HE.out])
        exact ⟨put_ext K9 B9 z9 s9 (.slice A9' n9 c9) (.slice A10 n10 c10) HX8.out HGW2.out, _, _, _, _, _, _, _, _, _, _, rfl, RZ.keep HZ8.out.1 (fun b hb _ => put_heap _ K9 B9 z9 s9 (.slice A9' n9 c9) (.slice A10 n10 c10) b (HG.out.2.2 b hb).2) (fun b hb _ => (HG.out.2.2 b hb).1), fun h => RV.keep (fun b hb _ => put_heap _ K9 B9 z9 s9 (.slice A9' n9 c9) (.slice A10 n10 c10) b (HG.out.2.2 b hb).2) (fun b hb _ => (HG.out.2.2 b hb).1) _ _ (HZ8.out.2 h)⟩
    exact AllReadyH.nil
end Go.Proofs.YtahinicpceokcaaGreatDoor.Jm
