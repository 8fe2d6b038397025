/-
  The reference's put (printed by gen/rp5.py).
-/
import Derived.Test.YtahinicpceokcaaGreatDoorRp2
import Derived.Test.YtahinicpceokcaaGreatDoorRpe
namespace Go.Proofs.YtahinicpceokcaaGreatDoor.Jm
open Go Go.RowKit Go.Proofs.YtahinicpceokcaaGreatDoor.Sx Go.Proofs.YtahinicpceokcaaGreatDoor.Js Go.Proofs.YtahinicpceokcaaGreatDoor.Gr Go.Proofs.YtahinicpceokcaaGreatDoor.Ur
theorem rat_all : ∀ steps : List Tx, RAtC steps
  | [] => rat_nil
  | st :: r => rat_cons st r (rat_all r)
theorem at_one (v : J) (s : Tx) : atJ v [s] = childJ v s := by
  rw [atJ]
  cases childJ v s <;> rfl
theorem op_none {v : J} (h : isObj v = false) (h5 : kindJ v ≠ 5) (how : Nat) (x : J) (s : Tx) : opJ how x v s = none := by
  cases v with
  | list l => exact absurd rfl h5
  | obj ns l => cases h
  | null => rfl
  | bool b => rfl
  | num n => rfl
  | text t => rfl
theorem op_cut (x : J) (a : Ob) (s : Tx) : opJ 2 x (ofO a) s = if (getO a s).isSome = true then some (ofO (dropO a s)) else none := by
  unfold opJ ofO
  simp only
  rw [if_pos trivial]
theorem op_set {how : Nat} (h : how ≠ 2) (x : J) (a : Ob) (s : Tx) : opJ how x (ofO a) s = some (ofO (setO a s x)) := by
  unfold opJ ofO
  simp only
  rw [if_neg h]
/-- What put gives. -/
def RPutPost (F : Nat → Prop) (o : Option J) (w : World) (e : Ending) (w' : World) : Prop := Ext w w' ∧ ∃ K4 B4 z4 s4 A7 n7 c7 A8 n8 c8, (o = none ∧ e = .returned (.tuple #[.agg #[.int .i64 K4, .bool B4, .int .i64 z4, .string s4, .slice A7 n7 c7, .slice A8 n8 c8], .int .i64 7])) ∨ (∃ y, o = some y ∧ RV F w' y (v6 K4 B4 z4 s4 (.slice A7 n7 c7) (.slice A8 n8 c8)) ∧ e = .returned (.tuple #[.agg #[.int .i64 K4, .bool B4, .int .i64 z4, .string s4, .slice A7 n7 c7, .slice A8 n8 c8], .int .i64 0]))
def RPutC (steps : List Tx) : Prop := ∀ (F : Nat → Prop) (v x : J) (cs ds : List Value) (A : Option Addr) (c how : Nat) (w : World), (∀ b, w.heap.size ≤ b → F b) → RV F w v cs → RZ F w x ds → (how ≠ 2 → RV F w x ds) → (steps ≠ [] ∨ how ≠ 2) → how ≤ 2 → WJ v → bulkJ v ≤ 16000000 → NamesAt (fun _ => True) w A steps → steps.length ≤ c →
  Calls Tryz.prog 58 #[.agg cs.toArray, .slice A steps.length c, .int .i64 (how : Int), .agg ds.toArray] w (RPutPost F (putG how x v steps) w)
set_option maxRecDepth 100000 in
set_option maxHeartbeats 4000000 in
theorem rput_nil : RPutC [] := by
  intro F v x cs ds A c how w hF hv hx hx2 h0 hh hw hb hn hc
  have hrx := hx2 (h0.resolve_left fun h => h rfl)
  obtain ⟨K, B, z, s, A1, n1, c1, A2, n2, c2, rfl⟩ := RV.shape hv
  obtain ⟨K3, B3, z3, s3, A5, n5, c5, A6, n6, c6, rfl⟩ := RV.shape hrx
  have HRX := Lib.hid hrx
  obtain ⟨g, hg⟩ : ∃ g, g = w.heap.size := ⟨_, rfl⟩
  obtain ⟨w1, hw1⟩ : ∃ w1, w1 = ((w.alloc (.cells #[.int .i64 K, .bool B, .int .i64 z, .string s, .slice A1 n1 c1, .slice A2 n2 c2] vT (0, 0))).alloc (.cells #[.int .i64 K3, .bool B3, .int .i64 z3, .string s3, .slice A5 n5 c5, .slice A6 n6 c6] vT (0, 0))).alloc (.cells #[.int .i64 0, .bool false, .int .i64 0, .string ⟨#[]⟩, nilS, nilS] vT (0, 0)) := ⟨_, rfl⟩
  obtain ⟨x1, v1, u1, r1, s1⟩ := three_cells hg hw1
  have HX1 := Lib.hid x1
  have HUU : Hid (VIn w1 (g + 1) K3 B3 z3 s3 (.slice A5 n5 c5) (.slice A6 n6 c6)) := u1
  have HVR : Hid (VIn w1 (g + 2) 0 false 0 ⟨#[]⟩ nilS nilS) := r1
  have HGW2 : Hid (w.heap.size ≤ g + 2) := by rw [hg]; exact Nat.le_add_right _ _
  show Calls Tryz.prog 58 #[.agg (v6 K B z s (.slice A1 n1 c1) (.slice A2 n2 c2)).toArray, .slice A 0 c, .int .i64 (how : Int), .agg (v6 K3 B3 z3 s3 (.slice A5 n5 c5) (.slice A6 n6 c6)).toArray] w _
  unfold v6
  clear hv hx hx2 h0 hh hw hb hn hc hF hrx x1 v1 u1 r1 s1
  go_enter Tryz.func58, Tryz.ntmps58
  go_upto_region 1 with (fail)
  rw [← hw1, ← hg]
  clear hw1 hg
  obtain ⟨a0, a1, a2, a3, a4, a5⟩ := HUU.out.cells
  obtain ⟨r0, r1, r2, r3, r4, r5⟩ := (HVR.out).cells
  have f0 := (HVR.out).free 0
  have f1 := (HVR.out).free 1
  have f2 := (HVR.out).free 2
  have f3 := (HVR.out).free 3
  have f4 := (HVR.out).free 4
  have f5 := (HVR.out).free 5
  go_wp2_with fail
  refine bodyPost_ret (results_v rfl _ _ (g + 2) rfl (put_in K3 B3 z3 s3 (.slice A5 n5 c5) (.slice A6 n6 c6) HVR.out)) rfl ?_
  have hx := put_ext K3 B3 z3 s3 (.slice A5 n5 c5) (.slice A6 n6 c6) HX1.out HGW2.out
  exact ⟨hx, _, _, _, _, _, _, _, _, _, _, .inr ⟨x, by rw [putG], HRX.out.ext hx, rfl⟩⟩
set_option maxRecDepth 100000 in
set_option maxHeartbeats 32000000 in
theorem rput_cons (st : Tx) (r : List Tx) (ih : r ≠ [] → RPutC r) : RPutC (st :: r) := by
  intro F v x cs ds A c how w hF hv hx hx2 _ hh hw hb hn hc
  obtain ⟨K, B, z, s, A1, n1, c1, A2, n2, c2, rfl⟩ := RV.shape hv
  obtain ⟨K3, B3, z3, s3, A5, n5, c5, A6, n6, c6, rfl, -⟩ := hx.shape
  obtain ⟨gs, off, rfl, -, -⟩ := hn 0 (by simp)
  obtain ⟨A9, ht, hn9, hc9⟩ := names_tail hn (by simpa using hc)
  obtain ⟨A0, ht0, hn0, hc0⟩ := names_head hn (by simpa using hc)
  have hca0 : w.cell? ⟨gs, off, none⟩ = some (.string (bx st)) := by
    obtain ⟨g', off', e, -, h⟩ := hn 0 (by simp)
    injection e with e
    injection e with e1 e2
    subst e1 e2
    exact h
  obtain ⟨N, hN⟩ : ∃ N, N = r.length := ⟨_, rfl⟩
  rw [← hN] at ht ht0
  have HCA : Hid (∀ W, Ext w W → W.cell? ⟨gs, off, none⟩ = some (.string (bx st))) := fun W hW => (cell_keep (hW.block gs (cell_lt hca0))).trans hca0
  have HK := Lib.hid (RV_kind hv)
  have HPU : Hid (N = 0 ∧ putG how x v (st :: r) = opJ how x v st ∨ 0 < N ∧ putG how x v (st :: r) = match childJ v st with | none => none | some u => match putG how x u r with | none => none | some y => opJ 0 y v st) := by
    unfold Hid
    cases r with
    | nil => exact .inl ⟨hN, putG_one ..⟩
    | cons t r => exact .inr ⟨by rw [hN]; exact Nat.succ_pos _, putG_more how x v st (by simp)⟩
  obtain ⟨g, hg⟩ : ∃ g, g = w.heap.size := ⟨_, rfl⟩
  obtain ⟨w1, hw1⟩ : ∃ w1, w1 = ((w.alloc (.cells #[.int .i64 K, .bool B, .int .i64 z, .string s, .slice A1 n1 c1, .slice A2 n2 c2] vT (0, 0))).alloc (.cells #[.int .i64 K3, .bool B3, .int .i64 z3, .string s3, .slice A5 n5 c5, .slice A6 n6 c6] vT (0, 0))).alloc (.cells #[.int .i64 0, .bool false, .int .i64 0, .string ⟨#[]⟩, nilS, nilS] vT (0, 0)) := ⟨_, rfl⟩
  obtain ⟨x1, v1, u1, r1, s1⟩ := three_cells hg hw1
  have HX1 := Lib.hid x1
  have HVV : Hid (VIn w1 g K B z s (.slice A1 n1 c1) (.slice A2 n2 c2)) := v1
  have HUU : Hid (VIn w1 (g + 1) K3 B3 z3 s3 (.slice A5 n5 c5) (.slice A6 n6 c6)) := u1
  have HVR : Hid (VIn w1 (g + 2) 0 false 0 ⟨#[]⟩ nilS nilS) := r1
  have HGS := Lib.hid s1
  have HGW : Hid (w.heap.size = g) := hg.symm
  have HGW2 : Hid (w.heap.size ≤ g + 2) := by rw [hg]; exact Nat.le_add_right _ _
  have HF := Lib.hid hF
  have HV := Lib.hid hv
  have HWB : Hid (WJ v ∧ bulkJ v ≤ 16000000) := ⟨hw, hb⟩
  have HXX : Hid (how ≠ 2 → ∀ W, Ext w W → RV (NF g 3 F) W x (v6 K3 B3 z3 s3 (.slice A5 n5 c5) (.slice A6 n6 c6))) := fun h W hW => nf_old' (hx2 h) (Nat.le_of_eq HGW.out) hW
  have CAT : Hid (∀ W, Ext w1 W → Calls Tryz.prog 55 #[.agg #[.int .i64 K, .bool B, .int .i64 z, .string s, .slice A1 n1 c1, .slice A2 n2 c2], .slice A0 1 c] W fun e w' => ∃ K4 B4 z4 s4 A7 n7 c7 A8 n8 c8, e = .returned (.tuple #[.agg #[.int .i64 K4, .bool B4, .int .i64 z4, .string s4, .slice A7 n7 c7, .slice A8 n8 c8], .bool (childJ v st).isSome]) ∧ Ext W w' ∧ ∀ k, (g ≤ k ∧ k < W.heap.size) ∨ w'.heap.size ≤ k → ∀ u, childJ v st = some u → RV (fun b => NF g 3 F b ∧ b ≠ k) w' u (v6 K4 B4 z4 s4 (.slice A7 n7 c7) (.slice A8 n8 c8))) := fun W hW => by
    have hs := hW.size
    have h := rat_all [st] (fun b => NF g 3 F b ∧ (b < g ∨ W.heap.size ≤ b)) v _ A0 c W (fun b hb => ⟨⟨hF b (by have := HX1.out.size; omega), .inr (by omega)⟩, .inr hb⟩) (RV.keep (fun b _ hb => (HX1.out.trans hW).block b hb) (fun b h1 h2 => ⟨⟨h1, .inl (by omega)⟩, .inl (by omega)⟩) _ _ hv) hw hb (hn0.ext (HX1.out.trans hW)) hc0
    rw [at_one] at h
    refine h.mono fun e w' ⟨h1, K4, B4, z4, s4, A7, n7, c7, A8, n8, c8, h2, h3, h4⟩ => ⟨K4, B4, z4, s4, A7, n7, c7, A8, n8, c8, h2, h1, fun k hk u hu => ?_⟩
    have h5 := h4 (by rw [hu]; rfl)
    rw [hu] at h5
    exact RV.keep (fun _ _ _ => rfl) (fun b hb hlt => ⟨hb.1, by have := hb.2; omega⟩) _ _ h5
  have CPUT : Hid (0 < N → ∀ (gb : Nat) (u : J) (W : World) K4 B4 z4 s4 A7 n7 c7 A8 n8 c8, Ext w1 W → g ≤ gb → gb < W.heap.size → RV (fun b => NF g 3 F b ∧ b ≠ gb) W u (v6 K4 B4 z4 s4 (.slice A7 n7 c7) (.slice A8 n8 c8)) → childJ v st = some u → Calls Tryz.prog 58 #[.agg #[.int .i64 K4, .bool B4, .int .i64 z4, .string s4, .slice A7 n7 c7, .slice A8 n8 c8], .slice A9 N (c - 1), .int .i64 (how : Int), .agg #[.int .i64 K3, .bool B3, .int .i64 z3, .string s3, .slice A5 n5 c5, .slice A6 n6 c6]] W (RPutPost (fun b => NF g 3 F b ∧ b ≠ gb) (putG how x u r) W)) := fun h0 gb u W K4 B4 z4 s4 A7 n7 c7 A8 n8 c8 hW hgg hgb hu hch => by
    have hs := hW.size
    have hr0 : r ≠ [] := fun e => by rw [e] at hN; simp at hN; omega
    have hb2 := child_bulk hch
    have hgw := HGW.out
    rw [hN]
    refine ih hr0 (fun b => NF g 3 F b ∧ b ≠ gb) u x _ _ A9 (c - 1) how W (fun b hb => ⟨⟨hF b (by have := HX1.out.size; omega), .inr (by omega)⟩, by omega⟩) hu ?_ ?_ (.inl hr0) hh (child_wj hw hch) (by omega) (hn9.ext (HX1.out.trans hW)) hc9
    · exact hx.keep (fun b _ hb => (HX1.out.trans hW).block b hb) (fun b h1 h2 => ⟨⟨h1, .inl (by omega)⟩, by omega⟩)
    · exact fun h2 => RV.keep (fun b _ hb => (HX1.out.trans hW).block b hb) (fun b h1 h2 => ⟨⟨h1, .inl (by omega)⟩, by omega⟩) _ _ (hx2 h2)
  have HS5 : Hid (∀ W, Ext w1 W → W.cell? ⟨g, 0, none⟩ = some (.int .i64 K) ∧ W.cell? ⟨g, 1, none⟩ = some (.bool B) ∧ W.cell? ⟨g, 2, none⟩ = some (.int .i64 z) ∧ W.cell? ⟨g, 3, none⟩ = some (.string s) ∧ W.cell? ⟨g, 4, none⟩ = some (.slice A1 n1 c1) ∧ W.cell? ⟨g, 5, none⟩ = some (.slice A2 n2 c2)) := fun W hW => (HVV.out.ext hW).cells
  show Calls Tryz.prog 58 #[.agg (v6 K B z s (.slice A1 n1 c1) (.slice A2 n2 c2)).toArray, .slice (some ⟨gs, off, none⟩) (r.length + 1) c, .int .i64 (how : Int), .agg (v6 K3 B3 z3 s3 (.slice A5 n5 c5) (.slice A6 n6 c6)).toArray] w _
  rw [← hN]
  unfold v6
  obtain ⟨sx, hsx⟩ : ∃ x, x = bx st := ⟨_, rfl⟩
  have HSX := Lib.hid hsx
  rw [← hsx] at HCA
  have hN0 : ¬ (N + 1 = 0) := by omega
  have hcc : N + 1 ≤ c := by simp at hc; omega
  have HH := Lib.hid hh
  clear hv hx hx2 hn hc hF x1 v1 u1 r1 s1 hca0 hn9 hc9 hn0 hc0 hN hsx ih hw hb hh
  go_enter Tryz.func58, Tryz.ntmps58
  go_upto_region 1 with (fail)
  rw [← hw1, ← hg, show g + 1 + 1 = g + 2 from rfl]
  clear hw1 hg
  have ca := HCA.out w1 HX1.out
  go_upto_region 3 with (fail)
  go_quiet (fail)
  generalize hW2 : World.drewN w1 _ = w2
  have hx12 : Ext w1 w2 := by rw [← hW2]; exact ext_drewN' _ _
  have HX12 := Lib.hid hx12
  clear hW2 ca
  go_upto_if 31 with (fail)
  go_cut [2] (fun hw wx => ∃ (how2 : Nat) (x2 : J), ∃ K4 B4 z4 s4 A7 n7 c7 A8 n8 c8, hw = .int .i64 (how2 : Int) ∧ how2 ≤ 2 ∧ Hid (Ext w wx ∧ g + 3 ≤ wx.heap.size ∧ VIn wx g K B z s (.slice A1 n1 c1) (.slice A2 n2 c2) ∧ VIn wx (g + 1) K4 B4 z4 s4 (.slice A7 n7 c7) (.slice A8 n8 c8) ∧ VIn wx (g + 2) 0 false 0 ⟨#[]⟩ nilS nilS ∧ (how2 ≠ 2 → RV (NF g 3 F) wx x2 (v6 K4 B4 z4 s4 (.slice A7 n7 c7) (.slice A8 n8 c8))) ∧ putG how x v (st :: r) = opJ how2 x2 v st))
  case first =>
    rcases HPU.out with ⟨h0, hp⟩ | ⟨h0, hp⟩
    · have HP := Lib.hid hp
      subst h0
      clear hp
      go_wp2_with fail
      go_meet
      case rel => exact ⟨how, x, K3, B3, z3, s3, A5, n5, c5, A6, n6, c6, rfl, HH.out, HX1.out.trans HX12.out, (by have h1 := HGS.out; have h2 := HX12.out.size; omega), HVV.out.ext HX12.out, HUU.out.ext HX12.out, HVR.out.ext HX12.out, fun h => HXX.out h _ (HX1.out.trans HX12.out), HP.out⟩
    · have HP := Lib.hid hp
      have H0 := Lib.hid h0
      have h0I : (0 : Int) < (N : Int) := by omega
      clear hp
      go_upto_region 5 with (fail)
      go_cut [12, 13] (fun pb is wx => ∃ gb : Nat, ∃ K4 B4 z4 s4 A7 n7 c7 A8 n8 c8, pb = .pointer (some ⟨gb, 0, none⟩) ∧ is = .bool (childJ v st).isSome ∧ Hid (Ext w1 wx ∧ g + 3 ≤ gb ∧ VIn wx gb K4 B4 z4 s4 (.slice A7 n7 c7) (.slice A8 n8 c8) ∧ ∀ u, childJ v st = some u → RV (fun b => NF g 3 F b ∧ b ≠ gb) wx u (v6 K4 B4 z4 s4 (.slice A7 n7 c7) (.slice A8 n8 c8))))
      case first =>
        refine wp_region_split (fun w' => w'.cell? ⟨g, 0, none⟩ = some (.int .i64 K) ∧ w'.cell? ⟨g, 1, none⟩ = some (.bool B) ∧ w'.cell? ⟨g, 2, none⟩ = some (.int .i64 z) ∧ w'.cell? ⟨g, 3, none⟩ = some (.string s) ∧ w'.cell? ⟨g, 4, none⟩ = some (.slice A1 n1 c1) ∧ w'.cell? ⟨g, 5, none⟩ = some (.slice A2 n2 c2)) 9 (by kernel_rfl) (by kernel_rfl) (by exact HS5.out _ (by repeat (first | assumption | with_reducible apply ext_al | with_reducible apply ext_dr))) (fun hHeld => ?_)
        simp only [List.take_succ_cons, List.take_zero, List.drop_succ_cons, List.drop_zero]
        refine wpAnyH_take (i := 0) (v := ?_) rfl (by kernel_rfl) (by kernel_rfl) (by kernel_rfl) (fun _ _ _ h => h) (Or.inl ⟨by rfl, ?_⟩) (by assumption) ?_
        rotate_left
        · intro w hSw
          (try dsimp only at hSw)
          go_simp
          (try with_reducible rfl)
        (try simp only [Act.put, List.setIfInBounds_toArray])
        refine wpAnyH_take (i := 1) (v := ?_) rfl (by kernel_rfl) (by kernel_rfl) (by kernel_rfl) (fun _ _ _ h => h) (Or.inl ⟨by rfl, ?_⟩) (by assumption) ?_
        rotate_left
        · intro w hSw
          (try dsimp only at hSw)
          go_simp
          (try with_reducible rfl)
        (try simp only [Act.put])
        refine wpAnyH_take (i := 2) (v := ?_) rfl (by kernel_rfl) (by kernel_rfl) (by kernel_rfl) (fun _ _ _ h => h) (Or.inl ⟨by rfl, ?_⟩) (by assumption) ?_
        rotate_left
        · intro w hSw
          (try dsimp only at hSw)
          go_simp
          (try with_reducible rfl)
        (try simp only [Act.put])
        refine wpAnyH_ready (rs := [3, 7]) (by kernel_rfl) (by simp) ?_
        refine AllReadyH.cons rfl (fun KQ hKQ => ?_) ?_
        · skip
          go_simp; (refine Calls.mono (CAT.out _ (by repeat (first | assumption | with_reducible apply ext_al | with_reducible apply ext_dr))) ?_); rintro e w5 ⟨K4, B4, z4, s4, A7, n7, c7, A8, n8, c8, rfl, x5, hu5⟩; (try dsimp only); have X5 : Ext w1 w5 := Ext.trans (by repeat (first | assumption | with_reducible apply ext_al | with_reducible apply ext_dr)) x5
          refine hKQ.out _ _ (by exact HS5.out _ (by repeat (first | assumption | with_reducible apply ext_al | with_reducible apply ext_dr))) (fun hHeld => ?_)
          clear hKQ KQ
          (try simp only [Act.put, List.setIfInBounds_toArray, List.set_cons_zero, List.set_cons_succ])
          refine wpAnyH_take (i := 4) (v := ?_) rfl (by kernel_rfl) (by kernel_rfl) (by kernel_rfl) (fun _ _ _ h => h) (Or.inl ⟨by rfl, ?_⟩) (by assumption) ?_
          rotate_left
          · intro w hSw
            (try dsimp only at hSw)
            go_simp
            (try with_reducible rfl)
          (try simp only [Act.put, List.setIfInBounds_toArray])
          refine wpAnyH_take (i := 5) (v := ?_) rfl (by kernel_rfl) (by kernel_rfl) (by kernel_rfl) (fun _ _ _ h => h) (Or.inl ⟨by rfl, ?_⟩) (by assumption) ?_
          rotate_left
          · intro w hSw
            (try dsimp only at hSw)
            go_simp
            (try with_reducible rfl)
          (try simp only [Act.put])
          refine wpAnyH_take (i := 6) (v := ?_) rfl (by kernel_rfl) (by kernel_rfl) (by kernel_rfl) (fun _ _ _ h => h) (Or.inl ⟨by rfl, ?_⟩) (by assumption) ?_
          rotate_left
          · intro w hSw
            (try dsimp only at hSw)
            go_simp
            (try with_reducible rfl)
          (try simp only [Act.put])
          refine wpAnyH_ready (rs := [7]) (by kernel_rfl) (by simp) ?_
          refine AllReadyH.cons rfl (fun KQ hKQ => ?_) AllReadyH.nil
          go_simp
          refine hKQ.out _ _ (by exact HS5.out _ (by repeat (first | assumption | with_reducible apply ext_al | with_reducible apply ext_dr))) (fun hHeld => ?_)
          clear hKQ KQ
          (try simp only [Act.put, List.setIfInBounds_toArray, List.set_cons_zero, List.set_cons_succ])
          refine wpAnyH_ready (rs := [8]) (by kernel_rfl) (by simp) ?_
          refine AllReadyH.cons rfl (fun KQ hKQ => ?_) AllReadyH.nil
          (refine step_storeV rfl _ _ rfl (heap_new rfl) (by rfl) (by rfl) ?_; intro w6 hv6 he6 hk6; have X6 : Ext w1 w6 := he6 _ (by repeat (first | assumption | with_reducible apply ext_al | with_reducible apply ext_dr)) (by have h1 := HX12.out.size; first | omega | (have h3 := X5.size; omega)))
          refine hKQ.out _ _ (by exact HS5.out _ (by repeat (first | assumption | with_reducible apply ext_al | with_reducible apply ext_dr))) (fun hHeld => ?_)
          clear hKQ KQ
          (try simp only [Act.put, List.setIfInBounds_toArray])
          refine wpAnyH_done (by kernel_rfl) ?_ _
          refine TailQ.normal ?_
          go_wp2_with fail
          go_meet
          case rel => exact ⟨w5.heap.size, K4, B4, z4, s4, A7, n7, c7, A8, n8, c8, rfl, rfl, X6, (by have h1 := HGS.out; have h2 := X5.size; have h3 := HX12.out.size; omega), hv6, fun u hu => RV.keep (fun b hb hlt => (hk6 b (Nat.ne_of_lt hlt)).trans ((new_ext _ _).block b hlt)) (fun _ h _ => h) _ _ (hu5 _ (.inr (Nat.le_refl _)) u hu)⟩
        refine AllReadyH.cons rfl (fun KQ hKQ => ?_) ?_
        · skip
          go_simp
          refine hKQ.out _ _ (by exact HS5.out _ (by repeat (first | assumption | with_reducible apply ext_al | with_reducible apply ext_dr))) (fun hHeld => ?_)
          clear hKQ KQ
          (try simp only [Act.put, List.setIfInBounds_toArray, List.set_cons_zero, List.set_cons_succ])
          refine wpAnyH_ready (rs := [3]) (by kernel_rfl) (by simp) ?_
          refine AllReadyH.cons rfl (fun KQ hKQ => ?_) AllReadyH.nil
          go_simp; (refine Calls.mono (CAT.out _ (by repeat (first | assumption | with_reducible apply ext_al | with_reducible apply ext_dr))) ?_); rintro e w5 ⟨K4, B4, z4, s4, A7, n7, c7, A8, n8, c8, rfl, x5, hu5⟩; (try dsimp only); have X5 : Ext w1 w5 := Ext.trans (by repeat (first | assumption | with_reducible apply ext_al | with_reducible apply ext_dr)) x5
          refine hKQ.out _ _ (by exact HS5.out _ (by repeat (first | assumption | with_reducible apply ext_al | with_reducible apply ext_dr))) (fun hHeld => ?_)
          clear hKQ KQ
          (try simp only [Act.put, List.setIfInBounds_toArray, List.set_cons_zero, List.set_cons_succ])
          refine wpAnyH_take (i := 4) (v := ?_) rfl (by kernel_rfl) (by kernel_rfl) (by kernel_rfl) (fun _ _ _ h => h) (Or.inl ⟨by rfl, ?_⟩) (by assumption) ?_
          rotate_left
          · intro w hSw
            (try dsimp only at hSw)
            go_simp
            (try with_reducible rfl)
          (try simp only [Act.put, List.setIfInBounds_toArray])
          refine wpAnyH_take (i := 5) (v := ?_) rfl (by kernel_rfl) (by kernel_rfl) (by kernel_rfl) (fun _ _ _ h => h) (Or.inl ⟨by rfl, ?_⟩) (by assumption) ?_
          rotate_left
          · intro w hSw
            (try dsimp only at hSw)
            go_simp
            (try with_reducible rfl)
          (try simp only [Act.put])
          refine wpAnyH_take (i := 6) (v := ?_) rfl (by kernel_rfl) (by kernel_rfl) (by kernel_rfl) (fun _ _ _ h => h) (Or.inl ⟨by rfl, ?_⟩) (by assumption) ?_
          rotate_left
          · intro w hSw
            (try dsimp only at hSw)
            go_simp
            (try with_reducible rfl)
          (try simp only [Act.put])
          refine wpAnyH_ready (rs := [8]) (by kernel_rfl) (by simp) ?_
          refine AllReadyH.cons rfl (fun KQ hKQ => ?_) AllReadyH.nil
          (refine step_storeV rfl _ _ rfl (VIn.ext (w := w2.alloc (.cells #[.int .i64 0, .bool false, .int .i64 0, .string ⟨#[]⟩, nilS, nilS] vT (0, 0))) (heap_new rfl) (by first | exact x5 | exact undrew2 x5)) (by rfl) (by rfl) ?_; intro w6 hv6 he6 hk6; have X6 : Ext w1 w6 := he6 _ (by repeat (first | assumption | with_reducible apply ext_al | with_reducible apply ext_dr)) (by have h1 := HX12.out.size; first | omega | (have h3 := X5.size; omega)))
          refine hKQ.out _ _ (by exact HS5.out _ (by repeat (first | assumption | with_reducible apply ext_al | with_reducible apply ext_dr))) (fun hHeld => ?_)
          clear hKQ KQ
          (try simp only [Act.put])
          refine wpAnyH_done (by kernel_rfl) ?_ _
          refine TailQ.normal ?_
          go_wp2_with fail
          go_meet
          case rel => exact ⟨w2.heap.size, K4, B4, z4, s4, A7, n7, c7, A8, n8, c8, rfl, rfl, X6, (by have h1 := HGS.out; have h2 := X5.size; have h3 := HX12.out.size; omega), hv6, fun u hu => RV.keep (fun b hb hlt => hk6 b hb.2) (fun _ h _ => h) _ _ (hu5 _ (.inl ⟨by have h1 := HGS.out; have h3 := HX12.out.size; omega, by show _ < (Array.push _ _).size; rw [Array.size_push]; omega⟩) u hu)⟩
        exact AllReadyH.nil
      case rest =>
        obtain ⟨gb, K4, B4, z4, s4, A7, n7, c7, A8, n8, c8, rfl, rfl, H5⟩ := hcut
        have HRc := Lib.hid (HVR.out.ext H5.out.1)
        have HXc := Lib.hid (HX1.out.trans H5.out.1)
        clear ht ht0 hx12 h0I
        cases hio : (childJ v st).isSome with
        | false =>
          have HE : Hid (putG how x v (st :: r) = none) := by
            unfold Hid
            rw [HP.out]
            cases hch : childJ v st with
            | none => rfl
            | some u => rw [hch] at hio; cases hio
          clear hio
          obtain ⟨r0, r1, r2, r3, r4, r5⟩ := (HRc.out).cells
          have f0 := (HRc.out).free 0
          have f1 := (HRc.out).free 1
          have f2 := (HRc.out).free 2
          have f3 := (HRc.out).free 3
          have f4 := (HRc.out).free 4
          have f5 := (HRc.out).free 5
          go_wp2_with fail
          refine bodyPost_ret (results_v rfl _ _ (g + 2) rfl (put_in 0 false 0 ⟨#[]⟩ nilS nilS (HRc.out))) rfl ?_
          exact ⟨put_ext 0 false 0 ⟨#[]⟩ nilS nilS (HXc.out) HGW2.out, _, _, _, _, _, _, _, _, _, _, .inl ⟨HE.out, rfl⟩⟩
        | true =>
          obtain ⟨u, hu⟩ := Option.isSome_iff_exists.1 hio
          have HU := Lib.hid hu
          have HPX : Hid (putG how x v (st :: r) = match putG how x u r with | none => none | some y => opJ 0 y v st) := by unfold Hid; rw [HP.out, hu]
          have HGB : Hid (gb < wc.heap.size) := H5.out.2.2.1.lt
          have C := Lib.hid (CPUT.out H0.out gb u wc K4 B4 z4 s4 A7 n7 c7 A8 n8 c8 H5.out.1 (by have := H5.out.2.1; omega) HGB.out (H5.out.2.2.2 u hu) hu)
          have HUc := Lib.hid (HUU.out.ext H5.out.1)
          have HVc := Lib.hid (HVV.out.ext H5.out.1)
          obtain ⟨p0, p1, p2, p3, p4, p5⟩ := H5.out.2.2.1.cells
          obtain ⟨q0, q1, q2, q3, q4, q5⟩ := HUc.out.cells
          clear hu hio
          go_wp2_with fail
          refine Calls.mono C.out ?_
          rintro e w8 ⟨x8, K9, B9, z9, s9, A9', n9, c9, A10, n10, c10, hres⟩
          have X8 := Lib.hid x8
          have HB8 := Lib.hid (H5.out.2.2.1.ext X8.out)
          clear p0 p1 p2 p3 p4 p5 q0 q1 q2 q3 q4 q5 x8
          rcases hres with ⟨hno, rfl⟩ | ⟨y, hy, hrv, rfl⟩
          · have HE : Hid (putG how x v (st :: r) = none) := by unfold Hid; rw [HPX.out, hno]
            clear hno
            obtain ⟨t0, t1, t2, t3, t4, t5⟩ := (HB8.out).cells
            have k0 := (HB8.out).free 0
            have k1 := (HB8.out).free 1
            have k2 := (HB8.out).free 2
            have k3 := (HB8.out).free 3
            have k4 := (HB8.out).free 4
            have k5 := (HB8.out).free 5
            go_upto_region 9 with (fail)
            generalize hW : World.setCell _ _ _ = w9
            have HX9 : Hid (Ext w w9) := by unfold Hid; rw [← hW]; exact put_ext K9 B9 z9 s9 (.slice A9' n9 c9) (.slice A10 n10 c10) (HXc.out.trans X8.out) (by have h1 := HGW.out; have h2 := H5.out.2.1; omega)
            have HR9 : Hid (VIn w9 (g + 2) 0 false 0 ⟨#[]⟩ nilS nilS) := by unfold Hid; rw [← hW]; exact (put_heap _ K9 B9 z9 s9 (.slice A9' n9 c9) (.slice A10 n10 c10) _ (by have h2 := H5.out.2.1; omega)).trans (HRc.out.ext X8.out)
            clear hW t0 t1 t2 t3 t4 t5 k0 k1 k2 k3 k4 k5
            obtain ⟨r0, r1, r2, r3, r4, r5⟩ := (HR9.out).cells
            have f0 := (HR9.out).free 0
            have f1 := (HR9.out).free 1
            have f2 := (HR9.out).free 2
            have f3 := (HR9.out).free 3
            have f4 := (HR9.out).free 4
            have f5 := (HR9.out).free 5
            go_wp2_with fail
            refine bodyPost_ret (results_v rfl _ _ (g + 2) rfl (put_in 0 false 0 ⟨#[]⟩ nilS nilS (HR9.out))) rfl ?_
            exact ⟨put_ext 0 false 0 ⟨#[]⟩ nilS nilS (HX9.out) HGW2.out, _, _, _, _, _, _, _, _, _, _, .inl ⟨HE.out, rfl⟩⟩
          · have HE : Hid (putG how x v (st :: r) = opJ 0 y v st) := by unfold Hid; rw [HPX.out, hy]
            have HRV := Lib.hid hrv
            clear hy hrv
            obtain ⟨t0, t1, t2, t3, t4, t5⟩ := (HB8.out).cells
            have k0 := (HB8.out).free 0
            have k1 := (HB8.out).free 1
            have k2 := (HB8.out).free 2
            have k3 := (HB8.out).free 3
            have k4 := (HB8.out).free 4
            have k5 := (HB8.out).free 5
            go_upto_region 9 with (fail)
            generalize hW : World.setCell _ _ _ = w9
            have hk9 : ∀ b, b ≠ gb → w9.heap[b]? = w8.heap[b]? := fun b hb => by rw [← hW]; exact put_heap _ K9 B9 z9 s9 (.slice A9' n9 c9) (.slice A10 n10 c10) _ hb
            have hgb := H5.out.2.1
            have HX9 : Hid (Ext w w9) := by unfold Hid; rw [← hW]; exact put_ext K9 B9 z9 s9 (.slice A9' n9 c9) (.slice A10 n10 c10) (HXc.out.trans X8.out) (by have h1 := HGW.out; omega)
            have HR9 : Hid (VIn w9 (g + 2) 0 false 0 ⟨#[]⟩ nilS nilS) := (hk9 _ (by omega)).trans (HRc.out.ext X8.out)
            have HU9 : Hid (VIn w9 (g + 1) K3 B3 z3 s3 (.slice A5 n5 c5) (.slice A6 n6 c6)) := (hk9 _ (by omega)).trans (HUc.out.ext X8.out)
            have HV9 : Hid (VIn w9 g K B z s (.slice A1 n1 c1) (.slice A2 n2 c2)) := (hk9 _ (by omega)).trans (HVc.out.ext X8.out)
            have HB9 : Hid (VIn w9 gb K9 B9 z9 s9 (.slice A9' n9 c9) (.slice A10 n10 c10)) := by unfold Hid; rw [← hW]; exact put_in K9 B9 z9 s9 (.slice A9' n9 c9) (.slice A10 n10 c10) HB8.out
            have HRV9 : Hid (RV (NF g 3 F) w9 y (v6 K9 B9 z9 s9 (.slice A9' n9 c9) (.slice A10 n10 c10))) := RV.keep (fun b hb _ => hk9 b hb.2) (fun b hb _ => hb.1) _ _ HRV.out
            have HS9 : Hid (g + 3 ≤ w9.heap.size) := by have h1 := HB9.out.lt; unfold Hid; omega
            clear hW t0 t1 t2 t3 t4 t5 k0 k1 k2 k3 k4 k5 hk9 hgb
            obtain ⟨p0, p1, p2, p3, p4, p5⟩ := HB9.out.cells
            obtain ⟨t0, t1, t2, t3, t4, t5⟩ := (HU9.out).cells
            have k0 := (HU9.out).free 0
            have k1 := (HU9.out).free 1
            have k2 := (HU9.out).free 2
            have k3 := (HU9.out).free 3
            have k4 := (HU9.out).free 4
            have k5 := (HU9.out).free 5
            go_wp2_with fail
            go_meet
            case rel => exact ⟨0, y, K9, B9, z9, s9, A9', n9, c9, A10, n10, c10, rfl, (by omega), put_ext K9 B9 z9 s9 (.slice A9' n9 c9) (.slice A10 n10 c10) HX9.out (by have h1 := HGW.out; omega), (Nat.le_trans HS9.out (Nat.le_of_eq (put_size w9 (g + 1) K9 B9 z9 s9 (.slice A9' n9 c9) (.slice A10 n10 c10)).symm)), (put_heap _ K9 B9 z9 s9 (.slice A9' n9 c9) (.slice A10 n10 c10) _ (by omega)).trans HV9.out, put_in K9 B9 z9 s9 (.slice A9' n9 c9) (.slice A10 n10 c10) HU9.out, (put_heap _ K9 B9 z9 s9 (.slice A9' n9 c9) (.slice A10 n10 c10) _ (by omega)).trans HR9.out, fun _ => RV.keep (fun b hb _ => put_heap _ K9 B9 z9 s9 (.slice A9' n9 c9) (.slice A10 n10 c10) b (fun e => by have := hb.2; omega)) (fun _ h _ => h) _ _ HRV9.out, HE.out⟩
  case rest =>
    obtain ⟨how2, x2, K4, B4, z4, s4, A7, n7, c7, A8, n8, c8, rfl, hh2, hcut⟩ := hcut
    have HC := Lib.hid hcut
    have HXW := Lib.hid HC.out.1
    have HZ := Lib.hid HC.out.2.2.2.2.1
    have HVW := Lib.hid HC.out.2.2.1
    have HXB := Lib.hid HC.out.2.2.2.1
    have HSW := Lib.hid HC.out.2.1
    have HRX := Lib.hid HC.out.2.2.2.2.2.1
    have HEQ := Lib.hid HC.out.2.2.2.2.2.2
    have HH2 := Lib.hid hh2
    have hcc2 : Ext wc wc := Below.refl _ _
    have HNW : Hid (∀ W, Ext wc W → ∀ b, W.heap.size ≤ b → NF g 3 F b) := fun W hW b hb => ⟨HF.out b (by have h1 := HGW.out; have h2 := HSW.out; have h3 := hW.size; omega), .inr (by have h2 := HSW.out; have h3 := hW.size; omega)⟩
    clear hcut hh2 ht ht0 hx12 hN0 hcc HH HPU HUU HVR HVV HX12 CAT CPUT HS5 HXX HCA HC
    obtain ⟨a0, a1, a2, a3, a4, a5⟩ := HVW.out.cells
    cases hob : isObj v with
    | true =>
      obtain ⟨a, rfl⟩ : ∃ a, v = ofO a := ⟨_, obj_of hob⟩
      obtain ⟨VA, vc, VB, vd, e, hvo⟩ := RV_obj.1 HV.out
      unfold v6 at e
      simp only [List.cons.injEq, Value.slice.injEq, Value.int.injEq, Value.bool.injEq, Value.string.injEq, and_true, true_and] at e
      obtain ⟨rfl, rfl, rfl, rfl, ⟨rfl, rfl, rfl⟩, rfl, rfl, rfl⟩ := e
      have HO : Hid (∀ W, Ext wc W → RO (NF g 3 F) W A1 c1 A2 c2 a) := fun W hW => nf_ro (show RO F w A1 c1 A2 c2 a from hvo) (Nat.le_of_eq HGW.out) (HXW.out.trans hW)
      have HWA : Hid (WO a ∧ 32 + bulkO a ≤ 16000000) := ⟨HWB.out.1, by have h1 := HWB.out.2; rw [bulk_of] at h1; exact h1⟩
      clear hvo hob HV HWB
      by_cases h2 : how2 = 2
      · subst h2
        have CF : Hid (∀ W, Ext wc W → Calls Tryz.prog 82 #[.agg #[.int .i64 6, .bool false, .int .i64 0, .string ⟨#[]⟩, .slice A1 a.1.length c1, .slice A2 a.2.length c2], .string (bx st)] W (FindZ (NF g 3 F) W a st)) := (fun W (hW : Ext wc W) => rfindZ_any (NF g 3 F) (ofO a) 6 false 0 ⟨#[]⟩ A1 a.1.length c1 A2 a.2.length c2 st W (.inl (RO.rv (HO.out W hW))) HWA.out.1 (by rw [bulk_of]; exact HWA.out.2))
        have CD := Lib.hid (fun W (hW : Ext wc W) => rdropO_any (NF g 3 F) A1 c1 A2 c2 a st W (HO.out W hW) HWA.out.1 (by have := HWA.out.2; omega) (HNW.out W hW))
        rw [← HSX.out] at CF CD
        go_wp2_with fail
        refine Calls.mono (CF.out _ (by repeat (first | assumption | with_reducible apply ext_al | with_reducible apply ext_dr))) ?_
        rintro e w6 ⟨x6, u, hz6, rfl, -⟩
        obtain ⟨K9, B9, z9, s9, A9', n9, c9, A10, n10, c10, rfl, -⟩ := hz6.shape
        unfold v6
        have X6 : Hid (Ext wc w6) := Ext.trans (by repeat (first | assumption | with_reducible apply ext_al | with_reducible apply ext_dr)) x6
        clear x6 hz6 CF
        go_upto_region 17 with (fail)
        generalize hW : World.alloc w6 _ = w7
        have HX7 : Hid (Ext wc w7) := by rw [← hW]; exact X6.out.trans (new_ext _ _)
        have hx7 := HX7.out
        clear hW a0 a1 a2 a3 a4 a5
        cases hio : (getO a st).isSome with
        | true =>
          have HE : Hid (putG how x (ofO a) (st :: r) = some (ofO (dropO a st))) := by
            unfold Hid
            rw [HEQ.out]
            rw [op_cut, if_pos hio]
          obtain ⟨a0, a1, a2, a3, a4, a5⟩ := (HVW.out.ext HX7.out).cells
          clear hio
          go_wp2_with fail
          refine Calls.mono (CD.out _ (Ext.trans HX7.out (Below.refl _ _))) ?_
          rintro e w8 ⟨x8, A', c', B', d', rfl, ho⟩
          have X8 : Hid (Ext wc w8) := Ext.trans (by repeat (first | assumption | with_reducible apply ext_al | with_reducible apply ext_dr)) x8
          have HO8 := Lib.hid ho.rv
          have HR8 := Lib.hid (HZ.out.ext X8.out)
          have HX8 := Lib.hid (HXW.out.trans X8.out)
          clear x8 ho a0 a1 a2 a3 a4 a5
          obtain ⟨r0, r1, r2, r3, r4, r5⟩ := (HR8.out).cells
          have f0 := (HR8.out).free 0
          have f1 := (HR8.out).free 1
          have f2 := (HR8.out).free 2
          have f3 := (HR8.out).free 3
          have f4 := (HR8.out).free 4
          have f5 := (HR8.out).free 5
          go_wp2_with fail
          refine bodyPost_ret (results_v rfl _ _ (g + 2) rfl (put_in 6 false 0 ⟨#[]⟩ (.slice A' (dropO a st).1.length c') (.slice B' (dropO a st).2.length d') (HR8.out))) rfl ?_
          exact ⟨put_ext 6 false 0 ⟨#[]⟩ (.slice A' (dropO a st).1.length c') (.slice B' (dropO a st).2.length d') (HX8.out) HGW2.out, _, _, _, _, _, _, _, _, _, _, .inr ⟨_, HE.out, RV.keep (fun b hb _ => put_heap _ 6 false 0 ⟨#[]⟩ (.slice A' (dropO a st).1.length c') (.slice B' (dropO a st).2.length d') b (fun e => by have := hb.2; omega)) (fun b hb _ => hb.1) _ _ (HO8.out), rfl⟩⟩
        | false =>
          have HE : Hid (putG how x (ofO a) (st :: r) = none) := by
            unfold Hid
            rw [HEQ.out]
            rw [op_cut, if_neg (by rw [hio]; exact Bool.false_ne_true)]
          have HR8 := Lib.hid (HZ.out.ext HX7.out)
          have HX8 := Lib.hid (HXW.out.trans HX7.out)
          clear hio
          obtain ⟨r0, r1, r2, r3, r4, r5⟩ := (HR8.out).cells
          have f0 := (HR8.out).free 0
          have f1 := (HR8.out).free 1
          have f2 := (HR8.out).free 2
          have f3 := (HR8.out).free 3
          have f4 := (HR8.out).free 4
          have f5 := (HR8.out).free 5
          go_wp2_with fail
          refine bodyPost_ret (results_v rfl _ _ (g + 2) rfl (put_in 0 false 0 ⟨#[]⟩ nilS nilS (HR8.out))) rfl ?_
          exact ⟨put_ext 0 false 0 ⟨#[]⟩ nilS nilS (HX8.out) HGW2.out, _, _, _, _, _, _, _, _, _, _, .inl ⟨HE.out, rfl⟩⟩
      · have HNE := Lib.hid h2
        have bh : ((how2 : Int) != 2) = true := by rw [bne_iff_ne]; omega
        have CS := Lib.hid (fun W (hW : Ext wc W) => rsetO_any (NF g 3 F) A1 c1 A2 c2 a st x2 K4 B4 z4 s4 A7 n7 c7 A8 n8 c8 W (HO.out W hW) HWA.out.1 (by have := HWA.out.2; omega) (RV.ext (HRX.out h2) hW) (HNW.out W hW))
        rw [← HSX.out] at CS
        have HE : Hid (putG how x (ofO a) (st :: r) = some (ofO (setO a st x2))) := by
          unfold Hid
          rw [HEQ.out, op_set HNE.out]
        obtain ⟨p0, p1, p2, p3, p4, p5⟩ := HXB.out.cells
        clear h2
        go_wp2_with fail
        refine Calls.mono (CS.out _ (by repeat (first | assumption | with_reducible apply ext_al | with_reducible apply ext_dr))) ?_
        rintro e w7 ⟨x7, A', c', B', d', rfl, ho⟩
        have X7 : Hid (Ext wc w7) := Ext.trans (by repeat (first | assumption | with_reducible apply ext_al | with_reducible apply ext_dr)) x7
        have HO7 := Lib.hid ho.rv
        have HR7 := Lib.hid (HZ.out.ext X7.out)
        have HX7 := Lib.hid (HXW.out.trans X7.out)
        clear x7 ho a0 a1 a2 a3 a4 a5 p0 p1 p2 p3 p4 p5
        obtain ⟨r0, r1, r2, r3, r4, r5⟩ := (HR7.out).cells
        have f0 := (HR7.out).free 0
        have f1 := (HR7.out).free 1
        have f2 := (HR7.out).free 2
        have f3 := (HR7.out).free 3
        have f4 := (HR7.out).free 4
        have f5 := (HR7.out).free 5
        go_wp2_with fail
        refine bodyPost_ret (results_v rfl _ _ (g + 2) rfl (put_in 6 false 0 ⟨#[]⟩ (.slice A' (setO a st x2).1.length c') (.slice B' (setO a st x2).2.length d') (HR7.out))) rfl ?_
        exact ⟨put_ext 6 false 0 ⟨#[]⟩ (.slice A' (setO a st x2).1.length c') (.slice B' (setO a st x2).2.length d') (HX7.out) HGW2.out, _, _, _, _, _, _, _, _, _, _, .inr ⟨_, HE.out, RV.keep (fun b hb _ => put_heap _ 6 false 0 ⟨#[]⟩ (.slice A' (setO a st x2).1.length c') (.slice B' (setO a st x2).2.length d') b (fun e => by have := hb.2; omega)) (fun b hb _ => hb.1) _ _ (HO7.out), rfl⟩⟩
    | false =>
      have hK6 : K ≠ 6 := fun e => by
        have h1 := HK.out.symm.trans e
        cases v with
        | obj ns l => cases hob
        | list l => cases h1
        | null => cases h1
        | bool b => cases h1
        | num n => cases h1
        | text t => cases h1
      have b6 : (K == 6) = false := by rw [beq_eq_false_iff_ne]; exact hK6
      by_cases hk5 : K = 5
      · obtain ⟨l, rfl⟩ := kind_list v (HK.out.symm.trans hk5)
        obtain ⟨-, hn2, hc2, hLV⟩ := RV_lists HV.out
        subst hk5
        have HLV := Lib.hid hLV
        have hlen : n2 ≤ 500000 := by have := len_list (l := l); have := HWB.out.2; omega
        have HN2 : Hid (n2 = l.length ∧ n2 ≤ c2) := ⟨hn2, by omega⟩
        have CP : Hid (∀ W, Calls Tryz.prog 91 #[.string sx, .int .i64 ((n2 : Int) + 1)] W (RIdx (idxS st (n2 + 1)) W)) := fun W => by rw [HSX.out]; exact rplace_any st (n2 + 1) W (by omega)
        have hw1 : IntKind.i64.wrap ((n2 : Int) + 1) = (n2 : Int) + 1 := IntWalk.i64_in _ (by omega)
        obtain ⟨bd, hbd⟩ : ∃ b, b = (sx.toList == [45]) := ⟨_, rfl⟩
        have hbd2 : (sx.toList == [45]) = bd := hbd.symm
        have HBD : Hid (bd = decide (st = [45])) := by
          unfold Hid
          rw [hbd, HSX.out, bx_list]
          by_cases h : st = [45]
          · rw [decide_eq_true h, h]; rfl
          · rw [decide_eq_false h, beq_eq_false_iff_ne]; exact h
        clear hbd hn2 hc2 hLV hob hK6 HK
        go_wp2_with fail
        refine Calls.mono (CP.out _) ?_
        rintro e w7 ⟨⟨nn, rfl, hs1, hs2⟩, x7⟩
        have HX7 : Hid (Ext wc w7) := Ext.trans (by repeat (first | assumption | with_reducible apply ext_al | with_reducible apply ext_dr)) x7
        have HNN := Lib.hid (And.intro hs1 hs2)
        obtain ⟨kk, hkk⟩ : ∃ kk : Int, kk = if bd then (n2 : Int) else nn := ⟨_, rfl⟩
        have HKK := Lib.hid hkk
        clear x7 hs1 hs2 hkk a0 a1 a2 a3 a4 a5 hw1
        obtain ⟨a0, a1, a2, a3, a4, a5⟩ := (HVW.out.ext HX7.out).cells
        go_upto_if 84 with (fail)
        go_cut [17] (fun k wy => k = .int .i64 kk ∧ w7 = wy)
        case first =>
          cases bd with
          | true =>
            go_wp2_with fail
            go_meet
            case rel => exact ⟨by rw [HKK.out]; rfl, rfl⟩
          | false =>
            go_wp2_with fail
            go_meet
            case rel => exact ⟨by rw [HKK.out]; rfl, rfl⟩
        case rest =>
          obtain ⟨rfl, rfl⟩ := hcut
          have HPL : Hid ((placeS st n2 = none ∧ kk = -1) ∨ ∃ k : Nat, placeS st n2 = some k ∧ kk = (k : Int)) := by
            unfold Hid placeS
            rw [HKK.out, HBD.out]
            by_cases h : st = [45]
            · rw [if_pos h, decide_eq_true h]
              exact .inr ⟨n2, rfl, rfl⟩
            · rw [if_neg h, decide_eq_false h]
              cases hi : idxS st (n2 + 1) with
              | none => exact .inl ⟨rfl, HNN.out.2 hi⟩
              | some k => exact .inr ⟨k, rfl, HNN.out.1 k hi⟩
          have HOP : Hid (putG how x (.list l) (st :: r) = match placeS st n2 with | none => none | some k => if how2 = 2 ∧ k = n2 then none else some (.list (listOp how2 x2 l k))) := by
            unfold Hid
            rw [HEQ.out, HN2.out.1]
            rfl
          have HR8 := Lib.hid (HZ.out.ext HX7.out)
          have HX8 := Lib.hid (HXW.out.trans HX7.out)
          clear hbd2
          rcases HPL.out with ⟨hp, rfl⟩ | ⟨k, hp, rfl⟩
          · have HE : Hid (putG how x (.list l) (st :: r) = none) := by unfold Hid; rw [HOP.out, hp]
            clear hp a0 a1 a2 a3 a4 a5
            obtain ⟨r0, r1, r2, r3, r4, r5⟩ := (HR8.out).cells
            have f0 := (HR8.out).free 0
            have f1 := (HR8.out).free 1
            have f2 := (HR8.out).free 2
            have f3 := (HR8.out).free 3
            have f4 := (HR8.out).free 4
            have f5 := (HR8.out).free 5
            go_wp2_with fail
            refine bodyPost_ret (results_v rfl _ _ (g + 2) rfl (put_in 0 false 0 ⟨#[]⟩ nilS nilS (HR8.out))) rfl ?_
            exact ⟨put_ext 0 false 0 ⟨#[]⟩ nilS nilS (HX8.out) HGW2.out, _, _, _, _, _, _, _, _, _, _, .inl ⟨HE.out, rfl⟩⟩
          · have hkn := placeS_le hp
            obtain ⟨bq, hbq⟩ : ∃ b, b = decide (how2 = 2 ∧ k = n2) := ⟨_, rfl⟩
            have HBQ := Lib.hid hbq
            have HPK := Lib.hid hp
            have hk0 : decide ((k : Int) < 0) = false := decide_eq_false (by omega)
            have hk1 : ¬ ((k : Int) < 0) := by omega
            clear hbq hp
            go_upto_region 23 with (fail)
            go_cut [100] (fun t wy => t = .bool bq ∧ w7 = wy)
            case first =>
              by_cases h2 : how2 = 2
              · subst h2
                by_cases h3 : k = n2
                · have h3b : ((k : Int) == (n2 : Int)) = true := by rw [h3]; exact beq_self_eq_true _
                  have HB : Hid (bq = true) := by unfold Hid; rw [HBQ.out, decide_eq_true ⟨rfl, h3⟩]
                  clear h3
                  go_wp2_with fail
                  go_meet
                  case rel => exact ⟨by rw [HB.out], rfl⟩
                · have h3b : ((k : Int) == (n2 : Int)) = false := by rw [beq_eq_false_iff_ne]; omega
                  have HB : Hid (bq = false) := by unfold Hid; rw [HBQ.out, decide_eq_false (fun h => h3 h.2)]
                  clear h3
                  go_wp2_with fail
                  go_meet
                  case rel => exact ⟨by rw [HB.out], rfl⟩
              · have h2b : ((how2 : Int) == 2) = false := by rw [beq_eq_false_iff_ne]; omega
                have HB : Hid (bq = false) := by unfold Hid; rw [HBQ.out, decide_eq_false (fun h => h2 h.1)]
                clear h2
                go_wp2_with fail
                go_meet
                case rel => exact ⟨by rw [HB.out], rfl⟩
            case rest =>
              obtain ⟨rfl, rfl⟩ := hcut
              cases bq with
              | true =>
                have HE : Hid (putG how x (.list l) (st :: r) = none) := by
                  unfold Hid
                  rw [HOP.out, HPK.out]
                  simp only
                  rw [if_pos (of_decide_eq_true HBQ.out.symm)]
                clear a0 a1 a2 a3 a4 a5
                obtain ⟨r0, r1, r2, r3, r4, r5⟩ := (HR8.out).cells
                have f0 := (HR8.out).free 0
                have f1 := (HR8.out).free 1
                have f2 := (HR8.out).free 2
                have f3 := (HR8.out).free 3
                have f4 := (HR8.out).free 4
                have f5 := (HR8.out).free 5
                go_wp2_with fail
                refine bodyPost_ret (results_v rfl _ _ (g + 2) rfl (put_in 0 false 0 ⟨#[]⟩ nilS nilS (HR8.out))) rfl ?_
                exact ⟨put_ext 0 false 0 ⟨#[]⟩ nilS nilS (HX8.out) HGW2.out, _, _, _, _, _, _, _, _, _, _, .inl ⟨HE.out, rfl⟩⟩
              | false =>
                have HE : Hid (putG how x (.list l) (st :: r) = some (.list (listOp how2 x2 l k))) := by
                  unfold Hid
                  rw [HOP.out, HPK.out]
                  simp only
                  rw [if_neg (of_decide_eq_false HBQ.out.symm)]
                obtain ⟨b2, hb2⟩ : ∃ b, b = decide (how2 ≠ 1 ∧ k < n2) := ⟨_, rfl⟩
                have HB2 := Lib.hid hb2
                clear hb2
                go_upto_region 26 with (fail)
                go_cut [111] (fun t wy => t = .bool b2 ∧ w7 = wy)
                case first =>
                  by_cases h2 : how2 = 1
                  · subst h2
                    have HB : Hid (b2 = false) := by unfold Hid; rw [HB2.out, decide_eq_false (fun h => h.1 rfl)]
                    go_wp2_with fail
                    go_meet
                    case rel => exact ⟨by rw [HB.out], rfl⟩
                  · have h2b : ((how2 : Int) != 1) = true := by rw [bne_iff_ne]; omega
                    have HB : Hid (b2 = decide (k < n2)) := by unfold Hid; rw [HB2.out]; simp [h2]
                    clear h2
                    go_wp2_with fail
                    go_meet
                    case rel => exact ⟨by rw [HB.out], rfl⟩
                case rest =>
                  obtain ⟨rfl, rfl⟩ := hcut
                  obtain ⟨fr, hfr⟩ : ∃ fr, fr = if how2 ≠ 1 ∧ k < n2 then k + 1 else k := ⟨_, rfl⟩
                  have HFR : Hid (fr = (if how2 ≠ 1 ∧ k < n2 then k + 1 else k) ∧ fr + (n2 - fr) ≤ l.length) := ⟨hfr, by
                    have h1 := HN2.out.1
                    by_cases hq : how2 ≠ 1 ∧ k < n2
                    · rw [if_pos hq] at hfr; omega
                    · rw [if_neg hq] at hfr; omega⟩
                  have hfn : fr ≤ n2 := by
                    by_cases hq : how2 ≠ 1 ∧ k < n2
                    · rw [if_pos hq] at hfr; omega
                    · rw [if_neg hq] at hfr; omega
                  clear hfr
                  go_upto_if 111 with (fail)
                  go_cut [18] (fun f wy => f = .int .i64 (fr : Int) ∧ w7 = wy)
                  case first =>
                    cases b2 with
                    | true =>
                      have HB : Hid (fr = k + 1) := by unfold Hid; rw [HFR.out.1, if_pos (of_decide_eq_true HB2.out.symm)]
                      have hw1 : IntKind.i64.wrap ((k : Int) + 1) = (k : Int) + 1 := IntWalk.i64_in _ (by omega)
                      go_wp2_with fail
                      go_meet
                      case rel => exact ⟨by rw [HB.out]; rfl, rfl⟩
                    | false =>
                      have HB : Hid (fr = k) := by unfold Hid; rw [HFR.out.1, if_neg (of_decide_eq_false HB2.out.symm)]
                      go_wp2_with fail
                      go_meet
                      case rel => exact ⟨by rw [HB.out], rfl⟩
                  case rest =>
                    obtain ⟨rfl, rfl⟩ := hcut
                    obtain ⟨L, hL, hLS, hLR, hsrc⟩ := rv_rows HLV.out
                    have HSRC := Lib.hid hsrc
                    have HLN := Lib.hid hL
                    have HRO0 : Hid (RowsOf (NF g 3 F) w7 l L) := RowsOf.keep (show RowsOf F w l L from ⟨hL, hLR⟩) (fun b _ hb => HX8.out.block b hb) (fun b h hb => ⟨h, .inl (by have := HGW.out; omega)⟩)
                    obtain ⟨Xk, hto, hxk⟩ := vals_to A2 n2 c2 k (by have := HN2.out.2; omega)
                    obtain ⟨Xf, hfrom, hfx⟩ := vals_from A2 n2 c2 fr hfn HN2.out.2
                    have HLK : Hid (((L.drop 0).take k).length = k) := by unfold Hid; rw [List.length_take, List.length_drop, hL]; have := HN2.out.1; omega
                    have HLD : Hid (((L.drop fr).take (n2 - fr)).length = n2 - fr) := by unfold Hid; rw [List.length_take, List.length_drop, hL]; have := HN2.out.1; omega
                    have HRD : Hid (RowsOf (NF g 3 F) w7 (l.drop fr) ((L.drop fr).take (n2 - fr))) := by
                      unfold Hid
                      rw [List.take_of_length_le (by rw [List.length_drop, hL]; have := HN2.out.1; omega)]
                      exact HRO0.out.drop fr
                    have CC : Hid (∀ W, Ext w7 W → Calls Tryz.prog 98 #[.slice Xk k c2] W fun e w' => ∃ A c3, e = .returned (.slice A k c3) ∧ GRow vT 6 w7.heap.size w' (.slice A k c3) ((L.drop 0).take k) ∧ Ext W w') := fun W hW =>
                      (rcopyV_any Xk k c2 _ W (hsrc W 0 k c2 Xk (HX8.out.trans hW) (by have := HN2.out.1; omega) hxk) HLK.out (by omega)).mono fun e w' ⟨A, c3, h1, h2, h3⟩ => ⟨A, c3, h1, h2.low hW.size, h3⟩
                    have HFX := Lib.hid hfx
                    have HE2 : Hid (putG how x (.list l) (st :: r) = some (.list ((l.take k ++ (if how2 = 2 then [] else [x2])) ++ l.drop fr))) := by
                      unfold Hid
                      rw [HE.out, HFR.out.1, HN2.out.1]
                      rfl
                    have HXX7 : Hid (how2 ≠ 2 → RV (NF g 3 F) w7 x2 (v6 K4 B4 z4 s4 (.slice A7 n7 c7) (.slice A8 n8 c8))) := fun h => RV.ext (HRX.out h) HX7.out
                    have HNF : Hid (∀ b, w7.heap.size ≤ b → NF g 3 F b) := fun b hb => HNW.out w7 HX7.out b hb
                    have h77 : Ext w7 w7 := Below.refl _ _
                    clear hL hLS hLR hsrc hxk hfx HE HPK HBQ HB2 HPL HOP HKK HNN HEQ
                    go_wp2_with fail
                    refine Calls.mono (CC.out _ (by repeat (first | assumption | with_reducible apply ext_al | with_reducible apply ext_dr))) ?_
                    rintro e w8 ⟨A3, c3, rfl, h8, x8⟩
                    have X8 : Hid (Ext w7 w8) := Ext.trans (by repeat (first | assumption | with_reducible apply ext_al | with_reducible apply ext_dr)) x8
                    have H8 := Lib.hid h8
                    clear h8 x8 a0 a1 a2 a3 a4 a5
                    go_upto_region 29 with (fail)
                    obtain ⟨g19, hg19⟩ : ∃ b, b = w8.heap.size := ⟨_, rfl⟩
                    rw [← hg19]
                    generalize hW : World.alloc w8 _ = w9
                    have HX9 : Hid (Ext w7 w9) := by rw [← hW]; exact X8.out.trans (new_ext _ _)
                    have HB9 : Hid (VIn w9 g19 5 false 0 ⟨#[]⟩ nilS (.slice A3 k c3)) := by rw [← hW]; exact heap_new hg19
                    have HR9 : Hid (GRow vT 6 w7.heap.size w9 (.slice A3 k c3) ((L.drop 0).take k)) := by rw [← hW]; exact H8.out.ext (new_ext _ _)
                    have HOW : Hid (∀ b, (Value.slice A3 k c3).ownBlock = some b → b ≠ g19) := fun b e => by have := (H8.out.block b e).2; omega
                    have HG19 : Hid (w7.heap.size ≤ g19) := by rw [hg19]; exact X8.out.size
                    have HBLT : Hid (g19 < w9.heap.size) := HB9.out.lt
                    clear hW hg19 H8 X8 hto
                    go_upto_if 121 with (fail)
                    go_cut [] (fun wy => ∃ (A3 : Option Addr) (n3 c3 : Nat) (L3 : List (List Value)), n3 ≤ n2 + 1 ∧ Hid (Ext w7 wy ∧ VIn wy g19 5 false 0 ⟨#[]⟩ nilS (.slice A3 n3 c3) ∧ GRow vT 6 w7.heap.size wy (.slice A3 n3 c3) L3 ∧ L3.length = n3 ∧ RowsOf (NF g 3 F) w7 (l.take k ++ (if how2 = 2 then [] else [x2])) L3 ∧ ∀ b, (Value.slice A3 n3 c3).ownBlock = some b → b ≠ g19))
                    case first =>
                      by_cases h2 : how2 = 2
                      · subst h2
                        go_wp2_with fail
                        go_meet
                        case rel => exact ⟨A3, k, c3, _, (by omega), HX9.out, HB9.out, HR9.out, HLK.out, (by rw [if_pos trivial, List.append_nil]; exact HRO0.out.take k), HOW.out⟩
                      · have bh : ((how2 : Int) != 2) = true := by rw [bne_iff_ne]; omega
                        have HNE := Lib.hid h2
                        obtain ⟨p0, p1, p2, p3, p4, p5⟩ := (HXB.out.ext (HX7.out.trans HX9.out)).cells
                        obtain ⟨b0, b1, b2', b3, b4, b5⟩ := HB9.out.cells
                        have f5 := HB9.out.free 5
                        clear h2
                        go_upto_region 30 with (fail)
                        go_wp2_with (at_builtin; refine append_g ty_V rfl _ _ (by rfl) w7.heap.size k 1 _ (.slice A3 k c3) (.slice (some ⟨w9.heap.size, 0, none⟩) 1 1) ((L.drop 0).take k) [[.int .i64 K4, .bool B4, .int .i64 z4, .string s4, .slice A7 n7 c7, .slice A8 n8 c8]] (by rfl) (by rfl) (HR9.out.ext (new_ext _ _)) (GSrc.one rfl (by simp [Value.oneCell']) (heap_new rfl)) HLK.out rfl (by omega) (Nat.le_trans HX9.out.size (new_ext _ _).size) ?_; intro A9' c9 w10 h10 g10 o10; have hb10 := (HB9.out.ext (new_ext _ _)).kept g10 (fun e => HOW.out _ e rfl); obtain ⟨-, -, -, -, -, y5⟩ := hb10.cells; have y6 := hb10.free 5; have HB10 := Lib.hid hb10; have H10 := Lib.hid (And.intro h10 (And.intro g10 o10)); clear hb10 h10 g10 o10)
                        go_meet
                        case rel =>
                          obtain ⟨h10, g10, o10⟩ := H10.out
                          have hown : ∀ b, (Value.slice A9' (k + 1) c9).ownBlock = some b → b ≠ g19 := fun b e => by
                            rcases o10 with o | o
                            · exact HOW.out b (o.symm.trans e)
                            · rw [o] at e
                              injection e with e
                              have h1 : w9.heap.size < b := by rw [← e]; show _ < (Array.push _ _).size; rw [Array.size_push]; omega
                              have h2 := HBLT.out
                              omega
                          exact ⟨A9', k + 1, c9, _, (by omega), ext_setCell (ext_row (HX9.out.trans (new_ext _ _)) g10 (fun b e => (HR9.out.block b e).1)) HG19.out, heap_setCell_same w10 g19 5 _ vT _ HB10.out, h10.keep (fun b e => set_heap _ _ _ _ _ (hown b e)), (by rw [List.length_append, HLK.out]; rfl), (by rw [if_neg HNE.out]; exact (HRO0.out.take k).app (RowsOf.one (HXX7.out HNE.out))), hown⟩
                    case rest =>
                      obtain ⟨A3, n3, c3, L3, hn3, hcut⟩ := hcut
                      have HXW3 := Lib.hid hcut.1
                      have HB19 := Lib.hid hcut.2.1
                      have HROW := Lib.hid hcut.2.2.1
                      have HL3 := Lib.hid hcut.2.2.2.1
                      have HRO := Lib.hid hcut.2.2.2.2.1
                      have HOWN : Hid ((Value.slice A3 n3 c3).ownBlock ≠ some g19) := fun e => hcut.2.2.2.2.2 _ e rfl
                      have HOWN2 : Hid ((Value.slice A3 n3 c3).ownBlock ≠ some g) := fun e => by have h1 := (hcut.2.2.1.block _ e).1; have h2 := HX7.out.size; have h3 := HSW.out; omega
                      have HOWN3 : Hid (∀ b, (Value.slice A3 n3 c3).ownBlock = some b → w7.heap.size ≤ b) := fun b e => (HROW.out.block b e).1
                      have HOWN4 : Hid (∀ (A4 : Option Addr) (m c4 : Nat) (W : World), Ext wc W → ((Value.slice A4 m c4).ownBlock = (Value.slice A3 n3 c3).ownBlock ∨ (Value.slice A4 m c4).ownBlock = some W.heap.size) → ∀ b, (Value.slice A4 m c4).ownBlock = some b → b ≠ g19) := fun A4 m c4 W hW ho b e => by
                        have h1 := HB19.out.lt
                        have h2 := hW.size
                        rcases ho with o | o
                        · exact hcut.2.2.2.2.2 b (o.symm.trans e)
                        · rw [o] at e
                          injection e with e
                          omega
                      have HVX : Hid (VIn wc g 5 B z s (.slice A1 n1 c1) (.slice A2 n2 c2)) := HVW.out.ext (HX7.out.trans HXW3.out)
                      have HSZ3 : Hid (w7.heap.size ≤ wc.heap.size) := HXW3.out.size
                      have HS31 : Hid (∀ W, (VIn W g19 5 false 0 ⟨#[]⟩ nilS (.slice A3 n3 c3) ∧ VIn W g 5 B z s (.slice A1 n1 c1) (.slice A2 n2 c2)) → W.cell? ⟨g19, 5, none⟩ = some (.slice A3 n3 c3) ∧ W.cell? ⟨g, 5, none⟩ = some (.slice A2 n2 c2)) := fun W h => ⟨h.1.cells.2.2.2.2.2, h.2.cells.2.2.2.2.2⟩
                      have hcc3 : Ext wc wc := Below.refl _ _
                      clear hcut h77
                      go_upto_region 31 with (fail)
                      refine wp_region_split (fun w' => w'.cell? ⟨g19, 5, none⟩ = some (.slice A3 n3 c3) ∧ w'.cell? ⟨g, 5, none⟩ = some (.slice A2 n2 c2)) 8 (by kernel_rfl) (by kernel_rfl) (by exact HS31.out _ (by first | exact ⟨hb4, hv4⟩ | exact ⟨HB19.out.ext (by repeat (first | assumption | with_reducible apply ext_al | with_reducible apply ext_dr)), HVX.out.ext (by repeat (first | assumption | with_reducible apply ext_al | with_reducible apply ext_dr))⟩)) (fun hHeld => ?_)
                      simp only [List.take_succ_cons, List.take_zero, List.drop_succ_cons, List.drop_zero]
                      refine wpAnyH_take (i := 0) (v := ?_) rfl (by kernel_rfl) (by kernel_rfl) (by kernel_rfl) (fun _ _ _ h => h) (Or.inl ⟨by rfl, ?_⟩) (by assumption) ?_
                      rotate_left
                      · intro w hSw
                        (try dsimp only at hSw)
                        go_simp
                        (try with_reducible rfl)
                      (try simp only [Act.put, List.setIfInBounds_toArray])
                      refine wpAnyH_take (i := 1) (v := ?_) rfl (by kernel_rfl) (by kernel_rfl) (by kernel_rfl) (fun _ _ _ h => h) (Or.inl ⟨by rfl, ?_⟩) (by assumption) ?_
                      rotate_left
                      · intro w hSw
                        (try dsimp only at hSw)
                        go_simp
                        (try with_reducible rfl)
                      (try simp only [Act.put])
                      refine wpAnyH_take (i := 2) (v := ?_) rfl (by kernel_rfl) (by kernel_rfl) (by kernel_rfl) (fun _ _ _ h => h) (Or.inl ⟨by rfl, ?_⟩) (by assumption) ?_
                      rotate_left
                      · intro w hSw
                        (try dsimp only at hSw)
                        go_simp
                        (try with_reducible rfl)
                      (try simp only [Act.put])
                      refine wpAnyH_take (i := 3) (v := ?_) rfl (by kernel_rfl) (by kernel_rfl) (by kernel_rfl) (fun _ _ _ h => h) (Or.inl ⟨by rfl, ?_⟩) (by assumption) ?_
                      rotate_left
                      · intro w hSw
                        (try dsimp only at hSw)
                        go_simp
                        (try with_reducible rfl)
                      (try simp only [Act.put])
                      refine wpAnyH_take (i := 4) (v := ?_) rfl (by kernel_rfl) (by kernel_rfl) (by kernel_rfl) (fun _ _ _ h => h) (Or.inl ⟨by rfl, ?_⟩) (by assumption) ?_
                      rotate_left
                      · intro w hSw
                        (try dsimp only at hSw)
                        go_simp
                        (try with_reducible rfl)
                      (try simp only [Act.put])
                      refine wpAnyH_take (i := 5) (v := ?_) rfl (by kernel_rfl) (by kernel_rfl) (by kernel_rfl) (fun _ _ _ h => h) (Or.inl ⟨by rfl, ?_⟩) (by assumption) ?_
                      rotate_left
                      · intro w hSw
                        (try dsimp only at hSw)
                        go_simp
                        (try with_reducible rfl)
                      (try simp only [Act.put])
                      refine wpAnyH_ready (rs := [6]) (by kernel_rfl) (by simp) ?_
                      refine AllReadyH.cons rfl (fun KQ hKQ => ?_) AllReadyH.nil
                      (refine step_append_g ty_V rfl _ _ (by rfl) w7.heap.size n3 (n2 - fr) _ (.slice A3 n3 c3) (.slice Xf (n2 - fr) (c2 - fr)) L3 ((L.drop fr).take (n2 - fr)) (by rfl) (by rfl) (HROW.out.ext (by repeat (first | assumption | with_reducible apply ext_al | with_reducible apply ext_dr))) (HSRC.out _ fr (n2 - fr) (c2 - fr) Xf (HX8.out.trans (HXW3.out.trans (by repeat (first | assumption | with_reducible apply ext_al | with_reducible apply ext_dr)))) HFR.out.2 HFX.out) HL3.out HLD.out (by omega) (Nat.le_trans HSZ3.out (Below.size (show Ext wc _ from (by repeat (first | assumption | with_reducible apply ext_al | with_reducible apply ext_dr))))) ?_; intro A4 c4 W4 h4 g4 o4; have hb4 := (HB19.out.ext (by repeat (first | assumption | with_reducible apply ext_al | with_reducible apply ext_dr))).kept g4 HOWN.out; have hv4 := (HVX.out.ext (by repeat (first | assumption | with_reducible apply ext_al | with_reducible apply ext_dr))).kept g4 HOWN2.out)
                      refine hKQ.out _ _ (by exact HS31.out _ (by first | exact ⟨hb4, hv4⟩ | exact ⟨HB19.out.ext (by repeat (first | assumption | with_reducible apply ext_al | with_reducible apply ext_dr)), HVX.out.ext (by repeat (first | assumption | with_reducible apply ext_al | with_reducible apply ext_dr))⟩)) (fun hHeld => ?_)
                      clear hKQ KQ
                      (try simp only [Act.put])
                      refine wpAnyH_take (i := 7) (v := ?_) rfl (by kernel_rfl) (by kernel_rfl) (by kernel_rfl) (fun _ _ _ h => h) (Or.inl ⟨by rfl, ?_⟩) (by assumption) ?_
                      rotate_left
                      · intro w hSw
                        (try dsimp only at hSw)
                        go_simp
                        (try with_reducible rfl)
                      (try simp only [Act.put])
                      refine wpAnyH_done (by kernel_rfl) ?_ _
                      refine TailQ.normal ?_
                      have z5 := hb4.cells.2.2.2.2.2
                      have zf := hb4.free 5
                      go_upto_region 32 with (fail)
                      generalize hW : World.setCell W4 _ _ = W5
                      have HK5 : Hid (∀ b, b ≠ g19 → W5.heap[b]? = W4.heap[b]?) := fun b hb => by rw [← hW]; exact set_heap _ _ _ _ _ hb
                      have HX5 : Hid (Ext w7 W5) := by unfold Hid; rw [← hW]; exact ext_setCell (ext_row (HXW3.out.trans (by repeat (first | assumption | with_reducible apply ext_al | with_reducible apply ext_dr))) g4 HOWN3.out) HG19.out
                      have HB5 : Hid (VIn W5 g19 5 false 0 ⟨#[]⟩ nilS (.slice A4 (n3 + (n2 - fr)) c4)) := by unfold Hid; rw [← hW]; exact heap_setCell_same W4 g19 5 _ vT _ hb4
                      have HR5 : Hid (GRow vT 6 w7.heap.size W5 (.slice A4 (n3 + (n2 - fr)) c4) (L3 ++ (L.drop fr).take (n2 - fr))) := h4.keep (fun b e => HK5.out b (HOWN4.out _ _ _ _ (by repeat (first | assumption | with_reducible apply ext_al | with_reducible apply ext_dr)) o4 b e))
                      clear hW h4 g4 o4 hb4 hv4 z5 zf hHeld
                      have HLO := Lib.hid (list_out HR5.out (HRO.out.app HRD.out) HX5.out)
                      have HRR := Lib.hid (HR8.out.ext HX5.out)
                      obtain ⟨p0, p1, p2, p3, p4, p5⟩ := HB5.out.cells
                      obtain ⟨r0, r1, r2, r3, r4, r5⟩ := (HRR.out).cells
                      have f0 := (HRR.out).free 0
                      have f1 := (HRR.out).free 1
                      have f2 := (HRR.out).free 2
                      have f3 := (HRR.out).free 3
                      have f4 := (HRR.out).free 4
                      have f5 := (HRR.out).free 5
                      go_wp2_with fail
                      refine bodyPost_ret (results_v rfl _ _ (g + 2) rfl (put_in 5 false 0 ⟨#[]⟩ nilS (.slice A4 (n3 + (n2 - fr)) c4) (HRR.out))) rfl ?_
                      exact ⟨put_ext 5 false 0 ⟨#[]⟩ nilS (.slice A4 (n3 + (n2 - fr)) c4) (HX8.out.trans HX5.out) HGW2.out, _, _, _, _, _, _, _, _, _, _, .inr ⟨_, HE2.out, RV.keep (fun b hb _ => put_heap _ 5 false 0 ⟨#[]⟩ nilS (.slice A4 (n3 + (n2 - fr)) c4) b (fun e => by have := hb.2; omega)) (fun b hb _ => hb.1) _ _ (RV.keep (fun _ _ _ => rfl) (fun b hb _ => hb.elim (fun h => h.1) (fun h => HNF.out b h)) _ _ HLO.out.2), rfl⟩⟩
      · have b5 : (K == 5) = false := by rw [beq_eq_false_iff_ne]; exact hk5
        have HE : Hid (putG how x v (st :: r) = none) := by
          unfold Hid
          rw [HEQ.out, op_none hob (by rw [← HK.out]; exact hk5)]
        clear hob hK6 hk5
        clear a1 a2 a3 a4 a5
        obtain ⟨r0, r1, r2, r3, r4, r5⟩ := (HZ.out).cells
        have f0 := (HZ.out).free 0
        have f1 := (HZ.out).free 1
        have f2 := (HZ.out).free 2
        have f3 := (HZ.out).free 3
        have f4 := (HZ.out).free 4
        have f5 := (HZ.out).free 5
        go_wp2_with fail
        refine bodyPost_ret (results_v rfl _ _ (g + 2) rfl (put_in 0 false 0 ⟨#[]⟩ nilS nilS (HZ.out))) rfl ?_
        exact ⟨put_ext 0 false 0 ⟨#[]⟩ nilS nilS (HXW.out) HGW2.out, _, _, _, _, _, _, _, _, _, _, .inl ⟨HE.out, rfl⟩⟩
end Go.Proofs.YtahinicpceokcaaGreatDoor.Jm
