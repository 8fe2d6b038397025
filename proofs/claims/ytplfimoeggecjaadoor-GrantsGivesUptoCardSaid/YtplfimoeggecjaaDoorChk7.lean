/-
  The program's grants.Check: the walk.
-/
import Derived.Test.YtplfimoeggecjaaDoorChk6
namespace Go.Proofs.YtplfimoeggecjaaDoor.Sx
open Go Go.RowKit

theorem two_strs {b : Nat} {w : World} {s n : ByteArray} (hb : b < w.heap.size) (h1 : s.size ≤ 1048576) (h2 : n.size ≤ 1048576) : StrsS b (w.alloc (.cells #[.string s, .string n] 9)) (some ⟨w.heap.size, 0, none⟩) [s, n] := by
  have hh : (w.alloc (.cells #[.string s, .string n] 9)).heap[w.heap.size]? = some (.cells #[.string s, .string n] 9 (0, 0)) := heap_new rfl
  refine ⟨by simp, fun i hi => ⟨w.heap.size, 0, rfl, by simp, safe_of (by omega) hh (by decide), ?_⟩⟩
  match i, hi with
  | 0, _ => exact ⟨by simp [cell_of hh], h1⟩
  | 1, _ => exact ⟨by simp [cell_of hh], h2⟩
theorem strsS_at {B b : Nat} {w : World} {A : Option Addr} {c : Nat} {xs : List ByteArray} (h : StrsAt B w (.slice A xs.length c) xs) (hB : B ≤ b) (hb : b < w.heap.size) : StrsS b w A xs := by
  obtain ⟨A', c', e, hs⟩ := strsS_of h hB hb
  injection e with e1
  subst e1
  exact hs

set_option maxRecDepth 100000 in
set_option maxHeartbeats 4000000 in
theorem gcheck_any (B : Nat) (vr vb : Value) (gr : Grants) (w : World) (hB : B ≤ w.heap.size) (hr : RolesAt B w vr gr.roles) (hb : BindsAt B w vb gr.binds) :
    Calls Tryd.prog 35 #[.agg #[vr, vb]] w (CheckPost w (grantsI gr)) := by
  have hr0 := hr
  have hb0 := hb
  obtain ⟨hn, A, cap, rfl, _, _, _⟩ := hr
  obtain ⟨hn', A', cap', rfl, _, _, _⟩ := hb
  have HR := Lib.hid hr0
  have HB := Lib.hid hb0
  clear hr0 hb0
  go_enter Tryd.func35, Tryd.ntmps35
  go_wp2_with fail
  all_goals
    obtain ⟨w0, hw0⟩ : ∃ w0, w0 = (w.alloc (.cells #[.slice A gr.roles.length cap, .slice A' gr.binds.length cap'] 25)).alloc (.cells #[.int .i64 0] 50) := ⟨_, rfl⟩
    have hx0 : Ext w w0 := by rw [hw0]; exact ((Below.refl _ _).alloc (Nat.le_refl _) _).alloc (by simp) _
    have hs0 : w0.heap.size = w.heap.size + 2 := by rw [hw0]; simp
    have hm0 : Mid w0 w0 w.heap.size (w.heap.size + 1) #[.slice A gr.roles.length cap, .slice A' gr.binds.length cap'] 0 := by
      refine ⟨?_, ?_, Mod.refl, by omega⟩
      · rw [hw0]; exact heap_old (heap_new rfl)
      · rw [hw0]; exact heap_new (by simp)
    have HR0 := Lib.hid (HR.out.below (hx0.mono hB))
    have HB0 := Lib.hid (HB.out.below (hx0.mono hB))
    have HM0 := Lib.hid hm0
    have HX0 := Lib.hid hx0
    have HS0 := Lib.hid hs0
    rw [← hw0]
    clear hm0 hx0 hs0 hw0
    refine Calls.mono (need_to _ _ _ _ (overI gr) _ HM0.out.2.1 ?_) ?_
    · unfold overI
      (repeat' split) <;> first | rfl | contradiction | (exfalso; (try simp only [decide_eq_true_eq] at *) <;> omega)
    rintro e w1 ⟨rfl, hc, hm⟩
    have M1 := Lib.hid (show Mid w0 w1 _ _ _ _ from ⟨hm.heap (safe_of HM0.out.2.2.2 HM0.out.1 (by decide)) HM0.out.1, hc, HM0.out.2.2.1.trans hm, HM0.out.2.2.2⟩)
    obtain ⟨g0, g1⟩ := cells2 M1.out.1
    clear hc hm
    go_wp2
    have hb0 : w.heap.size + 1 ≤ w0.heap.size := by have := HS0.out; omega
    have hBb : B ≤ w.heap.size + 1 := by omega
    go_loopw [4, 5, 25] (fun i r k wr => ∃ j : Nat, j ≤ gr.roles.length ∧ k = .int .i64 j ∧ Hid (Mid w0 wr w.heap.size (w.heap.size + 1) #[.slice A gr.roles.length cap, .slice A' gr.binds.length cap'] (rolesTo (say 0 (overI gr)) gr.roles j))) (fun _ _ k _ => gr.roles.length - (intOf k).toNat)
    case atStart => exact ⟨0, Nat.zero_le _, rfl, M1.out⟩
    case round =>
      obtain ⟨j, hj, rfl, hM⟩ := hrel
      obtain ⟨g0, g1⟩ := cells2 hM.out.1
      by_cases hlt : j < gr.roles.length
      · have hbel := hM.out.below hb0
        obtain ⟨_, A2, cap2, hv2, hcp, hcp2, hi⟩ := HR0.out
        injection hv2 with e1 e2 e3
        subst e1 e3
        obtain ⟨blk, off, cs, rfl, hblk, _, ⟨rv, rfl, hz1, hz2, h3⟩, hcell⟩ := hi j hlt
        obtain ⟨c0, c1, c2⟩ := at3 fun i u hu => (hbel.cell (p := ⟨blk, off + j * 3 + i, none⟩) (by show blk < _; omega)).trans (hcell i u hu)
        have HS := Lib.hid (rolesTo_succ (say 0 (overI gr)) gr.roles j hlt)
        have H3 := Lib.hid h3
        have hjc : j ≤ cap := by omega
        obtain ⟨r, hr⟩ : ∃ r, r = gr.roles[j] := ⟨_, rfl⟩
        rw [← hr] at HS H3 hz1 hz2 c0 c1
        clear hr h3 hcell hi hbel
        obtain ⟨A3, k3, rfl⟩ : ∃ A k, rv = .slice A r.rules.length k := ⟨_, _, H3.out.2.choose_spec.choose_spec.1⟩
        have B1 := Lib.hid (hM.out.bun (R := #[.string r.space, .string r.name, .slice A3 r.rules.length k3]) (tr := 74) (by decide))
        go_wp2_with fail
        refine Calls.mono (space_any _ _ _ _ B1.out.2.2.1 hz1) ?_
        rintro e w2 ⟨rfl, hc, hm⟩
        have B2 := Lib.hid (B1.out.step hc hm)
        clear hc hm
        obtain ⟨g0, g1, c0, c1, c2⟩ := B2.out.rcells
        go_wp2_with fail
        refine Calls.mono (check_any _ _ (by unfold maxLen; omega)) ?_
        rintro e w' ⟨rfl, rfl⟩
        go_wp2_with fail
        refine Calls.mono (says_any _ _ _ _ B2.out.2.2.1) ?_
        rintro e w3 ⟨rfl, hc, hm⟩
        have B3 := Lib.hid (B2.out.step hc hm)
        clear hc hm
        obtain ⟨g0, g1, c0, c1, c2⟩ := B3.out.rcells
        go_wp2_with fail
        refine Calls.mono (roleHas' B wr.heap.size r.space r.name _ _ _ _ (gr.roles.take j) _ B3.out.2.1 (by have := heap_lt B3.out.2.2.1; omega) ((HR0.out.below ((B3.out.below hb0).mono hBb)).take hj)) ?_
        rintro e w4 ⟨rfl, hx⟩
        have B4 := Lib.hid (B3.out.ext hx)
        clear hx
        obtain ⟨g0, g1, c0, c1, c2⟩ := B4.out.rcells
        go_wp2_with fail
        refine Calls.mono (need_to _ _ _ _ (dupI ((gr.roles.take j).any (sameRole r.space r.name))) _ B4.out.2.2.1 ?_) ?_
        · unfold dupI; (repeat' split) <;> simp_all
        rintro e w5 ⟨rfl, hc, hm⟩
        have B5 := Lib.hid (B4.out.step hc hm)
        clear hc hm
        obtain ⟨g0, g1, c0, c1, c2⟩ := B5.out.rcells
        go_wp2_with fail
        refine Calls.mono (rules_any B _ _ _ r.rules _ B5.out.2.2.1 hBb (H3.out.below ((B5.out.below hb0).mono hBb))) ?_
        rintro e w6 ⟨rfl, hc, hm⟩
        have B6 := Lib.hid (B5.out.step hc hm)
        clear hc hm
        obtain ⟨g0, g1, c0, c1, c2⟩ := B6.out.rcells
        go_wp2
        go_roundw
        case rel => exact ⟨j + 1, hlt, by go_num, by unfold Hid; rw [HS.out]; exact B6.out.mid⟩
        case measure => simp [intOf]; omega
      · obtain rfl : j = gr.roles.length := by omega
        have M2 := Lib.hid hM.out
        clear hM
        go_wp2
        go_loopw [6, 7, 56] (fun i r k wr => ∃ j : Nat, j ≤ gr.binds.length ∧ k = .int .i64 j ∧ Hid (Mid w0 wr w.heap.size (w.heap.size + 1) #[.slice A gr.roles.length cap, .slice A' gr.binds.length cap'] (bindsTo (rolesTo (say 0 (overI gr)) gr.roles gr.roles.length) gr.binds j))) (fun _ _ k _ => gr.binds.length - (intOf k).toNat)
        case atStart => exact ⟨0, Nat.zero_le _, rfl, M2.out⟩
        case round =>
          obtain ⟨j, hj', rfl, hM⟩ := hrel
          obtain ⟨g0, g1⟩ := cells2 hM.out.1
          by_cases hlt : j < gr.binds.length
          · have hj : j ≤ gr.binds.length := by omega
            have hbel := hM.out.below hb0
            obtain ⟨_, A2, cap2, hv2, hcp, hcp2, hi⟩ := HB0.out
            injection hv2 with e1 e2 e3
            subst e1 e3
            obtain ⟨blk, off, cs, rfl, hblk, _, ⟨u1, u2, rfl, hz1, hz2, hz3, h4, h5⟩, hcell⟩ := hi j hlt
            obtain ⟨c0, c1, c2, c3, c4, c5⟩ := at6 fun i u hu => (hbel.cell (p := ⟨blk, off + j * 6 + i, none⟩) (by show blk < _; omega)).trans (hcell i u hu)
            have HS := Lib.hid (bindsTo_succ (rolesTo (say 0 (overI gr)) gr.roles gr.roles.length) gr.binds j hlt)
            have H4 := Lib.hid h4
            have H5 := Lib.hid h5
            have hjc : j ≤ cap' := by omega
            obtain ⟨r, hr⟩ : ∃ r, r = gr.binds[j] := ⟨_, rfl⟩
            rw [← hr] at HS H4 H5 hz1 hz2 hz3 c0 c1 c2 c3
            clear hr h4 h5 hcell hi hbel
            obtain ⟨A4, k4, rfl⟩ : ∃ A k, u1 = .slice A r.users.length k := ⟨_, _, H4.out.2.choose_spec.choose_spec.1⟩
            obtain ⟨A5, k5, rfl⟩ : ∃ A k, u2 = .slice A r.groups.length k := ⟨_, _, H5.out.2.choose_spec.choose_spec.1⟩
            have n4 := H4.out.1
            have n5 := H5.out.1
            have B1 := Lib.hid (hM.out.bun (R := #[.string r.space, .string r.name, .string r.role, .bool r.whole, .slice A4 r.users.length k4, .slice A5 r.groups.length k5]) (tr := 71) (by decide))
            go_wp2_with fail
            refine Calls.mono (space_any _ _ _ _ B1.out.2.2.1 hz1) ?_
            rintro e w2 ⟨rfl, hc, hm⟩
            have B2 := Lib.hid (B1.out.step hc hm)
            clear hc hm
            obtain ⟨g0, g1, c0, c1, c2, c3, c4, c5⟩ := B2.out.bcells
            go_wp2_with fail
            refine Calls.mono (names_any _ _ _ _ [r.name, r.role] false _ (B2.out.2.2.1.mod_alloc _) (two_strs (heap_lt B2.out.2.2.1) hz2 hz3)) ?_
            rintro e w3 ⟨rfl, hc, hm⟩
            have B3 := Lib.hid ((B2.out.ext ((Below.refl _ _).alloc (Nat.le_refl _) _)).step hc hm)
            clear hc hm
            obtain ⟨g0, g1, c0, c1, c2, c3, c4, c5⟩ := B3.out.bcells
            go_wp2_with fail
            refine Calls.mono (bindHas' B wr.heap.size r.space r.name _ _ _ _ _ _ _ (gr.binds.take j) _ B3.out.2.1 (by have := heap_lt B3.out.2.2.1; omega) ((HB0.out.below ((B3.out.below hb0).mono hBb)).take hj)) ?_
            rintro e w4 ⟨rfl, hx⟩
            have B4 := Lib.hid (B3.out.ext hx)
            clear hx
            obtain ⟨g0, g1, c0, c1, c2, c3, c4, c5⟩ := B4.out.bcells
            go_wp2_with fail
            refine Calls.mono (need_to _ _ _ _ (dupI ((gr.binds.take j).any (sameBind r.space r.name))) _ B4.out.2.2.1 ?_) ?_
            · unfold dupI; (repeat' split) <;> simp_all
            rintro e w5 ⟨rfl, hc, hm⟩
            have B5 := Lib.hid (B4.out.step hc hm)
            clear hc hm
            obtain ⟨g0, g1, c0, c1, c2, c3, c4, c5⟩ := B5.out.bcells
            by_cases hsp : r.space.size = 0
            · have e1 := isEmpty_of_zero hsp
              have HSP := Lib.hid hsp
              clear hsp
              go_wp2_with fail
              refine Calls.mono (need_to _ _ _ _ (wholeI r) _ B5.out.2.2.1 ?_) ?_
              · unfold wholeI; have := HSP.out; cases hw : r.whole <;> simp_all
              rintro e w6 ⟨rfl, hc, hm⟩
              have B6 := Lib.hid (B5.out.step hc hm)
              clear hc hm
              obtain ⟨g0, g1, c0, c1, c2, c3, c4, c5⟩ := B6.out.bcells
              go_wp2_with fail
              all_goals
                refine Calls.mono (need_to _ _ _ _ (usersI r) _ B6.out.2.2.1 ?_) ?_
                · unfold usersI; (repeat' split) <;> first | rfl | contradiction | (exfalso; (try simp only [decide_eq_true_eq] at *) <;> omega)
                rintro e w7 ⟨rfl, hc, hm⟩
                have B7 := Lib.hid (B6.out.step hc hm)
                clear hc hm
                obtain ⟨g0, g1, c0, c1, c2, c3, c4, c5⟩ := B7.out.bcells
                go_wp2_with fail
                refine Calls.mono (names_any _ _ _ _ r.users false _ B7.out.2.2.1 (strsS_at (H4.out.below ((B7.out.below hb0).mono hBb)) hBb (heap_lt B7.out.2.2.1))) ?_
                rintro e w8 ⟨rfl, hc, hm⟩
                have B8 := Lib.hid (B7.out.step hc hm)
                clear hc hm
                obtain ⟨g0, g1, c0, c1, c2, c3, c4, c5⟩ := B8.out.bcells
                go_wp2_with fail
                refine Calls.mono (names_any _ _ _ _ r.groups false _ B8.out.2.2.1 (strsS_at (H5.out.below ((B8.out.below hb0).mono hBb)) hBb (heap_lt B8.out.2.2.1))) ?_
                rintro e w9 ⟨rfl, hc, hm⟩
                have B9 := Lib.hid (B8.out.step hc hm)
                clear hc hm
                obtain ⟨g0, g1, c0, c1, c2, c3, c4, c5⟩ := B9.out.bcells
                go_wp2
                go_roundw
                case rel => exact ⟨j + 1, hlt, by go_num, by unfold Hid; rw [HS.out]; exact B9.out.mid⟩
                case measure => simp [intOf]; omega
            · have e1 := isEmpty_of_pos (s := r.space) (by omega)
              have HSP := Lib.hid hsp
              clear hsp
              go_wp2_with fail
              refine Calls.mono (need_to _ _ _ _ (wholeI r) _ B5.out.2.2.1 ?_) ?_
              · unfold wholeI; have := HSP.out; cases hw : r.whole <;> simp_all
              rintro e w6 ⟨rfl, hc, hm⟩
              have B6 := Lib.hid (B5.out.step hc hm)
              clear hc hm
              obtain ⟨g0, g1, c0, c1, c2, c3, c4, c5⟩ := B6.out.bcells
              go_wp2_with fail
              all_goals
                refine Calls.mono (need_to _ _ _ _ (usersI r) _ B6.out.2.2.1 ?_) ?_
                · unfold usersI; (repeat' split) <;> first | rfl | contradiction | (exfalso; (try simp only [decide_eq_true_eq] at *) <;> omega)
                rintro e w7 ⟨rfl, hc, hm⟩
                have B7 := Lib.hid (B6.out.step hc hm)
                clear hc hm
                obtain ⟨g0, g1, c0, c1, c2, c3, c4, c5⟩ := B7.out.bcells
                go_wp2_with fail
                refine Calls.mono (names_any _ _ _ _ r.users false _ B7.out.2.2.1 (strsS_at (H4.out.below ((B7.out.below hb0).mono hBb)) hBb (heap_lt B7.out.2.2.1))) ?_
                rintro e w8 ⟨rfl, hc, hm⟩
                have B8 := Lib.hid (B7.out.step hc hm)
                clear hc hm
                obtain ⟨g0, g1, c0, c1, c2, c3, c4, c5⟩ := B8.out.bcells
                go_wp2_with fail
                refine Calls.mono (names_any _ _ _ _ r.groups false _ B8.out.2.2.1 (strsS_at (H5.out.below ((B8.out.below hb0).mono hBb)) hBb (heap_lt B8.out.2.2.1))) ?_
                rintro e w9 ⟨rfl, hc, hm⟩
                have B9 := Lib.hid (B8.out.step hc hm)
                clear hc hm
                obtain ⟨g0, g1, c0, c1, c2, c3, c4, c5⟩ := B9.out.bcells
                go_wp2
                go_roundw
                case rel => exact ⟨j + 1, hlt, by go_num, by unfold Hid; rw [HS.out]; exact B9.out.mid⟩
                case measure => simp [intOf]; omega
          · obtain rfl : j = gr.binds.length := by omega
            have hcb : wr.cell? ⟨w.heap.size + 1, 0, none⟩ = some (.int .i64 (grantsI gr)) := by have := cell_of hM.out.2.1 0; simpa [grantsI] using this
            have HX := Lib.hid ((hM.out.below hb0).mono (Nat.le_succ _))
            have hgi : Hid (Ext w wr) := Below.trans HX0.out HX.out
            go_wp2
            go_ret
            exact ⟨rfl, hgi.out⟩
end Go.Proofs.YtplfimoeggecjaaDoor.Sx
