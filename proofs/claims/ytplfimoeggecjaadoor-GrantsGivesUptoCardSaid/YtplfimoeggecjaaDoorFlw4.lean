/-
  The reference's GrantsCheck: the walk: it returns what the program's grants.Check returns.
-/
import Derived.Test.YtplfimoeggecjaaDoorFlw3
namespace Go.Proofs.YtplfimoeggecjaaDoor.Sx
open Go Go.RowKit

def rolesW (l : List Role) : Nat → Nat
  | 0 => 0
  | k + 1 => rolesW l k + (2 + k + match l[k]? with | none => 0 | some r => rulesW r.rules)
def bindsW (l : List Bind) : Nat → Nat
  | 0 => 0
  | k + 1 => bindsW l k + (5 + k + match l[k]? with | none => 0 | some r => r.users.length + r.groups.length)
theorem rolesW_succ (l : List Role) (k : Nat) (h : k < l.length) : rolesW l (k + 1) = rolesW l k + (2 + k + rulesW l[k].rules) := by
  rw [rolesW, List.getElem?_eq_getElem h]
theorem bindsW_succ (l : List Bind) (k : Nat) (h : k < l.length) : bindsW l (k + 1) = bindsW l k + (5 + k + (l[k].users.length + l[k].groups.length)) := by
  rw [bindsW, List.getElem?_eq_getElem h]
theorem rolesW_le (l : List Role) {k n : Nat} (h : k ≤ n) : rolesW l k ≤ rolesW l n := by
  induction n with
  | zero => obtain rfl : k = 0 := by omega
            exact Nat.le_refl _
  | succ n ih =>
    rcases Nat.lt_or_ge k (n + 1) with h1 | h1
    · have := ih (by omega); rw [rolesW]; omega
    · obtain rfl : k = n + 1 := by omega
      exact Nat.le_refl _
theorem bindsW_le (l : List Bind) {k n : Nat} (h : k ≤ n) : bindsW l k ≤ bindsW l n := by
  induction n with
  | zero => obtain rfl : k = 0 := by omega
            exact Nat.le_refl _
  | succ n ih =>
    rcases Nat.lt_or_ge k (n + 1) with h1 | h1
    · have := ih (by omega); rw [bindsW]; omega
    · obtain rfl : k = n + 1 := by omega
      exact Nat.le_refl _
/-- How long the list of flaws may get. -/
def grantsW (g : Grants) : Nat := 1 + rolesW g.roles g.roles.length + bindsW g.binds g.binds.length

theorem old_cell {w : World} {k j : Nat} {c : Array Value} {t : TypeId} {f : Nat × Nat} {v : Value} (h : w.heap[k]? = some (.cells c t f)) (hj : c[j]? = some v) (o : Obj) : (w.alloc o).cell? ⟨k, j, none⟩ = some v := by
  rw [cell_of (heap_old h)]; exact hj
theorem say_dup (c : Int) (a x : Bool) : say (say c (dupI a)) (dupI x) = say c (dupI (a || x)) := by
  unfold say dupI
  by_cases h : c = 0 <;> cases a <;> cases x <;> simp [h]
theorem any_take_succ {α : Type} {p : α → Bool} {l : List α} {m : Nat} (h : m < l.length) {x : Bool} (hx : p l[m] = x) (c : Int) : say c (dupI ((l.take (m + 1)).any p)) = say (say c (dupI ((l.take m).any p))) (dupI x) := by
  rw [say_dup, List.take_succ_eq_append_getElem h, List.any_append]
  simp [hx]

/-- In world w (come from w0): the grants' box, a round's box, the flaws. -/
def FBun (w0 w : World) (g b k : Nat) (G R : Array Value) (tr : TypeId) (c : Int) (K : Nat) : Prop :=
  w.heap[g]? = some (.cells G 25 (0, 0)) ∧ w.heap[k]? = some (.cells R tr (0, 0)) ∧ Flw w b c K ∧ Mod eT b w0 w ∧ g ≠ b ∧ k ≠ b ∧ tr ≠ eT
theorem FBun.step {w0 w w' : World} {g b k : Nat} {G R : Array Value} {tr : TypeId} {c c' : Int} {K K' : Nat} (h : FBun w0 w g b k G R tr c K) (hc : Flw w' b c' K') (hm : Mod eT b w w') : FBun w0 w' g b k G R tr c' K' := by
  obtain ⟨h1, h2, _, h4, h5, h6, h7⟩ := h
  exact ⟨hm.heap (safe_of h5 h1 (by decide)) h1, hm.heap (safe_of h6 h2 h7) h2, hc, h4.trans hm, h5, h6, h7⟩
theorem FBun.ext {w0 w w' : World} {g b k : Nat} {G R : Array Value} {tr : TypeId} {c : Int} {K : Nat} (h : FBun w0 w g b k G R tr c K) (he : Ext w w') : FBun w0 w' g b k G R tr c K :=
  h.step (h.2.2.1.ext he) (Mod.of_ext he)
theorem FBun.rcells {w0 w : World} {g b k : Nat} {x y a0 a1 a2 : Value} {tr : TypeId} {c : Int} {K : Nat} (h : FBun w0 w g b k #[x, y] #[a0, a1, a2] tr c K) :
    w.cell? ⟨g, 0, none⟩ = some x ∧ w.cell? ⟨g, 1, none⟩ = some y ∧ w.cell? ⟨k, 0, none⟩ = some a0 ∧ w.cell? ⟨k, 1, none⟩ = some a1 ∧ w.cell? ⟨k, 2, none⟩ = some a2 :=
  ⟨(cells2 h.1).1, (cells2 h.1).2, Sx.cells3 h.2.1⟩
theorem FBun.bcells {w0 w : World} {g b k : Nat} {x y a0 a1 a2 a3 a4 a5 : Value} {tr : TypeId} {c : Int} {K : Nat} (h : FBun w0 w g b k #[x, y] #[a0, a1, a2, a3, a4, a5] tr c K) :
    w.cell? ⟨g, 0, none⟩ = some x ∧ w.cell? ⟨g, 1, none⟩ = some y ∧ w.cell? ⟨k, 0, none⟩ = some a0 ∧ w.cell? ⟨k, 1, none⟩ = some a1 ∧ w.cell? ⟨k, 2, none⟩ = some a2 ∧ w.cell? ⟨k, 3, none⟩ = some a3 ∧ w.cell? ⟨k, 4, none⟩ = some a4 ∧ w.cell? ⟨k, 5, none⟩ = some a5 :=
  ⟨(cells2 h.1).1, (cells2 h.1).2, cells6 h.2.1⟩
theorem FBun.below {w0 w : World} {g b k : Nat} {G R : Array Value} {tr : TypeId} {c : Int} {K : Nat} (h : FBun w0 w g b k G R tr c K) (hb : b ≤ w0.heap.size) : Below b w0 w := h.2.2.2.1.below hb
/-- Between two rounds. -/
def FMid (w0 w : World) (g b : Nat) (G : Array Value) (c : Int) (K : Nat) : Prop := w.heap[g]? = some (.cells G 25 (0, 0)) ∧ Flw w b c K ∧ Mod eT b w0 w ∧ g ≠ b
theorem FMid.bun {w0 w : World} {g b : Nat} {G R : Array Value} {tr : TypeId} {c : Int} {K : Nat} (h : FMid w0 w g b G c K) (ht : tr ≠ eT) : FBun w0 (w.alloc (.cells R tr)) g b w.heap.size G R tr c K :=
  ⟨heap_old h.1, heap_new rfl, h.2.1.mod_alloc _, h.2.2.1.alloc _, h.2.2.2, by have := h.2.1.lt; omega, ht⟩
theorem FBun.mid {w0 w : World} {g b k : Nat} {G R : Array Value} {tr : TypeId} {c : Int} {K : Nat} (h : FBun w0 w g b k G R tr c K) : FMid w0 w g b G c K := ⟨h.1, h.2.2.1, h.2.2.2.1, h.2.2.2.2.1⟩
theorem FMid.below {w0 w : World} {g b : Nat} {G : Array Value} {c : Int} {K : Nat} (h : FMid w0 w g b G c K) (hb : b ≤ w0.heap.size) : Below b w0 w := h.2.2.1.below hb

set_option maxRecDepth 100000 in
set_option maxHeartbeats 8000000 in
theorem rcheck_any (B : Nat) (vr vb : Value) (gr : Grants) (w : World) (hB : B ≤ w.heap.size) (hr : RolesAt B w vr gr.roles) (hb : BindsAt B w vb gr.binds) (hK : grantsW gr < 8796093022208) :
    Calls Tryd.prog 21 #[.agg #[vr, vb]] w (CheckPost w (grantsI gr)) := by
  have hr0 := hr
  have hb0 := hb
  obtain ⟨hn, A, cap, rfl, _, _, _⟩ := hr
  obtain ⟨hn', A', cap', rfl, _, _, _⟩ := hb
  have HR := Lib.hid hr0
  have HB := Lib.hid hb0
  have HK := Lib.hid hK
  clear hr0 hb0 hK
  go_enter Tryd.func21, Tryd.ntmps21
  go_wp2_with fail
  all_goals
    obtain ⟨w0, hw0⟩ : ∃ w0, w0 = (w.alloc (.cells #[.slice A gr.roles.length cap, .slice A' gr.binds.length cap'] 25)).alloc (.cells #[.slice none 0 0] 56) := ⟨_, rfl⟩
    have hx0 : Ext w w0 := by rw [hw0]; exact ((Below.refl _ _).alloc (Nat.le_refl _) _).alloc (by simp) _
    have hs0 : w0.heap.size = w.heap.size + 2 := by rw [hw0]; simp
    have hm0 : FMid w0 w0 w.heap.size (w.heap.size + 1) #[.slice A gr.roles.length cap, .slice A' gr.binds.length cap'] 0 0 := by
      refine ⟨?_, ?_, Mod.refl, by omega⟩
      · rw [hw0]; exact heap_old (heap_new rfl)
      · rw [hw0]; exact Flw.new (by simp)
    have HR0 := Lib.hid (HR.out.below (hx0.mono hB))
    have HB0 := Lib.hid (HB.out.below (hx0.mono hB))
    have HM0 := Lib.hid hm0
    have HX0 := Lib.hid hx0
    have HS0 := Lib.hid hs0
    rw [← hw0]
    clear hm0 hx0 hs0 hw0
    refine Calls.mono (add_to _ _ _ (overI gr) _ _ _ HM0.out.2.1 (by omega) ?_) ?_
    · unfold overI
      (repeat' split) <;> first | rfl | contradiction | (exfalso; (try simp only [decide_eq_true_eq] at *) <;> omega)
    rintro e w1 ⟨rfl, hc, hm⟩
    have M1 := Lib.hid (show FMid w0 w1 _ _ _ _ _ from ⟨hm.heap (safe_of HM0.out.2.2.2 HM0.out.1 (by decide)) HM0.out.1, hc, HM0.out.2.2.1.trans hm, HM0.out.2.2.2⟩)
    obtain ⟨g0, g1⟩ := cells2 M1.out.1
    clear hc hm
    go_wp2
    have hb0 : w.heap.size + 1 ≤ w0.heap.size := by have := HS0.out; omega
    have hBb : B ≤ w.heap.size + 1 := by omega
    go_loopw [4, 5, 26] (fun i r k wr => ∃ j : Nat, j ≤ gr.roles.length ∧ k = .int .i64 j ∧ Hid (FMid w0 wr w.heap.size (w.heap.size + 1) #[.slice A gr.roles.length cap, .slice A' gr.binds.length cap'] (rolesTo (say 0 (overI gr)) gr.roles j) (1 + rolesW gr.roles j))) (fun _ _ k _ => gr.roles.length - (intOf k).toNat)
    case atStart => exact ⟨0, Nat.zero_le _, rfl, M1.out⟩
    case round =>
      obtain ⟨j, hj, rfl, hM⟩ := hrel
      obtain ⟨g0, g1⟩ := cells2 hM.out.1
      by_cases hlt : j < gr.roles.length
      · have hbel := hM.out.below hb0
        obtain ⟨_, A2, cap2, hv2, hcp, hcp2, hi⟩ := HR0.out
        injection hv2 with e1 e2 e3
        subst e1 e3
        obtain ⟨blk, off, cs, rfl, hblk, _, ⟨rv, rfl, hz1, hz2, h3⟩, hcell⟩ := hi j hlt
        obtain ⟨c0, c1, c2⟩ := at3 fun i u hu => (hbel.cell (p := ⟨blk, off + j * 3 + i, none⟩) (by show blk < _; omega)).trans (hcell i u hu)
        have HS := Lib.hid (rolesTo_succ (say 0 (overI gr)) gr.roles j hlt)
        have hw1 := rolesW_succ gr.roles j hlt
        have hw2 := rolesW_le gr.roles (show j + 1 ≤ gr.roles.length by omega)
        have H3 := Lib.hid h3
        have hjc : j ≤ cap := by omega
        obtain ⟨r, hr⟩ : ∃ r, r = gr.roles[j] := ⟨_, rfl⟩
        rw [← hr] at HS H3 hz1 hz2 c0 c1 hw1
        clear hr h3 hcell hi hbel
        have HKK : Hid (1 + rolesW gr.roles j + 2 + j + rulesW r.rules < 8796093022208) := by have := HK.out; unfold grantsW at this; unfold Hid; omega
        have HW := Lib.hid hw1
        clear hw1 hw2
        have hkk := HKK.out
        obtain ⟨A3, k3, rfl⟩ : ∃ A k, rv = .slice A r.rules.length k := ⟨_, _, H3.out.2.choose_spec.choose_spec.1⟩
        obtain ⟨kb, hkb⟩ : ∃ kb, kb = wr.heap.size := ⟨_, rfl⟩
        have B1 := Lib.hid (hM.out.bun (R := #[.string r.space, .string r.name, .slice A3 r.rules.length k3]) (tr := 74) (by decide))
        go_wp2_with fail
        rw [← hkb] at B1 ⊢
        have HKB := Lib.hid hkb
        clear hkb
        refine Calls.mono (fspace_any _ _ _ _ _ B1.out.2.2.1 (by omega) hz1) ?_
        rintro e w2 ⟨rfl, hc, hm⟩
        have B2 := Lib.hid (B1.out.step hc hm)
        clear hc hm
        obtain ⟨g0, g1, c0, c1, c2⟩ := B2.out.rcells
        go_wp2_with fail
        refine Calls.mono (rname_any _ _ (by unfold maxLen; omega)) ?_
        rintro e w' ⟨rfl, rfl⟩
        go_wp2_with fail
        refine Calls.mono (fsays_any _ _ _ _ _ B2.out.2.2.1 (by omega)) ?_
        rintro e w3 ⟨rfl, hc, hm⟩
        have B3 := Lib.hid (B2.out.step hc hm)
        clear hc hm
        obtain ⟨g0, g1, c0, c1, c2⟩ := B3.out.rcells
        go_wp2
        obtain ⟨wo, hwo⟩ : ∃ wo : World, wo = w3 := ⟨_, rfl⟩
        rw [← hwo] at B3 g0 g1 c0 c1 c2 ⊢
        clear hwo
        go_loopw [7, 43] (fun q k wr => ∃ m : Nat, m ≤ j ∧ k = .int .i64 m ∧ Hid (FBun w0 wr w.heap.size (w.heap.size + 1) kb #[.slice (some ⟨blk, off, none⟩) gr.roles.length cap, .slice A' gr.binds.length cap'] #[.string r.space, .string r.name, .slice A3 r.rules.length k3] 74 (say (say (spaceI (rolesTo (say 0 (overI gr)) gr.roles j) r.space) (nameI r.name)) (dupI ((gr.roles.take m).any (sameRole r.space r.name)))) ((1 + rolesW gr.roles j + 1 + 1) + m))) (fun _ k _ => j - (intOf k).toNat)
        case atStart => exact ⟨0, Nat.zero_le _, rfl, by unfold Hid; simpa [dupI, say_none] using B3.out⟩
        case round =>
          obtain ⟨m, hmj, rfl, hI⟩ := hrel
          obtain ⟨g0, g1, c0, c1, c2⟩ := hI.out.rcells
          by_cases hlm : m < j
          · have hm1 : m < gr.roles.length := by omega
            have hbel := hI.out.below hb0
            obtain ⟨_, A2, cap2, hv2, _, _, hi⟩ := HR0.out
            injection hv2 with e1 e2 e3
            subst e1 e3
            obtain ⟨blk', off', cs, hA', hblk', _, ⟨rv', rfl, _, _, h3'⟩, hcell⟩ := hi m hm1
            injection hA' with hA'
            injection hA' with hA1 hA2
            subst hA1 hA2
            obtain ⟨e0, e1, e2⟩ := at3 fun i u hu => (hbel.cell (p := ⟨blk, off + m * 3 + i, none⟩) (by show blk < _; omega)).trans (hcell i u hu)
            have HD := Lib.hid (fun x (hx : sameRole r.space r.name gr.roles[m] = x) => any_take_succ (p := sameRole r.space r.name) hm1 hx)
            have H3' := Lib.hid h3'
            have hKm : (1 + rolesW gr.roles j + 1 + 1) + m < 8796093022208 := by have := HKK.out; omega
            obtain ⟨q, hq⟩ : ∃ q, q = gr.roles[m] := ⟨_, rfl⟩
            rw [← hq] at HD H3' e0 e1
            clear hq h3' hcell hi hbel
            obtain ⟨A9, k9, rfl⟩ : ∃ A k, rv' = .slice A q.rules.length k := ⟨_, _, H3'.out.2.choose_spec.choose_spec.1⟩
            have f0 := old_cell hI.out.2.1 (j := 0) rfl
            have f1 := old_cell hI.out.2.1 (j := 1) rfl
            cases q1 : (q.space.toList == r.space.toList) with
            | false =>
              have HV := Lib.hid (HD.out false (by unfold sameRole eqS; rw [q1]; rfl))
              go_wp2_with fail
              refine Calls.mono (add_to _ _ _ (dupI false) _ _ _ (hI.out.2.2.1.mod_alloc _) hKm ?_) ?_
              · simp [dupI]
              rintro e w9 ⟨rfl, hc, hm⟩
              have B9 := Lib.hid ((hI.out.ext ((Below.refl _ _).alloc (Nat.le_refl _) _)).step hc hm)
              clear hc hm
              go_wp2
              go_roundw
              case rel => exact ⟨m + 1, hlm, by go_num, by unfold Hid; rw [HV.out]; exact B9.out⟩
              case measure => simp [intOf]; omega
            | true =>
              cases q2 : (q.name.toList == r.name.toList) with
              | false =>
                have HV := Lib.hid (HD.out false (by unfold sameRole eqS; rw [q1, q2]; rfl))
                go_wp2_with fail
                refine Calls.mono (add_to _ _ _ (dupI false) _ _ _ (hI.out.2.2.1.mod_alloc _) hKm ?_) ?_
                · simp [dupI]
                rintro e w9 ⟨rfl, hc, hm⟩
                have B9 := Lib.hid ((hI.out.ext ((Below.refl _ _).alloc (Nat.le_refl _) _)).step hc hm)
                clear hc hm
                go_wp2
                go_roundw
                case rel => exact ⟨m + 1, hlm, by go_num, by unfold Hid; rw [HV.out]; exact B9.out⟩
                case measure => simp [intOf]; omega
              | true =>
                have HV := Lib.hid (HD.out true (by unfold sameRole eqS; rw [q1, q2]; rfl))
                go_wp2_with fail
                refine Calls.mono (add_to _ _ _ (dupI true) _ _ _ (hI.out.2.2.1.mod_alloc _) hKm ?_) ?_
                · simp [dupI]
                rintro e w9 ⟨rfl, hc, hm⟩
                have B9 := Lib.hid ((hI.out.ext ((Below.refl _ _).alloc (Nat.le_refl _) _)).step hc hm)
                clear hc hm
                go_wp2
                go_roundw
                case rel => exact ⟨m + 1, hlm, by go_num, by unfold Hid; rw [HV.out]; exact B9.out⟩
                case measure => simp [intOf]; omega
          · obtain rfl : m = j := by omega
            have BI := Lib.hid hI.out
            clear hI
            go_wp2_with fail
            refine Calls.mono (frules_any B _ _ _ _ r.rules _ BI.out.2.2.1 hBb (H3.out.below ((BI.out.below hb0).mono hBb)) (by omega)) ?_
            rintro e w6 ⟨rfl, hc, hm⟩
            have B6 := Lib.hid (BI.out.step hc hm)
            clear hc hm
            obtain ⟨g0, g1⟩ := cells2 B6.out.1
            go_wp2
            go_roundw
            case rel => exact ⟨m + 1, hlt, by go_num, by unfold Hid; rw [HS.out, HW.out]; exact ⟨B6.out.mid.1, B6.out.mid.2.1.more (by omega), B6.out.mid.2.2⟩⟩
            case measure => simp [intOf]; omega
      · obtain rfl : j = gr.roles.length := by omega
        have M2 := Lib.hid hM.out
        clear hM hj hlt
        go_wp2
        go_loopw [8, 9, 68] (fun i r k wr => ∃ j : Nat, j ≤ gr.binds.length ∧ k = .int .i64 j ∧ Hid (FMid w0 wr w.heap.size (w.heap.size + 1) #[.slice A gr.roles.length cap, .slice A' gr.binds.length cap'] (bindsTo (rolesTo (say 0 (overI gr)) gr.roles gr.roles.length) gr.binds j) (1 + rolesW gr.roles gr.roles.length + bindsW gr.binds j))) (fun _ _ k _ => gr.binds.length - (intOf k).toNat)
        case atStart => exact ⟨0, Nat.zero_le _, rfl, M2.out⟩
        case round =>
          obtain ⟨j, hj, rfl, hM⟩ := hrel
          obtain ⟨g0, g1⟩ := cells2 hM.out.1
          by_cases hlt : j < gr.binds.length
          · have hbel := hM.out.below hb0
            obtain ⟨_, A2, cap2, hv2, hcp, hcp2, hi⟩ := HB0.out
            injection hv2 with e1 e2 e3
            subst e1 e3
            obtain ⟨blk, off, cs, rfl, hblk, _, ⟨u1, u2, rfl, hz1, hz2, hz3, h4, h5⟩, hcell⟩ := hi j hlt
            obtain ⟨c0, c1, c2, c3, c4, c5⟩ := at6 fun i u hu => (hbel.cell (p := ⟨blk, off + j * 6 + i, none⟩) (by show blk < _; omega)).trans (hcell i u hu)
            have HS := Lib.hid (bindsTo_succ (rolesTo (say 0 (overI gr)) gr.roles gr.roles.length) gr.binds j hlt)
            have hw1 := bindsW_succ gr.binds j hlt
            have hw2 := bindsW_le gr.binds (show j + 1 ≤ gr.binds.length by omega)
            have H4 := Lib.hid h4
            have H5 := Lib.hid h5
            have hjc : j ≤ cap' := by omega
            obtain ⟨r, hr⟩ : ∃ r, r = gr.binds[j] := ⟨_, rfl⟩
            rw [← hr] at HS H4 H5 hz1 hz2 hz3 c0 c1 c2 c3 hw1
            clear hr h4 h5 hcell hi hbel
            have HKK : Hid (1 + rolesW gr.roles gr.roles.length + bindsW gr.binds j + 5 + j + (r.users.length + r.groups.length) < 8796093022208) := by have := HK.out; unfold grantsW at this; unfold Hid; omega
            have HW := Lib.hid hw1
            clear hw1 hw2
            have hkk := HKK.out
            obtain ⟨A4, k4, rfl⟩ : ∃ A k, u1 = .slice A r.users.length k := ⟨_, _, H4.out.2.choose_spec.choose_spec.1⟩
            obtain ⟨A5, k5, rfl⟩ : ∃ A k, u2 = .slice A r.groups.length k := ⟨_, _, H5.out.2.choose_spec.choose_spec.1⟩
            have n4 := H4.out.1
            have n5 := H5.out.1
            obtain ⟨kb, hkb⟩ : ∃ kb, kb = wr.heap.size := ⟨_, rfl⟩
            have B1 := Lib.hid (hM.out.bun (R := #[.string r.space, .string r.name, .string r.role, .bool r.whole, .slice A4 r.users.length k4, .slice A5 r.groups.length k5]) (tr := 71) (by decide))
            go_wp2_with fail
            rw [← hkb] at B1 ⊢
            have HKB := Lib.hid hkb
            clear hkb
            refine Calls.mono (fspace_any _ _ _ _ _ B1.out.2.2.1 (by omega) hz1) ?_
            rintro e w2 ⟨rfl, hc, hm⟩
            have B2 := Lib.hid (B1.out.step hc hm)
            clear hc hm
            obtain ⟨g0, g1, c0, c1, c2, c3, c4, c5⟩ := B2.out.bcells
            go_wp2_with fail
            refine Calls.mono (rname_any _ _ (by unfold maxLen; omega)) ?_
            rintro e w' ⟨rfl, rfl⟩
            go_wp2_with fail
            refine Calls.mono (fsays_any _ _ _ _ _ B2.out.2.2.1 (by omega)) ?_
            rintro e w3 ⟨rfl, hc, hm⟩
            have B3 := Lib.hid (B2.out.step hc hm)
            clear hc hm
            obtain ⟨g0, g1, c0, c1, c2, c3, c4, c5⟩ := B3.out.bcells
            go_wp2_with fail
            refine Calls.mono (rname_any _ _ (by unfold maxLen; omega)) ?_
            rintro e w' ⟨rfl, rfl⟩
            go_wp2_with fail
            refine Calls.mono (fsays_any _ _ _ _ _ B3.out.2.2.1 (by omega)) ?_
            rintro e w4 ⟨rfl, hc, hm⟩
            have B4 : Hid (FBun w0 w4 w.heap.size (w.heap.size + 1) kb #[.slice A gr.roles.length cap, .slice (some ⟨blk, off, none⟩) gr.binds.length cap'] #[.string r.space, .string r.name, .string r.role, .bool r.whole, .slice A4 r.users.length k4, .slice A5 r.groups.length k5] 71 (namesI (spaceI (bindsTo (rolesTo (say 0 (overI gr)) gr.roles gr.roles.length) gr.binds j) r.space) [r.name, r.role] false) (1 + rolesW gr.roles gr.roles.length + bindsW gr.binds j + 1 + 1 + 1)) := B3.out.step hc hm
            clear hc hm
            obtain ⟨g0, g1, c0, c1, c2, c3, c4, c5⟩ := B4.out.bcells
            go_wp2
            obtain ⟨wo, hwo⟩ : ∃ wo : World, wo = w4 := ⟨_, rfl⟩
            rw [← hwo] at B4 g0 g1 c0 c1 c2 c3 c4 c5 ⊢
            clear hwo
            go_loopw [11, 89] (fun q k wr => ∃ m : Nat, m ≤ j ∧ k = .int .i64 m ∧ Hid (FBun w0 wr w.heap.size (w.heap.size + 1) kb #[.slice A gr.roles.length cap, .slice (some ⟨blk, off, none⟩) gr.binds.length cap'] #[.string r.space, .string r.name, .string r.role, .bool r.whole, .slice A4 r.users.length k4, .slice A5 r.groups.length k5] 71 (say (namesI (spaceI (bindsTo (rolesTo (say 0 (overI gr)) gr.roles gr.roles.length) gr.binds j) r.space) [r.name, r.role] false) (dupI ((gr.binds.take m).any (sameBind r.space r.name)))) ((1 + rolesW gr.roles gr.roles.length + bindsW gr.binds j + 1 + 1 + 1) + m))) (fun _ k _ => j - (intOf k).toNat)
            case atStart => exact ⟨0, Nat.zero_le _, rfl, by unfold Hid; simpa [dupI, say_none] using B4.out⟩
            case round =>
              obtain ⟨m, hmj, rfl, hI⟩ := hrel
              obtain ⟨g0, g1, c0, c1, c2, c3, c4, c5⟩ := hI.out.bcells
              by_cases hlm : m < j
              · have hm1 : m < gr.binds.length := by omega
                have hbel := hI.out.below hb0
                obtain ⟨_, A2, cap2, hv2, _, _, hi⟩ := HB0.out
                injection hv2 with e1 e2 e3
                subst e1 e3
                obtain ⟨blk', off', cs, hA', hblk', _, ⟨x1, x2, rfl, _, _, _, h3', h4'⟩, hcell⟩ := hi m hm1
                injection hA' with hA'
                injection hA' with hA1 hA2
                subst hA1 hA2
                obtain ⟨e0, e1, e2, e3, e4, e5⟩ := at6 fun i u hu => (hbel.cell (p := ⟨blk, off + m * 6 + i, none⟩) (by show blk < _; omega)).trans (hcell i u hu)
                have HD := Lib.hid (fun x (hx : sameBind r.space r.name gr.binds[m] = x) => any_take_succ (p := sameBind r.space r.name) hm1 hx)
                have H3' := Lib.hid (And.intro h3' h4')
                have hKm : (1 + rolesW gr.roles gr.roles.length + bindsW gr.binds j + 1 + 1 + 1) + m < 8796093022208 := by have := HKK.out; omega
                obtain ⟨q, hq⟩ : ∃ q, q = gr.binds[m] := ⟨_, rfl⟩
                rw [← hq] at HD H3' e0 e1 e2 e3
                clear hq h3' h4' hcell hi hbel
                obtain ⟨A8, k8, rfl⟩ : ∃ A k, x1 = .slice A q.users.length k := ⟨_, _, H3'.out.1.2.choose_spec.choose_spec.1⟩
                obtain ⟨A9, k9, rfl⟩ : ∃ A k, x2 = .slice A q.groups.length k := ⟨_, _, H3'.out.2.2.choose_spec.choose_spec.1⟩
                have f0 := old_cell hI.out.2.1 (j := 0) rfl
                have f1 := old_cell hI.out.2.1 (j := 1) rfl
                cases q1 : (q.space.toList == r.space.toList) with
                | false =>
                  have HV := Lib.hid (HD.out false (by unfold sameBind eqS; rw [q1]; rfl))
                  go_wp2_with fail
                  refine Calls.mono (add_to _ _ _ (dupI false) _ _ _ (hI.out.2.2.1.mod_alloc _) hKm ?_) ?_
                  · simp [dupI]
                  rintro e w9 ⟨rfl, hc, hm⟩
                  have B9 := Lib.hid ((hI.out.ext ((Below.refl _ _).alloc (Nat.le_refl _) _)).step hc hm)
                  clear hc hm
                  go_wp2
                  go_roundw
                  case rel => exact ⟨m + 1, hlm, by go_num, by unfold Hid; rw [HV.out]; exact B9.out⟩
                  case measure => simp [intOf]; omega
                | true =>
                  cases q2 : (q.name.toList == r.name.toList) with
                  | false =>
                    have HV := Lib.hid (HD.out false (by unfold sameBind eqS; rw [q1, q2]; rfl))
                    go_wp2_with fail
                    refine Calls.mono (add_to _ _ _ (dupI false) _ _ _ (hI.out.2.2.1.mod_alloc _) hKm ?_) ?_
                    · simp [dupI]
                    rintro e w9 ⟨rfl, hc, hm⟩
                    have B9 := Lib.hid ((hI.out.ext ((Below.refl _ _).alloc (Nat.le_refl _) _)).step hc hm)
                    clear hc hm
                    go_wp2
                    go_roundw
                    case rel => exact ⟨m + 1, hlm, by go_num, by unfold Hid; rw [HV.out]; exact B9.out⟩
                    case measure => simp [intOf]; omega
                  | true =>
                    have HV := Lib.hid (HD.out true (by unfold sameBind eqS; rw [q1, q2]; rfl))
                    go_wp2_with fail
                    refine Calls.mono (add_to _ _ _ (dupI true) _ _ _ (hI.out.2.2.1.mod_alloc _) hKm ?_) ?_
                    · simp [dupI]
                    rintro e w9 ⟨rfl, hc, hm⟩
                    have B9 := Lib.hid ((hI.out.ext ((Below.refl _ _).alloc (Nat.le_refl _) _)).step hc hm)
                    clear hc hm
                    go_wp2
                    go_roundw
                    case rel => exact ⟨m + 1, hlm, by go_num, by unfold Hid; rw [HV.out]; exact B9.out⟩
                    case measure => simp [intOf]; omega
              · obtain rfl : m = j := by omega
                have BI := Lib.hid hI.out
                clear hI
                by_cases hsp : r.space.size = 0
                · have e1 := isEmpty_of_zero hsp
                  have HSP := Lib.hid hsp
                  clear hsp
                  go_wp2_with fail
                  all_goals
                    refine Calls.mono (add_to _ _ _ (wholeI r) _ _ _ BI.out.2.2.1 (by omega) ?_) ?_
                    · unfold wholeI; have := HSP.out; cases hw : r.whole <;> simp_all
                    rintro e w6 ⟨rfl, hc, hm⟩
                    have B6 := Lib.hid (BI.out.step hc hm)
                    clear hc hm
                    obtain ⟨g0, g1, c0, c1, c2, c3, c4, c5⟩ := B6.out.bcells
                    go_wp2_with fail
                    all_goals
                      refine Calls.mono (add_to _ _ _ (usersI r) _ _ _ B6.out.2.2.1 (by omega) ?_) ?_
                      · unfold usersI; (repeat' split) <;> first | rfl | contradiction | (exfalso; (try simp only [decide_eq_true_eq] at *) <;> omega)
                      rintro e w7 ⟨rfl, hc, hm⟩
                      have B7 := Lib.hid (B6.out.step hc hm)
                      clear hc hm
                      obtain ⟨g0, g1, c0, c1, c2, c3, c4, c5⟩ := B7.out.bcells
                      go_wp2_with fail
                      refine Calls.mono (fnames_any _ _ _ _ _ r.users false _ B7.out.2.2.1 (strsS_at (H4.out.below ((B7.out.below hb0).mono hBb)) hBb B7.out.2.2.1.lt) (by omega)) ?_
                      rintro e w8 ⟨rfl, hc, hm⟩
                      have B8 := Lib.hid (B7.out.step hc hm)
                      clear hc hm
                      obtain ⟨g0, g1, c0, c1, c2, c3, c4, c5⟩ := B8.out.bcells
                      go_wp2_with fail
                      refine Calls.mono (fnames_any _ _ _ _ _ r.groups false _ B8.out.2.2.1 (strsS_at (H5.out.below ((B8.out.below hb0).mono hBb)) hBb B8.out.2.2.1.lt) (by omega)) ?_
                      rintro e w9 ⟨rfl, hc, hm⟩
                      have B9 := Lib.hid (B8.out.step hc hm)
                      clear hc hm
                      obtain ⟨g0, g1, c0, c1, c2, c3, c4, c5⟩ := B9.out.bcells
                      go_wp2
                      go_roundw
                      case rel => exact ⟨m + 1, hlt, by go_num, by unfold Hid; rw [HS.out, HW.out]; exact ⟨B9.out.mid.1, B9.out.mid.2.1.more (by omega), B9.out.mid.2.2⟩⟩
                      case measure => simp [intOf]; omega
                · have e1 := isEmpty_of_pos (s := r.space) (by omega)
                  have HSP := Lib.hid hsp
                  clear hsp
                  go_wp2_with fail
                  all_goals
                    refine Calls.mono (add_to _ _ _ (wholeI r) _ _ _ BI.out.2.2.1 (by omega) ?_) ?_
                    · unfold wholeI; have := HSP.out; cases hw : r.whole <;> simp_all
                    rintro e w6 ⟨rfl, hc, hm⟩
                    have B6 := Lib.hid (BI.out.step hc hm)
                    clear hc hm
                    obtain ⟨g0, g1, c0, c1, c2, c3, c4, c5⟩ := B6.out.bcells
                    go_wp2_with fail
                    all_goals
                      refine Calls.mono (add_to _ _ _ (usersI r) _ _ _ B6.out.2.2.1 (by omega) ?_) ?_
                      · unfold usersI; (repeat' split) <;> first | rfl | contradiction | (exfalso; (try simp only [decide_eq_true_eq] at *) <;> omega)
                      rintro e w7 ⟨rfl, hc, hm⟩
                      have B7 := Lib.hid (B6.out.step hc hm)
                      clear hc hm
                      obtain ⟨g0, g1, c0, c1, c2, c3, c4, c5⟩ := B7.out.bcells
                      go_wp2_with fail
                      refine Calls.mono (fnames_any _ _ _ _ _ r.users false _ B7.out.2.2.1 (strsS_at (H4.out.below ((B7.out.below hb0).mono hBb)) hBb B7.out.2.2.1.lt) (by omega)) ?_
                      rintro e w8 ⟨rfl, hc, hm⟩
                      have B8 := Lib.hid (B7.out.step hc hm)
                      clear hc hm
                      obtain ⟨g0, g1, c0, c1, c2, c3, c4, c5⟩ := B8.out.bcells
                      go_wp2_with fail
                      refine Calls.mono (fnames_any _ _ _ _ _ r.groups false _ B8.out.2.2.1 (strsS_at (H5.out.below ((B8.out.below hb0).mono hBb)) hBb B8.out.2.2.1.lt) (by omega)) ?_
                      rintro e w9 ⟨rfl, hc, hm⟩
                      have B9 := Lib.hid (B8.out.step hc hm)
                      clear hc hm
                      obtain ⟨g0, g1, c0, c1, c2, c3, c4, c5⟩ := B9.out.bcells
                      go_wp2
                      go_roundw
                      case rel => exact ⟨m + 1, hlt, by go_num, by unfold Hid; rw [HS.out, HW.out]; exact ⟨B9.out.mid.1, B9.out.mid.2.1.more (by omega), B9.out.mid.2.2⟩⟩
                      case measure => simp [intOf]; omega
          · obtain rfl : j = gr.binds.length := by omega
            have HXX := Lib.hid ((hM.out.below hb0).mono (Nat.le_succ _))
            have hgi : Hid (Ext w wr) := Below.trans HX0.out HXX.out
            obtain ⟨vf, Lf, hf1, hf2⟩ := hM.out.2.1
            have hcf := cell_of hf1 0
            simp at hcf
            have HF := Lib.hid hM.out.2.1
            have hkk : Hid (1 + rolesW gr.roles gr.roles.length + bindsW gr.binds gr.binds.length < 8796093022209) := by have := HK.out; unfold grantsW at this; unfold Hid; omega
            clear hf1 hf2
            go_wp2_with fail
            refine Calls.mono (first_any _ _ _ _ _ HF.out hcf hkk.out) ?_
            rintro e w' ⟨rfl, rfl⟩
            go_wp2
            go_ret
            exact ⟨rfl, hgi.out⟩
end Go.Proofs.YtplfimoeggecjaaDoor.Sx
