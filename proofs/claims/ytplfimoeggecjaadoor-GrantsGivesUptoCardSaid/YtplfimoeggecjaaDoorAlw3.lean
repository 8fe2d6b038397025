/-
  The reference's Allows: it answers as the program's grants.Allows.
-/
import Derived.Test.YtplfimoeggecjaaDoorAlw2
namespace Go.Proofs.YtplfimoeggecjaaDoor.Sx
open Go Go.RowKit

theorem has_ways (l : List ByteArray) (s : ByteArray) : ∃ b1 b2 b3, hasS l s = b1 ∧ hasS l ⟨#[42]⟩ = b2 ∧ hasW l s = b3 ∧ ((b1 = true ∧ b3 = true) ∨ (b1 = false ∧ b2 = b3)) := by
  refine ⟨_, _, _, rfl, rfl, rfl, ?_⟩
  show (hasS l s = true ∧ hasW l s = true) ∨ (hasS l s = false ∧ hasS l starS = hasW l s)
  unfold hasW
  cases hasS l s <;> simp
theorem names_ways (r : Rule) (a : Ask) : ∃ b1 b2 b3 b4, ((r.names.length : Int) == 0) = b1 ∧ a.name.toList.isEmpty = b2 ∧ hasS r.names a.name = b3 ∧ okNames r a = b4 ∧
    ((b1 = true ∧ b4 = true) ∨ (b1 = false ∧ b2 = true ∧ b4 = false) ∨ (b1 = false ∧ b2 = false ∧ b3 = b4)) := by
  refine ⟨_, _, _, _, rfl, rfl, rfl, rfl, ?_⟩
  unfold okNames
  by_cases hl : r.names.length = 0
  · left; simp [hl]
  · right
    have h1 : ((r.names.length : Int) == 0) = false := beq_eq_false_iff_ne.2 (by omega)
    by_cases hz : a.name.size = 0
    · left; simp [hl, hz, h1, isEmpty_of_zero hz]
    · right; simp [hl, hz, h1, isEmpty_of_pos (s := a.name) (by omega)]

set_option maxRecDepth 100000 in
set_option maxHeartbeats 4000000 in
theorem rallows_any (B : Nat) (v : Value) (l : List Rule) (a : Ask) (w : World) (hB : B ≤ w.heap.size) (hv : RulesR B w v l) :
    Calls Tryd.prog 15 #[v, a.val] w fun e w' => e = .returned (.bool (allowsL l a)) ∧ Ext w w' := by
  have hn := hv.1
  have HV := Lib.hid hv
  obtain ⟨_, A, cap, rfl, _⟩ := hv
  unfold Ask.val
  go_enter Tryd.func15, Tryd.ntmps15
  go_wp2
  obtain ⟨w0, hw0⟩ : ∃ w0, w0 = w.alloc (.cells #[.string a.verb, .string a.kind, .string a.space, .string a.name] 33) := ⟨_, rfl⟩
  have hx0 : Ext w w0 := by rw [hw0]; exact (Below.refl _ _).alloc (Nat.le_refl _) _
  have ha0 : AskIn w0 w.heap.size a := by rw [hw0]; exact heap_new rfl
  rw [← hw0]
  have HX0 := Lib.hid hx0
  have H := Lib.hid ha0
  have HV0 := Lib.hid (HV.out.below (hx0.mono hB) (Nat.le_refl _))
  clear hw0 hx0 ha0
  go_loopw [6, 7, 8, 9, 12] (fun _ _ _ _ k wr => ∃ j : Nat, j ≤ l.length ∧ k = .int .i64 j ∧ Hid (noneTo (fun r => okRule r a) l j) ∧ Hid (Ext w0 wr)) (fun _ _ _ _ k _ => l.length - (intOf k).toNat)
  case atStart => exact ⟨0, Nat.zero_le _, rfl, fun i hi h => by omega, Below.refl _ _⟩
  case round =>
    obtain ⟨j, hj, rfl, hN, hX⟩ := hrel
    by_cases hlt : j < l.length
    · have hB0 := Nat.le_trans hB HX0.out.size
      have hbl := hX.out.mono hB0
      obtain ⟨b, off, A1, c1, A2, c2, A3, c3, rfl, _, x0, x1, x2, h1, h2, h3⟩ := (HV0.out.below hbl (Nat.le_refl _)).at_ hlt
      have hBr : B ≤ wr.heap.size := Nat.le_trans hB0 hX.out.size
      have hAr : AskIn wr w.heap.size a := (hX.out.block _ (heap_lt H.out)).trans H.out
      have hlk := heap_lt hAr
      have o0 := past_cell hAr 0
      have o1 := past_cell hAr 1
      have o3 := past_cell hAr 3
      simp at o0 o1 o3
      have hal : ∀ o, Below B wr (wr.alloc o) := fun o => (Below.refl _ _).alloc hBr _
      have HC : Hid ((∀ o, StrsR B (wr.alloc o) (.slice A1 l[j].verbs.length c1) l[j].verbs) ∧ (∀ o, StrsR B (wr.alloc o) (.slice A2 l[j].kinds.length c2) l[j].kinds) ∧ (∀ o, StrsR B (wr.alloc o) (.slice A3 l[j].names.length c3) l[j].names)) :=
        ⟨fun o => h1.below (hal o) (Nat.le_refl _), fun o => h2.below (hal o) (Nat.le_refl _), fun o => h3.below (hal o) (Nat.le_refl _)⟩
      have HY : Hid (∀ o, Ext w (wr.alloc o)) := fun o => HX0.out.trans (hX.out.trans ((Below.refl _ _).alloc (Nat.le_refl _) o))
      have HZ : Hid (∀ o, Ext w0 (wr.alloc o)) := fun o => hX.out.trans ((Below.refl _ _).alloc (Nat.le_refl _) o)
      have HT : Hid (okRule l[j] a = true → allowsL l a = true) := fun h => any_some (p := fun r => okRule r a) hlt h
      have HF : Hid (okRule l[j] a = false → noneTo (fun r => okRule r a) l (j + 1)) := fun h => noneTo_succ hN.out hlt h
      obtain ⟨r, hr⟩ : ∃ r, r = l[j] := ⟨_, rfl⟩
      rw [← hr] at x0 x1 x2 HC HT HF
      clear hr hbl hBr hAr h1 h2 h3 hal
      have hE : Hid (∀ b1 b2 b3, hasW r.verbs a.verb = b1 → hasW r.kinds a.kind = b2 → okNames r a = b3 → okRule r a = (b1 && b2 && b3)) := fun b1 b2 b3 e1 e2 e3 => by unfold okRule; rw [e1, e2, e3]
      obtain ⟨p1, p2, p3, P1, P2, P3, hp⟩ := has_ways r.verbs a.verb
      obtain ⟨q1, q2, q3, Q1, Q2, Q3, hq⟩ := has_ways r.kinds a.kind
      obtain ⟨n1, n2, n3, n4, N1, N2, N3, N4, hnn⟩ := names_ways r a
      have HE := Lib.hid (hE.out _ _ _ P3 Q3 N4)
      have HP1 := Lib.hid P1
      have HP2 := Lib.hid P2
      have HQ1 := Lib.hid Q1
      have HQ2 := Lib.hid Q2
      have HN3 := Lib.hid N3
      clear P1 P2 P3 Q1 Q2 Q3 N3 N4 hE
      rcases hp with ⟨rfl, rfl⟩ | ⟨rfl, rfl⟩ <;> rcases hq with ⟨rfl, rfl⟩ | ⟨rfl, rfl⟩ <;> rcases hnn with ⟨rfl, rfl⟩ | ⟨rfl, rfl, rfl⟩ | ⟨rfl, rfl, rfl⟩
      all_goals
        go_wp2_with (go_at_call 13; first | (with_reducible refine (rhas_any _ (HC.out.1 _)).mono ?_; rintro e w' ⟨rfl, rfl⟩; first | rw [HP1.out] | rw [HP2.out]) | (with_reducible refine (rhas_any _ (HC.out.2.1 _)).mono ?_; rintro e w' ⟨rfl, rfl⟩; first | rw [HQ1.out] | rw [HQ2.out]) | (with_reducible refine (rhas_any _ (HC.out.2.2 _)).mono ?_; rintro e w' ⟨rfl, rfl⟩; rw [HN3.out]))
      all_goals
        first
        | (have HT' : allowsL l a = true := HT.out (by rw [HE.out]; first | rfl | (simp only [*]; rfl))
           go_ret
           exact ⟨ret_bool HT'.symm, HY.out _⟩)
        | (have HF' : Hid (noneTo (fun r => okRule r a) l (j + 1)) := HF.out (by rw [HE.out]; first | rfl | (simp only [*]; rfl))
           go_roundw
           case rel => exact ⟨j + 1, hlt, by go_num, HF', HZ.out _⟩
           case measure => simp [intOf]; omega)
    · have HA := Lib.hid (any_none hN.out (by omega))
      go_wp2
      go_ret
      exact ⟨ret_bool (by unfold allowsL; rw [HA.out]), HX0.out.trans hX.out⟩
end Go.Proofs.YtplfimoeggecjaaDoor.Sx
