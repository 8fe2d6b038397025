/-
  The reference's Fits and QueryMatch: they answer as the program's all and Match, where the labels rise and the parts are good.
-/
import Derived.Test.YtplfimoeggecjaaGreatDoorHold2
import Derived.Test.YtplfimoeggecjaaGreatDoorRqck
namespace Go.Proofs.YtplfimoeggecjaaGreatDoor.Sx
open Go Go.RowKit

theorem less_trans : ∀ a b c : List UInt8, Op.bytesLess a b = true → Op.bytesLess b c = true → Op.bytesLess a c = true
  | _, b, [], _, h => by cases b <;> simp [Op.bytesLess] at h
  | [], _, _ :: _, _, _ => rfl
  | _ :: _, [], _ :: _, h, _ => by simp [Op.bytesLess] at h
  | x :: a, y :: b, z :: c, h1, h2 => by
    unfold Op.bytesLess at h1 h2 ⊢
    simp only [Bool.or_eq_true, decide_eq_true_eq, Bool.and_eq_true, beq_iff_eq] at h1 h2 ⊢
    rcases h1 with h1 | ⟨rfl, h1⟩
    · rcases h2 with h2 | ⟨rfl, h2⟩
      · left
        have e1 := UInt8.lt_iff_toNat_lt.1 h1
        have e2 := UInt8.lt_iff_toNat_lt.1 h2
        exact UInt8.lt_iff_toNat_lt.2 (by omega)
      · exact .inl h1
    · rcases h2 with h2 | ⟨rfl, h2⟩
      · exact .inl h2
      · exact .inr ⟨rfl, less_trans a b c h1 h2⟩
theorem less_irrefl (a : List UInt8) : Op.bytesLess a a = false := by
  have := less_total a a
  simp at this
  exact this.symm ▸ rfl

/-- The labels' keys rise. -/
def Rising (l : List Lab) : Prop := l.Pairwise fun a b => lessS a.key b.key = true
theorem rising_of {l : List Lab} (h : ∀ i (hi : i + 1 < l.length), lessS l[i].key l[i + 1].key = true) : Rising l := by
  induction l with
  | nil => exact List.Pairwise.nil
  | cons x r ih =>
    have hr := ih fun i hi => h (i + 1) (by simpa using hi)
    refine List.Pairwise.cons ?_ hr
    intro y hy
    cases r with
    | nil => simp at hy
    | cons z r =>
      have hxz : lessS x.key z.key = true := h 0 (by simp)
      rcases List.mem_cons.1 hy with rfl | hy
      · exact hxz
      · exact less_trans _ _ _ hxz ((List.pairwise_cons.1 hr).1 y hy)
theorem firstAt_eq_zero {f : Nat → Int} {n : Nat} (h : firstAt f n = 0) : zeroTil f n := by
  induction n with
  | zero => exact zeroTil.zero f
  | succ n ih =>
    unfold firstAt at h
    by_cases h0 : firstAt f n = 0
    · rw [if_pos h0] at h
      exact (ih h0).succ h
    · rw [if_neg h0] at h
      exact absurd h h0
theorem checkL_rising {l : List Lab} (h : checkL l = 0) : Rising l := by
  unfold checkL at h
  by_cases h10 : 10 < l.length
  · rw [if_pos h10] at h; cases h
  · rw [if_neg h10] at h
    have hz := firstAt_eq_zero h
    refine rising_of fun i hi => ?_
    have h1 := hz (i + 1) hi
    rw [labsAt_eq hi] at h1
    have hp : prevOf l (i + 1) = some l[i] := List.getElem?_eq_getElem (by omega)
    rw [hp] at h1
    unfold labI at h1
    by_cases a1 : keyI l[i + 1].key = 0
    · rw [if_pos a1] at h1
      by_cases a2 : valI l[i + 1].val = 0
      · rw [if_pos a2] at h1
        simp only at h1
        by_cases a3 : lessS l[i].key l[i + 1].key = true
        · exact a3
        · rw [if_neg a3] at h1; cases h1
      · rw [if_neg a2] at h1; exact absurd h1 a2
    · rw [if_neg a1] at h1; exact absurd h1 a1
theorem checkQ_kinds {l : List Req} (h : checkQ l = 0) : ∀ r ∈ l, 1 ≤ r.kind ∧ r.kind ≤ 4 := by
  unfold checkQ at h
  by_cases h8 : 8 < l.length
  · rw [if_pos h8] at h; cases h
  · rw [if_neg h8] at h
    have hz := firstAt_eq_zero h
    intro r hr
    obtain ⟨i, hi, rfl⟩ := List.mem_iff_getElem.1 hr
    have h1 := hz i hi
    rw [reqsAt_eq hi] at h1
    unfold reqI at h1
    by_cases a1 : keyI l[i].key = 0
    · rw [if_pos a1] at h1
      by_cases a2 : badKind l[i]
      · rw [if_pos a2] at h1; cases h1
      · unfold badKind at a2
        omega
    · rw [if_neg a1] at h1; exact absurd h1 a1

/-- What the reference's loop over the labels finds. -/
def seen1 (r : Req) (p : Bool × Bool) (x : Lab) : Bool × Bool := if keyed r.key x then (true, hasS r.vals x.val) else p
def seenTo (r : Req) (l : List Lab) : Bool × Bool := l.foldl (seen1 r) (false, false)
theorem seenTo_succ {r : Req} {l : List Lab} {k : Nat} (h : k < l.length) : seenTo r (l.take (k + 1)) = seen1 r (seenTo r (l.take k)) l[k] := by
  unfold seenTo
  rw [List.take_succ_eq_append_getElem h, List.foldl_append]
  rfl
theorem seen_none {r : Req} {l : List Lab} (p : Bool × Bool) (h : ∀ x ∈ l, keyed r.key x = false) : l.foldl (seen1 r) p = p := by
  induction l generalizing p with
  | nil => rfl
  | cons x t ih =>
    rw [List.foldl_cons]
    have : seen1 r p x = p := by unfold seen1; rw [h x (by simp)]; rfl
    rw [this]
    exact ih p fun y hy => h y (by simp [hy])
theorem seen_find {r : Req} {l : List Lab} (h : Rising l) : seenTo r l = match l.find? (keyed r.key) with | some x => (true, hasS r.vals x.val) | none => (false, false) := by
  unfold seenTo
  induction l with
  | nil => rfl
  | cons x t ih =>
    obtain ⟨h1, h2⟩ := List.pairwise_cons.1 h
    rw [List.foldl_cons]
    cases hk : keyed r.key x with
    | true =>
      rw [List.find?_cons_of_pos hk]
      have : seen1 r (false, false) x = (true, hasS r.vals x.val) := by unfold seen1; rw [hk]; rfl
      rw [this]
      refine seen_none _ fun y hy => ?_
      cases hy2 : keyed r.key y with
      | false => rfl
      | true =>
        have e1 := (eqS_iff _ _).1 hk
        have e2 := (eqS_iff _ _).1 hy2
        have := h1 y hy
        rw [e1, e2] at this
        unfold lessS at this
        rw [less_irrefl] at this
        cases this
    | false =>
      rw [List.find?_cons_of_neg (by rw [hk]; simp)]
      have : seen1 r (false, false) x = (false, false) := by unfold seen1; rw [hk]; rfl
      rw [this]
      exact ih h2
theorem holds_1 {r : Req} {l : List Lab} (h : Rising l) (k : r.kind = 1) : holdsB r l = (seenTo r l).2 := by
  rw [seen_find h]
  unfold holdsB
  cases l.find? (keyed r.key) <;> simp [k]
theorem holds_2 {r : Req} {l : List Lab} (h : Rising l) (k : r.kind = 2) : holdsB r l = !(seenTo r l).2 := by
  rw [seen_find h]
  unfold holdsB
  cases l.find? (keyed r.key) <;> simp [k]
theorem holds_3 {r : Req} {l : List Lab} (h : Rising l) (k : r.kind = 3) : holdsB r l = (seenTo r l).1 := by
  rw [seen_find h]
  unfold holdsB
  cases l.find? (keyed r.key) <;> simp [k]
theorem holds_4 {r : Req} {l : List Lab} (h : Rising l) (k : r.kind = 4) : holdsB r l = !(seenTo r l).1 := by
  rw [seen_find h]
  unfold holdsB
  cases l.find? (keyed r.key) <;> simp [k]

set_option maxRecDepth 100000 in
set_option maxHeartbeats 4000000 in
theorem fits_any (B : Nat) (v u : Value) (l : List Req) (ls : List Lab) (w : World) (hB : B ≤ w.heap.size) (hv : ReqsR B w v l) (hu : LabsR B w u ls) (hkd : ∀ r ∈ l, 1 ≤ r.kind ∧ r.kind ≤ 4) (hri : Rising ls) :
    Calls Tryz.prog 68 #[v, u] w fun e w' => e = .returned (.bool (allB l ls)) ∧ Ext w w' := by
  have HV := Lib.hid (And.intro hv hu)
  have HKD := Lib.hid hkd
  have HRI := Lib.hid hri
  have hn := hv.1
  have hn2 := hu.1
  obtain ⟨_, A, c, rfl, _⟩ := hv
  obtain ⟨_, A2, c2, rfl, _⟩ := hu
  clear hkd hri
  go_enter Tryz.func68, Tryz.ntmps68
  go_wp2
  go_loopw [6, 7, 8, 10, 13] (fun _ _ _ _ k wr => ∃ j : Nat, j ≤ l.length ∧ k = .int .i64 (j : Int) ∧ Hid (noneTo (fun r => !(holdsB r ls)) l j) ∧ Hid (Ext w wr)) (fun _ _ _ _ k _ => l.length - (intOf k).toNat)
  case atStart => exact ⟨0, Nat.zero_le _, rfl, fun i hi h => by omega, Below.refl _ _⟩
  case round =>
    obtain ⟨j, hj, rfl, hN, hX⟩ := hrel
    by_cases hlt : j < l.length
    · have hbl := hX.out.mono hB
      obtain ⟨b, off, A1, c1, rfl, _, x0, x1, x2, _, t1⟩ := (HV.out.1.below hbl (Nat.le_refl _)).at_ hlt
      have HF : Hid (holdsB l[j] ls = false → allB l ls = false) := fun h => by unfold allB; rw [List.all_eq_false]; exact ⟨l[j], List.getElem_mem hlt, by rw [h]; simp⟩
      have HU : Hid (holdsB l[j] ls = true → noneTo (fun r => !(holdsB r ls)) l (j + 1)) := fun h => noneTo_succ hN.out hlt (by rw [h]; rfl)
      have hkj := HKD.out l[j] (List.getElem_mem hlt)
      obtain ⟨r, hr⟩ : ∃ r, r = l[j] := ⟨_, rfl⟩
      rw [← hr] at x0 x1 x2 t1 HF HU hkj
      have HT := Lib.hid t1
      have HBR : Hid (B ≤ wr.heap.size) := Nat.le_trans hB hX.out.size
      have HLB := Lib.hid (HV.out.2.below hbl (Nat.le_refl _))
      have HKJ := Lib.hid hkj
      obtain ⟨kb, hkb⟩ : ∃ kb, kb = wr.heap.size := ⟨_, rfl⟩
      obtain ⟨w1, hw1⟩ : ∃ w1, w1 = wr.alloc (.cells #[.string r.key, .int .i64 r.kind, .slice A1 r.vals.length c1] 56) := ⟨_, rfl⟩
      have hx1 : Ext wr w1 := by rw [hw1]; exact (Below.refl _ _).alloc (Nat.le_refl _) _
      have hg1 : ReqIn w1 kb r A1 c1 := by rw [hw1]; exact heap_new hkb
      have HX1 : Hid (Ext w w1) := hX.out.trans hx1
      have HG1 := Lib.hid hg1
      have HS1 : Hid (StrsR B w1 (.slice A1 r.vals.length c1) r.vals) := HT.out.below (hx1.mono HBR.out) (Nat.le_refl _)
      have HL1 : Hid (LabsR B w1 (.slice A2 ls.length c2) ls) := HLB.out.below (hx1.mono HBR.out) (Nat.le_refl _)
      have HB1 : Hid (B ≤ w1.heap.size) := Nat.le_trans HBR.out hx1.size
      have hsz1 : kb < w1.heap.size := heap_lt hg1
      have HK1 := Lib.hid hsz1
      clear hr hbl t1 hkj hx1 hg1 hsz1
      go_wp2
      rw [← hw1, ← hkb]
      clear hw1 hkb x0 x1 x2
      go_loopw [7, 8, 10, 19] (fun th am _ k wq => ∃ i : Nat, i ≤ ls.length ∧ k = .int .i64 (i : Int) ∧ th = .bool (seenTo r (ls.take i)).1 ∧ am = .bool (seenTo r (ls.take i)).2 ∧ Hid (Ext w1 wq)) (fun _ _ _ k _ => ls.length - (intOf k).toNat)
      case atStart => exact ⟨0, Nat.zero_le _, rfl, rfl, rfl, Below.refl _ _⟩
      case round =>
        obtain ⟨i, hi, rfl, rfl, rfl, hXq⟩ := hrel
        have hgq := HG1.out.ext hXq.out
        by_cases hil : i < ls.length
        · obtain ⟨bb, oo, rfl, _, y0, y1, _, _⟩ := (HL1.out.below (hXq.out.mono HB1.out) (Nat.le_refl _)).at_ hil
          have HSN := Lib.hid (seenTo_succ (r := r) hil)
          obtain ⟨x, hx⟩ : ∃ x, x = ls[i] := ⟨_, rfl⟩
          rw [← hx] at y0 y1 HSN
          have hkq : kb < wr.heap.size := heap_lt hgq
          have hne : kb ≠ wr.heap.size := by omega
          have o0 := fun o => (cells3' (hgq.ext (w' := wr.alloc o) ((Below.refl _ _).alloc (Nat.le_refl _) o))).1
          have o2 := fun o => (cells3' (hgq.ext (w' := wr.alloc o) ((Below.refl _ _).alloc (Nat.le_refl _) o))).2.2
          have HXO : Hid (∀ o, Ext w1 (wr.alloc o)) := fun o => hXq.out.trans ((Below.refl _ _).alloc (Nat.le_refl _) o)
          have HSO : Hid (∀ o, StrsR B (wr.alloc o) (.slice A1 r.vals.length c1) r.vals) := fun o => HS1.out.below ((HXO.out o).mono HB1.out) (Nat.le_refl _)
          clear hx hgq
          cases hk : (x.key.toList == r.key.toList) with
          | true =>
            have HQ : Hid (seenTo r (ls.take (i + 1)) = (true, hasS r.vals x.val)) := by
              have : keyed r.key x = true := hk
              unfold Hid
              rw [HSN.out, seen1, this]
              rfl
            go_wp2_with (go_at_call 59; refine (rhas_any _ (HSO.out _)).mono ?_; rintro e w' ⟨rfl, rfl⟩)
            go_roundw
            case rel => exact ⟨i + 1, hil, by go_num, by rw [HQ.out], by rw [HQ.out], HXO.out _⟩
            case measure => simp [intOf]; omega
          | false =>
            have HQ : Hid (seenTo r (ls.take (i + 1)) = seenTo r (ls.take i)) := by
              have : keyed r.key x = false := hk
              unfold Hid
              rw [HSN.out, seen1, this]
              rfl
            go_wp2
            go_roundw
            case rel => exact ⟨i + 1, hil, by go_num, by rw [HQ.out], by rw [HQ.out], HXO.out _⟩
            case measure => simp [intOf]; omega
        · have hti : ls.take i = ls := List.take_of_length_le (by omega)
          rw [hti]
          obtain ⟨th, hth⟩ : ∃ th, th = (seenTo r ls).1 := ⟨_, rfl⟩
          obtain ⟨am, ham⟩ : ∃ am, am = (seenTo r ls).2 := ⟨_, rfl⟩
          rw [← hth, ← ham]
          have H1 : Hid (r.kind = 1 → holdsB r ls = am) := fun k => by rw [holds_1 HRI.out k, ham]
          have H2 : Hid (r.kind = 2 → holdsB r ls = !am) := fun k => by rw [holds_2 HRI.out k, ham]
          have H3 : Hid (r.kind = 3 → holdsB r ls = th) := fun k => by rw [holds_3 HRI.out k, hth]
          have H4 : Hid (r.kind = 4 → holdsB r ls = !th) := fun k => by rw [holds_4 HRI.out k, hth]
          have HX9 : Hid (Ext w wr) := HX1.out.trans hXq.out
          obtain ⟨z0, z1, z2⟩ := cells3' hgq
          clear hth ham hti hgq
          have ways : r.kind = 1 ∨ r.kind = 2 ∨ r.kind = 3 ∨ r.kind = 4 := by have := HKJ.out; omega
          rcases ways with k | k | k | k
          · have HH := Lib.hid (H1.out k)
            have e1 : (r.kind == 1) = true := by simp [k]
            have e2 : (r.kind == 2) = false := by simp [k]
            have e3 : (r.kind == 3) = false := by simp [k]
            have e4 : (r.kind == 4) = false := by simp [k]
            clear k
            cases am with
            | true =>
              have HS := Lib.hid (HU.out HH.out)
              go_wp2
              go_roundw
              case rel => exact ⟨j + 1, hlt, by go_num, HS, HX9⟩
              case measure => simp [intOf]; omega
            | false =>
              have HS := Lib.hid (HF.out HH.out)
              go_wp2
              go_ret
              exact ⟨ret_bool HS.out.symm, HX9.out⟩
          · have HH := Lib.hid (H2.out k)
            have e1 : (r.kind == 1) = false := by simp [k]
            have e2 : (r.kind == 2) = true := by simp [k]
            have e3 : (r.kind == 3) = false := by simp [k]
            have e4 : (r.kind == 4) = false := by simp [k]
            clear k
            cases am with
            | true =>
              have HS := Lib.hid (HF.out HH.out)
              go_wp2
              go_ret
              exact ⟨ret_bool HS.out.symm, HX9.out⟩
            | false =>
              have HS := Lib.hid (HU.out HH.out)
              go_wp2
              go_roundw
              case rel => exact ⟨j + 1, hlt, by go_num, HS, HX9⟩
              case measure => simp [intOf]; omega
          · have HH := Lib.hid (H3.out k)
            have e1 : (r.kind == 1) = false := by simp [k]
            have e2 : (r.kind == 2) = false := by simp [k]
            have e3 : (r.kind == 3) = true := by simp [k]
            have e4 : (r.kind == 4) = false := by simp [k]
            clear k
            cases th with
            | true =>
              have HS := Lib.hid (HU.out HH.out)
              go_wp2
              go_roundw
              case rel => exact ⟨j + 1, hlt, by go_num, HS, HX9⟩
              case measure => simp [intOf]; omega
            | false =>
              have HS := Lib.hid (HF.out HH.out)
              go_wp2
              go_ret
              exact ⟨ret_bool HS.out.symm, HX9.out⟩
          · have HH := Lib.hid (H4.out k)
            have e1 : (r.kind == 1) = false := by simp [k]
            have e2 : (r.kind == 2) = false := by simp [k]
            have e3 : (r.kind == 3) = false := by simp [k]
            have e4 : (r.kind == 4) = true := by simp [k]
            clear k
            cases th with
            | true =>
              have HS := Lib.hid (HF.out HH.out)
              go_wp2
              go_ret
              exact ⟨ret_bool HS.out.symm, HX9.out⟩
            | false =>
              have HS := Lib.hid (HU.out HH.out)
              go_wp2
              go_roundw
              case rel => exact ⟨j + 1, hlt, by go_num, HS, HX9⟩
              case measure => simp [intOf]; omega
    · have HA : Hid (allB l ls = true) := by
        unfold Hid allB
        rw [List.all_eq_true]
        intro x hx
        obtain ⟨i, hi, rfl⟩ := List.mem_iff_getElem.1 hx
        have := hN.out i hi (by omega)
        simpa using this
      go_wp2
      go_ret
      exact ⟨ret_bool HA.out.symm, hX.out⟩

end Go.Proofs.YtplfimoeggecjaaGreatDoor.Sx
