/- Thinned out of Has Pt5 Pt6 by thin.py. -/
import Derived.Test.YtnccefeehkcneaaGreatDoorSlr
import Derived.Lib.SlicesS
import Derived.Test.YtnccefeehkcneaaGreatDoorMxr
/-
  Is a string among others: slices.Contains and the reference's Has; the first of a list that meets a test.
-/
namespace Go.Proofs.YtnccefeehkcneaaGreatDoor.Sx
open Go Go.RowKit
def eqS (a b : ByteArray) : Bool := a.toList == b.toList
def noneTo {α : Type} (p : α → Bool) (l : List α) (k : Nat) : Prop := ∀ i (h : i < l.length), i < k → p l[i] = false
theorem noneTo_succ {α : Type} {p : α → Bool} {l : List α} {k : Nat} (h : noneTo p l k) (hk : k < l.length) (hp : p l[k] = false) : noneTo p l (k + 1) := by
  intro i hi hlt
  rcases Nat.lt_or_ge i k with h1 | h1
  · exact h i hi h1
  · obtain rfl : i = k := by omega
    exact hp
theorem any_none {α : Type} {p : α → Bool} {l : List α} {k : Nat} (h : noneTo p l k) (hk : l.length ≤ k) : l.any p = false := by
  rw [List.any_eq_false]
  intro x hx
  obtain ⟨i, hi, rfl⟩ := List.mem_iff_getElem.1 hx
  rw [h i hi (by omega)]; simp
theorem any_some {α : Type} {p : α → Bool} {l : List α} {k : Nat} (hk : k < l.length) (hp : p l[k] = true) : l.any p = true :=
  List.any_eq_true.2 ⟨l[k], List.getElem_mem hk, hp⟩
theorem eqS_iff (a b : ByteArray) : eqS a b = true ↔ a = b := by
  unfold eqS
  rw [beq_iff_eq]
  constructor
  · intro h
    apply ByteArray.ext
    apply Array.ext'
    rw [ByteArray.toList_eq, ByteArray.toList_eq] at h
    exact h
  · rintro rfl; rfl
theorem eqS_comm (a b : ByteArray) : eqS a b = eqS b a := by
  rw [Bool.eq_iff_iff, eqS_iff, eqS_iff]
  exact eq_comm
/-- Is the string among these? -/
def hasS (l : List ByteArray) (s : ByteArray) : Bool := l.any fun x => eqS x s
theorem hasS_iff (l : List ByteArray) (s : ByteArray) : hasS l s = true ↔ s ∈ l := by
  unfold hasS
  rw [List.any_eq_true]
  constructor
  · rintro ⟨x, h1, h2⟩
    rw [(eqS_iff _ _).1 h2] at h1
    exact h1
  · intro h
    exact ⟨s, h, (eqS_iff _ _).2 rfl⟩
set_option maxRecDepth 100000 in
set_option maxHeartbeats 400000 in
theorem rhas_any {B : Nat} {v : Value} {xs : List ByteArray} (s : ByteArray) {w : World} (h : StrsR B w v xs) :
    Calls Tryz.prog 77 #[v, .string s] w fun e w' => e = .returned (.bool (hasS xs s)) ∧ w = w' := by
  have hn := h.1
  have H := Lib.hid h
  obtain ⟨_, A, c, rfl, _⟩ := h
  have hE : Hid (∀ a b, (a.toList == b.toList) = eqS b a) := fun a b => by rw [eqS_comm]; rfl
  go_enter Tryz.func77, Tryz.ntmps77
  go_wp2
  go_loopw [6, 9] (fun i k wr => ∃ j : Nat, j ≤ xs.length ∧ k = .int .i64 j ∧ Hid (noneTo (fun x => eqS x s) xs j) ∧ wr = w) (fun _ k _ => xs.length - (intOf k).toNat)
  case atStart => exact ⟨0, Nat.zero_le _, rfl, fun i hi h => by omega, rfl⟩
  case round =>
    obtain ⟨j, hj, rfl, hN, rfl⟩ := hrel
    by_cases hlt : j < xs.length
    · obtain ⟨b, off, c', hv, _, hc⟩ := StrsR.cells H.out (by omega)
      injection hv with h1 h2 h3
      subst h1 h3
      have hcell := (hc j hlt).1
      have HS : Hid (∀ b, eqS xs[j] s = b → (fun x => eqS x s) xs[j] = b) := fun b hb => hb
      obtain ⟨x, hx⟩ : ∃ x, x = xs[j] := ⟨_, rfl⟩
      have HX := Lib.hid hx
      rw [← hx] at hcell
      clear hx hc h2
      cases hb : (s.toList == x.toList) with
      | true =>
        have HT := Lib.hid (any_some (p := fun x => eqS x s) hlt (HS.out _ (by rw [← HX.out, ← hE.out, hb])))
        go_wp2
        go_ret
        exact ⟨ret_bool HT.out.symm, rfl⟩
      | false =>
        have HT := Lib.hid (noneTo_succ hN.out hlt (HS.out _ (by rw [← HX.out, ← hE.out, hb])))
        go_wp2
        go_roundw
        case rel => exact ⟨j + 1, hlt, by go_num, HT, trivial⟩
        case measure => simp [intOf]; omega
    · have HA := Lib.hid (any_none hN.out (by omega))
      go_wp2
      go_ret
      exact ⟨ret_bool HA.out.symm, rfl⟩
end Go.Proofs.YtnccefeehkcneaaGreatDoor.Sx
namespace Go.Proofs.YtnccefeehkcneaaGreatDoor.Sx
open Go Go.RowKit Go.Proofs.YtnccefeehkcneaaGreatDoor.Pt
abbrev oneS (c : UInt8) : ByteArray := ⟨#[c]⟩
theorem byte_ne2 {c d : UInt8} (h : c ≠ d) : ((c.toNat : Int) == (d.toNat : Int)) = false := beq_eq_false_iff_ne.2 fun e => h (UInt8.toNat_inj.1 (Int.ofNat_inj.1 e))
def mkB (l : List UInt8) : ByteArray := ⟨l.toArray⟩
def escB (c : UInt8) : List UInt8 := if c = 126 then [126, 48] else if c = 47 then [126, 49] else [c]
theorem esc_two (s : List UInt8) : rep [47] [126, 49] (rep [126] [126, 48] s) = s.flatMap escB := by
  rw [rep_one_flat, rep_one_flat, List.flatMap_assoc]
  congr 1
  funext c
  unfold escB
  by_cases h : c = 126
  · subst h; simp
  · by_cases h' : c = 47
    · subst h'; simp
    · simp [h, h']
theorem esc_le (s : List UInt8) : (s.flatMap escB).length ≤ 2 * s.length := by
  induction s with
  | nil => simp
  | cons c r ih =>
    rw [List.flatMap_cons, List.length_append, List.length_cons]
    have : (escB c).length ≤ 2 := by unfold escB; split <;> (try split) <;> simp
    omega
def joinB (l : List ByteArray) : List UInt8 := l.flatMap fun s => 47 :: s.data.toList.flatMap escB
theorem joinB_snoc (l : List ByteArray) (s : ByteArray) : joinB (l ++ [s]) = joinB l ++ (47 :: s.data.toList.flatMap escB) := by simp [joinB]
theorem joinB_le (l : List ByteArray) (h : ∀ x ∈ l, x.size ≤ 1048576) : (joinB l).length ≤ l.length * 2097153 := by
  induction l with
  | nil => simp [joinB]
  | cons s r ih =>
    have h1 := ih fun x hx => h x (List.mem_cons_of_mem _ hx)
    have h2 := h s List.mem_cons_self
    have h3 := esc_le s.data.toList
    have h4 : s.data.toList.length = s.size := by simp
    have e : joinB (s :: r) = (47 :: s.data.toList.flatMap escB) ++ joinB r := by simp [joinB]
    rw [e, List.length_append, List.length_cons, List.length_cons]
    omega
def joinV (l : List ByteArray) : ByteArray := if 10 < l.length then ⟨#[]⟩ else mkB (joinB l)
def joinE (l : List ByteArray) : Int := if 10 < l.length then 2 else 0
def JoinsPost (w : World) (l : List ByteArray) (e : Ending) (w' : World) : Prop := e = .returned (.tuple #[.string (joinV l), .int .i64 (joinE l)]) ∧ Ext w w'
theorem joins_long {w w' : World} {l : List ByteArray} (h : 10 < l.length) (hx : Ext w w') : JoinsPost w l (.returned (.tuple #[.string ⟨#[]⟩, .int .i64 2])) w' := ⟨by unfold joinV joinE; rw [if_pos h, if_pos h], hx⟩
theorem joins_short {w w' : World} {l : List ByteArray} (h : ¬ 10 < l.length) (hx : Ext w w') : JoinsPost w l (.returned (.tuple #[.string (mkB (joinB l)), .int .i64 0])) w' := ⟨by unfold joinV joinE; rw [if_neg h, if_neg h], hx⟩
theorem mkB_size (l : List UInt8) : (mkB l).size = l.length := by simp [mkB, ByteArray.size]
theorem mkB_app (l m : List UInt8) : mkB l ++ mkB m = mkB (l ++ m) := by
  apply ByteArray.ext
  simp [mkB]
set_option maxRecDepth 100000 in
set_option maxHeartbeats 4000000 in
theorem joins_any (B : Nat) (v : Value) (l : List ByteArray) (w : World) (hB : B ≤ w.heap.size) (h : StrsR B w v l) (hm : MaxC w) :
    Calls Tryz.prog 48 #[v] w (JoinsPost w l) := by
  have HV := Lib.hid h
  obtain ⟨hn, A, c, rfl, _⟩ := h
  have HX0 : Hid (Ext w w) := Below.refl _ _
  by_cases h10 : 10 < l.length
  · have b1 : decide (10 < (l.length : Int)) = true := decide_eq_true (by omega)
    have b2 : decide (10 < l.length) = true := decide_eq_true h10
    have H10 := Lib.hid h10
    clear h10
    go_enter Tryz.func48, Tryz.ntmps48
    go_wp2
    go_ret2
    exact joins_long H10.out HX0.out
  · have b1 : decide (10 < (l.length : Int)) = false := decide_eq_false (by omega)
    have b2 : decide (10 < l.length) = false := decide_eq_false h10
    have H10 := Lib.hid h10
    have HM := Lib.hid hm
    have HB := Lib.hid hB
    clear hm hB
    go_enter Tryz.func48, Tryz.ntmps48
    go_wp2_with fail
    go_loopw [4, 12] (fun o q wr => ∃ i : Nat, i ≤ l.length ∧ q = .int .i64 (i : Int) ∧ o = .string (mkB (joinB (l.take i))) ∧ Hid (Ext w wr)) (fun _ q _ => l.length - (intOf q).toNat)
    case atStart => exact ⟨0, Nat.zero_le _, rfl, by simp [joinB, mkB], HX0.out⟩
    case round =>
      obtain ⟨i, hi, rfl, rfl, hI⟩ := hrel
      by_cases hlt : i < l.length
      · obtain ⟨b, off, c2, hv, hbl, hc⟩ := (HV.out.below (hI.out.mono HB.out) (Nat.le_refl _)).cells (by omega)
        injection hv with e1 e2 e3
        subst e1
        clear e2 e3
        obtain ⟨hcell, hsz⟩ := hc i hlt
        have HW : Hid (mkB (joinB (l.take (i + 1))) = mkB (joinB (l.take i)) ++ (mkB [47] ++ mkB (l[i].data.toList.flatMap escB))) := by
          unfold Hid
          rw [List.take_succ_eq_append_getElem hlt, joinB_snoc, mkB_app, mkB_app]
          rfl
        have hol := joinB_le (l.take i) (fun x hx => (by
          obtain ⟨j, hj, rfl⟩ := List.mem_iff_getElem.1 hx
          rw [List.getElem_take]
          exact (hc j (by simp at hj; omega)).2))
        obtain ⟨s, hs⟩ : ∃ s, s = l[i] := ⟨_, rfl⟩
        rw [← hs] at hcell hsz HW
        obtain ⟨ac, hac⟩ : ∃ ac, ac = mkB (joinB (l.take i)) := ⟨_, rfl⟩
        have hacs : ac.size ≤ 20971530 := by
          rw [hac, mkB_size]
          have h1 : (l.take i).length ≤ 10 := by rw [List.length_take]; omega
          have h2 := Nat.mul_le_mul_right 2097153 h1
          omega
        rw [← hac] at HW ⊢
        have HM1 := Lib.hid (HM.out.ext hI.out)
        clear hc hs hac hol
        go_wp2_with fail
        refine Calls.mono (replace_any s ⟨#[126]⟩ ⟨#[126, 48]⟩ _ HM1.out (by omega) (by decide) (by decide) (by decide)) ?_
        rintro e w3 ⟨rfl, hx3⟩
        obtain ⟨s1, hs1⟩ : ∃ s1 : ByteArray, s1 = ⟨(rep [126] [126, 48] s.data.toList).toArray⟩ := ⟨_, rfl⟩
        have HS1 := Lib.hid hs1
        have hs4 : s.data.toList.length = s.size := by simp
        have hss1 : s1.size ≤ 4194304 := by
          have h1 : (rep [126] [126, 48] s.data.toList).length ≤ 2 * s.data.toList.length := by
            rw [rep_one_flat]
            generalize s.data.toList = t
            induction t with
            | nil => simp
            | cons d r ih =>
              rw [List.flatMap_cons, List.length_append, List.length_cons]
              have : (if d = 126 then ([126, 48] : List UInt8) else [d]).length ≤ 2 := by split <;> simp
              omega
          have h3 : s1.size = (rep [126] [126, 48] s.data.toList).length := by rw [hs1]; simp [ByteArray.size]
          omega
        have e1 : (⟨(rep (ByteArray.mk #[126]).data.toList (ByteArray.mk #[126, 48]).data.toList s.data.toList).toArray⟩ : ByteArray) = s1 := hs1.symm
        rw [e1]
        clear e1 hs1
        have HM3 := Lib.hid (HM1.out.ext hx3)
        have HX3 := Lib.hid (hI.out.trans hx3)
        clear hx3 hI
        go_wp2_with fail
        refine Calls.mono (replace_any s1 ⟨#[47]⟩ ⟨#[126, 49]⟩ _ HM3.out (by omega) (by decide) (by decide) (by decide)) ?_
        rintro e w4 ⟨rfl, hx4⟩
        have e1 : (⟨(rep (ByteArray.mk #[47]).data.toList (ByteArray.mk #[126, 49]).data.toList s1.data.toList).toArray⟩ : ByteArray) = mkB (s.data.toList.flatMap escB) := by
          rw [HS1.out, ← esc_two]
          rfl
        rw [e1]
        obtain ⟨s2, hs2⟩ : ∃ s2, s2 = mkB (s.data.toList.flatMap escB) := ⟨_, rfl⟩
        have hss2 : s2.size ≤ 2097152 := by rw [hs2, mkB_size]; have := esc_le s.data.toList; omega
        rw [← hs2] at HW ⊢
        have HX4 := Lib.hid (HX3.out.trans hx4)
        clear hx4 e1 hs2 hcell hs4
        go_wp2
        go_roundw
        case rel => exact ⟨i + 1, hlt, by go_num, by rw [HW.out]; rfl, HX4⟩
        case measure => simp [intOf]; omega
      · obtain rfl : i = l.length := by omega
        have HE : Hid (l.take l.length = l) := List.take_length
        rw [HE.out]
        clear hlt hi h10
        go_wp2
        go_ret2
        exact joins_short H10.out hI.out
end Go.Proofs.YtnccefeehkcneaaGreatDoor.Sx
namespace Go.Proofs.YtnccefeehkcneaaGreatDoor.Sx
open Go Go.RowKit Go.Proofs.YtnccefeehkcneaaGreatDoor.Pt
theorem one_at {s : ByteArray} {k : Nat} (h : k < s.size) : s.extract k (k + 1) = mkB [s[k]] := by
  apply ByteArray.ext
  apply Array.toList_inj.1
  simp only [ByteArray.data_extract, Array.toList_extract, mkB, List.extract_eq_take_drop, Nat.add_sub_cancel_left]
  rw [List.drop_eq_getElem_cons (by simpa using h)]
  rfl
theorem esc_snoc (l : List UInt8) (c : UInt8) : (l ++ [c]).flatMap escB = l.flatMap escB ++ escB c := by simp
set_option maxRecDepth 100000 in
set_option maxHeartbeats 4000000 in
theorem rjoins_any (B : Nat) (v : Value) (l : List ByteArray) (w : World) (h : StrsR B w v l) :
    Calls Tryz.prog 80 #[v] w (JoinsPost w l) := by
  have HV := Lib.hid h
  obtain ⟨hn, A, c, rfl, _⟩ := h
  have HX0 : Hid (Ext w w) := Below.refl _ _
  by_cases h10 : 10 < l.length
  · have b1 : decide (10 < (l.length : Int)) = true := decide_eq_true (by omega)
    have b2 : decide (10 < l.length) = true := decide_eq_true h10
    have H10 := Lib.hid h10
    clear h10
    go_enter Tryz.func80, Tryz.ntmps80
    go_wp2
    go_ret2
    exact joins_long H10.out HX0.out
  · have b1 : decide (10 < (l.length : Int)) = false := decide_eq_false (by omega)
    have b2 : decide (10 < l.length) = false := decide_eq_false h10
    have H10 := Lib.hid h10
    go_enter Tryz.func80, Tryz.ntmps80
    go_wp2_with fail
    go_loopw [4, 13] (fun o q wr => ∃ i : Nat, i ≤ l.length ∧ q = .int .i64 (i : Int) ∧ o = .string (mkB (joinB (l.take i))) ∧ wr = w) (fun _ q _ => l.length - (intOf q).toNat)
    case atStart => exact ⟨0, Nat.zero_le _, rfl, by simp [joinB, mkB], rfl⟩
    case round =>
      obtain ⟨i, hi, rfl, rfl, rfl⟩ := hrel
      by_cases hlt : i < l.length
      · obtain ⟨b, off, c2, hv, hbl, hc⟩ := HV.out.cells (by omega)
        injection hv with e1 e2 e3
        subst e1
        clear e2 e3
        obtain ⟨hcell, hsz⟩ := hc i hlt
        have HW : Hid (mkB (joinB (l.take (i + 1))) = mkB (joinB (l.take i) ++ (47 :: l[i].data.toList.flatMap escB))) := by
          unfold Hid
          rw [List.take_succ_eq_append_getElem hlt, joinB_snoc]
        have hol := joinB_le (l.take i) (fun x hx => (by
          obtain ⟨j, hj, rfl⟩ := List.mem_iff_getElem.1 hx
          rw [List.getElem_take]
          exact (hc j (by simp at hj; omega)).2))
        obtain ⟨s, hs⟩ : ∃ s, s = l[i] := ⟨_, rfl⟩
        rw [← hs] at hcell hsz HW
        obtain ⟨J, hJ⟩ : ∃ J, J = joinB (l.take i) := ⟨_, rfl⟩
        have hJs : J.length ≤ 20971530 := by
          rw [hJ]
          have h1 : (l.take i).length ≤ 10 := by rw [List.length_take]; omega
          have h2 := Nat.mul_le_mul_right 2097153 h1
          omega
        rw [← hJ] at HW ⊢
        have hJz : (mkB J).size ≤ 20971530 := by rw [mkB_size]; exact hJs
        clear hc hs hJ hol
        go_wp2_with fail
        obtain ⟨a0, ha0⟩ : ∃ a0, a0 = mkB J ++ (⟨#[47]⟩ : ByteArray) := ⟨_, rfl⟩
        have HA0 : Hid (a0 = mkB (J ++ [47])) := by unfold Hid; rw [ha0]; exact mkB_app J [47]
        try rw [← ha0]
        clear ha0
        go_loopw [4, 21] (fun o q wx => ∃ k : Nat, k ≤ s.size ∧ q = .int .i64 (k : Int) ∧ o = .string (mkB (J ++ [47] ++ (s.data.toList.take k).flatMap escB)) ∧ wx = wr) (fun _ q _ => s.size - (intOf q).toNat)
        case atStart => exact ⟨0, Nat.zero_le _, rfl, by rw [HA0.out]; simp, rfl⟩
        case round =>
          obtain ⟨k, hk, rfl, rfl, rfl⟩ := hrel
          by_cases hkl : k < s.size
          · obtain ⟨d, hd⟩ : ∃ d, s[k] = d := ⟨_, rfl⟩
            have HD : Hid ((s.data.toList.take (k + 1)).flatMap escB = (s.data.toList.take k).flatMap escB ++ escB d) := by
              unfold Hid
              rw [List.take_succ_eq_append_getElem (by simpa using hkl), esc_snoc, ← hd]
              rfl
            have hE : ((s.data.toList.take k).flatMap escB).length ≤ 2097152 := by
              have h1 := esc_le (s.data.toList.take k)
              have h2 : (s.data.toList.take k).length ≤ k := List.length_take_le _ _
              omega
            have HONE := Lib.hid (one_at hkl)
            obtain ⟨a1, ha1⟩ : ∃ a1, a1 = mkB (J ++ [47] ++ (s.data.toList.take k).flatMap escB) := ⟨_, rfl⟩
            have ha1s : a1.size ≤ 23068700 := by rw [ha1, mkB_size]; simp only [List.length_append, List.length_cons, List.length_nil]; omega
            rw [← ha1]
            have HA1 := Lib.hid ha1
            have HN : ∀ t, escB d = t → Hid (mkB (J ++ [47] ++ (s.data.toList.take (k + 1)).flatMap escB) = a1 ++ mkB t) := fun t ht => by
              unfold Hid
              rw [HD.out, HA1.out, mkB_app, ht]
              simp
            clear ha1 hE
            by_cases h126 : d = 126
            · subst h126
              have hN := HN [126, 48] rfl
              clear HN
              go_wp2
              go_roundw
              case rel => exact ⟨k + 1, hkl, by go_num, by rw [hN.out]; rfl, (by first | rfl | trivial)⟩
              case measure => simp [intOf]; omega
            · by_cases h47 : d = 47
              · subst h47
                have hN := HN [126, 49] rfl
                clear HN
                go_wp2
                go_roundw
                case rel => exact ⟨k + 1, hkl, by go_num, by rw [hN.out]; rfl, (by first | rfl | trivial)⟩
                case measure => simp [intOf]; omega
              · have e1 := byte_ne2 h126
                have e2 := byte_ne2 h47
                have hN := HN [d] (by unfold escB; rw [if_neg h126, if_neg h47])
                have hw1 : IntKind.i64.wrap ((k : Int) + 1) = (k : Int) + 1 := IntWalk.i64_in _ (by omega)
                have hsl : ∀ wx, (Instr.slice 9 (.string s) (some (.int .i64 (k : Int))) (some (.int .i64 ((k : Int) + 1))) none).run Tryz.prog wx = .ok (.string (oneS d)) wx := fun wx => by
                  rw [run_slice_string (P := Tryz.prog) (w := wx) 9 s .i64 .i64 (k : Int) ((k : Int) + 1) Tryz.underlying9 (by omega) (by omega) (by omega)]
                  have e3 : (k : Int).toNat = k := by omega
                  have e4 : ((k : Int) + 1).toNat = k + 1 := by omega
                  rw [e3, e4, HONE.out, hd]
                  rfl
                have hx1 : (oneS d).size ≤ 1 := Nat.le_refl 1
                clear HN h126 h47
                simp only [UInt8.toNat_ofNat] at e1 e2
                go_wp2
                go_roundw
                case rel => exact ⟨k + 1, hkl, by go_num, by rw [hN.out]; rfl, (by first | rfl | trivial)⟩
                case measure => simp [intOf]; omega
          · obtain rfl : k = s.size := by omega
            have HT : Hid (s.data.toList.take s.size = s.data.toList) := List.take_of_length_le (by simp)
            rw [HT.out]
            clear hkl hk
            go_wp2
            go_roundw
            case rel => exact ⟨i + 1, hlt, by go_num, by rw [HW.out]; simp, (by first | rfl | trivial)⟩
            case measure => simp [intOf]; omega
      · obtain rfl : i = l.length := by omega
        have HE : Hid (l.take l.length = l) := List.take_length
        rw [HE.out]
        clear hlt hi h10
        go_wp2
        go_ret2
        exact joins_short H10.out HX0.out
end Go.Proofs.YtnccefeehkcneaaGreatDoor.Sx
