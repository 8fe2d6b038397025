/-
  The reference's Join of steps.
-/
import Derived.Test.YtpbbohinhbboaaaDoorPt5
namespace Go.Proofs.YtpbbohinhbboaaaDoor.Sx
open Go Go.RowKit Go.Proofs.YtpbbohinhbboaaaDoor.Pt

theorem one_at {s : ByteArray} {k : Nat} (h : k < s.size) : s.extract k (k + 1) = mkB [s[k]] := by
  apply ByteArray.ext
  apply Array.toList_inj.1
  simp only [ByteArray.data_extract, Array.toList_extract, mkB, List.extract_eq_take_drop, Nat.add_sub_cancel_left]
  rw [List.drop_eq_getElem_cons (by simpa using h)]
  rfl
theorem esc_snoc (l : List UInt8) (c : UInt8) : (l ++ [c]).flatMap escB = l.flatMap escB ++ escB c := by simp
set_option maxRecDepth 100000 in
set_option maxHeartbeats 4000000 in
theorem rjoins_any (B : Nat) (v : Value) (l : List ByteArray) (w : World) (h : StrsR B w v l) :
    Calls Tryd.prog 18 #[v] w (JoinsPost w l) := by
  have HV := Lib.hid h
  obtain ⟨hn, A, c, rfl, _⟩ := h
  have HX0 : Hid (Ext w w) := Below.refl _ _
  by_cases h10 : 10 < l.length
  · have b1 : decide (10 < (l.length : Int)) = true := decide_eq_true (by omega)
    have b2 : decide (10 < l.length) = true := decide_eq_true h10
    have H10 := Lib.hid h10
    clear h10
    go_enter Tryd.func18, Tryd.ntmps18
    go_wp2
    go_ret2
    exact joins_long H10.out HX0.out
  · have b1 : decide (10 < (l.length : Int)) = false := decide_eq_false (by omega)
    have b2 : decide (10 < l.length) = false := decide_eq_false h10
    have H10 := Lib.hid h10
    go_enter Tryd.func18, Tryd.ntmps18
    go_wp2_with fail
    go_loopw [4, 13] (fun o q wr => ∃ i : Nat, i ≤ l.length ∧ q = .int .i64 (i : Int) ∧ o = .string (mkB (joinB (l.take i))) ∧ wr = w) (fun _ q _ => l.length - (intOf q).toNat)
    case atStart => exact ⟨0, Nat.zero_le _, rfl, by simp [joinB, mkB], rfl⟩
    case round =>
      obtain ⟨i, hi, rfl, rfl, rfl⟩ := hrel
      by_cases hlt : i < l.length
      · obtain ⟨b, off, c2, hv, hbl, hc⟩ := HV.out.cells (by omega)
        injection hv with e1 e2 e3
        subst e1
        clear e2 e3
        obtain ⟨hcell, hsz⟩ := hc i hlt
        have HW : Hid (mkB (joinB (l.take (i + 1))) = mkB (joinB (l.take i) ++ (47 :: l[i].data.toList.flatMap escB))) := by
          unfold Hid
          rw [List.take_succ_eq_append_getElem hlt, joinB_snoc]
        have hol := joinB_le (l.take i) (fun x hx => (by
          obtain ⟨j, hj, rfl⟩ := List.mem_iff_getElem.1 hx
          rw [List.getElem_take]
          exact (hc j (by simp at hj; omega)).2))
        obtain ⟨s, hs⟩ : ∃ s, s = l[i] := ⟨_, rfl⟩
        rw [← hs] at hcell hsz HW
        obtain ⟨J, hJ⟩ : ∃ J, J = joinB (l.take i) := ⟨_, rfl⟩
        have hJs : J.length ≤ 20971530 := by
          rw [hJ]
          have h1 : (l.take i).length ≤ 10 := by rw [List.length_take]; omega
          have h2 := Nat.mul_le_mul_right 2097153 h1
          omega
        rw [← hJ] at HW ⊢
        have hJz : (mkB J).size ≤ 20971530 := by rw [mkB_size]; exact hJs
        clear hc hs hJ hol
        go_wp2_with fail
        obtain ⟨a0, ha0⟩ : ∃ a0, a0 = mkB J ++ (⟨#[47]⟩ : ByteArray) := ⟨_, rfl⟩
        have HA0 : Hid (a0 = mkB (J ++ [47])) := by unfold Hid; rw [ha0]; exact mkB_app J [47]
        try rw [← ha0]
        clear ha0
        go_loopw [4, 21] (fun o q wx => ∃ k : Nat, k ≤ s.size ∧ q = .int .i64 (k : Int) ∧ o = .string (mkB (J ++ [47] ++ (s.data.toList.take k).flatMap escB)) ∧ wx = wr) (fun _ q _ => s.size - (intOf q).toNat)
        case atStart => exact ⟨0, Nat.zero_le _, rfl, by rw [HA0.out]; simp, rfl⟩
        case round =>
          obtain ⟨k, hk, rfl, rfl, rfl⟩ := hrel
          by_cases hkl : k < s.size
          · obtain ⟨d, hd⟩ : ∃ d, s[k] = d := ⟨_, rfl⟩
            have HD : Hid ((s.data.toList.take (k + 1)).flatMap escB = (s.data.toList.take k).flatMap escB ++ escB d) := by
              unfold Hid
              rw [List.take_succ_eq_append_getElem (by simpa using hkl), esc_snoc, ← hd]
              rfl
            have hE : ((s.data.toList.take k).flatMap escB).length ≤ 2097152 := by
              have h1 := esc_le (s.data.toList.take k)
              have h2 : (s.data.toList.take k).length ≤ k := List.length_take_le _ _
              omega
            have HONE := Lib.hid (one_at hkl)
            obtain ⟨a1, ha1⟩ : ∃ a1, a1 = mkB (J ++ [47] ++ (s.data.toList.take k).flatMap escB) := ⟨_, rfl⟩
            have ha1s : a1.size ≤ 23068700 := by rw [ha1, mkB_size]; simp only [List.length_append, List.length_cons, List.length_nil]; omega
            rw [← ha1]
            have HA1 := Lib.hid ha1
            have HN : ∀ t, escB d = t → Hid (mkB (J ++ [47] ++ (s.data.toList.take (k + 1)).flatMap escB) = a1 ++ mkB t) := fun t ht => by
              unfold Hid
              rw [HD.out, HA1.out, mkB_app, ht]
              simp
            clear ha1 hE
            by_cases h126 : d = 126
            · subst h126
              have hN := HN [126, 48] rfl
              clear HN
              go_wp2
              go_roundw
              case rel => exact ⟨k + 1, hkl, by go_num, by rw [hN.out]; rfl, (by first | rfl | trivial)⟩
              case measure => simp [intOf]; omega
            · by_cases h47 : d = 47
              · subst h47
                have hN := HN [126, 49] rfl
                clear HN
                go_wp2
                go_roundw
                case rel => exact ⟨k + 1, hkl, by go_num, by rw [hN.out]; rfl, (by first | rfl | trivial)⟩
                case measure => simp [intOf]; omega
              · have e1 := byte_ne h126
                have e2 := byte_ne h47
                have hN := HN [d] (by unfold escB; rw [if_neg h126, if_neg h47])
                have hw1 : IntKind.i64.wrap ((k : Int) + 1) = (k : Int) + 1 := IntWalk.i64_in _ (by omega)
                have hsl : ∀ wx, (Instr.slice 9 (.string s) (some (.int .i64 (k : Int))) (some (.int .i64 ((k : Int) + 1))) none).run Tryd.prog wx = .ok (.string (oneS d)) wx := fun wx => by
                  rw [run_slice_string (P := Tryd.prog) (w := wx) 9 s .i64 .i64 (k : Int) ((k : Int) + 1) Tryd.underlying9 (by omega) (by omega) (by omega)]
                  have e3 : (k : Int).toNat = k := by omega
                  have e4 : ((k : Int) + 1).toNat = k + 1 := by omega
                  rw [e3, e4, HONE.out, hd]
                  rfl
                have hx1 : (oneS d).size ≤ 1 := Nat.le_refl 1
                clear HN h126 h47
                simp only [UInt8.toNat_ofNat] at e1 e2
                go_wp2
                go_roundw
                case rel => exact ⟨k + 1, hkl, by go_num, by rw [hN.out]; rfl, (by first | rfl | trivial)⟩
                case measure => simp [intOf]; omega
          · obtain rfl : k = s.size := by omega
            have HT : Hid (s.data.toList.take s.size = s.data.toList) := List.take_of_length_le (by simp)
            rw [HT.out]
            clear hkl hk
            go_wp2
            go_roundw
            case rel => exact ⟨i + 1, hlt, by go_num, by rw [HW.out]; simp, (by first | rfl | trivial)⟩
            case measure => simp [intOf]; omega
      · obtain rfl : i = l.length := by omega
        have HE : Hid (l.take l.length = l) := List.take_length
        rw [HE.out]
        clear hlt hi h10
        go_wp2
        go_ret2
        exact joins_short H10.out HX0.out
end Go.Proofs.YtpbbohinhbboaaaDoor.Sx
