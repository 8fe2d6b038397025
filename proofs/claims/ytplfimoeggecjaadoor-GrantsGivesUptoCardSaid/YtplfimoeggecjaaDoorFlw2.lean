/-
  The reference's flaws: says, space, names, rules, first.
-/
import Derived.Test.YtplfimoeggecjaaDoorFlw
import Derived.WalkLawsBesides
namespace Go.Proofs.YtplfimoeggecjaaDoor.Sx
open Go Go.RowKit

abbrev LIM : Nat := 8796093022208

theorem add_to (b : Nat) (c e v : Int) (K : Nat) (bad : Bool) (w : World) (h : Flw w b c K) (hK : K < 8796093022208) (hv : (if bad then e else 0) = v) :
    Calls Tryd.prog 41 #[.pointer (some ⟨b, 0, none⟩), .bool bad, .int .i64 e] w (FlwPost w b (say c v) (K + 1)) := by
  subst hv
  exact add_any b c e K bad w h hK

set_option maxRecDepth 100000 in
theorem fsays_any (b : Nat) (c e : Int) (K : Nat) (w : World) (h : Flw w b c K) (hK : K < 8796093022208) :
    Calls Tryd.prog 20 #[.pointer (some ⟨b, 0, none⟩), .int .i64 e] w (FlwPost w b (say c e) (K + 1)) := by
  have H := Lib.hid h
  clear h
  go_enter Tryd.func20, Tryd.ntmps20
  go_wp2_with (go_at_call 41; refine (add_to _ _ _ e _ _ _ H.out hK rfl).mono ?_; rintro e w' ⟨rfl, h1, h2⟩)
  go_end0
  exact ⟨rfl, h1, h2⟩

set_option maxRecDepth 100000 in
theorem fspace_any (b : Nat) (c : Int) (K : Nat) (s : ByteArray) (w : World) (h : Flw w b c K) (hK : K < 8796093022208) (hs : s.size ≤ 1048576) :
    Calls Tryd.prog 23 #[.pointer (some ⟨b, 0, none⟩), .string s] w (FlwPost w b (spaceI c s) (K + 1)) := by
  have H := Lib.hid h
  clear h
  by_cases h0 : s.size = 0
  · have e1 := isEmpty_of_zero h0
    have hf : Hid (spaceI c s = say c 0) := by unfold Hid spaceI; rw [if_pos h0, say_none]
    clear h0
    go_enter Tryd.func23, Tryd.ntmps23
    go_wp2_with (first | (go_at_call 42; refine (rname_any _ _ (by unfold maxLen; omega)).mono ?_; rintro e w' ⟨rfl, rfl⟩) | (go_at_call 41; refine (add_to _ _ _ 0 _ _ _ H.out hK (by simp)).mono ?_; rintro e w' ⟨rfl, h1, h2⟩))
    go_end0
    exact ⟨rfl, by rw [hf.out]; exact h1, h2⟩
  · have e1 := isEmpty_of_pos (s := s) (by omega)
    have hf : Hid (spaceI c s = say c (nameI s)) := if_neg h0
    clear h0
    go_enter Tryd.func23, Tryd.ntmps23
    go_wp2_with (first | (go_at_call 42; refine (rname_any _ _ (by unfold maxLen; omega)).mono ?_; rintro e w' ⟨rfl, rfl⟩) | (go_at_call 41; refine (add_to _ _ _ (nameI s) _ _ _ H.out hK (by simp)).mono ?_; rintro e w' ⟨rfl, h1, h2⟩))
    go_end0
    exact ⟨rfl, by rw [hf.out]; exact h1, h2⟩

set_option maxRecDepth 100000 in
set_option maxHeartbeats 400000 in
theorem fnames_any (b : Nat) (c : Int) (K : Nat) (A : Option Addr) (cap : Nat) (xs : List ByteArray) (star : Bool) (w : World) (h : Flw w b c K) (hx : StrsS b w A xs) (hK : K + xs.length < 8796093022208) :
    Calls Tryd.prog 43 #[.pointer (some ⟨b, 0, none⟩), .slice A xs.length cap, .bool star] w (FlwPost w b (namesI c xs star) (K + xs.length)) := by
  have hn := hx.1
  have H := Lib.hid h
  have HX := Lib.hid hx
  clear h hx
  go_enter Tryd.func43, Tryd.ntmps43
  go_wp2
  go_loopw [7, 10] (fun s k wr => ∃ j : Nat, j ≤ xs.length ∧ k = .int .i64 j ∧ Hid (Flw wr b (namesTo c xs star j) (K + j)) ∧ Hid (Mod eT b w wr)) (fun _ k _ => xs.length - (intOf k).toNat)
  case atStart => exact ⟨0, Nat.zero_le _, rfl, H.out, Mod.refl⟩
  case round =>
    obtain ⟨j, hj, rfl, hC, hM⟩ := hrel
    by_cases hlt : j < xs.length
    · obtain ⟨blk, off, rfl, _, _, hcell, hz⟩ := (HX.out.mod hM.out).2 j hlt
      have HS := Lib.hid (namesTo_succ c xs star j hlt)
      obtain ⟨s, hs⟩ : ∃ s, s = xs[j] := ⟨_, rfl⟩
      rw [← hs] at hcell hz HS
      clear hs
      have hfin : ∀ w', Flw w' b (nameI1 star (namesTo c xs star j) s) (K + j + 1) → Mod eT b wr w' → Hid (Flw w' b (namesTo c xs star (j + 1)) (K + (j + 1))) ∧ Hid (Mod eT b w w') := fun w' h1 h2 => ⟨by unfold Hid; rw [HS.out]; exact h1, hM.out.trans h2⟩
      have HF := Lib.hid hfin
      clear hfin
      cases star
      · have hv : Hid (nameI1 false (namesTo c xs false j) s = say (namesTo c xs false j) (nameI s)) := rfl
        go_wp2_with (first | (go_at_call 42; refine (rname_any _ _ (by unfold maxLen; omega)).mono ?_; rintro e w' ⟨rfl, rfl⟩) | (go_at_call 41; refine (add_to _ _ _ (nameI s) _ _ _ hC.out (by omega) (by simp)).mono ?_; rintro e w' ⟨rfl, h1, h2⟩; have H1 := Lib.hid h1; have H2 := Lib.hid h2; clear h1 h2))
        go_roundw
        case rel => exact ⟨j + 1, hlt, by go_num, HF.out _ (by rw [hv.out]; exact H1.out) H2.out⟩
        case measure => simp [intOf]; omega
      · cases hst : (s.toList == [42]) with
        | true =>
          have hv : Hid (nameI1 true (namesTo c xs true j) s = say (namesTo c xs true j) 0) := by unfold Hid nameI1; rw [hst, say_none]; rfl
          go_wp2_with (first | (go_at_call 42; refine (rname_any _ _ (by unfold maxLen; omega)).mono ?_; rintro e w' ⟨rfl, rfl⟩) | (go_at_call 41; refine (add_to _ _ _ 0 _ _ _ hC.out (by omega) (by simp)).mono ?_; rintro e w' ⟨rfl, h1, h2⟩; have H1 := Lib.hid h1; have H2 := Lib.hid h2; clear h1 h2))
          go_roundw
          case rel => exact ⟨j + 1, hlt, by go_num, HF.out _ (by rw [hv.out]; exact H1.out) H2.out⟩
          case measure => simp [intOf]; omega
        | false =>
          have hv : Hid (nameI1 true (namesTo c xs true j) s = say (namesTo c xs true j) (nameI s)) := by unfold Hid nameI1; rw [hst]; rfl
          go_wp2_with (first | (go_at_call 42; refine (rname_any _ _ (by unfold maxLen; omega)).mono ?_; rintro e w' ⟨rfl, rfl⟩) | (go_at_call 41; refine (add_to _ _ _ (nameI s) _ _ _ hC.out (by omega) (by simp)).mono ?_; rintro e w' ⟨rfl, h1, h2⟩; have H1 := Lib.hid h1; have H2 := Lib.hid h2; clear h1 h2))
          go_roundw
          case rel => exact ⟨j + 1, hlt, by go_num, HF.out _ (by rw [hv.out]; exact H1.out) H2.out⟩
          case measure => simp [intOf]; omega
    · have HA := Lib.hid (namesTo_all c xs star j (by omega))
      obtain rfl : j = xs.length := by omega
      go_wp2
      go_end0
      exact ⟨rfl, by rw [← HA.out]; exact hC.out, hM.out⟩
end Go.Proofs.YtplfimoeggecjaaDoor.Sx
