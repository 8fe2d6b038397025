/-
  The reference's flaws: says, space, names, rules, first.
-/
import Derived.Test.YtplfimoeggecjaaGreatDoorFlw
import Derived.WalkLawsBesides
namespace Go.Proofs.YtplfimoeggecjaaGreatDoor.Sx
open Go Go.RowKit

abbrev LIM : Nat := 8796093022208

theorem add_to (b : Nat) (c e v : Int) (K : Nat) (bad : Bool) (w : World) (h : Flw w b c K) (hK : K < 8796093022208) (hv : (if bad then e else 0) = v) :
    Calls Tryz.prog 37 #[.pointer (some ⟨b, 0, none⟩), .bool bad, .int .i64 e] w (FlwPost w b (say c v) (K + 1)) := by
  subst hv
  exact add_any b c e K bad w h hK

set_option maxRecDepth 100000 in
theorem fsays_any (b : Nat) (c e : Int) (K : Nat) (w : World) (h : Flw w b c K) (hK : K < 8796093022208) :
    Calls Tryz.prog 35 #[.pointer (some ⟨b, 0, none⟩), .int .i64 e] w (FlwPost w b (say c e) (K + 1)) := by
  have H := Lib.hid h
  clear h
  go_enter Tryz.func35, Tryz.ntmps35
  go_wp2_with (go_at_call 37; refine (add_to _ _ _ e _ _ _ H.out hK rfl).mono ?_; rintro e w' ⟨rfl, h1, h2⟩)
  go_end0
  exact ⟨rfl, h1, h2⟩

set_option maxRecDepth 100000 in
theorem fspace_any (b : Nat) (c : Int) (K : Nat) (s : ByteArray) (w : World) (h : Flw w b c K) (hK : K < 8796093022208) (hs : s.size ≤ 1048576) :
    Calls Tryz.prog 34 #[.pointer (some ⟨b, 0, none⟩), .string s] w (FlwPost w b (spaceI c s) (K + 1)) := by
  have H := Lib.hid h
  clear h
  by_cases h0 : s.size = 0
  · have e1 := isEmpty_of_zero h0
    have hf : Hid (spaceI c s = say c 0) := by unfold Hid spaceI; rw [if_pos h0, say_none]
    clear h0
    go_enter Tryz.func34, Tryz.ntmps34
    go_wp2_with (first | (go_at_call 36; refine (rname_any _ _ (by unfold maxLen; omega)).mono ?_; rintro e w' ⟨rfl, rfl⟩) | (go_at_call 37; refine (add_to _ _ _ 0 _ _ _ H.out hK (by simp)).mono ?_; rintro e w' ⟨rfl, h1, h2⟩))
    go_end0
    exact ⟨rfl, by rw [hf.out]; exact h1, h2⟩
  · have e1 := isEmpty_of_pos (s := s) (by omega)
    have hf : Hid (spaceI c s = say c (nameI s)) := if_neg h0
    clear h0
    go_enter Tryz.func34, Tryz.ntmps34
    go_wp2_with (first | (go_at_call 36; refine (rname_any _ _ (by unfold maxLen; omega)).mono ?_; rintro e w' ⟨rfl, rfl⟩) | (go_at_call 37; refine (add_to _ _ _ (nameI s) _ _ _ H.out hK (by simp)).mono ?_; rintro e w' ⟨rfl, h1, h2⟩))
    go_end0
    exact ⟨rfl, by rw [hf.out]; exact h1, h2⟩

set_option maxRecDepth 100000 in
/-- The list of flaws, handed over. -/
theorem flaws_first (b : Nat) (c : Int) (K : Nat) (v : Value) (w : World) (h : Flw w b c K) (hv : w.cell? ⟨b, 0, none⟩ = some v) (hK : K < 8796093022209) :
    Calls Tryz.prog 39 #[v] w fun e w' => e = .returned (.int .i64 c) ∧ w = w' := by
  obtain ⟨v0, L, h1, h2, h3, h4, h5⟩ := h
  obtain rfl : v0 = v := by
    have := cell_of h1 0
    rw [hv] at this
    simpa using this.symm
  cases L with
  | nil =>
    simp at h3
    subst h3
    obtain ⟨A, cp, rfl⟩ : ∃ A cp, v0 = .slice A 0 cp := by
      rcases h2.2 with ⟨rfl, _⟩ | ⟨g, cap, cur, rfl, _⟩
      · exact ⟨_, _, rfl⟩
      · exact ⟨_, _, rfl⟩
    clear h1 h2 hv h4
    go_enter Tryz.func39, Tryz.ntmps39
    go_wp2
    go_ret
    exact ⟨rfl, rfl⟩
  | cons x l =>
    simp at h3
    subst h3
    obtain ⟨g, cap, rfl⟩ := own_succ h2
    have hc := h2.cellAt 0 (by simp)
    simp at hc
    have hl : l.length + 1 ≤ 8796093022209 := by simp at h5; omega
    have hn : Hid (x :: l = x :: l) := rfl
    clear h1 h2 hv h4 h5
    go_enter Tryz.func39, Tryz.ntmps39
    go_wp2
    go_ret
    exact ⟨rfl, rfl⟩
end Go.Proofs.YtplfimoeggecjaaGreatDoor.Sx
