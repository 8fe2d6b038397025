/-
  Numerals that Atoi reads and writes again; what Atoi answers to any text.
-/
import Derived.Test.YtahinicpceokcaaGreatDoorDec
import Derived.Test.YtahinicpceokcaaGreatDoorErs
import Derived.Lib.AtoiAllCases
import Derived.Lib.Join
namespace Go.Proofs.YtahinicpceokcaaGreatDoor.Tk
open Go Go.RowKit Go.Lib Go.Proofs.YtahinicpceokcaaGreatDoor.Dc Go.Proofs.YtahinicpceokcaaGreatDoor.Sx
/-! ### numerals -/
def isDig (c : UInt8) : Prop := 48 ≤ c.toNat ∧ c.toNat ≤ 57
instance (c : UInt8) : Decidable (isDig c) := inferInstanceAs (Decidable (_ ∧ _))
def allDig (l : List UInt8) : Bool := l.all fun c => decide (isDig c)
theorem allDig_snoc (l : List UInt8) (c : UInt8) : allDig (l ++ [c]) = (allDig l && decide (isDig c)) := by unfold allDig; rw [List.all_append]; simp
theorem dec_ne (u : Nat) : decDigits u ≠ [] := by
  intro h
  have := decDigits_length u
  have := nDigits_pos u
  rw [h] at *
  simp at *
  omega
theorem dec_dig : ∀ (m u : Nat), u ≤ m → allDig (decDigits u) = true
  | 0, u, h => by
    obtain rfl : u = 0 := by omega
    rw [decDigits, dif_pos (by omega)]
    rfl
  | m + 1, u, h => by
    by_cases h10 : u < 10
    · rw [decDigits, dif_pos h10]
      have := dig_val u h10
      have hd : isDig (UInt8.ofNat (48 + u)) := by unfold isDig; omega
      generalize UInt8.ofNat (48 + u) = z at hd ⊢
      simp [allDig, hd]
    · rw [decDigits, dif_neg h10]
      have ih := dec_dig m (u / 10) (by omega)
      have := dig_val (u % 10) (by omega)
      have hd : isDig (UInt8.ofNat (48 + u % 10)) := by unfold isDig; omega
      generalize UInt8.ofNat (48 + u % 10) = z at hd ⊢
      rw [allDig_snoc, ih]
      simp [hd]
theorem nDigits_le : ∀ (k u : Nat), 1 ≤ k → u < 10 ^ k → nDigits u ≤ k
  | 0, u, h, _ => by omega
  | k + 1, u, _, h => by
    by_cases h10 : u < 10
    · rw [nDigits_small h10]; omega
    · rw [nDigits_big h10]
      have hk : 1 ≤ k := by
        rcases Nat.eq_zero_or_pos k with rfl | hk
        · simp at h; omega
        · exact hk
      have := nDigits_le k (u / 10) hk (by rw [Nat.pow_succ] at h; omega)
      omega
theorem dec_short {u : Nat} (h : u ≤ 1099511627776) : (decDigits u).length ≤ 13 := by
  rw [decDigits_length]
  exact nDigits_le 13 u (by omega) (by omega)
theorem parse_dig : ∀ (l : List UInt8) (a : Nat), allDig l = true → (a + 1) * 10 ^ l.length ≤ 18446744073709551616 → parseUint10 a l = .ok (l.foldl (fun a c => 10 * a + (c.toNat - 48)) a)
  | [], a, _, _ => rfl
  | c :: r, a, h, hb => by
    have h2 : allDig r = true := by unfold allDig at *; simp at h ⊢; exact h.2
    have hc : isDig c := by unfold allDig at h; simp at h; exact h.1
    have hp : 1 ≤ 10 ^ r.length := Nat.pow_pos (by omega)
    have hb2 : (a + 1) * 10 * 10 ^ r.length ≤ 18446744073709551616 := by
      rw [List.length_cons, Nat.pow_succ] at hb
      rw [Nat.mul_assoc, Nat.mul_comm 10]
      exact hb
    have hb3 : (a + 1) * 10 ≤ 18446744073709551616 := Nat.le_trans (Nat.le_mul_of_pos_right _ hp) hb2
    have h1 := hc.1
    have h9 := hc.2
    unfold parseUint10
    rw [if_pos (show 48 ≤ c.toNat ∧ c.toNat ≤ 57 from hc), if_neg (by omega), if_neg (by omega), parse_dig r _ h2 (Nat.le_trans (Nat.mul_le_mul_right _ (by omega)) hb2), List.foldl_cons, Nat.mul_comm a 10]
/-- Atoi reads a time's numeral. -/
theorem atoi_dec {u : Nat} (h : u ≤ 1099511627776) : atoiAll (decDigits u) = .ok (u : Int) := by
  have h1 := dec_short h
  have h2 := dec_ne u
  have h3 := dec_dig u u (Nat.le_refl _)
  have h4 := valD_dec u u (Nat.le_refl _)
  have hp : parseMag (decDigits u) = .ok u := by
    unfold parseMag
    rw [if_neg h2, parse_dig _ 0 h3]
    · exact congrArg _ h4
    · have : 10 ^ (decDigits u).length ≤ 10 ^ 13 := Nat.pow_le_pow_right (by omega) h1
      omega
  cases hd : decDigits u with
  | nil => exact absurd hd h2
  | cons c r =>
    have hc : isDig c := by rw [hd] at h3; unfold allDig at h3; simp at h3; exact h3.1
    have c1 := hc.1
    have c2 := hc.2
    rw [atoiAll_plain c r (by omega) (by omega), ← hd, hp]
    unfold signless
    simp only
    rw [if_neg (by omega)]
/-- What Atoi answers. -/
def AtoiR (s : ByteArray) (v : Int) (er : Value) : Prop := (atoiAll s.data.toList = .ok v ∧ er = .nilIface) ∨ ((∀ x, atoiAll s.data.toList ≠ .ok x) ∧ ∃ t p, er = .iface t p)
theorem bytes_ext (w : World) (t : TypeId) (x : ByteArray) : Ext w (Lib.bytesWorld w t x) := Joins.below_bytesWorld _ _ _ _ (Nat.le_refl _)
theorem atoi_any (s : ByteArray) (w : World) (hs : s.size ≤ 1048576) (hE : Errs w) :
    Calls Tryz.prog 126 #[.string s] w fun e w' => ∃ v er, e = .returned (.tuple #[.int .i64 v, er]) ∧ AtoiR s v er ∧ Ext w w' := by
  obtain ⟨⟨t, p, h1⟩, t2, p2, h2⟩ := hE
  cases ha : atoiAll s.data.toList
  · rename_i v
    refine (Tryz.strconv_Atoi_ok s (by omega) v ha w).mono fun e w' ⟨he, hw⟩ => ⟨v, _, he, .inl ⟨ha, rfl⟩, ?_⟩
    rcases hw with rfl | ⟨t, rfl⟩
    · exact Below.refl _ _
    · exact bytes_ext _ _ _
  · exact (Any.strconv_Atoi_syntax_var Tryz.laysC172 s (by omega) ha t p w h1).mono fun e w' ⟨N, he, _, _, hb⟩ => ⟨0, _, he, .inr ⟨fun x h => (by rw [ha] at h; cases h), _, _, rfl⟩, hb⟩
  · exact (Any.strconv_Atoi_range_var Tryz.laysC172 s (by omega) ha t2 p2 w h2).mono fun e w' ⟨N, he, _, _, hb⟩ => ⟨_, _, he, .inr ⟨fun x h => (by rw [ha] at h; cases h), _, _, rfl⟩, hb⟩
end Go.Proofs.YtahinicpceokcaaGreatDoor.Tk
