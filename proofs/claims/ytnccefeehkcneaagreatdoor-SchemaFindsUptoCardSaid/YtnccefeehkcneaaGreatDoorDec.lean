/-
  Decimal numerals in plain words; the first text of their make that no list has. No program in sight.
-/
import Derived.Lib.ItoaNum
import Derived.Lib.ItoaMem
import Derived.Lib.Hide
namespace Go.Proofs.YtnccefeehkcneaaGreatDoor.Dc
open Go.Lib
/-- A numeral's number. -/
def valD (l : List UInt8) : Nat := l.foldl (fun a c => 10 * a + (c.toNat - 48)) 0
theorem dig_val (d : Nat) (h : d < 10) : (UInt8.ofNat (48 + d)).toNat = 48 + d := by
  rw [UInt8.toNat_ofNat']
  omega
theorem valD_dec : ∀ (m u : Nat), u ≤ m → valD (decDigits u) = u
  | 0, u, h => by
    obtain rfl : u = 0 := by omega
    rw [decDigits, dif_pos (by omega)]
    rfl
  | m + 1, u, h => by
    by_cases h10 : u < 10
    · rw [decDigits, dif_pos h10]
      have := dig_val u h10
      unfold valD
      simp only [List.foldl_cons, List.foldl_nil]
      omega
    · rw [decDigits, dif_neg h10]
      have ih := valD_dec m (u / 10) (by omega)
      have hd := dig_val (u % 10) (by omega)
      unfold valD at ih ⊢
      rw [List.foldl_append, ih]
      simp only [List.foldl_cons, List.foldl_nil]
      omega
theorem dec_inj {a b : Nat} (h : decDigits a = decDigits b) : a = b := by
  rw [← valD_dec a a (Nat.le_refl _), h]
  exact valD_dec b b (Nat.le_refl _)
theorem dec_len : ∀ (m u : Nat), u ≤ m → (decDigits u).length ≤ u + 1
  | 0, u, h => by
    rw [decDigits, dif_pos (by omega)]
    simp
  | m + 1, u, h => by
    by_cases h10 : u < 10
    · rw [decDigits, dif_pos h10]; simp
    · rw [decDigits, dif_neg h10]
      have ih := dec_len m (u / 10) (by omega)
      rw [List.length_append]
      simp only [List.length_cons, List.length_nil]
      omega
end Go.Proofs.YtnccefeehkcneaaGreatDoor.Dc
