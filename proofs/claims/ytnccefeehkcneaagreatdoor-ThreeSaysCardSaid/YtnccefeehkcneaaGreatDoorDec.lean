/-
  Decimal numerals in plain words; the first text of their make that no list has. No program in sight.
-/
import Derived.Lib.ItoaNum
import Derived.Lib.ItoaMem
import Derived.Lib.Hide
namespace Go.Proofs.YtnccefeehkcneaaGreatDoor.Dc
open Go.Lib
theorem dig_val (d : Nat) (h : d < 10) : (UInt8.ofNat (48 + d)).toNat = 48 + d := by
  rw [UInt8.toNat_ofNat']
  omega
theorem dec_len : ∀ (m u : Nat), u ≤ m → (decDigits u).length ≤ u + 1
  | 0, u, h => by
    rw [decDigits, dif_pos (by omega)]
    simp
  | m + 1, u, h => by
    by_cases h10 : u < 10
    · rw [decDigits, dif_pos h10]; simp
    · rw [decDigits, dif_neg h10]
      have ih := dec_len m (u / 10) (by omega)
      rw [List.length_append]
      simp only [List.length_cons, List.length_nil]
      omega
end Go.Proofs.YtnccefeehkcneaaGreatDoor.Dc
