/-
  Decimal numerals in plain words; the first text of their make that no list has. No program in sight.
-/
import Derived.Lib.ItoaNum
import Derived.Lib.ItoaMem
import Derived.Lib.Hide
namespace Go.Proofs.YtahinicpceokcaaGreatDoor.Dc
open Go.Lib

/-- A numeral's number. -/
def valD (l : List UInt8) : Nat := l.foldl (fun a c => 10 * a + (c.toNat - 48)) 0
theorem dig_val (d : Nat) (h : d < 10) : (UInt8.ofNat (48 + d)).toNat = 48 + d := by
  rw [UInt8.toNat_ofNat']
  omega
theorem valD_dec : ∀ (m u : Nat), u ≤ m → valD (decDigits u) = u
  | 0, u, h => by
    obtain rfl : u = 0 := by omega
    rw [decDigits, dif_pos (by omega)]
    rfl
  | m + 1, u, h => by
    by_cases h10 : u < 10
    · rw [decDigits, dif_pos h10]
      have := dig_val u h10
      unfold valD
      simp only [List.foldl_cons, List.foldl_nil]
      omega
    · rw [decDigits, dif_neg h10]
      have ih := valD_dec m (u / 10) (by omega)
      have hd := dig_val (u % 10) (by omega)
      unfold valD at ih ⊢
      rw [List.foldl_append, ih]
      simp only [List.foldl_cons, List.foldl_nil]
      omega
theorem dec_inj {a b : Nat} (h : decDigits a = decDigits b) : a = b := by
  rw [← valD_dec a a (Nat.le_refl _), h]
  exact valD_dec b b (Nat.le_refl _)
theorem dec_len : ∀ (m u : Nat), u ≤ m → (decDigits u).length ≤ u + 1
  | 0, u, h => by
    rw [decDigits, dif_pos (by omega)]
    simp
  | m + 1, u, h => by
    by_cases h10 : u < 10
    · rw [decDigits, dif_pos h10]; simp
    · rw [decDigits, dif_neg h10]
      have ih := dec_len m (u / 10) (by omega)
      rw [List.length_append]
      simp only [List.length_cons, List.length_nil]
      omega
/-- 'x' and the numeral. -/
def xN (n : Nat) : ByteArray := ⟨(120 :: decDigits n).toArray⟩
theorem xN_inj {a b : Nat} (h : xN a = xN b) : a = b := by
  have h1 := congrArg (fun b : ByteArray => b.data.toList) h
  simp [xN] at h1
  exact dec_inj h1
theorem sub_len {α : Type} [DecidableEq α] : ∀ (l ws : List α), l.Nodup → (∀ x ∈ l, x ∈ ws) → l.length ≤ ws.length
  | [], ws, _, _ => Nat.zero_le _
  | a :: l, ws, hn, hs => by
    have ha := hs a List.mem_cons_self
    have hn2 := List.nodup_cons.1 hn
    have ih := sub_len l (ws.erase a) hn2.2 (fun x hx => by
      have hxa : x ≠ a := fun e => hn2.1 (by rw [← e]; exact hx)
      exact (List.mem_erase_of_ne hxa).2 (hs x (List.mem_cons_of_mem _ hx)))
    have := List.length_erase_of_mem ha
    have hp := List.length_pos_of_mem ha
    simp only [List.length_cons]
    omega
theorem xs_nodup : ∀ k, ((List.range k).map xN).Nodup := fun k => by
  unfold List.Nodup
  rw [List.pairwise_map]
  exact List.nodup_range.imp fun h e => h (xN_inj e)
/-- So many of them are all there: the list is as long. -/
theorem there_le {ws : List ByteArray} {k : Nat} (h : ∀ m, m < k → xN m ∈ ws) : k ≤ ws.length := by
  have := sub_len ((List.range k).map xN) ws (xs_nodup k) (fun x hx => by
    obtain ⟨m, hm, rfl⟩ := List.mem_map.1 hx
    exact h m (List.mem_range.1 hm))
  simpa using this
def IsFresh (ws : List ByteArray) (k : Nat) : Prop := (∀ m, m < k → xN m ∈ ws) ∧ xN k ∉ ws
theorem fresh_one {ws : List ByteArray} {a b : Nat} (h : IsFresh ws a) (h2 : IsFresh ws b) : a = b := by
  rcases Nat.lt_trichotomy a b with hl | hl | hl
  · exact absurd (h2.1 a hl) h.2
  · exact hl
  · exact absurd (h.1 b hl) h2.2
theorem fresh_is (ws : List ByteArray) : ∃ k, IsFresh ws k := by
  have hgo : ∀ (m k : Nat), ws.length + 1 - k ≤ m → (∀ j, j < k → xN j ∈ ws) → ∃ k, IsFresh ws k := by
    intro m
    induction m with
    | zero =>
      intro k hk h
      have := there_le h
      omega
    | succ m ih =>
      intro k hk h
      by_cases hx : xN k ∈ ws
      · refine ih (k + 1) (by omega) fun j hj => ?_
        rcases Nat.lt_or_ge j k with h1 | h1
        · exact h j h1
        · rw [show j = k by omega]; exact hx
      · exact ⟨k, h, hx⟩
  exact hgo (ws.length + 1) 0 (by omega) (fun j hj => by omega)
/-- The first number of their make that a list has not. -/
noncomputable def freshN (ws : List ByteArray) : Nat := (fresh_is ws).choose
theorem freshN_is (ws : List ByteArray) : IsFresh ws (freshN ws) := (fresh_is ws).choose_spec
theorem freshN_eq {ws : List ByteArray} {k : Nat} (h : IsFresh ws k) : freshN ws = k := fresh_one (freshN_is ws) h
theorem freshN_le (ws : List ByteArray) : freshN ws ≤ ws.length := there_le (freshN_is ws).1
noncomputable def freshS (ws : List ByteArray) : ByteArray := xN (freshN ws)
theorem xN_size (n : Nat) : (xN n).size ≤ n + 2 := by
  have := dec_len n n (Nat.le_refl _)
  show ((120 :: decDigits n).toArray).size ≤ _
  simp
  omega
end Go.Proofs.YtahinicpceokcaaGreatDoor.Dc
