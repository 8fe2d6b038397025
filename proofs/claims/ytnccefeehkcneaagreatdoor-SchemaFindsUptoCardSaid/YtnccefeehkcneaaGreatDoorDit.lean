/-
  The reference's Digits.
  strconv.Itoa, where its table is laid.
-/
import Derived.Test.YtnccefeehkcneaaGreatDoorChr
import Derived.Test.YtnccefeehkcneaaGreatDoorDec
import Derived.IntWalk
import Derived.Test.YtnccefeehkcneaaGreatDoorShelf
import Derived.Lib.SmallJoins
import Derived.Lib.ItoaMem
namespace Go.Proofs.YtnccefeehkcneaaGreatDoor.Sx
open Go Go.RowKit Go.Proofs.YtnccefeehkcneaaGreatDoor.Dc
def decS (u : Nat) : ByteArray := ⟨(Lib.decDigits u).toArray⟩
theorem decS_one {u : Nat} (h : u < 10) : decS u = sgn (UInt8.ofNat (48 + u)) := by unfold decS sgn; rw [Lib.decDigits_one h]
theorem decS_more {u : Nat} (h : ¬ u < 10) : decS u = decS (u / 10) ++ sgn (UInt8.ofNat (48 + u % 10)) := by
  unfold decS sgn
  rw [Lib.decDigits, dif_neg h]
  apply ByteArray.ext
  simp [ByteArray.data_append]
theorem decS_size (u : Nat) : (decS u).size ≤ u + 1 := by
  have := dec_len u u (Nat.le_refl _)
  show ((Lib.decDigits u).toArray).size ≤ _
  simpa using this
set_option maxRecDepth 100000 in
set_option maxHeartbeats 1000000 in
theorem digits_rec : ∀ (m u : Nat) (w : World), u ≤ m → u ≤ 1125899906842624 →
    Calls Tryz.prog 133 #[.int .u64 (u : Int)] w fun e w' => e = .returned (.string (decS u)) ∧ Ext w w' := by
  intro m
  induction m with
  | zero =>
    intro u w h h2
    have e : u = 0 := by omega
    subst e
    have C : Hid (Calls Tryz.prog 126 #[.int .i64 48] w fun e w' => e = .returned (.string (decS 0)) ∧ Ext w w') := by
      rw [decS_one (by omega)]
      exact chr_at 48 48 rfl w
    go_enter Tryz.func133, Tryz.ntmps133
    go_wp2_with (go_at_call 126; (with_reducible refine C.out.mono ?_); rintro e w1 ⟨rfl, hx⟩; have HX := Lib.hid hx; clear hx)
    go_ret
    exact ⟨rfl, HX.out⟩
  | succ m ih =>
    intro u w h h2
    have h2i : (u : Int) ≤ 1125899906842624 := by omega
    by_cases h10 : u < 10
    · have t : decide ((u : Int) < 10) = true := by simp; omega
      have C : Hid (Calls Tryz.prog 126 #[.int .i64 (48 + (u : Int))] w fun e w' => e = .returned (.string (decS u)) ∧ Ext w w') := by
        rw [decS_one h10]
        exact chr_at _ (UInt8.ofNat (48 + u)) (by rw [dig_val u h10]; omega) w
      clear ih h h2 h10
      go_enter Tryz.func133, Tryz.ntmps133
      go_wp2_with (go_at_call 126; (with_reducible refine C.out.mono ?_); rintro e w1 ⟨rfl, hx⟩; have HX := Lib.hid hx; clear hx)
      go_ret
      exact ⟨rfl, HX.out⟩
    · have t : decide ((u : Int) < 10) = false := by simp; omega
      obtain ⟨q, hq⟩ : ∃ q, q = u / 10 := ⟨_, rfl⟩
      obtain ⟨r, hr⟩ : ∃ r, r = u % 10 := ⟨_, rfl⟩
      have eq1 : (u : Int) / 10 = (q : Int) := by omega
      have eq2 : (u : Int) % 10 = (r : Int) := by omega
      have hr10 : (r : Int) < 10 := by omega
      have C1 : Hid (∀ wk, Calls Tryz.prog 133 #[.int .u64 (q : Int)] wk fun e w' => e = .returned (.string (decS q)) ∧ Ext wk w') := fun wk => ih q wk (by omega) (by omega)
      obtain ⟨c, hc⟩ : ∃ c, c = UInt8.ofNat (48 + r) := ⟨_, rfl⟩
      have C2 : Hid (∀ wk, Calls Tryz.prog 126 #[.int .i64 (48 + (r : Int))] wk fun e w' => e = .returned (.string (sgn c)) ∧ Ext wk w') := fun wk => chr_at _ c (by rw [hc, dig_val r (by omega)]; omega) wk
      have HE : Hid (decS u = decS q ++ sgn c) := by rw [hc, hq, hr]; exact decS_more h10
      have hz : (decS q).size ≤ 1125899906842624 := by have := decS_size q; omega
      have hz1 : (sgn c).size = 1 := rfl
      clear ih h h2 h10 hq hr hc
      go_enter Tryz.func133, Tryz.ntmps133
      go_wp2_with (first
        | (go_at_call 133; (with_reducible refine (C1.out _).mono ?_); rintro e w1 ⟨rfl, hx⟩; have HX := Lib.hid hx; clear hx)
        | (go_at_call 126; (with_reducible refine (C2.out _).mono ?_); rintro e w2 ⟨rfl, hx2⟩; have HX2 := Lib.hid hx2; clear hx2))
      go_ret
      exact ⟨by rw [HE.out]; rfl, HX.out.trans HX2.out⟩
theorem digits_any (u : Nat) (w : World) (h : u ≤ 1125899906842624) : Calls Tryz.prog 85 #[.int .i64 (u : Int)] w fun e w' => e = .returned (.string (decS u)) ∧ Ext w w' := by
  have C := Lib.hid (digits_rec u u w (Nat.le_refl _) h)
  have hi : (u : Int) ≤ 1125899906842624 := by omega
  have t : decide ((u : Int) < 0) = false := by simp
  clear h
  go_enter Tryz.func85, Tryz.ntmps85
  go_wp2_with (go_at_call 133; (with_reducible refine C.out.mono ?_); rintro e w1 ⟨rfl, hx⟩; have HX := Lib.hid hx; clear hx)
  go_ret
  exact ⟨rfl, HX.out⟩
end Go.Proofs.YtnccefeehkcneaaGreatDoor.Sx
namespace Go.Proofs.YtnccefeehkcneaaGreatDoor.Sx
open Go Go.RowKit Go.Proofs.YtnccefeehkcneaaGreatDoor.Dc
/-- The table that Itoa reads is laid. -/
def Tab10 (w : World) : Prop := Lib.TabIs Tryz.prog w "internal/strconv.uint64pow10" .u64 Lib.pow10Tab
set_option maxRecDepth 100000 in
theorem Tab10.ext {w w' : World} (h : Tab10 w) (he : Ext w w') : Tab10 w' := Go.Joins.tab_stays (g := 0) (by kernel_rfl) h he (Nat.le_refl _)
theorem ext_grow (w : World) (k : Nat) (os : Array Obj) : Ext w (Go.Sort.grow (w.drewN k) os) := by
  have h : Ext w (w.drewN k) := ⟨rfl, rfl, rfl, Nat.le_refl _, fun _ _ => rfl⟩
  exact h.trans ⟨rfl, rfl, rfl, by simp [Go.Sort.grow], fun j hj => by
    have hj2 : j < w.heap.size := hj
    simp [Go.Sort.grow, Array.getElem?_append, hj2]⟩
theorem itoa_any (u : Nat) (w : World) (ht : Tab10 w) (h : u ≤ 1125899906842624) : Calls Tryz.prog 75 #[.int .i64 (u : Int)] w fun e w' => e = .returned (.string (decS u)) ∧ Ext w w' :=
  (Tryz.strconv_Itoa (u : Int) (by omega) (by omega) w ht).mono fun e w' ⟨he, k, os, hw⟩ => ⟨by rw [he, Lib.itoa_nonneg]; rfl, by rw [hw]; exact ext_grow w k os⟩
end Go.Proofs.YtnccefeehkcneaaGreatDoor.Sx
