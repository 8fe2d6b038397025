/-
  The reference's above.
-/
import Derived.Test.YtplfimoeggecjaaGreatDoorSr1
namespace Go.Proofs.YtplfimoeggecjaaGreatDoor.Sx
open Go Go.RowKit

def one12 : Nat → Nat := fun i => if i = 0 then 1 else 0
/-- y to the power of j, in pieces. -/
def pw (y : Nat) : Nat → Nat → Nat
  | 0 => one12
  | j + 1 => tms 12 (pw y j) y
theorem one12_val : val one12 12 = 1 := by decide
theorem pow_fits {y : Nat} (hy : y < 137438953472) : ∀ j, j ≤ 3 → y ^ j ≤ 2 ^ (37 * j)
  | 0, _ => by simp
  | j + 1, h => by
    have h1 := pow_fits hy j (by omega)
    have h2 : y ^ j * y ≤ 2 ^ (37 * j) * 2 ^ 37 := Nat.mul_le_mul h1 (by omega)
    rw [Nat.pow_succ, Nat.mul_add, Nat.pow_add]
    exact h2
theorem pw_val {y : Nat} (hy : y < 137438953472) : ∀ j, j ≤ 3 → val (pw y j) 12 = y ^ j
  | 0, _ => one12_val
  | j + 1, h => by
    have h1 := pw_val hy j (by omega)
    have h2 := pow_fits hy j (by omega)
    have h3 : 2 ^ (37 * j) ≤ 2 ^ (37 * 2) := Nat.pow_le_pow_right (by omega) (by omega)
    show val (tms 12 (pw y j) y) 12 = _
    rw [tms_val (by omega) (by omega) (by rw [h1]; omega), h1, Nat.pow_succ]
theorem pw_lt {y : Nat} (hy : y < 137438953472) : ∀ j, j ≤ 3 → ∀ i, i < 12 → pw y j i < 65536
  | 0, _, i, _ => by show one12 i < _; unfold one12; split <;> omega
  | j + 1, h, i, hi => by
    refine tms_lt ?_ i hi
    have h1 := pw_val hy (j + 1) h
    have h2 := pow_fits hy (j + 1) h
    have h3 : 2 ^ (37 * (j + 1)) ≤ 2 ^ (37 * 3) := Nat.pow_le_pow_right (by omega) (by omega)
    show val (pw y (j + 1)) 12 < _
    omega
def zero12 : Nat → Nat := fun _ => 0
theorem upd_val {n p : Nat} (hn : n = 2 ∨ n = 3) : val (upd zero12 (2 * n) p) 12 = p * 4294967296 ^ n := by
  have h := val_upd (f := zero12) (j := 2 * n) (x := p) (n := 12) (by omega)
  have h0 : val zero12 12 = 0 := val_zero fun _ _ => rfl
  rw [h0] at h
  have e : (65536 : Nat) ^ (2 * n) = 4294967296 ^ n := by rw [Nat.pow_mul]
  have hz : zero12 (2 * n) = 0 := rfl
  rw [e, hz, Nat.zero_mul, Nat.add_zero, Nat.zero_add] at h
  exact h
theorem upd_lt {n p : Nat} (hp : p ≤ 311) : ∀ i, upd zero12 (2 * n) p i < 65536 := fun i => by
  unfold upd zero12
  split <;> omega
theorem built_one : Tryz.prog.built wideT [(0, .int .u64 1)] = some (wv one12) := by kernel_rfl
theorem built_zero : Tryz.prog.built wideT [] = some (wv zero12) := by kernel_rfl
theorem drewN_ext (w : World) (k : Nat) : Ext w (w.drewN k) := ⟨rfl, rfl, rfl, Nat.le_refl _, fun _ _ => rfl⟩
theorem abv_eq {A B : Nat → Nat} {X Y : Nat} (ha : val A 12 = X) (hb : val B 12 = Y) (h : ∀ j, j < 12 → A j = B j) : decide (Y < X) = false := by
  have : val A 12 = val B 12 := val_congr h
  simp
  omega
theorem abv_at {A B : Nat → Nat} {X Y i : Nat} (ha : val A 12 = X) (hb : val B 12 = Y) (hal : ∀ i, i < 12 → A i < 65536) (hbl : ∀ i, B i < 65536) (hi : i < 12) (h : ∀ j, i < j → j < 12 → A j = B j) (hne : ¬ A i = B i) : decide (Y < X) = decide (B i < A i) := by
  rcases Nat.lt_or_ge (B i) (A i) with h1 | h1
  · have := val_gt hi h (fun j _ => hbl j) h1
    simp [h1]
    omega
  · have := val_gt hi (fun j h1 h2 => (h j h1 h2).symm) (fun j hj => hal j hj) (show A i < B i by omega)
    simp [show ¬ B i < A i by omega]
    omega
/-- The two numbers in memory. -/
structure AbvI (w : World) (g : Nat) (a b : Nat → Nat) (wr : World) : Prop where
  a : wr.heap[g]? = some (.cells (wv a) wideT (0, 0))
  b : wr.heap[g + 1]? = some (.cells (wv b) wideT (0, 0))
  ext : Ext w wr
  le : w.heap.size ≤ g
theorem AbvI.exts {w wr w' : World} {g : Nat} {a b : Nat → Nat} (h : AbvI w g a b wr) (hx : Ext wr w') : AbvI w g a b w' :=
  ⟨(hx.block _ (heap_lt h.a)).trans h.a, (hx.block _ (heap_lt h.b)).trans h.b, h.ext.trans hx, h.le⟩
theorem AbvI.setA {w wr : World} {g : Nat} {a b : Nat → Nat} (h : AbvI w g a b wr) (a' : Nat → Nat) : AbvI w g a' b (wr.setRow g (wv a')) :=
  ⟨setRow_heap _ _ _ _ _ _ h.a, (setRow_other _ _ _ _ (by omega)).trans h.b, setRow_ext h.ext _ _ h.le, h.le⟩
theorem AbvI.setB {w wr : World} {g j x : Nat} {a b : Nat → Nat} (h : AbvI w g a b wr) (hj : j < 12) : AbvI w g a (upd b j x) (wr.setCell ⟨g + 1, j, none⟩ (u64v x)) :=
  ⟨by rw [heap_setCell_other _ _ _ _ (by simp)]; exact h.a, by rw [← wv_set b hj rfl]; exact heap_setCell_same _ _ _ _ _ _ h.b, h.ext.setCell (p := ⟨g + 1, j, none⟩) (Nat.le_succ_of_le h.le) _, h.le⟩
set_option maxRecDepth 100000 in
set_option maxHeartbeats 4000000 in
theorem above_any (y p n : Nat) (w : World) (hn : n = 2 ∨ n = 3) (hy : y < 137438953472) (hp : p ≤ 311) :
    Calls Tryz.prog 123 #[.int .u64 (y : Int), .int .u64 (p : Int), .int .i64 (n : Int)] w fun e w' => e = .returned (.bool (decide (p * 4294967296 ^ n < y ^ n))) ∧ Ext w w' := by
  have HY := Lib.hid hy
  have HP := Lib.hid hp
  have HN := Lib.hid hn
  have HZ : Hid (AbvI w w.heap.size one12 zero12 ((((w.alloc (.cells (wv zero12) wideT (0, 0))).alloc (.cells (wv zero12) wideT (0, 0))).setRow w.heap.size (wv one12)).setRow (w.heap.size + 1) (wv zero12))) := by
    have h1 : AbvI w w.heap.size zero12 zero12 ((w.alloc (.cells (wv zero12) wideT (0, 0))).alloc (.cells (wv zero12) wideT (0, 0))) := ⟨heap_old (heap_new rfl), heap_new (by simp), Ext.trans (new_ext _ _) (new_ext _ _), Nat.le_refl _⟩
    have h2 := h1.setA one12
    exact ⟨(setRow_other _ _ _ _ (by omega)).trans h2.a, setRow_heap _ _ _ _ _ _ h2.b, setRow_ext h2.ext _ _ (by omega), Nat.le_refl _⟩
  have HG1 : Hid (((w.alloc (.cells (wv zero12) wideT (0, 0))).alloc (.cells (wv zero12) wideT (0, 0))).heap[w.heap.size]? = some (.cells (wv zero12) wideT (0, 0))) := heap_old (heap_new rfl)
  have HG2 : Hid ((((w.alloc (.cells (wv zero12) wideT (0, 0))).alloc (.cells (wv zero12) wideT (0, 0))).setRow w.heap.size (wv one12)).heap[w.heap.size + 1]? = some (.cells (wv zero12) wideT (0, 0))) := (setRow_other _ _ _ _ (by omega)).trans (heap_new (by simp))
  clear hy hp hn
  go_enter Tryz.func123, Tryz.ntmps123
  go_wp2_with (first
    | (refine wpList_built rfl _ _ (by rfl) (wv one12) built_one ?_)
    | (refine wpList_built rfl _ _ (by rfl) (wv zero12) built_zero ?_)
    | (refine wpList_store_row rfl _ _ _ (by rfl) w.heap.size (wv one12) (by rfl) (by rfl) wideT (wv zero12) HG1.out (wide_sizes _) rfl (wv_one _) ?_)
    | (refine wpList_store_row rfl _ _ _ (by rfl) (w.heap.size + 1) (wv zero12) (by rfl) (by rfl) wideT (wv zero12) HG2.out (wide_sizes _) rfl (wv_one _) ?_))
  obtain ⟨g, hg⟩ : ∃ g, g = w.heap.size := ⟨_, rfl⟩
  obtain ⟨w1, hw1⟩ : ∃ w1, w1 = ((((w.alloc (.cells (wv zero12) wideT (0, 0))).alloc (.cells (wv zero12) wideT (0, 0))).setRow w.heap.size (wv one12)).setRow (w.heap.size + 1) (wv zero12)) := ⟨_, rfl⟩
  have HI : Hid (AbvI w g (pw y 0) zero12 w1) := by rw [hw1, hg]; exact HZ.out
  have e1 : ((((w.alloc (.cells #[.int .u64 0, .int .u64 0, .int .u64 0, .int .u64 0, .int .u64 0, .int .u64 0, .int .u64 0, .int .u64 0, .int .u64 0, .int .u64 0, .int .u64 0, .int .u64 0] wideT (0, 0))).alloc (.cells #[.int .u64 0, .int .u64 0, .int .u64 0, .int .u64 0, .int .u64 0, .int .u64 0, .int .u64 0, .int .u64 0, .int .u64 0, .int .u64 0, .int .u64 0, .int .u64 0] wideT (0, 0))).setRow w.heap.size (wv one12)).setRow (w.heap.size + 1) (wv zero12)) = w1 := hw1.symm
  rw [e1, ← hg]
  clear e1 hw1 hg HZ HG1 HG2
  have hn3 : n ≤ 3 := by have := HN.out; omega
  go_loopw [13] (fun x wr => ∃ j : Nat, j ≤ n ∧ x = .int .i64 (j : Int) ∧ Hid (AbvI w g (pw y j) zero12 wr)) (fun x _ => n - (intOf x).toNat)
  case atStart => exact ⟨0, by omega, rfl, HI⟩
  case round =>
    obtain ⟨j, hj, rfl, hI⟩ := hrel
    by_cases hlt : j < n
    · have ha := hI.out.a
      have HL := Lib.hid (pw_lt HY.out j (by omega))
      obtain ⟨f, hf⟩ : ∃ f, f = pw y j := ⟨_, rfl⟩
      rw [← hf] at ha HL
      have HF := Lib.hid hf
      clear hf
      go_wp2_with (first
        | (refine wpList_load_row rfl _ _ (by rfl) g (by rfl) wideT (wv f) (0, 0) (.array 12 101) ha (by kernel_rfl) rfl (wide_sizes _) ?_)
        | (go_at_call 164; (with_reducible refine (times_any f y _ HL.out (by have := HY.out; omega)).mono ?_); rintro e w4 ⟨rfl, hx4⟩; have H4 := Lib.hid (hI.out.exts hx4))
        | (refine wpList_store_row rfl _ _ _ (by rfl) g (wv (tms 12 f y)) (by rfl) (by rfl) wideT (wv (pw y j)) H4.out.a (wide_sizes _) (by rw [wv_size, wv_size]) (wv_one _) ?_))
      go_roundw
      case rel => exact ⟨j + 1, by omega, by go_num, by have h := H4.out.setA (tms 12 f y); rw [HF.out] at h ⊢; exact h⟩
      case measure => simp [intOf]; omega
    · obtain rfl : j = n := by omega
      have HVA := Lib.hid (pw_val HY.out j hn3)
      have HVL := Lib.hid (pw_lt HY.out j hn3)
      have HVB := Lib.hid (upd_val (p := p) HN.out)
      obtain ⟨A, hA⟩ : ∃ A, A = pw y j := ⟨_, rfl⟩
      obtain ⟨B, hB⟩ : ∃ B, B = upd zero12 (2 * j) p := ⟨_, rfl⟩
      have HI2 : Hid (AbvI w g A B (wr.setCell ⟨g + 1, 2 * j, none⟩ (u64v p))) := by rw [hA, hB]; exact hI.out.setB (by omega)
      have HBL : Hid (∀ i, B i < 65536) := by rw [hB]; exact upd_lt HP.out
      rw [← hA] at HVA HVL
      rw [← hB] at HVB
      have c0 := cell_of (j := 2 * j) hI.out.b
      rw [wv_at _ (by omega)] at c0
      have f0 := free_of (j := 2 * j) hI.out.b
      have hj23 := HN.out
      clear hA hB hI HI hlt hj
      rcases hj23 with rfl | rfl
      · go_wp2_with fail
        obtain ⟨w2, hw2⟩ : ∃ w2, w2 = wr.setCell ⟨g + 1, 4, none⟩ (.int .u64 (p : Int)) := ⟨_, rfl⟩
        have HI3 : Hid (AbvI w g A B w2) := by rw [hw2]; exact HI2.out
        rw [← hw2]
        clear hw2 HI2 c0 f0
        go_loopw [9] (fun x wx => ∃ t : Nat, t ≤ 12 ∧ x = .int .i64 ((t : Int) - 1) ∧ Hid (AbvI w g A B wx) ∧ Hid (∀ j, t ≤ j → j < 12 → A j = B j)) (fun x _ => (intOf x + 1).toNat)
        case atStart => exact ⟨12, by omega, rfl, HI3, fun j h1 h2 => by omega⟩
        case round =>
          obtain ⟨t, ht, rfl, hI, HE⟩ := hrel
          cases t with
          | zero =>
            have e : ((0 : Nat) : Int) - 1 = -1 := rfl
            rw [e]
            have HR := Lib.hid (abv_eq HVA.out HVB.out (fun j hj => HE.out j (by omega) hj))
            go_wp2_with fail
            go_ret
            exact ⟨ret_bool (HR.out).symm, hI.out.ext⟩
          | succ i =>
            have e : ((i + 1 : Nat) : Int) - 1 = (i : Int) := by omega
            rw [e]
            have ca : wr.cell? ⟨g, i, none⟩ = some (.int .u64 (A i : Int)) := by rw [cell_of hI.out.a, wv_at _ (by omega)]; rfl
            have cb : wr.cell? ⟨g + 1, i, none⟩ = some (.int .u64 (B i : Int)) := by rw [cell_of hI.out.b, wv_at _ (by omega)]; rfl
            have p0 : (0 : Int) ≤ (i : Int) := by omega
            have p1 : (i : Int) < 12 := by omega
            by_cases hab : A i = B i
            · have HE2 : Hid (∀ j, i ≤ j → j < 12 → A j = B j) := fun j h1 h2 => by
                rcases Nat.lt_or_ge i j with h3 | h3
                · exact HE.out j (by omega) h2
                · obtain rfl : j = i := by omega
                  exact hab
              have t1 : ((A i : Int) == (B i : Int)) = true := by simp [hab]
              have t2 : ((A i : Int) != (B i : Int)) = false := by simp [hab]
              have HAB := Lib.hid hab
              clear hab e
              go_wp2_with fail
              go_quiet (fail)
              go_wp2_with fail
              go_roundw
              case rel => exact ⟨i, by omega, by go_num, lib_hid' (hI.out.exts (drewN_ext _ _)), HE2⟩
              case measure => simp [intOf]
            · have HR := Lib.hid (abv_at HVA.out HVB.out HVL.out HBL.out (i := i) (by omega) (fun j h1 h2 => HE.out j (by omega) h2) hab)
              have t1 : ((A i : Int) == (B i : Int)) = false := by simp; omega
              have t2 : ((A i : Int) != (B i : Int)) = true := by simp; omega
              have HAB := Lib.hid hab
              clear hab e
              go_wp2_with fail
              go_quiet (fail)
              go_wp2_with fail
              go_quiet (fail)
              go_wp2_with fail
              go_ret
              refine ⟨ret_bool ?_, Ext.trans hI.out.ext (Ext.trans (drewN_ext _ _) (drewN_ext _ _))⟩
              rw [HR.out]
      · go_wp2_with fail
        obtain ⟨w2, hw2⟩ : ∃ w2, w2 = wr.setCell ⟨g + 1, 6, none⟩ (.int .u64 (p : Int)) := ⟨_, rfl⟩
        have HI3 : Hid (AbvI w g A B w2) := by rw [hw2]; exact HI2.out
        rw [← hw2]
        clear hw2 HI2 c0 f0
        go_loopw [9] (fun x wx => ∃ t : Nat, t ≤ 12 ∧ x = .int .i64 ((t : Int) - 1) ∧ Hid (AbvI w g A B wx) ∧ Hid (∀ j, t ≤ j → j < 12 → A j = B j)) (fun x _ => (intOf x + 1).toNat)
        case atStart => exact ⟨12, by omega, rfl, HI3, fun j h1 h2 => by omega⟩
        case round =>
          obtain ⟨t, ht, rfl, hI, HE⟩ := hrel
          cases t with
          | zero =>
            have e : ((0 : Nat) : Int) - 1 = -1 := rfl
            rw [e]
            have HR := Lib.hid (abv_eq HVA.out HVB.out (fun j hj => HE.out j (by omega) hj))
            go_wp2_with fail
            go_ret
            exact ⟨ret_bool (HR.out).symm, hI.out.ext⟩
          | succ i =>
            have e : ((i + 1 : Nat) : Int) - 1 = (i : Int) := by omega
            rw [e]
            have ca : wr.cell? ⟨g, i, none⟩ = some (.int .u64 (A i : Int)) := by rw [cell_of hI.out.a, wv_at _ (by omega)]; rfl
            have cb : wr.cell? ⟨g + 1, i, none⟩ = some (.int .u64 (B i : Int)) := by rw [cell_of hI.out.b, wv_at _ (by omega)]; rfl
            have p0 : (0 : Int) ≤ (i : Int) := by omega
            have p1 : (i : Int) < 12 := by omega
            by_cases hab : A i = B i
            · have HE2 : Hid (∀ j, i ≤ j → j < 12 → A j = B j) := fun j h1 h2 => by
                rcases Nat.lt_or_ge i j with h3 | h3
                · exact HE.out j (by omega) h2
                · obtain rfl : j = i := by omega
                  exact hab
              have t1 : ((A i : Int) == (B i : Int)) = true := by simp [hab]
              have t2 : ((A i : Int) != (B i : Int)) = false := by simp [hab]
              have HAB := Lib.hid hab
              clear hab e
              go_wp2_with fail
              go_quiet (fail)
              go_wp2_with fail
              go_roundw
              case rel => exact ⟨i, by omega, by go_num, lib_hid' (hI.out.exts (drewN_ext _ _)), HE2⟩
              case measure => simp [intOf]
            · have HR := Lib.hid (abv_at HVA.out HVB.out HVL.out HBL.out (i := i) (by omega) (fun j h1 h2 => HE.out j (by omega) h2) hab)
              have t1 : ((A i : Int) == (B i : Int)) = false := by simp; omega
              have t2 : ((A i : Int) != (B i : Int)) = true := by simp; omega
              have HAB := Lib.hid hab
              clear hab e
              go_wp2_with fail
              go_quiet (fail)
              go_wp2_with fail
              go_quiet (fail)
              go_wp2_with fail
              go_ret
              refine ⟨ret_bool ?_, Ext.trans hI.out.ext (Ext.trans (drewN_ext _ _) (drewN_ext _ _))⟩
              rw [HR.out]
end Go.Proofs.YtplfimoeggecjaaGreatDoor.Sx
