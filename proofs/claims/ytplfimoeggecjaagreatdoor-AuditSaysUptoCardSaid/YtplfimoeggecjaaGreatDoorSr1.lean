/-
  The reference's wide numbers: times.
-/
import Derived.Test.YtplfimoeggecjaaGreatDoorSh4
import Derived.Laws.Bits64
namespace Go.Proofs.YtplfimoeggecjaaGreatDoor.Sx
open Go Go.RowKit

abbrev wideT : Nat := 189
def u64v (n : Nat) : Value := .int .u64 (n : Int)
/-- Twelve pieces. -/
def wv (f : Nat → Nat) : Array Value := ((List.range 12).map fun i => u64v (f i)).toArray
theorem wv_at (f : Nat → Nat) {j : Nat} (h : j < 12) : (wv f)[j]? = some (u64v (f j)) := by simp [wv, List.getElem?_range h]
theorem wv_past (f : Nat → Nat) {j : Nat} (h : 12 ≤ j) : (wv f)[j]? = none := by simp [wv, h]
theorem wv_size (f : Nat → Nat) : (wv f).size = 12 := by simp [wv]
theorem wv_set (f : Nat → Nat) {j x : Nat} (h : j < 12) {v : Value} (hv : v = u64v x) : (wv f).setIfInBounds j v = wv (upd f j x) := by
  subst hv
  apply Array.ext_getElem?
  intro i
  rw [Array.getElem?_setIfInBounds, wv_size]
  rcases Nat.lt_or_ge i 12 with h1 | h1
  · rw [wv_at _ h1, wv_at _ h1]
    by_cases h2 : j = i
    · subst h2; rw [if_pos rfl, if_pos h]; simp [upd]
    · rw [if_neg h2]; simp [upd, show i ≠ j from fun e => h2 e.symm]
  · rw [wv_past _ h1, wv_past _ h1, if_neg (by omega)]
theorem wv_congr {f g : Nat → Nat} (h : ∀ i, i < 12 → f i = g i) : wv f = wv g := by
  apply Array.ext_getElem?
  intro i
  rcases Nat.lt_or_ge i 12 with h1 | h1
  · rw [wv_at _ h1, wv_at _ h1, h i h1]
  · rw [wv_past _ h1, wv_past _ h1]
theorem wv_one (f : Nat → Nat) : (wv f).all (·.oneCell') = true := all_oneCell_toArray fun v hv => by
  obtain ⟨i, _, rfl⟩ := List.mem_map.1 hv
  rfl
theorem wide_size : (Tryz.prog.info? wideT).map (·.size) = some 12 := by kernel_rfl
theorem wide_sizes (f : Nat → Nat) : (Tryz.prog.info? wideT).map (·.size) = some (wv f).size := by rw [wv_size]; exact wide_size
/-- What times has in memory: the factor, the result's place, what is reckoned. -/
structure TmsI (w : World) (g : Nat) (a o : Nat → Nat) (wr : World) : Prop where
  a : wr.heap[g]? = some (.cells (wv a) wideT (0, 0))
  r : wr.heap[g + 1]? = some (.cells (wv fun _ => 0) wideT (0, 0))
  o : wr.heap[g + 1 + 1]? = some (.cells (wv o) wideT (0, 0))
  ext : Ext w wr
  le : w.heap.size ≤ g
theorem TmsI.set {w wr : World} {g j x : Nat} {a o : Nat → Nat} (h : TmsI w g a o wr) (hj : j < 12) : TmsI w g a (upd o j x) (wr.setCell ⟨g + 1 + 1, j, none⟩ (u64v x)) :=
  ⟨by rw [heap_setCell_other _ _ _ _ (by simp; omega)]; exact h.a, by rw [heap_setCell_other _ _ _ _ (by simp)]; exact h.r, by rw [← wv_set o hj rfl]; exact heap_setCell_same _ _ _ _ _ _ h.o, h.ext.setCell (p := ⟨g + 1 + 1, j, none⟩) (by have := h.le; simp; omega) _, h.le⟩
theorem TmsI.drew {w wr : World} {g : Nat} {a o : Nat → Nat} (h : TmsI w g a o wr) : TmsI w g a o wr.drew := ⟨h.a, h.r, h.o, h.ext.drew, h.le⟩
theorem TmsI.cellA {w wr : World} {g j : Nat} {a o : Nat → Nat} (h : TmsI w g a o wr) (hj : j < 12) : wr.cell? ⟨g, j, none⟩ = some (.int .u64 (a j : Int)) := by rw [cell_of h.a, wv_at _ hj]; rfl
theorem TmsI.cellO {w wr : World} {g j : Nat} {a o : Nat → Nat} (h : TmsI w g a o wr) (hj : j < 12) : wr.cell? ⟨g + 1 + 1, j, none⟩ = some (.int .u64 (o j : Int)) := by rw [cell_of h.o, wv_at _ hj]; rfl
theorem and16 (n : Nat) (h : n < 18446744073709551616) : bits BinOp.and IntKind.u64 (n : Int) 65535 = ((n % 65536 : Nat) : Int) := by
  show IntKind.u64.wrap ((BitVec.ofInt 64 (n : Int) &&& BitVec.ofInt 64 65535).toNat : Int) = _
  have e1 : (BitVec.ofInt 64 (n : Int)).toNat = n := by simp; omega
  have e2 : (BitVec.ofInt 64 65535).toNat = 2 ^ 16 - 1 := by decide
  rw [BitVec.toNat_and, e1, e2, Nat.and_two_pow_sub_one_eq_mod, IntKind.wrap_u64]
  omega
theorem mul_fits (a : Nat → Nat) (b i k : Nat) (h : a i < 65536) : a i * (b / 65536 ^ k % 65536) ≤ 4294836225 := piece_mul h
theorem lib_hid' {p : Prop} (h : p) : Hid p := h
theorem out_fits {a : Nat → Nat} {b i k : Nat} (ha : ∀ i, i < 12 → a i < 65536) (hi : i < 12) (hk : k < 3) : row 12 a b i (acc 12 a b i) k (i + k) ≤ 1000000000000 := by
  have h := row_le (N := 12) (b := b) (ha i hi) (acc_le (b := b) ha i (by omega)) k (i + k)
  have h2 : i * 12884508675 ≤ 11 * 12884508675 := Nat.mul_le_mul_right _ (by omega)
  have h3 : k * 4294836225 ≤ 3 * 4294836225 := Nat.mul_le_mul_right _ (by omega)
  omega
theorem sum_fits0 (o x b : Nat) (ho : o ≤ 1000000000000) (hx : x * (b / 65536 ^ 0 % 65536) ≤ 4294836225) (hb : b < 281474976710656) :
    IntKind.u64.wrap ((o : Int) + IntKind.u64.wrap ((x : Int) * bits BinOp.and IntKind.u64 (b : Int) 65535)) = ((o + x * (b / 65536 ^ 0 % 65536) : Nat) : Int) := by
  rw [Nat.pow_zero, Nat.div_one] at *
  rw [and16 b (by omega), ← Int.natCast_mul]
  generalize x * (b % 65536) = y at *
  rw [IntKind.wrap_u64, IntKind.wrap_u64]
  omega
theorem sum_fits (o x b d : Nat) (ho : o ≤ 1000000000000) (hx : x * (b / d % 65536) ≤ 4294836225) (hb : b < 281474976710656) :
    IntKind.u64.wrap ((o : Int) + IntKind.u64.wrap ((x : Int) * bits BinOp.and IntKind.u64 ((b : Int) / (d : Int)) 65535)) = ((o + x * (b / d % 65536) : Nat) : Int) := by
  have hd : b / d ≤ b := Nat.div_le_self _ _
  rw [← Int.natCast_ediv, and16 (b / d) (by omega), ← Int.natCast_mul]
  generalize x * (b / d % 65536) = y at *
  rw [IntKind.wrap_u64, IntKind.wrap_u64]
  omega
theorem carry_fits (x y : Nat) (hx : x ≤ 154614104100 + 154614104100) (hy : y ≤ 154614104100 + 154614104100) :
    IntKind.u64.wrap ((x : Int) + (y : Int) / 65536) = ((x + y / 65536 : Nat) : Int) := by
  rw [IntKind.wrap_u64]
  omega
set_option maxRecDepth 100000 in
set_option maxHeartbeats 4000000 in
theorem times_any (a : Nat → Nat) (b : Nat) (w : World) (ha : ∀ i, i < 12 → a i < 65536) (hb : b < 281474976710656) :
    Calls Tryz.prog 164 #[.agg (wv a), .int .u64 (b : Int)] w fun e w' => e = .returned (.agg (wv (tms 12 a b))) ∧ Ext w w' := by
  have HA := Lib.hid ha
  have HB := Lib.hid hb
  have HAV : Hid (TmsI w w.heap.size a (fun _ => 0) (((w.alloc (.cells (wv a) wideT (0, 0))).alloc (.cells (wv fun _ => 0) wideT (0, 0))).alloc (.cells (wv fun _ => 0) wideT (0, 0)))) :=
    ⟨heap_old (heap_old (heap_new rfl)), heap_old (heap_new (by simp)), heap_new (by simp), Ext.trans (Ext.trans (new_ext _ _) (new_ext _ _)) (new_ext _ _), Nat.le_refl _⟩
  clear ha hb
  go_enter Tryz.func164, Tryz.ntmps164
  go_wp2_with fail
  obtain ⟨g, hg⟩ : ∃ g, g = w.heap.size := ⟨_, rfl⟩
  rw [← hg]
  have HI : Hid (TmsI w g a (acc 12 a b 0) (((w.alloc (.cells (wv a) wideT (0, 0))).alloc (.cells (wv fun _ => 0) wideT (0, 0))).alloc (.cells (wv fun _ => 0) wideT (0, 0)))) := by rw [hg]; exact HAV.out
  clear hg HAV
  go_loopw [9] (fun x wr => ∃ i : Nat, i ≤ 12 ∧ x = .int .i64 (i : Int) ∧ Hid (TmsI w g a (acc 12 a b i) wr)) (fun x _ => 12 - (intOf x).toNat)
  case atStart => exact ⟨0, by omega, rfl, HI⟩
  case round =>
    obtain ⟨i, hi, rfl, hI⟩ := hrel
    by_cases hlt : i < 12
    · go_wp2_with fail
      obtain ⟨wo, rfl⟩ : ∃ wo : World, wo = wr := ⟨_, rfl⟩
      have hI0 : Hid (TmsI w g a (row 12 a b i (acc 12 a b i) 0) wo) := hI
      clear hI
      go_loopw [12] (fun x wr => ∃ k : Nat, k ≤ 3 ∧ x = .int .i64 (k : Int) ∧ Hid (TmsI w g a (row 12 a b i (acc 12 a b i) k) wr)) (fun x _ => 3 - (intOf x).toNat)
      case atStart => exact ⟨0, by omega, rfl, hI0⟩
      case round =>
        obtain ⟨k, hk, rfl, hJ⟩ := hrel
        by_cases hk3 : k < 3
        · have hi3 : (i : Int) < 12 := by omega
          have p0 : (0 : Int) ≤ (i : Int) := by omega
          by_cases hik : i + k < 12
          · have hm := mul_fits a b i k (HA.out i hlt)
            have ho := out_fits (b := b) HA.out hlt hk3
            have cO := hJ.out.cellO hik
            have cA := hJ.out.cellA hlt
            have fO := free_of (j := i + k) hJ.out.o
            have HNX : Hid (row 12 a b i (acc 12 a b i) (k + 1) = upd (row 12 a b i (acc 12 a b i) k) (i + k) (row 12 a b i (acc 12 a b i) k (i + k) + a i * (b / 65536 ^ k % 65536))) := by unfold Hid; exact if_pos hik
            have hkk : k = 0 ∨ k = 1 ∨ k = 2 := by omega
            rcases hkk with rfl | rfl | rfl
            · have cO' : wr.cell? ⟨g + 1 + 1, i, none⟩ = some (.int .u64 (row 12 a b i (acc 12 a b i) 0 i : Int)) := cO
              have fO' : wr.frozen? ⟨g + 1 + 1, i, none⟩ = false := fO
              have HV := Lib.hid (sum_fits0 (row 12 a b i (acc 12 a b i) 0 (i)) (a i) b ho hm HB.out)
              have q0 : (0 : Int) ≤ (i : Int) := by omega
              have q1 : (i : Int) < 12 := by omega
              have q2 : IntKind.i64.wrap ((i : Int)) = (i : Int) := IntWalk.i64_in _ (by omega)
              have z0 : IntKind.i64.wrap 0 = 0 := by decide
              have z1 : IntKind.i64.wrap 16 = 16 := by decide
              have z2 : IntKind.i64.wrap 32 = 32 := by decide
              clear hm ho
              go_wp2_with fail
              go_still_tail 16, (by kernel_rfl)
              go_wp2_with fail
              have hv := HV.out
              rw [hv]
              exact ⟨⟨1, by omega, rfl, lib_hid' (by rw [HNX.out]; exact (hJ.out.set hik).drew)⟩, by simp [intOf]⟩
            · have HV := Lib.hid (sum_fits (row 12 a b i (acc 12 a b i) 1 (i + 1)) (a i) b 65536 ho hm HB.out)
              have q0 : (0 : Int) ≤ (i : Int) + 1 := by omega
              have q1 : (i : Int) + 1 < 12 := by omega
              have q2 : IntKind.i64.wrap ((i : Int) + 1) = (i : Int) + 1 := IntWalk.i64_in _ (by omega)
              have q3 : ((i : Int) + 1).toNat = i + 1 := by omega
              have z0 : IntKind.i64.wrap 0 = 0 := by decide
              have z1 : IntKind.i64.wrap 16 = 16 := by decide
              have z2 : IntKind.i64.wrap 32 = 32 := by decide
              clear hm ho
              go_wp2_with fail
              go_still_tail 16, (by kernel_rfl)
              go_wp2_with fail
              have hv := HV.out
              have hd : ((65536 : Nat) : Int) = 65536 := rfl
              rw [hd] at hv
              rw [hv]
              exact ⟨⟨2, by omega, rfl, lib_hid' (by rw [HNX.out]; exact (hJ.out.set hik).drew)⟩, by simp [intOf]⟩
            · have HV := Lib.hid (sum_fits (row 12 a b i (acc 12 a b i) 2 (i + 2)) (a i) b 4294967296 ho hm HB.out)
              have q0 : (0 : Int) ≤ (i : Int) + 2 := by omega
              have q1 : (i : Int) + 2 < 12 := by omega
              have q2 : IntKind.i64.wrap ((i : Int) + 2) = (i : Int) + 2 := IntWalk.i64_in _ (by omega)
              have q3 : ((i : Int) + 2).toNat = i + 2 := by omega
              have z0 : IntKind.i64.wrap 0 = 0 := by decide
              have z1 : IntKind.i64.wrap 16 = 16 := by decide
              have z2 : IntKind.i64.wrap 32 = 32 := by decide
              clear hm ho
              go_wp2_with fail
              go_still_tail 16, (by kernel_rfl)
              go_wp2_with fail
              have hv := HV.out
              have hd : ((4294967296 : Nat) : Int) = 4294967296 := rfl
              rw [hd] at hv
              rw [hv]
              exact ⟨⟨3, by omega, rfl, lib_hid' (by rw [HNX.out]; exact (hJ.out.set hik).drew)⟩, by simp [intOf]⟩
          · have ht : decide ((i : Int) + (k : Int) < 12) = false := by simp; omega
            have hnw : (i : Int) + (k : Int) < 15 := by omega
            have HNX : Hid (TmsI w g a (row 12 a b i (acc 12 a b i) (k + 1)) wr) := by
              have e : row 12 a b i (acc 12 a b i) (k + 1) = row 12 a b i (acc 12 a b i) k := if_neg hik
              rw [e]
              exact hJ
            go_wp2_with fail
            go_roundw
            case rel => exact ⟨k + 1, by omega, by go_num, HNX⟩
            case measure => simp [intOf]; omega
        · obtain rfl : k = 3 := by omega
          go_wp2_with fail
          go_roundw
          case rel => exact ⟨i + 1, by omega, by go_num, hJ⟩
          case measure => simp [intOf]; omega
    · obtain rfl : i = 12 := by omega
      obtain ⟨f, hf⟩ : ∃ f, f = acc 12 a b 12 := ⟨_, rfl⟩
      have HF := Lib.hid hf
      have hfM : ∀ j, f j ≤ 154614104100 := fun j => by rw [hf]; exact acc_le (N := 12) (b := b) HA.out 12 (Nat.le_refl _) j
      have hI0 : Hid (TmsI w g a (car f 0) wr) := by rw [hf]; exact hI
      have HFM : Hid (∀ i j, car f i j ≤ 154614104100 + 154614104100) := fun i j => car_le hfM (by omega) i j
      clear hf hfM hI hi hlt
      go_wp2_with fail
      obtain ⟨wo, rfl⟩ : ∃ wo : World, wo = wr := ⟨_, rfl⟩
      go_loopw [37] (fun x wr => ∃ j : Nat, j ≤ 11 ∧ x = .int .i64 (j : Int) ∧ Hid (TmsI w g a (car f j) wr)) (fun x _ => 11 - (intOf x).toNat)
      case atStart => exact ⟨0, by omega, rfl, hI0⟩
      case round =>
        obtain ⟨j, hj, rfl, hJ⟩ := hrel
        by_cases hlt : j < 11
        · have c1 := hJ.out.cellO (j := j + 1) (by omega)
          have c0 := hJ.out.cellO (j := j) (by omega)
          have f1 := free_of (j := j + 1) hJ.out.o
          have p0 : (0 : Int) ≤ (j : Int) := by omega
          have p1 : (j : Int) < 12 := by omega
          have p2 : (0 : Int) ≤ (j : Int) + 1 := by omega
          have p3 : (j : Int) + 1 < 12 := by omega
          have q1 : IntKind.i64.wrap ((j : Int) + 1) = (j : Int) + 1 := IntWalk.i64_in _ (by omega)
          have q2 : ((j : Int) + 1).toNat = j + 1 := by omega
          have hv := Lib.hid (carry_fits (car f j (j + 1)) (car f j j) (HFM.out j (j + 1)) (HFM.out j j))
          have hm := Lib.hid (and16 (car f j j) (by have := HFM.out j j; omega))
          have f0 := free_of (j := j) hJ.out.o
          go_wp2_with fail
          go_still_tail 10, (by kernel_rfl)
          go_wp2_with fail
          have e1 := hv.out
          have e2 := hm.out
          rw [e1, e2]
          exact ⟨⟨j + 1, by omega, by go_num, lib_hid' ((hJ.out.set (j := j + 1) (x := car f j (j + 1) + car f j j / 65536) (by omega)).set (j := j) (x := car f j j % 65536) (by omega)).drew⟩, by simp [intOf]; omega⟩
        · obtain rfl : j = 11 := by omega
          have ho := hJ.out.o
          have hr := hJ.out.r
          go_wp2_with (first | (refine wpList_load_row rfl _ _ (by rfl) (g + 1 + 1) (by rfl) wideT (wv (car f 11)) (0, 0) (.array 12 101) ho (by kernel_rfl) rfl (wide_sizes _) ?_) | (refine wpList_store_row rfl _ _ _ (by rfl) (g + 1) (wv (car f 11)) (by rfl) (by rfl) wideT (wv fun _ => 0) hr (wide_sizes _) (by rw [wv_size, wv_size]) (wv_one _) ?_))
          refine bodyPost_ret (results_cell_row (by rfl) _ _ (g + 1) wideT (wv (car f 11)) (0, 0) (.array 12 101) (by rfl) (setRow_heap _ _ _ _ _ _ hr) (by kernel_rfl) rfl (wide_sizes _)) rfl ⟨?_, ?_⟩
          · rw [HF.out]
            rfl
          · exact setRow_ext hJ.out.ext _ _ (by have := hJ.out.le; omega)
end Go.Proofs.YtplfimoeggecjaaGreatDoor.Sx
