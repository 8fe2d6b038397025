/-
  A part as a text: the plain law, strings.Join, the program's query.text.
-/
import Derived.Test.YtpbbohinhbboaaaDoorHold
import Derived.Test.YtpbbohinhbboaaaDoorShelf
import Derived.Deep.RegionHeld3
import Derived.Deep.QuietTactic
import Derived.BigQuiet
namespace Go.Proofs.YtpbbohinhbboaaaDoor.Sx
open Go Go.RowKit

/-- The strings with commas between. -/
def joinS (xs : List ByteArray) : ByteArray := ⟨(Lib.join (xs.map (·.data.toList)) [44]).toArray⟩
def sizes (xs : List ByteArray) : Nat := (xs.map ByteArray.size).sum
theorem lens_sizes (xs : List ByteArray) : Lib.lens (xs.map (·.data.toList)) = sizes xs := by
  unfold Lib.lens sizes
  rw [List.map_map]
  rfl
theorem join_len (xs : List ByteArray) : (Lib.join (xs.map (·.data.toList)) [44]).length ≤ sizes xs + xs.length := by
  cases xs with
  | nil => simp [Lib.join_nil]
  | cons x r =>
    have h1 := Lib.join_length x.data.toList (r.map (·.data.toList)) [44]
    have h2 := lens_sizes (x :: r)
    rw [List.map_cons] at h2 ⊢
    rw [h1, h2]
    simp
    omega
theorem joinS_size (xs : List ByteArray) : (joinS xs).size ≤ sizes xs + xs.length := by
  have : (joinS xs).size = (Lib.join (xs.map (·.data.toList)) [44]).length := by unfold joinS; simp [ByteArray.size]
  rw [this]
  exact join_len xs
theorem sizes_le {xs : List ByteArray} {M : Nat} (h : ∀ x ∈ xs, x.size ≤ M) : sizes xs ≤ xs.length * M := by
  unfold sizes
  induction xs with
  | nil => simp
  | cons x r ih =>
    have h1 := h x (by simp)
    have h2 := ih fun y hy => h y (by simp [hy])
    rw [List.map_cons, List.sum_cons, List.length_cons, Nat.succ_mul]
    omega

theorem strsSmall {B : Nat} {w : World} {v : Value} {xs : List ByteArray} (h : StrsR B w v xs) : ∀ x ∈ xs, x.size ≤ 1048576 := fun x hx => by
  obtain ⟨i, hi, rfl⟩ := List.mem_iff_getElem.1 hx
  obtain ⟨_, _, _, _, _, hc⟩ := h.cells (by omega)
  exact (hc i hi).2
theorem join_cells (b off c : Nat) (xs : List ByteArray) (w : World) (hb : b < w.heap.size) (hc : xs.length ≤ c) (hx : ∀ j (hj : j < xs.length), w.cell? ⟨b, off + j, none⟩ = some (.string xs[j])) (hz : sizes xs + xs.length ≤ 140737488355328) :
    Calls Tryd.prog 50 #[.slice (some ⟨b, off, none⟩) xs.length c, .string ⟨#[44]⟩] w fun e w' => e = .returned (.string (joinS xs)) ∧ Ext w w' := by
  refine Tryd.strings_Join b off c xs ⟨#[44]⟩ w ?_ hb (by omega) hc ?_
  · intro j x hj
    obtain ⟨hl, rfl⟩ := List.getElem?_eq_some_iff.1 hj
    exact hx j hl
  · have h1 := join_len xs
    exact Nat.le_trans h1 hz
theorem join_strs {B : Nat} {w : World} {A : Option Addr} {c : Nat} {xs : List ByteArray} (h : StrsR B w (.slice A xs.length c) xs) (hB : B ≤ w.heap.size) (hc : xs.length ≤ c) (hz : sizes xs + xs.length ≤ 140737488355328) :
    Calls Tryd.prog 50 #[.slice A xs.length c, .string ⟨#[44]⟩] w fun e w' => e = .returned (.string (joinS xs)) ∧ Ext w w' := by
  by_cases h0 : 0 < xs.length
  · obtain ⟨b, off, c', hv, hlt, hx⟩ := h.cells h0
    injection hv with h1 h2 h3
    subst h1 h3
    exact join_cells b off c xs w (by omega) hc (fun j hj => (hx j hj).1) hz
  · have hn : xs = [] := List.length_eq_zero_iff.1 (by omega)
    subst hn
    refine (Tryd.strings_Join_none A c ⟨#[44]⟩ w).mono fun e w' ⟨he, hw⟩ => ⟨he, ?_⟩
    rw [hw]
    exact Below.refl _ _

def valOf (r : Req) : ByteArray := r.vals.getD 0 ByteArray.empty
/-- A part as a text. -/
def textB (r : Req) : ByteArray :=
  if r.kind = 3 then r.key else if r.kind = 4 then ⟨#[33]⟩ ++ r.key
  else if r.kind = 1 then (if r.vals.length = 1 then r.key ++ ⟨#[61]⟩ ++ valOf r else r.key ++ ⟨#[32, 105, 110, 32, 40]⟩ ++ joinS r.vals ++ ⟨#[41]⟩)
  else (if r.vals.length = 1 then r.key ++ ⟨#[33, 61]⟩ ++ valOf r else r.key ++ ⟨#[32, 110, 111, 116, 105, 110, 32, 40]⟩ ++ joinS r.vals ++ ⟨#[41]⟩)
theorem text_3 {r : Req} (h : r.kind = 3) : textB r = r.key := if_pos h
theorem text_4 {r : Req} (h : r.kind = 4) : textB r = ⟨#[33]⟩ ++ r.key := by unfold textB; rw [if_neg (by omega), if_pos h]
theorem text_1 {r : Req} (h : r.kind = 1) (h1 : r.vals.length = 1) : textB r = r.key ++ ⟨#[61]⟩ ++ valOf r := by unfold textB; rw [if_neg (by omega), if_neg (by omega), if_pos h, if_pos h1]
theorem text_1n {r : Req} (h : r.kind = 1) (h1 : r.vals.length ≠ 1) : textB r = r.key ++ ⟨#[32, 105, 110, 32, 40]⟩ ++ joinS r.vals ++ ⟨#[41]⟩ := by unfold textB; rw [if_neg (by omega), if_neg (by omega), if_pos h, if_neg h1]
theorem text_2 {r : Req} (h : r.kind = 2) (h1 : r.vals.length = 1) : textB r = r.key ++ ⟨#[33, 61]⟩ ++ valOf r := by unfold textB; rw [if_neg (by omega), if_neg (by omega), if_neg (by omega), if_pos h1]
theorem text_2n {r : Req} (h : r.kind = 2) (h1 : r.vals.length ≠ 1) : textB r = r.key ++ ⟨#[32, 110, 111, 116, 105, 110, 32, 40]⟩ ++ joinS r.vals ++ ⟨#[41]⟩ := by unfold textB; rw [if_neg (by omega), if_neg (by omega), if_neg (by omega), if_neg h1]
theorem valOf_size {r : Req} (hv : ∀ x ∈ r.vals, x.size ≤ 1048576) : (valOf r).size ≤ 1048576 := by
  unfold valOf
  cases hc : r.vals with
  | nil => simp
  | cons x t => exact hv x (by rw [hc]; simp)
theorem text_size {r : Req} (hk : r.key.size ≤ 1048576) (hn : r.vals.length ≤ 8) (hv : ∀ x ∈ r.vals, x.size ≤ 1048576) (ht : r.kind = 3 ∨ r.kind = 4 ∨ r.kind = 1 ∨ r.kind = 2) : (textB r).size ≤ 10485760 := by
  have e1 : ∀ a b : ByteArray, (a ++ b).size = a.size + b.size := fun a b => ByteArray.size_append
  have hj := joinS_size r.vals
  have hs := sizes_le hv
  have hj2 : sizes r.vals ≤ 8 * 1048576 := Nat.le_trans hs (Nat.mul_le_mul_right _ hn)
  have hval := valOf_size hv
  have c1 : (⟨#[33]⟩ : ByteArray).size = 1 := rfl
  have c2 : (⟨#[61]⟩ : ByteArray).size = 1 := rfl
  have c3 : (⟨#[32, 105, 110, 32, 40]⟩ : ByteArray).size = 5 := rfl
  have c4 : (⟨#[41]⟩ : ByteArray).size = 1 := rfl
  have c5 : (⟨#[33, 61]⟩ : ByteArray).size = 2 := rfl
  have c6 : (⟨#[32, 110, 111, 116, 105, 110, 32, 40]⟩ : ByteArray).size = 8 := rfl
  rcases ht with h | h | h | h
  · rw [text_3 h]; omega
  · rw [text_4 h, e1, c1]; omega
  · by_cases h1 : r.vals.length = 1
    · rw [text_1 h h1, e1, e1, c2]; omega
    · rw [text_1n h h1, e1, e1, e1, c3, c4]; omega
  · by_cases h1 : r.vals.length = 1
    · rw [text_2 h h1, e1, e1, c5]; omega
    · rw [text_2n h h1, e1, e1, e1, c6, c4]; omega
theorem val_cell {B : Nat} {w : World} {A : Option Addr} {c : Nat} {r : Req} (h : StrsR B w (.slice A r.vals.length c) r.vals) (h1 : r.vals.length = 1) : ∃ b off, A = some ⟨b, off, none⟩ ∧ b < B ∧ w.cell? ⟨b, off, none⟩ = some (.string (valOf r)) := by
  obtain ⟨b, off, c', hv, hlt, hx⟩ := h.cells (by omega)
  injection hv with e1 _ _
  refine ⟨b, off, e1, hlt, ?_⟩
  have := (hx 0 (by omega)).1
  rw [Nat.add_zero] at this
  rw [this]
  unfold valOf
  simp [List.getD, h1]

set_option maxRecDepth 100000 in
set_option maxHeartbeats 4000000 in
theorem text_any (B : Nat) (A : Option Addr) (c : Nat) (r : Req) (w : World) (hB : B ≤ w.heap.size) (hv : StrsR B w (.slice A r.vals.length c) r.vals) (hc : r.vals.length ≤ c) (h8 : r.vals.length ≤ 8) (hk : r.key.size ≤ 1048576) (hkd : 1 ≤ r.kind ∧ r.kind ≤ 4) :
    Calls Tryd.prog 49 #[.agg #[.string r.key, .int .i64 r.kind, .slice A r.vals.length c]] w fun e w' => e = .returned (.string (textB r)) ∧ Ext w w' := by
  have HV := Lib.hid hv
  have HC := Lib.hid hc
  have hvs := valOf_size (strsSmall hv)
  have hjs : (joinS r.vals).size ≤ 8388616 := by
    have h1 := joinS_size r.vals
    have h2 := sizes_le (strsSmall hv)
    have h3 := Nat.mul_le_mul_right 1048576 h8
    omega
  have HZ : Hid (sizes r.vals + r.vals.length ≤ 140737488355328) := by
    unfold Hid
    have := sizes_le (strsSmall hv)
    have h2 := Nat.mul_le_mul_right 1048576 h8
    omega
  have H1 : Hid (r.kind = 1 → r.vals.length = 1 → textB r = r.key ++ ⟨#[61]⟩ ++ valOf r) := text_1
  have H1n : Hid (r.kind = 1 → r.vals.length ≠ 1 → textB r = r.key ++ ⟨#[32, 105, 110, 32, 40]⟩ ++ joinS r.vals ++ ⟨#[41]⟩) := text_1n
  have H2 : Hid (r.kind = 2 → r.vals.length = 1 → textB r = r.key ++ ⟨#[33, 61]⟩ ++ valOf r) := text_2
  have H2n : Hid (r.kind = 2 → r.vals.length ≠ 1 → textB r = r.key ++ ⟨#[32, 110, 111, 116, 105, 110, 32, 40]⟩ ++ joinS r.vals ++ ⟨#[41]⟩) := text_2n
  have H3 : Hid (r.kind = 3 → textB r = r.key) := text_3
  have H4 : Hid (r.kind = 4 → textB r = ⟨#[33]⟩ ++ r.key) := text_4
  have HKD := Lib.hid hkd
  clear hc h8 hkd hv
  obtain ⟨kb, hkb⟩ : ∃ kb, kb = w.heap.size := ⟨_, rfl⟩
  obtain ⟨w1, hw1⟩ : ∃ w1, w1 = w.alloc (.cells #[.string r.key, .int .i64 r.kind, .slice A r.vals.length c] 38) := ⟨_, rfl⟩
  have hx1 : Ext w w1 := by rw [hw1]; exact (Below.refl _ _).alloc (Nat.le_refl _) _
  have hg1 : ReqIn w1 kb r A c := by rw [hw1]; exact heap_new hkb
  have HX1 := Lib.hid hx1
  have HG1 := Lib.hid hg1
  have HB1 : Hid (B ≤ w1.heap.size) := Nat.le_trans hB hx1.size
  have HV1 : Hid (StrsR B w1 (.slice A r.vals.length c) r.vals) := HV.out.below (hx1.mono hB) (Nat.le_refl _)
  obtain ⟨k0, k1, k2⟩ := cells3' hg1
  go_enter Tryd.func49, Tryd.ntmps49
  clear hx1 hg1
  have ways : r.kind = 1 ∨ r.kind = 2 ∨ r.kind = 3 ∨ r.kind = 4 := by have := HKD.out; omega
  rcases ways with k | k | k | k
  · have e1 : (r.kind == 1) = true := by simp [k]
    have e3 : (r.kind == 3) = false := by simp [k]
    have e4 : (r.kind == 4) = false := by simp [k]
    by_cases hl : r.vals.length = 1
    · have hb1 : (((r.vals.length : Nat) : Int) == 1) = true := by simp [hl]
      have HE := Lib.hid (H1.out k hl)
      obtain ⟨vb, vo, rfl, _, hval⟩ := val_cell HV1.out hl
      have hp1 : (0 : Int) < ((r.vals.length : Nat) : Int) := by omega
      clear k hl
      go_wp2
      rw [← hw1, ← hkb]
      clear hw1 hkb
      go_quiet (fail)
      go_wp2
      go_ret
      exact ⟨ret_str HE.out.symm, HX1.out.trans (ext_drewN w1 _)⟩
    · have hb1 : (((r.vals.length : Nat) : Int) == 1) = false := beq_eq_false_iff_ne.2 (by omega)
      have HE := Lib.hid (H1n.out k hl)
      have CJ : Hid (∀ wk, Ext w1 wk → Calls Tryd.prog 50 #[.slice A r.vals.length c, .string ⟨#[44]⟩] wk fun e w' => e = .returned (.string (joinS r.vals)) ∧ Ext w w' ∧ w'.cell? ⟨kb, 0, none⟩ = some (.string r.key) ∧ w'.cell? ⟨kb, 2, none⟩ = some (.slice A r.vals.length c)) := fun wk hk =>
        (join_strs (HV1.out.below (hk.mono HB1.out) (Nat.le_refl _)) (Nat.le_trans HB1.out hk.size) HC.out HZ.out).mono fun e w' ⟨he, hx⟩ => ⟨he, HX1.out.trans (hk.trans hx), (cells3' (HG1.out.ext (hk.trans hx))).1, (cells3' (HG1.out.ext (hk.trans hx))).2.2⟩
      have hxx : Ext w1 w1 := Below.refl _ _
      have g1 : (9223372036854775807 < r.key.size + 5) = False := eq_false (by omega)
      have g2 : (9223372036854775807 < r.key.size + 5 + (joinS r.vals).size) = False := eq_false (by omega)
      have g3 : (9223372036854775807 < r.key.size + 5 + (joinS r.vals).size + 1) = False := eq_false (by omega)
      clear k hl
      go_wp2
      rw [← hw1, ← hkb]
      clear hw1 hkb
      go_region_held3 (fun w' => w'.cell? ⟨kb, 0, none⟩ = some (.string r.key) ∧ w'.cell? ⟨kb, 2, none⟩ = some (.slice A r.vals.length c))
        (first | (refine ⟨by assumption, by assumption⟩) | go_keep)
        (first
          | (go_at_call 50; refine (CJ.out _ (by first | assumption | (apply Below.drew; assumption))).mono ?_; rintro e w' ⟨rfl, r0, r1, r2⟩))
      have HX9 := Lib.hid r0
      clear r0 k0 k1 k2
      go_wp2
      go_ret
      exact ⟨ret_str HE.out.symm, HX9.out⟩
  · have e1 : (r.kind == 1) = false := by simp [k]
    have e3 : (r.kind == 3) = false := by simp [k]
    have e4 : (r.kind == 4) = false := by simp [k]
    by_cases hl : r.vals.length = 1
    · have hb1 : (((r.vals.length : Nat) : Int) == 1) = true := by simp [hl]
      have HE := Lib.hid (H2.out k hl)
      obtain ⟨vb, vo, rfl, _, hval⟩ := val_cell HV1.out hl
      have hp1 : (0 : Int) < ((r.vals.length : Nat) : Int) := by omega
      clear k hl
      go_wp2
      rw [← hw1, ← hkb]
      clear hw1 hkb
      go_quiet (fail)
      go_wp2
      go_ret
      exact ⟨ret_str HE.out.symm, HX1.out.trans (ext_drewN w1 _)⟩
    · have hb1 : (((r.vals.length : Nat) : Int) == 1) = false := beq_eq_false_iff_ne.2 (by omega)
      have HE := Lib.hid (H2n.out k hl)
      have CJ : Hid (∀ wk, Ext w1 wk → Calls Tryd.prog 50 #[.slice A r.vals.length c, .string ⟨#[44]⟩] wk fun e w' => e = .returned (.string (joinS r.vals)) ∧ Ext w w' ∧ w'.cell? ⟨kb, 0, none⟩ = some (.string r.key) ∧ w'.cell? ⟨kb, 2, none⟩ = some (.slice A r.vals.length c)) := fun wk hk =>
        (join_strs (HV1.out.below (hk.mono HB1.out) (Nat.le_refl _)) (Nat.le_trans HB1.out hk.size) HC.out HZ.out).mono fun e w' ⟨he, hx⟩ => ⟨he, HX1.out.trans (hk.trans hx), (cells3' (HG1.out.ext (hk.trans hx))).1, (cells3' (HG1.out.ext (hk.trans hx))).2.2⟩
      have hxx : Ext w1 w1 := Below.refl _ _
      have g1 : (9223372036854775807 < r.key.size + 8) = False := eq_false (by omega)
      have g2 : (9223372036854775807 < r.key.size + 8 + (joinS r.vals).size) = False := eq_false (by omega)
      have g3 : (9223372036854775807 < r.key.size + 8 + (joinS r.vals).size + 1) = False := eq_false (by omega)
      clear k hl
      go_wp2
      rw [← hw1, ← hkb]
      clear hw1 hkb
      go_region_held3 (fun w' => w'.cell? ⟨kb, 0, none⟩ = some (.string r.key) ∧ w'.cell? ⟨kb, 2, none⟩ = some (.slice A r.vals.length c))
        (first | (refine ⟨by assumption, by assumption⟩) | go_keep)
        (first
          | (go_at_call 50; refine (CJ.out _ (by first | assumption | (apply Below.drew; assumption))).mono ?_; rintro e w' ⟨rfl, r0, r1, r2⟩))
      have HX9 := Lib.hid r0
      clear r0 k0 k1 k2
      go_wp2
      go_ret
      exact ⟨ret_str HE.out.symm, HX9.out⟩
  · have e1 : (r.kind == 1) = false := by simp [k]
    have e3 : (r.kind == 3) = true := by simp [k]
    have e4 : (r.kind == 4) = false := by simp [k]
    have HE := Lib.hid (H3.out k)
    clear k
    go_wp2
    rw [← hw1, ← hkb]
    clear hw1 hkb
    go_wp2
    go_ret
    exact ⟨ret_str HE.out.symm, HX1.out⟩
  · have e1 : (r.kind == 1) = false := by simp [k]
    have e3 : (r.kind == 3) = false := by simp [k]
    have e4 : (r.kind == 4) = true := by simp [k]
    have HE := Lib.hid (H4.out k)
    clear k
    go_wp2
    rw [← hw1, ← hkb]
    clear hw1 hkb
    go_wp2
    go_ret
    exact ⟨ret_str HE.out.symm, HX1.out⟩
end Go.Proofs.YtpbbohinhbboaaaDoor.Sx
