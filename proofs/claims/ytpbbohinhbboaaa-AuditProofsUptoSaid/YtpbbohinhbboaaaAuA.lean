/-
  Audit in plain words: the half of a list, the root of lines, what must be known beside a line, its sides. No program in sight.
  Audit: the program's half, rootOf.
  Audit: rootOf of both.
  Audit: the reference's rootOf.
  Audit: Root of both.
-/
import Derived.Test.YtpbbohinhbboaaaSh0
import Derived.Test.YtpbbohinhbboaaaSr8
import Derived.Test.YtpbbohinhbboaaaSrs
namespace Go.Proofs.Ytpbbohinhbboaaa.Sx

/-- The greatest power of two below n. -/
def hp (n : Nat) : Nat := 2 ^ Nat.log2 (n - 1)
theorem hp_fin : ∀ n : Fin 201, 2 ≤ n.1 → 1 ≤ hp n.1 ∧ hp n.1 < n.1 ∧ n.1 ≤ 2 * hp n.1 := by decide +kernel
theorem hp_lt {n : Nat} (h : 2 ≤ n) (hn : n ≤ 200) : 1 ≤ hp n ∧ hp n < n ∧ n ≤ 2 * hp n := hp_fin ⟨n, by omega⟩ h
/-- Doubling: a power of two below n, or it is the half. -/
theorem hp_dbl_fin : ∀ n : Fin 201, ∀ j : Fin 9, 2 ≤ n.1 → 2 ^ j.1 < n.1 → ¬ 2 * 2 ^ j.1 < n.1 → 2 ^ j.1 = hp n.1 := by decide +kernel
/-- Striking the lowest sign. -/
theorem strike_fin : ∀ k : Fin 201, 1 ≤ k.1 → (k.1 &&& (k.1 - 1)) < k.1 ∧ ((k.1 &&& (k.1 - 1)) = 0 → 2 ^ Nat.log2 k.1 = k.1) ∧ (¬ (k.1 &&& (k.1 - 1)) = 0 → Nat.log2 (k.1 &&& (k.1 - 1)) = Nat.log2 k.1) := by decide +kernel
theorem strike {k : Nat} (h : 1 ≤ k) (hk : k ≤ 200) : (k &&& (k - 1)) < k ∧ ((k &&& (k - 1)) = 0 → 2 ^ Nat.log2 k = k) ∧ (¬ (k &&& (k - 1)) = 0 → Nat.log2 (k &&& (k - 1)) = Nat.log2 k) := strike_fin ⟨k, by omega⟩ h
theorem hp_dbl {n j : Nat} (h2 : 2 ≤ n) (hn : n ≤ 200) (h : 2 ^ j < n) (h3 : ¬ 2 * 2 ^ j < n) : 2 ^ j = hp n := by
  have hj : j < 9 := by
    rcases Nat.lt_or_ge j 9 with h1 | h1
    · exact h1
    · have : 2 ^ 9 ≤ 2 ^ j := Nat.pow_le_pow_right (by omega) h1
      omega
  exact hp_dbl_fin ⟨n, by omega⟩ ⟨j, hj⟩ h2 h h3

/-- The root of lines (at most 200). -/
def rootL (l : List (List UInt8)) : List UInt8 :=
  if _h : 2 ≤ l.length ∧ l.length ≤ 200 then sha (1 :: (rootL (l.take (hp l.length)) ++ rootL (l.drop (hp l.length))))
  else match l with
    | [] => sha []
    | x :: _ => sha (0 :: x)
termination_by l.length
decreasing_by
  · have := hp_lt _h.1 _h.2; simp; omega
  · have := hp_lt _h.1 _h.2; simp; omega
theorem rootL_many {l : List (List UInt8)} (h : 2 ≤ l.length) (h2 : l.length ≤ 200) : rootL l = sha (1 :: (rootL (l.take (hp l.length)) ++ rootL (l.drop (hp l.length)))) := by
  rw [rootL, dif_pos ⟨h, h2⟩]
theorem rootL_nil : rootL [] = sha [] := by rw [rootL, dif_neg (by simp)]
theorem rootL_one (x : List UInt8) : rootL [x] = sha (0 :: x) := by rw [rootL, dif_neg (by simp)]
theorem sha_length (l : List UInt8) : (sha l).length = 32 := rfl
theorem rootL_length (l : List (List UInt8)) : (rootL l).length = 32 := by
  rw [rootL]
  split
  · rfl
  · cases l <;> rfl
/-- What must be known beside a line, the innermost first. -/
def proofL (l : List (List UInt8)) (at_ : Nat) : List (List UInt8) :=
  if _h : 2 ≤ l.length ∧ l.length ≤ 200 then
    if at_ < hp l.length then proofL (l.take (hp l.length)) at_ ++ [hex (rootL (l.drop (hp l.length)))]
    else proofL (l.drop (hp l.length)) (at_ - hp l.length) ++ [hex (rootL (l.take (hp l.length)))]
  else []
termination_by l.length
decreasing_by
  · have := hp_lt _h.1 _h.2; simp; omega
  · have := hp_lt _h.1 _h.2; simp; omega
theorem proofL_many {l : List (List UInt8)} {i : Nat} (h : 2 ≤ l.length) (h2 : l.length ≤ 200) : proofL l i = if i < hp l.length then proofL (l.take (hp l.length)) i ++ [hex (rootL (l.drop (hp l.length)))]
    else proofL (l.drop (hp l.length)) (i - hp l.length) ++ [hex (rootL (l.take (hp l.length)))] := by
  rw [proofL, dif_pos ⟨h, h2⟩]
theorem proofL_few {l : List (List UInt8)} {i : Nat} (h : ¬ 2 ≤ l.length) : proofL l i = [] := by rw [proofL, dif_neg (by omega)]
/-- Of each of a proof: does it stand behind? The innermost first. -/
def sidesL (i n : Nat) : List Bool :=
  if _h : 2 ≤ n ∧ n ≤ 200 then if i < hp n then sidesL i (hp n) ++ [true] else sidesL (i - hp n) (n - hp n) ++ [false] else []
termination_by n
decreasing_by
  · have := hp_lt _h.1 _h.2; omega
  · have := hp_lt _h.1 _h.2; omega
theorem sidesL_many {i n : Nat} (h : 2 ≤ n) (h2 : n ≤ 200) : sidesL i n = if i < hp n then sidesL i (hp n) ++ [true] else sidesL (i - hp n) (n - hp n) ++ [false] := by
  rw [sidesL, dif_pos ⟨h, h2⟩]
theorem sidesL_few {i n : Nat} (h : ¬ 2 ≤ n) : sidesL i n = [] := by rw [sidesL, dif_neg (by omega)]
/-- One step outwards: what a proof's line gives. -/
def stepL (sum : List UInt8) (p : List UInt8) (behind : Bool) : Option (List UInt8) := match unhex p with
  | some x => if x.length = 32 then some (if behind then sha (1 :: (sum ++ x)) else sha (1 :: (x ++ sum))) else none
  | none => none
def climbL (sum : List UInt8) : List (List UInt8) → List Bool → Option (List UInt8)
  | p :: ps, b :: bs => match stepL sum p b with
    | some s => climbL s ps bs
    | none => none
  | _, _ => some sum
/-- Do a line and a proof give a root? -/
def verifyL (root line : List UInt8) (i n : Int) (ps : List (List UInt8)) : Bool :=
  if n < 1 ∨ 200 < n ∨ i < 0 ∨ n ≤ i then false
  else if ps.length ≠ (sidesL i.toNat n.toNat).length then false
  else match climbL (sha (0 :: line)) ps (sidesL i.toNat n.toNat) with
    | some s => hex s == root
    | none => false
end Go.Proofs.Ytpbbohinhbboaaa.Sx
namespace Go.Proofs.Ytpbbohinhbboaaa.Sx
open Go Go.RowKit

/-- The strings xs lie in block b from place off on. -/
def LinesAt (w : World) (b off : Nat) (xs : List ByteArray) : Prop := b < w.heap.size ∧ ∀ j (h : j < xs.length), w.cell? ⟨b, off + j, none⟩ = some (.string xs[j]) ∧ xs[j].size ≤ 1048576
theorem LinesAt.ext {w w' : World} {b off : Nat} {xs : List ByteArray} (h : LinesAt w b off xs) (hx : Ext w w') : LinesAt w' b off xs :=
  ⟨Nat.lt_of_lt_of_le h.1 hx.size, fun j hj => ⟨(hx.cell (p := ⟨b, off + j, none⟩) h.1).trans (h.2 j hj).1, (h.2 j hj).2⟩⟩
theorem LinesAt.take {w : World} {b off : Nat} {xs : List ByteArray} (h : LinesAt w b off xs) (k : Nat) : LinesAt w b off (xs.take k) :=
  ⟨h.1, fun j hj => by
    have h1 : j < xs.length := by simp at hj; omega
    rw [List.getElem_take]
    exact h.2 j h1⟩
theorem LinesAt.drop {w : World} {b off : Nat} {xs : List ByteArray} (h : LinesAt w b off xs) (k : Nat) : LinesAt w b (off + k) (xs.drop k) :=
  ⟨h.1, fun j hj => by
    have h1 : k + j < xs.length := by simp at hj; omega
    rw [List.getElem_drop, Nat.add_assoc]
    exact h.2 (k + j) h1⟩
def bl (xs : List ByteArray) : List (List UInt8) := xs.map (·.data.toList)
theorem bl_len (xs : List ByteArray) : (bl xs).length = xs.length := List.length_map _
theorem bl_take (xs : List ByteArray) (k : Nat) : (bl xs).take k = bl (xs.take k) := List.map_take.symm
theorem bl_drop (xs : List ByteArray) (k : Nat) : (bl xs).drop k = bl (xs.drop k) := List.map_drop.symm
set_option maxRecDepth 100000 in
theorem run_cut_to (b off n c k : Nat) (hk : k ≤ c) (W : World) : (Instr.slice 52 (.slice (some ⟨b, off, none⟩) n c) none (some (.int .i64 (k : Int))) none).run Try.prog W = .ok (.slice (some ⟨b, off, none⟩) k c) W := by
  have h := run_slice_h (P := Try.prog) (w := W) 52 (some ⟨b, off, none⟩) n c Try.underlying52 .i64 (k : Int) (by omega) (by omega)
  rw [h]
  have e1 : (sizeOf (Try.prog.elem 52)).run Try.prog W = .ok 1 W := by kernel_rfl
  rw [e1]
  simp only [Result.andThen, sliced]
  congr 2
  simp
  intro _
  rfl
set_option maxRecDepth 100000 in
theorem run_cut_from (b off n c k : Nat) (hk : k ≤ n) (hc : k < c) (W : World) : (Instr.slice 52 (.slice (some ⟨b, off, none⟩) n c) (some (.int .i64 (k : Int))) none none).run Try.prog W = .ok (.slice (some ⟨b, off + k, none⟩) (n - k) (c - k)) W := by
  have h := run_slice_l (P := Try.prog) (w := W) 52 (some ⟨b, off, none⟩) n c Try.underlying52 .i64 (k : Int) (by omega) (by omega)
  rw [h]
  have e1 : (sizeOf (Try.prog.elem 52)).run Try.prog W = .ok 1 W := by kernel_rfl
  rw [e1]
  have e2 : (k : Int).toNat = k := by omega
  simp only [Result.andThen, sliced, e2]
  rw [if_neg (by omega), Nat.mul_one]
  simp [Addr.add_mid]
set_option maxHeartbeats 1000000 in
theorem half_any (n : Nat) (w : World) (h2 : 2 ≤ n) (hn : n ≤ 200) : Calls Try.prog 112 #[.int .i64 (n : Int)] w fun e w' => e = .returned (.int .i64 (hp n : Int)) ∧ w = w' := by
  have H2 := Lib.hid (And.intro h2 hn)
  have hn2 : (n : Int) ≤ 200 := by omega
  clear h2 hn
  go_enter Try.func112, Try.ntmps112
  go_wp2_with fail
  go_loop [3] (fun x => ∃ k j : Nat, x = .int .i64 (k : Int) ∧ k < 200 ∧ Hid (k = 2 ^ j ∧ k < n)) (fun x => 200 - (intOf x).toNat)
  case atStart => exact ⟨1, 0, rfl, by omega, ⟨rfl, by have := H2.out.1; omega⟩⟩
  case round =>
    obtain ⟨k, j, rfl, hk, hj⟩ := hrel
    have hk2 : (k : Int) < 200 := by omega
    by_cases hlt : 2 * k < n
    · have ht : decide (2 * (k : Int) < (n : Int)) = true := by simp; omega
      have hpos : 0 < k := by rw [hj.out.1]; exact Nat.two_pow_pos j
      go_wp2_with fail
      go_round
      case rel => exact ⟨k * 2, j + 1, by go_num, by have := H2.out.2; omega, ⟨by rw [hj.out.1, Nat.pow_succ], by omega⟩⟩
      case measure => simp [intOf]; omega
    · have ht : decide (2 * (k : Int) < (n : Int)) = false := by simp; omega
      have HE : Hid (k = hp n) := by
        unfold Hid
        rw [hj.out.1]
        exact hp_dbl H2.out.1 H2.out.2 (by rw [← hj.out.1]; exact hj.out.2) (by rw [← hj.out.1]; exact hlt)
      clear hlt
      go_wp2_with fail
      go_ret
      exact ⟨ret_int (by rw [HE.out]), rfl⟩
end Go.Proofs.Ytpbbohinhbboaaa.Sx
namespace Go.Proofs.Ytpbbohinhbboaaa.Sx
open Go Go.RowKit

def rootS (xs : List ByteArray) : ByteArray := bs (rootL (bl xs))
theorem rootS_size (xs : List ByteArray) : (rootS xs).size = 32 := by unfold rootS; rw [bs_size, rootL_length]
theorem shaS_bs (l : List UInt8) : shaS (bs l) = bs (sha l) := by unfold shaS bs; simp
theorem rootS_many {xs : List ByteArray} (h : 2 ≤ xs.length) (h2 : xs.length ≤ 200) : shaS (sgn 1 ++ rootS (xs.take (hp xs.length)) ++ rootS (xs.drop (hp xs.length))) = rootS xs := by
  unfold rootS
  rw [rootL_many (l := bl xs) (by rw [bl_len]; exact h) (by rw [bl_len]; exact h2), bl_len, bl_take, bl_drop, ← shaS_bs]
  congr 1
theorem rootS_one (x : ByteArray) : shaS (sgn 0 ++ x) = rootS [x] := by
  unfold rootS bl
  rw [List.map_cons, List.map_nil, rootL_one, ← shaS_bs]
  congr 1
theorem rootS_nil : shaS ⟨#[]⟩ = rootS [] := by
  unfold rootS bl
  rw [List.map_nil, rootL_nil, ← shaS_bs]
  rfl
set_option maxRecDepth 100000 in
set_option maxHeartbeats 4000000 in
theorem rootOf_nil (A : Option Addr) (c : Nat) (w : World) : Calls Try.prog 110 #[.slice A 0 c] w fun e w' => e = .returned (.string (rootS [])) ∧ Ext w w' := by
  go_enter Try.func110, Try.ntmps110
  go_wp2_with (go_at_call 35; (with_reducible refine (sum_any ⟨#[]⟩ _ (by decide)).mono ?_); rintro e w1 ⟨rfl, hx1⟩)
  go_ret
  exact ⟨by rw [← rootS_nil]; rfl, hx1⟩
set_option maxRecDepth 100000 in
set_option maxHeartbeats 4000000 in
theorem rootOf_some : ∀ (m : Nat) (xs : List ByteArray) (b off n c : Nat) (w : World), n ≤ m → xs.length = n → 1 ≤ n → n ≤ 200 → n ≤ c → LinesAt w b off xs →
    Calls Try.prog 110 #[.slice (some ⟨b, off, none⟩) n c] w fun e w' => e = .returned (.string (rootS xs)) ∧ Ext w w' := by
  intro m
  induction m with
  | zero => intro xs b off n c w h1 _ h2; omega
  | succ m ih =>
    intro xs b off n c w hm hl h1 h200 hc hx
    have IH := Lib.hid ih
    have HL := Lib.hid hl
    have HX := Lib.hid hx
    by_cases hone : n = 1
    · subst hone
      obtain ⟨x, rfl⟩ : ∃ x, xs = [x] := List.length_eq_one_iff.1 hl
      have h0 := hx.2 0 (by simp)
      have hcell : w.cell? ⟨b, off, none⟩ = some (.string x) := by simpa using h0.1
      have hsz : x.size ≤ 1048576 := by simpa using h0.2
      have HS := Lib.hid hsz
      have HR := Lib.hid (rootS_one x)
      clear h0 ih hl hx hm h1 h200 hc
      go_enter Try.func110, Try.ntmps110
      go_wp2_with (go_at_call 35; (with_reducible refine (sum_any ((⟨#[0]⟩ : ByteArray) ++ x) _ (by have h1 := HS.out; have h2 : (⟨#[0]⟩ : ByteArray).size = 1 := rfl; rw [ByteArray.size_append, h2]; omega)).mono ?_); rintro e w1 ⟨rfl, hx1⟩)
      go_ret
      exact ⟨by rw [← HR.out]; rfl, hx1⟩
    · have h2 : 2 ≤ n := by omega
      obtain ⟨k, hk⟩ : ∃ k, k = hp n := ⟨_, rfl⟩
      obtain ⟨hk1, hk2, hk3⟩ := hp_lt h2 h200
      rw [← hk] at hk1 hk2 hk3
      have s1 := run_cut_to b off n c k (by omega)
      have s2 := run_cut_from b off n c k (by omega) (by omega)
      obtain ⟨r1, hr1⟩ : ∃ r, r = rootS (xs.take k) := ⟨_, rfl⟩
      obtain ⟨r2, hr2⟩ : ∃ r, r = rootS (xs.drop k) := ⟨_, rfl⟩
      have hz1 : r1.size = 32 := by rw [hr1, rootS_size]
      have hz2 : r2.size = 32 := by rw [hr2, rootS_size]
      have HFIN : Hid (shaS ((⟨#[1]⟩ : ByteArray) ++ r1 ++ r2) = rootS xs) := by
        unfold Hid
        rw [hr1, hr2, hk, ← hl]
        exact rootS_many (by omega) (by omega)
      have HK := Lib.hid hk
      have hxx : Ext w w := Below.refl _ _
      have C1 : Hid (∀ wk, Ext w wk → Calls Try.prog 110 #[.slice (some ⟨b, off, none⟩) k c] wk fun e w' => e = .returned (.string r1) ∧ Ext w w') := fun wk hw =>
        (ih (xs.take k) b off k c wk (by omega) (by rw [List.length_take]; omega) hk1 (by omega) (by omega) ((hx.ext hw).take k)).mono fun _ _ ⟨h1, h2⟩ => ⟨by rw [h1, hr1], hw.trans h2⟩
      have C2 : Hid (∀ wk, Ext w wk → Calls Try.prog 110 #[.slice (some ⟨b, off + k, none⟩) (n - k) (c - k)] wk fun e w' => e = .returned (.string r2) ∧ Ext w w') := fun wk hw =>
        (ih (xs.drop k) b (off + k) (n - k) (c - k) wk (by omega) (by rw [List.length_drop]; omega) (by omega) (by omega) (by omega) ((hx.ext hw).drop k)).mono fun _ _ ⟨h1, h2⟩ => ⟨by rw [h1, hr2], hw.trans h2⟩
      have C3 : Hid (∀ wk, Ext w wk → Calls Try.prog 35 #[.string ((⟨#[1]⟩ : ByteArray) ++ r1 ++ r2)] wk fun e w' => e = .returned (.string (shaS ((⟨#[1]⟩ : ByteArray) ++ r1 ++ r2))) ∧ Ext w w') := fun wk hw =>
        (sum_any _ wk (by rw [ByteArray.size_append, ByteArray.size_append, hz1, hz2]; show 1 + 32 + 32 ≤ _; omega)).mono fun _ _ ⟨h1, h2⟩ => ⟨h1, hw.trans h2⟩
      have HN := Lib.hid (And.intro h2 h200)
      have t0 : ((n : Int) == 0) = false := by simp; omega
      have t1 : ((n : Int) == 1) = false := by simp; omega
      clear hr1 hr2 hk ih hl hx hm h1 hone h2 h200 hk1 hk2 hk3 hc
      go_enter Try.func110, Try.ntmps110
      go_wp2_with (go_at_call 112; (with_reducible refine (half_any n _ HN.out.1 HN.out.2).mono ?_); rintro e w1 ⟨rfl, rfl⟩; rw [← HK.out])
      go_region_law (first
        | (go_simp; go_at_call 110; with_reducible refine (C1.out _ (by first | assumption | (apply Below.drew; assumption))).mono ?_; rintro e w2 ⟨rfl, hx2⟩)
        | (go_simp; go_at_call 110; with_reducible refine (C2.out _ (by first | assumption | (apply Below.drew; assumption))).mono ?_; rintro e w3 ⟨rfl, hx3⟩)
        | (go_simp; go_at_call 35; with_reducible refine (C3.out _ (by first | assumption | (apply Below.drew; assumption))).mono ?_; rintro e w4 ⟨rfl, hx4⟩))
      all_goals
        go_wp2_with fail
        go_ret
        exact ⟨by rw [← HFIN.out]; rfl, by assumption⟩
end Go.Proofs.Ytpbbohinhbboaaa.Sx
namespace Go.Proofs.Ytpbbohinhbboaaa.Sx
open Go Go.RowKit

theorem and_fin : ∀ k : Fin 201, 1 ≤ k.1 → bits BinOp.and IntKind.i64 ((k.1 : Nat) : Int) (((k.1 : Nat) : Int) - 1) = ((k.1 &&& (k.1 - 1) : Nat) : Int) := by decide +kernel
theorem and_strike {k : Nat} (h : 1 ≤ k) (hk : k ≤ 200) : bits BinOp.and IntKind.i64 (k : Int) ((k : Int) - 1) = ((k &&& (k - 1) : Nat) : Int) := and_fin ⟨k, by omega⟩ h
theorem strike_end {n k : Nat} (hl : Nat.log2 k = Nat.log2 (n - 1)) (h1 : 1 ≤ k) (hk : k ≤ 200) (h0 : (k &&& (k - 1)) = 0) : k = hp n := by
  unfold hp
  rw [← hl, (strike h1 hk).2.1 h0]
set_option maxRecDepth 100000 in
set_option maxHeartbeats 4000000 in
theorem rrootOf_nil (A : Option Addr) (c : Nat) (w : World) : Calls Try.prog 111 #[.slice A 0 c] w fun e w' => e = .returned (.string (rootS [])) ∧ Ext w w' := by
  go_enter Try.func111, Try.ntmps111
  go_wp2_with (go_at_call 36; (with_reducible refine (rsum_any ⟨#[]⟩ _ (by decide)).mono ?_); rintro e w1 ⟨rfl, hx1⟩)
  go_ret
  exact ⟨by rw [← rootS_nil]; rfl, hx1⟩
set_option maxRecDepth 100000 in
set_option maxHeartbeats 4000000 in
theorem rrootOf_some : ∀ (m : Nat) (xs : List ByteArray) (b off n c : Nat) (w : World), n ≤ m → xs.length = n → 1 ≤ n → n ≤ 200 → n ≤ c → LinesAt w b off xs →
    Calls Try.prog 111 #[.slice (some ⟨b, off, none⟩) n c] w fun e w' => e = .returned (.string (rootS xs)) ∧ Ext w w' := by
  intro m
  induction m with
  | zero => intro xs b off n c w h1 _ h2; omega
  | succ m ih =>
    intro xs b off n c w hm hl h1 h200 hc hx
    by_cases hone : n = 1
    · subst hone
      obtain ⟨x, rfl⟩ : ∃ x, xs = [x] := List.length_eq_one_iff.1 hl
      have h0 := hx.2 0 (by simp)
      have hcell : w.cell? ⟨b, off, none⟩ = some (.string x) := by simpa using h0.1
      have hsz : x.size ≤ 1048576 := by simpa using h0.2
      have HS := Lib.hid hsz
      have HR := Lib.hid (rootS_one x)
      have hlt : b < w.heap.size := hx.1
      obtain ⟨c0, hc0⟩ : ∃ c, c = sgn 0 := ⟨_, rfl⟩
      have hz0 : c0.size = 1 := by rw [hc0]; rfl
      have hzz : (9223372036854775807 < x.size + 1) = False := by simp; omega
      have hzz2 : (9223372036854775807 < 1 + x.size) = False := by simp; omega
      have HC0 := Lib.hid hc0
      have hxx : Ext w w := Below.refl _ _
      have C1 : Hid (∀ wk, Ext w wk → Calls Try.prog 93 #[.int .i64 0] wk fun e w' => e = .returned (.string c0) ∧ Ext w w' ∧ w'.cell? ⟨b, off, none⟩ = some (.string x)) := fun wk hw =>
        (chr_at 0 0 rfl wk).mono fun _ _ ⟨h1, h2⟩ => ⟨by rw [h1, HC0.out], hw.trans h2, ((hw.trans h2).cell (p := ⟨b, off, none⟩) hlt).trans hcell⟩
      have C2 : Hid (∀ wk, Ext w wk → Calls Try.prog 36 #[.string (c0 ++ x)] wk fun e w' => e = .returned (.string (shaS (c0 ++ x))) ∧ Ext w w' ∧ w'.cell? ⟨b, off, none⟩ = some (.string x)) := fun wk hw =>
        (rsum_any (c0 ++ x) wk (by rw [ByteArray.size_append, hz0]; omega)).mono fun _ _ ⟨h1, h2⟩ => ⟨h1, hw.trans h2, ((hw.trans h2).cell (p := ⟨b, off, none⟩) hlt).trans hcell⟩
      clear h0 ih hl hx hm h1 h200 hc hsz hlt hc0
      go_enter Try.func111, Try.ntmps111
      go_wp2_with fail
      go_region_law (first
        | (go_simp; go_at_call 93; with_reducible refine (C1.out _ (by first | assumption | (apply Below.drew; assumption))).mono ?_; rintro e w2 ⟨rfl, hx2, hcell2⟩)
        | (go_simp; go_at_call 36; with_reducible refine (C2.out _ (by first | assumption | (apply Below.drew; assumption))).mono ?_; rintro e w3 ⟨rfl, hx3, hcell3⟩))
      all_goals
        go_wp2_with fail
        go_ret
        exact ⟨by rw [← HR.out, ← HC0.out]; rfl, by assumption⟩
    · have h2 : 2 ≤ n := by omega
      obtain ⟨k, hk⟩ : ∃ k, k = hp n := ⟨_, rfl⟩
      obtain ⟨hk1, hk2, hk3⟩ := hp_lt h2 h200
      rw [← hk] at hk1 hk2 hk3
      have s1 := run_cut_to b off n c k (by omega)
      have s2 := run_cut_from b off n c k (by omega) (by omega)
      obtain ⟨r1, hr1⟩ : ∃ r, r = rootS (xs.take k) := ⟨_, rfl⟩
      obtain ⟨r2, hr2⟩ : ∃ r, r = rootS (xs.drop k) := ⟨_, rfl⟩
      obtain ⟨c1, hc1⟩ : ∃ c, c = sgn 1 := ⟨_, rfl⟩
      have hz0 : c1.size = 1 := by rw [hc1]; rfl
      have hz1 : r1.size = 32 := by rw [hr1, rootS_size]
      have hz2 : r2.size = 32 := by rw [hr2, rootS_size]
      have HFIN : Hid (shaS (c1 ++ r1 ++ r2) = rootS xs) := by
        unfold Hid
        rw [hr1, hr2, hk, ← hl, hc1]
        exact rootS_many (by omega) (by omega)
      have HK := Lib.hid hk
      have hxx : Ext w w := Below.refl _ _
      have C0 : Hid (∀ wk, Ext w wk → Calls Try.prog 93 #[.int .i64 1] wk fun e w' => e = .returned (.string c1) ∧ Ext w w') := fun wk hw =>
        (chr_at 1 1 rfl wk).mono fun _ _ ⟨h1, h2⟩ => ⟨by rw [h1, hc1], hw.trans h2⟩
      have C1 : Hid (∀ wk, Ext w wk → Calls Try.prog 111 #[.slice (some ⟨b, off, none⟩) k c] wk fun e w' => e = .returned (.string r1) ∧ Ext w w') := fun wk hw =>
        (ih (xs.take k) b off k c wk (by omega) (by rw [List.length_take]; omega) hk1 (by omega) (by omega) ((hx.ext hw).take k)).mono fun _ _ ⟨h1, h2⟩ => ⟨by rw [h1, hr1], hw.trans h2⟩
      have C2 : Hid (∀ wk, Ext w wk → Calls Try.prog 111 #[.slice (some ⟨b, off + k, none⟩) (n - k) (c - k)] wk fun e w' => e = .returned (.string r2) ∧ Ext w w') := fun wk hw =>
        (ih (xs.drop k) b (off + k) (n - k) (c - k) wk (by omega) (by rw [List.length_drop]; omega) (by omega) (by omega) (by omega) ((hx.ext hw).drop k)).mono fun _ _ ⟨h1, h2⟩ => ⟨by rw [h1, hr2], hw.trans h2⟩
      have C3 : Hid (∀ wk, Ext w wk → Calls Try.prog 36 #[.string (c1 ++ r1 ++ r2)] wk fun e w' => e = .returned (.string (shaS (c1 ++ r1 ++ r2))) ∧ Ext w w') := fun wk hw =>
        (rsum_any _ wk (by rw [ByteArray.size_append, ByteArray.size_append, hz0, hz1, hz2]; omega)).mono fun _ _ ⟨h1, h2⟩ => ⟨h1, hw.trans h2⟩
      have HN := Lib.hid (And.intro h2 h200)
      have t0 : ((n : Int) == 0) = false := by simp; omega
      have t1 : ((n : Int) == 1) = false := by simp; omega
      have hn200 : (n : Int) ≤ 200 := by omega
      have hn2 : (2 : Int) ≤ (n : Int) := by omega
      have HC := Lib.hid hc
      clear hr1 hr2 hk ih hl hx hm h1 hone h2 h200 hk1 hk2 hk3 hc hc1
      go_enter Try.func111, Try.ntmps111
      go_wp2_with fail
      go_loop [3] (fun x => ∃ q : Nat, x = .int .i64 (q : Int) ∧ Hid (1 ≤ q ∧ q ≤ 199 ∧ Nat.log2 q = Nat.log2 (n - 1))) (fun x => (intOf x).toNat)
      case atStart => exact ⟨n - 1, (by have e : ((n - 1 : Nat) : Int) = (n : Int) - 1 := (by omega); rw [e]), ⟨by have := HN.out; omega, by have := HN.out; omega, rfl⟩⟩
      case round =>
        obtain ⟨q, rfl, hq⟩ := hrel
        have hand := and_strike hq.out.1 (by have := hq.out.2.1; omega)
        obtain ⟨s1', s2', s3'⟩ := strike hq.out.1 (by have := hq.out.2.1; omega)
        obtain ⟨v, hv⟩ : ∃ v, v = q &&& (q - 1) := ⟨_, rfl⟩
        rw [← hv] at hand s1' s2' s3'
        have p0 : (1 : Int) ≤ (q : Int) := by have := hq.out.1; omega
        have p1 : (q : Int) ≤ 199 := by have := hq.out.2.1; omega
        by_cases h0 : v = 0
        · have HE : Hid (q = k) := by
            unfold Hid
            rw [HK.out]
            exact strike_end hq.out.2.2 hq.out.1 (by have := hq.out.2.1; omega) (by rw [← hv]; exact h0)
          have hkq : (q : Int) = (k : Int) := by rw [HE.out]
          have z1 : ((v : Int) == 0) = true := by simp [h0]
          have z2 : ((v : Int) != 0) = false := by simp [h0]
          have HV := Lib.hid hv
          have hqk := HE.out
          clear s1' s2' s3' hv h0 hkq HE
          subst hqk
          go_wp2_with fail
          go_region_law (first
            | (go_simp; go_at_call 93; with_reducible refine (C0.out _ (by first | assumption | (apply Below.drew; assumption))).mono ?_; rintro e w5 ⟨rfl, hx5⟩)
            | (go_simp; go_at_call 111; with_reducible refine (C1.out _ (by first | assumption | (apply Below.drew; assumption))).mono ?_; rintro e w2 ⟨rfl, hx2⟩)
            | (go_simp; go_at_call 111; with_reducible refine (C2.out _ (by first | assumption | (apply Below.drew; assumption))).mono ?_; rintro e w3 ⟨rfl, hx3⟩)
            | (go_simp; go_at_call 36; with_reducible refine (C3.out _ (by first | assumption | (apply Below.drew; assumption))).mono ?_; rintro e w4 ⟨rfl, hx4⟩))
          all_goals
            go_wp2_with fail
            go_ret
            exact ⟨by rw [← HFIN.out]; rfl, by assumption⟩
        · have z1 : ((v : Int) == 0) = false := by simp [h0]
          have z2 : ((v : Int) != 0) = true := by simp [h0]
          have HS3 := Lib.hid (s3' h0)
          have HLT := Lib.hid s1'
          have hv1 : 1 ≤ v := by omega
          have hlt : v < q := s1'
          clear s1' s2' s3' hv h0
          go_wp2_with fail
          go_round
          case rel => exact ⟨v, rfl, ⟨hv1, by have := hq.out.2.1; omega, by rw [HS3.out]; exact hq.out.2.2⟩⟩
          case measure => simp [intOf]; omega
end Go.Proofs.Ytpbbohinhbboaaa.Sx
namespace Go.Proofs.Ytpbbohinhbboaaa.Sx
open Go Go.RowKit

/-- The slice value v holds the lines xs. -/
def Lines (w : World) (v : Value) (xs : List ByteArray) : Prop := ∃ A c, v = .slice A xs.length c ∧ xs.length ≤ c ∧ (0 < xs.length → ∃ b off, A = some ⟨b, off, none⟩ ∧ LinesAt w b off xs)
theorem Lines.ext {w w' : World} {v : Value} {xs : List ByteArray} (h : Lines w v xs) (hx : Ext w w') : Lines w' v xs := by
  obtain ⟨A, c, hv, hc, hh⟩ := h
  refine ⟨A, c, hv, hc, fun h0 => ?_⟩
  obtain ⟨b, off, hA, hl⟩ := hh h0
  exact ⟨b, off, hA, hl.ext hx⟩
theorem Lines.of_at {B : Nat} {w : World} {v : Value} {xs : List ByteArray} (h : StrsAt B w v xs) (hB : B ≤ w.heap.size) : Lines w v xs := by
  obtain ⟨hn, A, c, hv, hc, _, hi⟩ := h
  refine ⟨A, c, hv, hc, fun h0 => ?_⟩
  obtain ⟨b, off, _, hA, hlt, _⟩ := hi 0 h0
  refine ⟨b, off, hA, Nat.lt_of_lt_of_le hlt hB, fun j hj => ?_⟩
  obtain ⟨b', off', cs, hA', _, _, ⟨hcs, hz⟩, hcell⟩ := hi j hj
  rw [hA] at hA'
  injection hA' with e
  injection e with e1 e2
  subst e1 e2 hcs
  exact ⟨by have := hcell 0 _ rfl; simpa using this, hz⟩
theorem rootOf_any (v : Value) (xs : List ByteArray) (w : World) (h : Lines w v xs) (hn : xs.length ≤ 200) : Calls Try.prog 110 #[v] w fun e w' => e = .returned (.string (rootS xs)) ∧ Ext w w' := by
  obtain ⟨A, c, rfl, hc, hh⟩ := h
  rcases Nat.eq_zero_or_pos xs.length with h0 | h0
  · have hx : xs = [] := List.length_eq_zero_iff.1 h0
    subst hx
    exact rootOf_nil A c w
  · obtain ⟨b, off, rfl, hl⟩ := hh h0
    exact rootOf_some xs.length xs b off xs.length c w (Nat.le_refl _) rfl h0 hn hc hl
theorem rrootOf_any (v : Value) (xs : List ByteArray) (w : World) (h : Lines w v xs) (hn : xs.length ≤ 200) : Calls Try.prog 111 #[v] w fun e w' => e = .returned (.string (rootS xs)) ∧ Ext w w' := by
  obtain ⟨A, c, rfl, hc, hh⟩ := h
  rcases Nat.eq_zero_or_pos xs.length with h0 | h0
  · have hx : xs = [] := List.length_eq_zero_iff.1 h0
    subst hx
    exact rrootOf_nil A c w
  · obtain ⟨b, off, rfl, hl⟩ := hh h0
    exact rrootOf_some xs.length xs b off xs.length c w (Nat.le_refl _) rfl h0 hn hc hl
def hexS (s : ByteArray) : ByteArray := bs (hex s.data.toList)
/-- What Root answers. -/
def rootV (xs : List ByteArray) : Value := if xs.length ≤ 200 then .tuple #[.string (hexS (rootS xs)), .int .i64 0] else .tuple #[.string ⟨#[]⟩, .int .i64 2]
set_option maxRecDepth 100000 in
set_option maxHeartbeats 2000000 in
theorem root_lines (v : Value) (xs : List ByteArray) (w : World) (h : Lines w v xs) : Calls Try.prog 49 #[v] w fun e w' => e = .returned (rootV xs) ∧ Ext w w' := by
  have HL := Lib.hid h
  obtain ⟨A, c, rfl, hc, hh⟩ := h
  clear hh hc
  obtain ⟨n, hn⟩ : ∃ n, n = xs.length := ⟨_, rfl⟩
  rw [← hn]
  have HN := Lib.hid hn
  by_cases h2 : n ≤ 200
  · have ht : decide ((200 : Int) < (n : Int)) = false := by simp; omega
    have HV : Hid (rootV xs = .tuple #[.string (hexS (rootS xs)), .int .i64 0]) := if_pos (by omega)
    have H2 := Lib.hid h2
    obtain ⟨r, hr⟩ : ∃ r, r = rootS xs := ⟨_, rfl⟩
    have hrs : r.size = 32 := by rw [hr, rootS_size]
    have HR := Lib.hid hr
    have HRS := Lib.hid hrs
    clear hn h2 hr hrs
    go_enter Try.func49, Try.ntmps49
    go_wp2_with (first
      | (go_at_call 110; have hL := HL.out; rw [← HN.out] at hL; (with_reducible refine (rootOf_any _ xs _ hL (by rw [← HN.out]; exact H2.out)).mono ?_); rintro e w1 ⟨rfl, hx1⟩; rw [← HR.out]; have HX1 := Lib.hid hx1; clear hx1 hL)
      | (go_at_call 39; (with_reducible refine (hex_any r _ (by rw [HRS.out]; omega)).mono ?_); rintro e w2 ⟨rfl, hx2⟩; have HX2 := Lib.hid hx2; clear hx2))
    go_ret2
    exact ⟨by rw [HV.out, ← HR.out]; rfl, HX1.out.trans HX2.out⟩
  · have ht : decide ((200 : Int) < (n : Int)) = true := by simp; omega
    have HV : Hid (rootV xs = .tuple #[.string ⟨#[]⟩, .int .i64 2]) := if_neg (by omega)
    clear hn h2
    go_enter Try.func49, Try.ntmps49
    go_wp2
    go_ret2
    exact ⟨by rw [HV.out]; rfl, Below.refl _ _⟩
set_option maxRecDepth 100000 in
set_option maxHeartbeats 2000000 in
theorem rroot_lines (v : Value) (xs : List ByteArray) (w : World) (h : Lines w v xs) : Calls Try.prog 50 #[v] w fun e w' => e = .returned (rootV xs) ∧ Ext w w' := by
  have HL := Lib.hid h
  obtain ⟨A, c, rfl, hc, hh⟩ := h
  clear hh hc
  obtain ⟨n, hn⟩ : ∃ n, n = xs.length := ⟨_, rfl⟩
  rw [← hn]
  have HN := Lib.hid hn
  by_cases h2 : n ≤ 200
  · have ht : decide ((200 : Int) < (n : Int)) = false := by simp; omega
    have HV : Hid (rootV xs = .tuple #[.string (hexS (rootS xs)), .int .i64 0]) := if_pos (by omega)
    have H2 := Lib.hid h2
    obtain ⟨r, hr⟩ : ∃ r, r = rootS xs := ⟨_, rfl⟩
    have hrs : r.size = 32 := by rw [hr, rootS_size]
    have HR := Lib.hid hr
    have HRS := Lib.hid hrs
    clear hn h2 hr hrs
    go_enter Try.func50, Try.ntmps50
    go_wp2_with (first
      | (go_at_call 111; have hL := HL.out; rw [← HN.out] at hL; (with_reducible refine (rrootOf_any _ xs _ hL (by rw [← HN.out]; exact H2.out)).mono ?_); rintro e w1 ⟨rfl, hx1⟩; rw [← HR.out]; have HX1 := Lib.hid hx1; clear hx1 hL)
      | (go_at_call 40; (with_reducible refine (rhex_any r _ (by rw [HRS.out]; omega)).mono ?_); rintro e w2 ⟨rfl, hx2⟩; have HX2 := Lib.hid hx2; clear hx2))
    go_ret2
    exact ⟨by rw [HV.out, ← HR.out]; rfl, HX1.out.trans HX2.out⟩
  · have ht : decide ((200 : Int) < (n : Int)) = true := by simp; omega
    have HV : Hid (rootV xs = .tuple #[.string ⟨#[]⟩, .int .i64 2]) := if_neg (by omega)
    clear hn h2
    go_enter Try.func50, Try.ntmps50
    go_wp2
    go_ret2
    exact ⟨by rw [HV.out]; rfl, Below.refl _ _⟩
end Go.Proofs.Ytpbbohinhbboaaa.Sx
