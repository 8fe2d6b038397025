/-
  Times as numerals, two signs for each byte read back, texts cut at a byte put together again. No program in sight.
  Tokens in plain words: what Issue tells, what Check answers; that a token read by Atoi and written again is the reference's reading of it.
  Tokens: a key, a time, Atoi, Join: contracts.
  The reference's time: a text of digits without noughts ahead.
-/
import Derived.Test.YtplfimoeggecjaaGreatDoorDec
import Derived.Test.YtplfimoeggecjaaGreatDoorSh0
import Derived.Test.YtplfimoeggecjaaGreatDoorPt1
import Derived.Lib.AtoiAllCases
import Derived.Lib.Join
import Derived.Test.YtplfimoeggecjaaGreatDoorPrt
import Derived.Test.YtplfimoeggecjaaGreatDoorUsr
import Derived.Test.YtplfimoeggecjaaGreatDoorItoa
import Derived.Test.YtplfimoeggecjaaGreatDoorOut
import Derived.BigGuardPart
import Derived.IntWalk
namespace Go.Proofs.YtplfimoeggecjaaGreatDoor.Tk
open Go Go.Lib Go.Proofs.YtplfimoeggecjaaGreatDoor.Dc Go.Proofs.YtplfimoeggecjaaGreatDoor.Sx Go.Proofs.YtplfimoeggecjaaGreatDoor.Pt

/-! ### numerals -/
def isDig (c : UInt8) : Prop := 48 ≤ c.toNat ∧ c.toNat ≤ 57
instance (c : UInt8) : Decidable (isDig c) := inferInstanceAs (Decidable (_ ∧ _))
def allDig (l : List UInt8) : Bool := l.all fun c => decide (isDig c)
/-- A time of digits, without noughts ahead; -1: none. -/
def timeI (l : List UInt8) : Int :=
  if l = [] ∨ 13 < l.length then -1 else if l.head? = some 48 ∧ l ≠ [48] then -1 else if allDig l = false then -1 else if 1099511627776 < valD l then -1 else (valD l : Int)
theorem valD_snoc (l : List UInt8) (c : UInt8) : valD (l ++ [c]) = 10 * valD l + (c.toNat - 48) := by unfold valD; rw [List.foldl_append]; rfl
theorem allDig_snoc (l : List UInt8) (c : UInt8) : allDig (l ++ [c]) = (allDig l && decide (isDig c)) := by unfold allDig; rw [List.all_append]; simp
theorem dig_back {c : UInt8} (h : isDig c) : UInt8.ofNat (48 + (c.toNat - 48)) = c := by
  obtain ⟨h1, h2⟩ := h
  apply UInt8.toNat_inj.1
  rw [UInt8.toNat_ofNat']
  have := c.toNat_lt
  omega
theorem valD_pos {l : List UInt8} : ∀ {n : Nat}, l.length ≤ n → l ≠ [] → allDig l = true → l.head? ≠ some 48 → 0 < valD l := by
  intro n
  induction n generalizing l with
  | zero => intro h h0; exact absurd (List.length_eq_zero_iff.1 (by omega)) h0
  | succ n ih =>
    intro h h0 hd hh
    rcases List.eq_nil_or_concat l with rfl | ⟨r, c, rfl⟩
    · exact absurd rfl h0
    · rw [List.concat_eq_append] at *
      rw [valD_snoc]
      rw [allDig_snoc, Bool.and_eq_true] at hd
      have hc : isDig c := of_decide_eq_true hd.2
      by_cases hr : r = []
      · subst hr
        have : c ≠ 48 := fun e => hh (by rw [e]; rfl)
        have h48 : c.toNat ≠ 48 := fun e => this (UInt8.toNat_inj.1 e)
        have := hc.1
        omega
      · have := ih (l := r) (by simp at h; omega) hr hd.1 (by
          cases r with
          | nil => exact absurd rfl hr
          | cons x r => simpa using hh)
        omega
theorem dec_of {l : List UInt8} : ∀ {n : Nat}, l.length ≤ n → l ≠ [] → allDig l = true → (l.head? = some 48 → l = [48]) → decDigits (valD l) = l := by
  intro n
  induction n generalizing l with
  | zero => intro h h0; exact absurd (List.length_eq_zero_iff.1 (by omega)) h0
  | succ n ih =>
    intro h h0 hd hh
    rcases List.eq_nil_or_concat l with rfl | ⟨r, c, rfl⟩
    · exact absurd rfl h0
    · rw [List.concat_eq_append] at *
      rw [valD_snoc]
      rw [allDig_snoc, Bool.and_eq_true] at hd
      have hc : isDig c := of_decide_eq_true hd.2
      by_cases hr : r = []
      · subst hr
        have hv : valD [] = 0 := rfl
        have h1 := hc.1
        have h2 := hc.2
        rw [hv, decDigits, dif_pos (by omega)]
        simp [dig_back hc]
      · have hh2 : r.head? ≠ some 48 := fun e => by
          cases r with
          | nil => exact absurd rfl hr
          | cons x r =>
            have := hh (by simpa using e)
            simp at this
        have hp := valD_pos (l := r) (Nat.le_refl _) hr hd.1 hh2
        have ihr := ih (l := r) (by simp at h; omega) hr hd.1 (fun e => absurd e hh2)
        have h1 := hc.1
        have h2 := hc.2
        rw [decDigits, dif_neg (by omega)]
        have e1 : (10 * valD r + (c.toNat - 48)) / 10 = valD r := by omega
        have e2 : (10 * valD r + (c.toNat - 48)) % 10 = c.toNat - 48 := by omega
        rw [e1, e2, ihr, dig_back hc]
theorem dec_ne (u : Nat) : decDigits u ≠ [] := by
  intro h
  have := decDigits_length u
  have := nDigits_pos u
  rw [h] at *
  simp at *
  omega
theorem dec_dig : ∀ (m u : Nat), u ≤ m → allDig (decDigits u) = true
  | 0, u, h => by
    obtain rfl : u = 0 := by omega
    rw [decDigits, dif_pos (by omega)]
    rfl
  | m + 1, u, h => by
    by_cases h10 : u < 10
    · rw [decDigits, dif_pos h10]
      have := dig_val u h10
      have hd : isDig (UInt8.ofNat (48 + u)) := by unfold isDig; omega
      generalize UInt8.ofNat (48 + u) = z at hd ⊢
      simp [allDig, hd]
    · rw [decDigits, dif_neg h10]
      have ih := dec_dig m (u / 10) (by omega)
      have := dig_val (u % 10) (by omega)
      have hd : isDig (UInt8.ofNat (48 + u % 10)) := by unfold isDig; omega
      generalize UInt8.ofNat (48 + u % 10) = z at hd ⊢
      rw [allDig_snoc, ih]
      simp [hd]
theorem dec_head : ∀ (m u : Nat), u ≤ m → 0 < u → (decDigits u).head? ≠ some 48
  | 0, u, h, h0 => by omega
  | m + 1, u, h, h0 => by
    by_cases h10 : u < 10
    · rw [decDigits, dif_pos h10]
      have := dig_val u h10
      generalize UInt8.ofNat (48 + u) = z at this ⊢
      intro e
      have e2 := congrArg UInt8.toNat (Option.some.inj e)
      have h48 : (48 : UInt8).toNat = 48 := rfl
      omega
    · rw [decDigits, dif_neg h10]
      have ih := dec_head m (u / 10) (by omega) (by omega)
      intro e
      have hn := dec_ne (u / 10)
      cases hd : decDigits (u / 10) with
      | nil => exact hn hd
      | cons x r => rw [hd] at e ih; exact ih (by simpa using e)
theorem nDigits_le : ∀ (k u : Nat), 1 ≤ k → u < 10 ^ k → nDigits u ≤ k
  | 0, u, h, _ => by omega
  | k + 1, u, _, h => by
    by_cases h10 : u < 10
    · rw [nDigits_small h10]; omega
    · rw [nDigits_big h10]
      have hk : 1 ≤ k := by
        rcases Nat.eq_zero_or_pos k with rfl | hk
        · simp at h; omega
        · exact hk
      have := nDigits_le k (u / 10) hk (by rw [Nat.pow_succ] at h; omega)
      omega
theorem dec_short {u : Nat} (h : u ≤ 1099511627776) : (decDigits u).length ≤ 13 := by
  rw [decDigits_length]
  exact nDigits_le 13 u (by omega) (by omega)
/-- A numeral of a time is one. -/
theorem time_dec {u : Nat} (h : u ≤ 1099511627776) : timeI (decDigits u) = (u : Int) := by
  unfold timeI
  have h1 := dec_short h
  have h2 := dec_ne u
  have h3 := dec_dig u u (Nat.le_refl _)
  have h4 := valD_dec u u (Nat.le_refl _)
  rw [if_neg (by simp [h2]; omega)]
  have h5 : ¬ ((decDigits u).head? = some 48 ∧ decDigits u ≠ [48]) := by
    rintro ⟨ha, hb⟩
    rcases Nat.eq_zero_or_pos u with rfl | hu
    · exact hb (by rw [decDigits, dif_pos (by omega)]; rfl)
    · exact dec_head u u (Nat.le_refl _) hu ha
  rw [if_neg h5, h3, if_neg (by simp), h4, if_neg (by omega)]
/-- A time is a numeral. -/
theorem time_back {l : List UInt8} {n : Int} (h : timeI l = n) (h0 : 0 ≤ n) : ∃ u : Nat, n = u ∧ l = decDigits u ∧ u ≤ 1099511627776 := by
  unfold timeI at h
  split at h
  · omega
  · next a =>
    split at h
    · omega
    · next b =>
      split at h
      · omega
      · next c =>
        split at h
        · omega
        · next d =>
          refine ⟨valD l, h.symm, (dec_of (Nat.le_refl _) (fun e => a (.inl e)) (by simpa using c) (fun e => ?_)).symm, by omega⟩
          exact Decidable.byContradiction fun hn => b ⟨e, hn⟩
theorem time_low (l : List UInt8) : -1 ≤ timeI l := by
  unfold timeI
  split
  · omega
  · split
    · omega
    · split
      · omega
      · split <;> omega
theorem time_high {l : List UInt8} : timeI l ≤ 1099511627776 := by
  rcases Int.lt_or_le (timeI l) 0 with h | h
  · omega
  · obtain ⟨u, h1, _, h2⟩ := time_back rfl h
    omega
theorem parse_dig : ∀ (l : List UInt8) (a : Nat), allDig l = true → (a + 1) * 10 ^ l.length ≤ 18446744073709551616 → parseUint10 a l = .ok (l.foldl (fun a c => 10 * a + (c.toNat - 48)) a)
  | [], a, _, _ => rfl
  | c :: r, a, h, hb => by
    have h2 : allDig r = true := by unfold allDig at *; simp at h ⊢; exact h.2
    have hc : isDig c := by unfold allDig at h; simp at h; exact h.1
    have hp : 1 ≤ 10 ^ r.length := Nat.pow_pos (by omega)
    have hb2 : (a + 1) * 10 * 10 ^ r.length ≤ 18446744073709551616 := by
      rw [List.length_cons, Nat.pow_succ] at hb
      rw [Nat.mul_assoc, Nat.mul_comm 10]
      exact hb
    have hb3 : (a + 1) * 10 ≤ 18446744073709551616 := Nat.le_trans (Nat.le_mul_of_pos_right _ hp) hb2
    have h1 := hc.1
    have h9 := hc.2
    unfold parseUint10
    rw [if_pos (show 48 ≤ c.toNat ∧ c.toNat ≤ 57 from hc), if_neg (by omega), if_neg (by omega), parse_dig r _ h2 (Nat.le_trans (Nat.mul_le_mul_right _ (by omega)) hb2), List.foldl_cons, Nat.mul_comm a 10]
/-- Atoi reads a time's numeral. -/
theorem atoi_dec {u : Nat} (h : u ≤ 1099511627776) : atoiAll (decDigits u) = .ok (u : Int) := by
  have h1 := dec_short h
  have h2 := dec_ne u
  have h3 := dec_dig u u (Nat.le_refl _)
  have h4 := valD_dec u u (Nat.le_refl _)
  have hp : parseMag (decDigits u) = .ok u := by
    unfold parseMag
    rw [if_neg h2, parse_dig _ 0 h3]
    · exact congrArg _ h4
    · have : 10 ^ (decDigits u).length ≤ 10 ^ 13 := Nat.pow_le_pow_right (by omega) h1
      omega
  cases hd : decDigits u with
  | nil => exact absurd hd h2
  | cons c r =>
    have hc : isDig c := by rw [hd] at h3; unfold allDig at h3; simp at h3; exact h3.1
    have c1 := hc.1
    have c2 := hc.2
    rw [atoiAll_plain c r (by omega) (by omega), ← hd, hp]
    unfold signless
    simp only
    rw [if_neg (by omega)]
/-- What Atoi reads, and writes again as it stood, is a time. -/
theorem time_iff (l : List UInt8) (v : Int) : (atoiAll l = .ok v ∧ 0 ≤ v ∧ v ≤ 1099511627776 ∧ decDigits v.toNat = l) ↔ (0 ≤ v ∧ timeI l = v) := by
  constructor
  · rintro ⟨_, h0, h1, h2⟩
    refine ⟨h0, ?_⟩
    rw [← h2, time_dec (by omega)]
    omega
  · rintro ⟨h0, h⟩
    obtain ⟨u, rfl, rfl, hu⟩ := time_back h h0
    exact ⟨atoi_dec hu, h0, by omega, by simp⟩

/-! ### two signs for each byte -/
theorem unsign_sign {c : UInt8} {a : Nat} (h : unsign c = some a) : a < 16 ∧ sign a = c := by
  unfold unsign at h
  split at h
  · next hc =>
    injection h with h
    subst h
    refine ⟨by omega, ?_⟩
    unfold sign
    rw [if_pos (by omega)]
    exact dig_back hc
  · split at h
    · next hc =>
      injection h with h
      subst h
      refine ⟨by omega, ?_⟩
      unfold sign
      rw [if_neg (by omega)]
      apply UInt8.toNat_inj.1
      rw [UInt8.toNat_ofNat']
      have := c.toNat_lt
      omega
    · cases h
theorem hex_unhex : ∀ {l m : List UInt8}, unhex l = some m → hex m = l
  | [], m, h => by
    unfold unhex at h
    injection h with h
    subst h
    rfl
  | [_], m, h => by simp [unhex] at h
  | c :: d :: l, m, h => by
    unfold unhex at h
    cases h1 : unsign c with
    | none => simp [h1] at h
    | some a =>
      cases h2 : unsign d with
      | none => simp [h1, h2] at h
      | some b =>
        cases h3 : unhex l with
        | none => simp [h1, h2, h3] at h
        | some r =>
          simp only [h1, h2, h3] at h
          injection h with h
          subst h
          obtain ⟨a1, a2⟩ := unsign_sign h1
          obtain ⟨b1, b2⟩ := unsign_sign h2
          have e : (UInt8.ofNat (16 * a + b)).toNat = 16 * a + b := by rw [UInt8.toNat_ofNat']; omega
          unfold hex
          rw [e]
          have e1 : (16 * a + b) / 16 = a := by omega
          have e2 : (16 * a + b) % 16 = b := by omega
          rw [e1, e2, a2, b2, hex_unhex h3]
theorem hex_length (l : List UInt8) : (hex l).length = 2 * l.length := by
  induction l with
  | nil => rfl
  | cons c l ih => simp only [hex, List.length_cons, ih]; omega
theorem unhex_hex : ∀ l : List UInt8, unhex (hex l) = some l
  | [] => rfl
  | c :: l => by
    have hs : ∀ n, n < 16 → unsign (sign n) = some n := by
      intro n hn
      have : ∀ m : Fin 16, unsign (sign m.val) = some m.val := by decide
      exact this ⟨n, hn⟩
    have hc := c.toNat_lt
    unfold hex unhex
    rw [hs _ (by omega), hs _ (by omega), unhex_hex l]
    have e : 16 * (c.toNat / 16) + c.toNat % 16 = c.toNat := by omega
    simp only [e]
    congr 1
    congr 1
    apply UInt8.toNat_inj.1
    rw [UInt8.toNat_ofNat']
    omega
theorem hex_inj {a b : List UInt8} (h : hex a = hex b) : a = b := by
  have := unhex_hex a
  rw [h, unhex_hex b] at this
  exact (Option.some.inj this).symm

/-! ### cut at a byte -/
/-- Put together again. -/
def glue (c : UInt8) : List (List UInt8) → List UInt8
  | [] => []
  | [x] => x
  | x :: y :: r => x ++ c :: glue c (y :: r)
theorem glue_cons (c : UInt8) (x : List UInt8) {r : List (List UInt8)} (h : r ≠ []) : glue c (x :: r) = x ++ c :: glue c r := by
  cases r with
  | nil => exact absurd rfl h
  | cons y r => rfl
theorem glue_head (c x : UInt8) (y : List UInt8) (r : List (List UInt8)) : glue c ((x :: y) :: r) = x :: glue c (y :: r) := by
  cases r <;> rfl
theorem glue_segs (c : UInt8) (l : List UInt8) : glue c (segs c l) = l := by
  induction l with
  | nil => rfl
  | cons x r ih =>
    by_cases h : x = c
    · subst h
      rw [segs_eq, glue_cons _ _ (segs_ne _ _), ih]
      rfl
    · rw [segs_other h, glue_head, ← segs_cons, ih]
theorem segs_no (c : UInt8) (l : List UInt8) : ∀ p ∈ segs c l, c ∉ p := by
  induction l with
  | nil => intro p hp; simp [segs] at hp; subst hp; simp
  | cons x r ih =>
    intro p hp
    by_cases h : x = c
    · subst h
      rw [segs_eq] at hp
      rcases List.mem_cons.1 hp with rfl | hp
      · simp
      · exact ih p hp
    · rw [segs_other h] at hp
      rcases List.mem_cons.1 hp with rfl | hp
      · have := ih _ (by rw [segs_cons c r]; exact List.mem_cons_self)
        intro hm
        rcases List.mem_cons.1 hm with e | hm
        · exact h e.symm
        · exact this hm
      · exact ih p (by rw [segs_cons c r]; exact List.mem_cons_of_mem _ hp)
theorem glue_join (c : UInt8) (x : List UInt8) (r : List (List UInt8)) : glue c (x :: r) = Lib.join (x :: r) [c] := by
  induction r generalizing x with
  | nil => rw [Lib.join_one]; rfl
  | cons y r ih =>
    rw [glue_cons _ _ (by simp), ih]
    cases r with
    | nil => rw [Lib.join_one, Lib.join_cons]; simp [Lib.joinTail]
    | cons z r => rw [Lib.join_cons, Lib.join_cons]; simp [Lib.joinTail]
/-- Two texts in front of the first such byte: the same. -/
theorem front_one {c : UInt8} {a b x y : List UInt8} (ha : c ∉ a) (hb : c ∉ b) (h : a ++ c :: x = b ++ c :: y) : a = b ∧ x = y := by
  induction a generalizing b with
  | nil =>
    cases b with
    | nil => exact ⟨rfl, by simpa using h⟩
    | cons z b => simp at h; exact absurd (by simp [h.1]) hb
  | cons z a ih =>
    cases b with
    | nil => simp at h; exact absurd (by simp [h.1]) ha
    | cons z' b =>
      simp at h
      obtain ⟨e1, e2⟩ := ih (b := b) (fun hm => ha (List.mem_cons_of_mem _ hm)) (fun hm => hb (List.mem_cons_of_mem _ hm)) h.2
      exact ⟨by rw [h.1, e1], e2⟩
theorem dec_no {u : Nat} {c : UInt8} (h : ¬ isDig c) : c ∉ decDigits u := by
  intro hm
  have h3 := dec_dig u u (Nat.le_refl _)
  unfold allDig at h3
  have := List.all_eq_true.1 h3 c hm
  exact h (of_decide_eq_true this)
end Go.Proofs.YtplfimoeggecjaaGreatDoor.Tk
namespace Go.Proofs.YtplfimoeggecjaaGreatDoor.Sx
open Go Go.RowKit Go.Lib Go.Proofs.YtplfimoeggecjaaGreatDoor.Dc Go.Proofs.YtplfimoeggecjaaGreatDoor.Pt Go.Proofs.YtplfimoeggecjaaGreatDoor.Tk

theorem ba_ext {a b : ByteArray} (h : a.data.toList = b.data.toList) : a = b := by
  cases a with
  | mk a => cases b with
    | mk b => exact congrArg ByteArray.mk (Array.toList_inj.1 h)
theorem ba_app (a b : ByteArray) : (a ++ b).data.toList = a.data.toList ++ b.data.toList := by simp
def keyBad (k : ByteArray) : Bool := decide (k.size = 0) || decide (64 < k.size)
def timeBad (n : Int) : Bool := decide (n < 0) || decide (1099511627776 < n)
def joinC (xs : List ByteArray) : ByteArray := ⟨(Lib.join (xs.map (·.data.toList)) [44]).toArray⟩
def decB (n : Nat) : ByteArray := ⟨(decDigits n).toArray⟩
def dotB : ByteArray := ⟨#[46]⟩
def stemB (u : User) (n : Nat) : ByteArray := u.name ++ dotB ++ joinC u.groups ++ dotB ++ decB n ++ dotB
def signB (key s : ByteArray) : ByteArray := ⟨(hex (mac key.data.toList s.data.toList)).toArray⟩
def issueE (key : ByteArray) (u : User) (n : Int) : Int := if keyBad key = true then 1 else if userI u ≠ 0 then userI u else if timeBad n = true then 1 else 0
def issueB (key : ByteArray) (u : User) (n : Int) : ByteArray := if issueE key u n = 0 then stemB u n.toNat ++ signB key (stemB u n.toNat) else ⟨#[]⟩

def pAt (t : ByteArray) (i : Nat) : ByteArray := (parts 46 t).getD i ⟨#[]⟩
def groupsOf (s : ByteArray) : List ByteArray := if s.size = 0 then [] else parts 44 s
def tokUser (t : ByteArray) : User := ⟨pAt t 0, groupsOf (pAt t 1)⟩
def tokHead (t : ByteArray) : ByteArray := t.extract 0 (t.size - 64)
def tokTime (t : ByteArray) : Int := timeI (pAt t 2).data.toList
def tokE (key t : ByteArray) (now : Int) : Int :=
  if (keyBad key || timeBad now) = true then 1
  else if (parts 46 t).length ≠ 4 ∨ (pAt t 3).size ≠ 64 then 16
  else if (unhex (pAt t 3).data.toList).isNone = true then 16
  else if signB key (tokHead t) ≠ pAt t 3 then 17
  else if tokTime t < 0 ∨ userI (tokUser t) ≠ 0 then 16
  else if tokTime t < now then 15 else 0

/-! ### the shape of a token -/
theorem parts_four {t : ByteArray} (h : (parts 46 t).length = 4) : (parts 46 t) = [pAt t 0, pAt t 1, pAt t 2, pAt t 3] := by
  unfold pAt
  match hp : parts 46 t, h with
  | [a, b, c, d], _ => rfl
theorem tok_shape {t : ByteArray} (h : (parts 46 t).length = 4) :
    t.data.toList = (pAt t 0).data.toList ++ 46 :: ((pAt t 1).data.toList ++ 46 :: ((pAt t 2).data.toList ++ 46 :: (pAt t 3).data.toList)) ∧ (46 : UInt8) ∉ (pAt t 2).data.toList := by
  have h1 := parts_segs 46 t.size t (Nat.le_refl _)
  rw [parts_four h] at h1
  simp only [List.map_cons, List.map_nil] at h1
  have h2 := glue_segs 46 t.data.toList
  rw [← h1] at h2
  refine ⟨h2.symm, segs_no 46 t.data.toList _ (by rw [← h1]; simp)⟩
theorem joinC_groups (s : ByteArray) : joinC (groupsOf s) = s := by
  apply ba_ext
  unfold joinC groupsOf
  split
  · next h =>
    have : s.data.toList = [] := List.length_eq_zero_iff.1 (by rw [← Lib.size_eq]; exact h)
    rw [this]
    rfl
  · have h1 := parts_segs 44 s.size s (Nat.le_refl _)
    show Lib.join ((parts 44 s).map (·.data.toList)) [44] = _
    rw [h1, segs_cons, ← glue_join, ← segs_cons, glue_segs]
theorem stem_list (u : User) (n : Nat) : (stemB u n).data.toList = u.name.data.toList ++ 46 :: ((joinC u.groups).data.toList ++ 46 :: (decDigits n ++ [46])) := by
  unfold stemB
  simp only [ba_app]
  simp [dotB, decB]
theorem head_list {t : ByteArray} (h : (parts 46 t).length = 4) (h3 : (pAt t 3).size = 64) :
    (tokHead t).data.toList = (pAt t 0).data.toList ++ 46 :: ((pAt t 1).data.toList ++ 46 :: ((pAt t 2).data.toList ++ [46])) := by
  have h1 := (tok_shape h).1
  have hz : t.size = ((pAt t 0).data.toList ++ 46 :: ((pAt t 1).data.toList ++ 46 :: ((pAt t 2).data.toList ++ [46]))).length + 64 := by
    have e := congrArg List.length h1
    have e3 : (pAt t 3).data.toList.length = 64 := by rw [← Lib.size_eq]; exact h3
    simp only [List.length_append, List.length_cons, List.length_nil, e3] at e ⊢
    have : t.data.toList.length = t.size := (Lib.size_eq t).symm
    omega
  have e : (tokHead t).data.toList = t.data.toList.take (t.size - 64) := by unfold tokHead; simp [List.extract_eq_take_drop]
  rw [e, h1, hz, Nat.add_sub_cancel]
  have e2 : (pAt t 0).data.toList ++ 46 :: ((pAt t 1).data.toList ++ 46 :: ((pAt t 2).data.toList ++ 46 :: (pAt t 3).data.toList)) = ((pAt t 0).data.toList ++ 46 :: ((pAt t 1).data.toList ++ 46 :: ((pAt t 2).data.toList ++ [46]))) ++ (pAt t 3).data.toList := by simp
  rw [e2, List.take_left]
/-- What is trimmed off its end is what stands behind the last dot. -/
theorem head_trim {t : ByteArray} (h : (parts 46 t).length = 4) (h3 : (pAt t 3).size = 64) : (⟨(trimSuffix t.data.toList (pAt t 3).data.toList).toArray⟩ : ByteArray) = tokHead t := by
  apply ba_ext
  have h1 := (tok_shape h).1
  have hh := head_list h h3
  have e2 : t.data.toList = (tokHead t).data.toList ++ (pAt t 3).data.toList := by rw [hh, h1]; simp
  show trimSuffix t.data.toList (pAt t 3).data.toList = _
  rw [e2]
  unfold trimSuffix hasSuffix
  rw [if_pos (List.isSuffixOf_iff_suffix.2 (List.suffix_append _ _)), List.length_append, Nat.add_sub_cancel, List.take_left]
theorem user_list {t : ByteArray} (n : Nat) : (stemB (tokUser t) n).data.toList = (pAt t 0).data.toList ++ 46 :: ((pAt t 1).data.toList ++ 46 :: (decDigits n ++ [46])) := by
  rw [stem_list]
  unfold tokUser
  simp only [joinC_groups]

/-- A good token, issued again, is the same. -/
theorem tok_good {key t : ByteArray} (hk : keyBad key = false) (h : (parts 46 t).length = 4) (h3 : (pAt t 3).size = 64) (hs : signB key (tokHead t) = pAt t 3) (h0 : 0 ≤ tokTime t) (hu : userI (tokUser t) = 0) :
    atoiAll (pAt t 2).data.toList = .ok (tokTime t) ∧ issueE key (tokUser t) (tokTime t) = 0 ∧ issueB key (tokUser t) (tokTime t) = t := by
  obtain ⟨u, h1, h2, h4⟩ := time_back (l := (pAt t 2).data.toList) (n := tokTime t) rfl h0
  have hE : issueE key (tokUser t) (tokTime t) = 0 := by
    unfold issueE timeBad
    rw [hk, hu]
    simp
    omega
  refine ⟨by rw [h1, h2]; exact atoi_dec h4, hE, ?_⟩
  unfold issueB
  rw [if_pos hE]
  have e1 : stemB (tokUser t) (tokTime t).toNat = tokHead t := by
    apply ba_ext
    rw [user_list, head_list h h3, h1, h2]
    simp
  rw [e1, hs]
  apply ba_ext
  rw [ba_app, head_list h h3, (tok_shape h).1]
  simp
/-- A bad one is not. -/
theorem tok_bad {key t : ByteArray} {v : Int} (h : (parts 46 t).length = 4) (hb : tokTime t < 0 ∨ userI (tokUser t) ≠ 0) (hE : issueE key (tokUser t) v = 0) :
    issueB key (tokUser t) v ≠ t := by
  intro e
  have hE' := hE
  unfold issueE at hE'
  split at hE'
  · cases hE'
  · split at hE'
    · next hu => exact hu hE'
    · next hu =>
      split at hE'
      · cases hE'
      · next ht =>
        have hu0 : userI (tokUser t) = 0 := Decidable.not_not.1 hu
        unfold timeBad at ht
        simp at ht
        unfold issueB at e
        rw [if_pos hE] at e
        have e2 := congrArg (fun b : ByteArray => b.data.toList) e
        simp only [ba_app] at e2
        rw [user_list, (tok_shape h).1] at e2
        simp only [List.append_assoc, List.cons_append, List.nil_append] at e2
        have e3 := List.append_cancel_left e2
        injection e3 with _ e3
        have e4 := List.append_cancel_left e3
        injection e4 with _ e4
        have e5 := (front_one (dec_no (by unfold isDig; decide)) (tok_shape h).2 e4).1
        have e6 : tokTime t = v := by
          unfold tokTime
          rw [← e5, time_dec (by omega)]
          omega
        rcases hb with hb | hb
        · omega
        · exact hb hu0
/-- Read by its signs and told again: the same test. -/
theorem sign_iff {key s l3 : ByteArray} {m : List UInt8} (h : unhex l3.data.toList = some m) : (m = mac key.data.toList s.data.toList) ↔ signB key s = l3 := by
  have hh := hex_unhex h
  constructor
  · rintro rfl
    apply ba_ext
    exact hh
  · intro e
    have e2 := congrArg (fun b : ByteArray => b.data.toList) e
    have e3 : hex (mac key.data.toList s.data.toList) = hex m := by rw [hh]; exact e2
    exact (hex_inj e3).symm
end Go.Proofs.YtplfimoeggecjaaGreatDoor.Sx
namespace Go.Proofs.YtplfimoeggecjaaGreatDoor.Sx
open Go Go.RowKit Go.Lib Go.Proofs.YtplfimoeggecjaaGreatDoor.Dc Go.Proofs.YtplfimoeggecjaaGreatDoor.Tk

theorem keyBad_none {s : ByteArray} (h : s.size = 0) : keyBad s = true := by unfold keyBad; simp [h]
theorem keyBad_long {s : ByteArray} (h : 64 < s.size) : keyBad s = true := by unfold keyBad; simp [h]
theorem keyBad_fine {s : ByteArray} (h : s.size ≠ 0) (h2 : ¬ 64 < s.size) : keyBad s = false := by unfold keyBad; simp [h]; omega
theorem timeBad_low {n : Int} (h : n < 0) : timeBad n = true := by unfold timeBad; simp [h]
theorem timeBad_high {n : Int} (h : 1099511627776 < n) : timeBad n = true := by unfold timeBad; simp [h]
theorem timeBad_fine {n : Int} (h : ¬ n < 0) (h2 : ¬ 1099511627776 < n) : timeBad n = false := by unfold timeBad; simp [h]; omega
theorem timeBad_out (n : Int) : timeBad n = outB n 0 1099511627776 := rfl

set_option maxRecDepth 100000 in
theorem isKey_any (s : ByteArray) (w : World) : Calls Tryz.prog 49 #[.string s] w fun e w' => e = .returned (.bool !keyBad s) ∧ w = w' := by
  by_cases h0 : s.size = 0
  · have e1 := isEmpty_of_zero h0
    rw [keyBad_none h0]
    clear h0
    go_enter Tryz.func49, Tryz.ntmps49
    go_wp2
    go_ret
    exact ⟨rfl, rfl⟩
  · have e1 := isEmpty_of_pos (s := s) (by omega)
    by_cases h1 : 64 < s.size
    · have t1 : decide ((s.size : Int) ≤ 64) = false := by simp; omega
      rw [keyBad_long h1]
      clear h0 h1
      go_enter Tryz.func49, Tryz.ntmps49
      go_wp2
      go_ret
      exact ⟨rfl, rfl⟩
    · have t1 : decide ((s.size : Int) ≤ 64) = true := by simp; omega
      rw [keyBad_fine h0 h1]
      clear h0 h1
      go_enter Tryz.func49, Tryz.ntmps49
      go_wp2
      go_ret
      exact ⟨rfl, rfl⟩
set_option maxRecDepth 100000 in
theorem isTime_any (n : Int) (w : World) : Calls Tryz.prog 50 #[.int .i64 n] w fun e w' => e = .returned (.bool !timeBad n) ∧ w = w' := by
  by_cases h0 : n < 0
  · have t0 : decide (0 ≤ n) = false := by simp; omega
    rw [timeBad_low h0]
    clear h0
    go_enter Tryz.func50, Tryz.ntmps50
    go_wp2
    go_ret
    exact ⟨rfl, rfl⟩
  · have t0 : decide (0 ≤ n) = true := by simp; omega
    by_cases h1 : 1099511627776 < n
    · have t1 : decide (n ≤ 1099511627776) = false := by simp; omega
      rw [timeBad_high h1]
      clear h0 h1
      go_enter Tryz.func50, Tryz.ntmps50
      go_wp2
      go_ret
      exact ⟨rfl, rfl⟩
    · have t1 : decide (n ≤ 1099511627776) = true := by simp; omega
      rw [timeBad_fine h0 h1]
      clear h0 h1
      go_enter Tryz.func50, Tryz.ntmps50
      go_wp2
      go_ret
      exact ⟨rfl, rfl⟩

/-- The two errors of strconv hold errors. -/
def Errs (w : World) : Prop := (∃ t p, w.var? Tryz.prog "strconv.ErrSyntax" = some #[.iface t p]) ∧ ∃ t p, w.var? Tryz.prog "strconv.ErrRange" = some #[.iface t p]
theorem Errs.ext {w w' : World} (h : Errs w) (hx : Ext w w') : Errs w' := by
  obtain ⟨⟨t, p, h1⟩, t2, p2, h2⟩ := h
  exact ⟨⟨t, p, Joins.var_stays (g := 0) (by kernel_rfl) h1 hx (Nat.le_refl _)⟩, t2, p2, Joins.var_stays (g := 1) (by kernel_rfl) h2 hx (Nat.le_refl _)⟩
/-- What Atoi answers. -/
def AtoiR (s : ByteArray) (v : Int) (er : Value) : Prop := (atoiAll s.data.toList = .ok v ∧ er = .nilIface) ∨ ((∀ x, atoiAll s.data.toList ≠ .ok x) ∧ ∃ t p, er = .iface t p)
theorem bytes_ext (w : World) (t : TypeId) (x : ByteArray) : Ext w (Lib.bytesWorld w t x) := Joins.below_bytesWorld _ _ _ _ (Nat.le_refl _)
theorem atoi_any (s : ByteArray) (w : World) (hs : s.size ≤ 1048576) (hE : Errs w) :
    Calls Tryz.prog 42 #[.string s] w fun e w' => ∃ v er, e = .returned (.tuple #[.int .i64 v, er]) ∧ AtoiR s v er ∧ Ext w w' := by
  obtain ⟨⟨t, p, h1⟩, t2, p2, h2⟩ := hE
  cases ha : atoiAll s.data.toList
  · rename_i v
    refine (Tryz.strconv_Atoi_ok s (by omega) v ha w).mono fun e w' ⟨he, hw⟩ => ⟨v, _, he, .inl ⟨ha, rfl⟩, ?_⟩
    rcases hw with rfl | ⟨t, rfl⟩
    · exact Below.refl _ _
    · exact bytes_ext _ _ _
  · exact (Any.strconv_Atoi_syntax_var Tryz.laysC172 s (by omega) ha t p w h1).mono fun e w' ⟨N, he, _, _, hb⟩ => ⟨0, _, he, .inr ⟨fun x h => (by rw [ha] at h; cases h), _, _, rfl⟩, hb⟩
  · exact (Any.strconv_Atoi_range_var Tryz.laysC172 s (by omega) ha t2 p2 w h2).mono fun e w' ⟨N, he, _, _, hb⟩ => ⟨_, _, he, .inr ⟨fun x h => (by rw [ha] at h; cases h), _, _, rfl⟩, hb⟩

theorem strsSmall' {B : Nat} {w : World} {v : Value} {xs : List ByteArray} (h : StrsAt B w v xs) : ∀ x ∈ xs, x.size ≤ 1048576 := fun x hx => by
  obtain ⟨_, _, _, _, _, _, hi⟩ := h
  obtain ⟨i, hl, rfl⟩ := List.mem_iff_getElem.1 hx
  obtain ⟨_, _, _, _, _, _, ⟨_, hs⟩, _⟩ := hi i hl
  exact hs
def sumS (xs : List ByteArray) : Nat := (xs.map ByteArray.size).sum
theorem sumS_le {xs : List ByteArray} {n : Nat} (h : ∀ x ∈ xs, x.size ≤ n) : sumS xs ≤ xs.length * n := by
  unfold sumS
  induction xs with
  | nil => simp
  | cons x r ih =>
    have h1 := ih fun y hy => h y (List.mem_cons_of_mem _ hy)
    have h2 := h x List.mem_cons_self
    rw [List.map_cons, List.sum_cons, List.length_cons, Nat.succ_mul]
    omega
theorem joinC_len (xs : List ByteArray) : (Lib.join (xs.map (·.data.toList)) [44]).length ≤ sumS xs + xs.length := by
  unfold sumS
  induction xs with
  | nil => simp [Lib.join_nil]
  | cons x r ih =>
    cases r with
    | nil => simp [Lib.join_one]
    | cons y r =>
      rw [List.map_cons, List.map_cons, ← glue_join, glue_cons _ _ (by simp), glue_join]
      rw [List.map_cons] at ih
      simp only [List.map_cons, List.sum_cons, List.length_cons, List.length_append, ← Lib.size_eq] at ih ⊢
      omega
theorem joinC_size (xs : List ByteArray) : (joinC xs).size ≤ sumS xs + xs.length := by
  have := joinC_len xs
  rw [Lib.size_eq]
  exact this
/-- strings.Join of what came in, or of what Split gave, with a comma. -/
theorem joinC_any {B : Nat} {w : World} {v : Value} {xs : List ByteArray} (h : StrsAt B w v xs) (hB : B ≤ w.heap.size) :
    Calls Tryz.prog 33 #[v, .string ⟨#[44]⟩] w fun e w' => e = .returned (.string (joinC xs)) ∧ Ext w w' := by
  have hz : sumS xs + xs.length ≤ 140737488355328 := by
    have h1 := sumS_le (strsSmall' h)
    have h2 := h.1
    have h3 := Nat.mul_le_mul_right 1048576 h2
    omega
  obtain ⟨hn, A, c, rfl, hc, _, hi⟩ := h
  by_cases h0 : 0 < xs.length
  · obtain ⟨b, off, cs, rfl, hlt, _⟩ := hi 0 h0
    refine Tryz.strings_Join b off c xs ⟨#[44]⟩ w ?_ (by omega) (by omega) hc (Nat.le_trans (joinC_len xs) hz)
    intro j x hj
    obtain ⟨hl, rfl⟩ := List.getElem?_eq_some_iff.1 hj
    obtain ⟨b', off', cs', e, _, _, ⟨rfl, _⟩, hcell⟩ := hi j hl
    injection e with e
    injection e with e1 e2 e3
    subst e1 e2
    simpa using hcell 0 _ rfl
  · have hn0 : xs = [] := List.length_eq_zero_iff.1 (by omega)
    subst hn0
    refine (Tryz.strings_Join_none A c ⟨#[44]⟩ w).mono fun e w' ⟨he, hw⟩ => ⟨he, ?_⟩
    rw [hw]
    exact Below.refl _ _
end Go.Proofs.YtplfimoeggecjaaGreatDoor.Sx
namespace Go.Proofs.YtplfimoeggecjaaGreatDoor.Sx
open Go Go.RowKit Go.Lib Go.Proofs.YtplfimoeggecjaaGreatDoor.Dc Go.Proofs.YtplfimoeggecjaaGreatDoor.Tk

theorem valD_lt {l : List UInt8} (h : allDig l = true) : valD l < 10 ^ l.length := by
  have H : ∀ (n : Nat) (l : List UInt8), l.length = n → allDig l = true → valD l < 10 ^ n := by
    intro n
    induction n with
    | zero => intro l hl _; rw [List.length_eq_zero_iff.1 hl]; decide
    | succ n ih =>
      intro l hl hd
      rcases List.eq_nil_or_concat l with rfl | ⟨r, c, rfl⟩
      · simp at hl
      · rw [List.concat_eq_append] at *
        rw [allDig_snoc, Bool.and_eq_true] at hd
        have hc : isDig c := of_decide_eq_true hd.2
        have := ih r (by simpa using hl) hd.1
        have h2 := hc.2
        rw [valD_snoc, Nat.pow_succ]
        omega
  exact H _ l rfl h
theorem valD_small {l : List UInt8} (h : allDig l = true) (hl : l.length ≤ 12) : valD l < 1000000000000 := by
  have h1 := valD_lt h
  have h2 : 10 ^ l.length ≤ 10 ^ 12 := Nat.pow_le_pow_right (by omega) hl
  omega
theorem time_none {l : List UInt8} (h : l.length = 0) : timeI l = -1 := by unfold timeI; rw [if_pos (.inl (List.length_eq_zero_iff.1 h))]
theorem time_long {l : List UInt8} (h : 13 < l.length) : timeI l = -1 := by unfold timeI; rw [if_pos (.inr h)]
theorem time_nought {l : List UInt8} (h : l.head? = some 48) (h2 : l ≠ [48]) : timeI l = -1 := by
  unfold timeI
  split
  · rfl
  · rw [if_pos ⟨h, h2⟩]
theorem time_no {l : List UInt8} (h : allDig l = false) : timeI l = -1 := by
  unfold timeI
  split
  · rfl
  · split
    · rfl
    · first | rfl | rw [if_pos h]
theorem time_big {l : List UInt8} (h : 1099511627776 < valD l) : timeI l = -1 := by
  unfold timeI
  split
  · rfl
  · split
    · rfl
    · split
      · rfl
      · first | rfl | rw [if_pos h]
theorem time_fine {l : List UInt8} (h0 : l.length ≠ 0) (h1 : ¬ 13 < l.length) (h2 : ¬ (l.head? = some 48 ∧ l ≠ [48])) (h3 : allDig l = true) (h4 : ¬ 1099511627776 < valD l) : timeI l = (valD l : Int) := by
  unfold timeI
  rw [if_neg (by rintro (h | h); (· exact h0 (by rw [h]; rfl)); (· exact h1 h)), if_neg h2, if_neg (by simp [h3]), if_neg h4]
theorem dig_not {l : List UInt8} {k : Nat} (hk : k < l.length) (h : ¬ isDig l[k]) : allDig l = false := by
  cases ha : allDig l with
  | false => rfl
  | true =>
    unfold allDig at ha
    have := List.all_eq_true.1 ha l[k] (List.getElem_mem hk)
    exact absurd (of_decide_eq_true this) h
theorem take_dig {l : List UInt8} {k : Nat} (hk : k < l.length) (h : allDig (l.take k) = true) (hd : isDig l[k]) : allDig (l.take (k + 1)) = true ∧ valD (l.take (k + 1)) = 10 * valD (l.take k) + (l[k].toNat - 48) := by
  rw [List.take_succ_eq_append_getElem hk]
  refine ⟨by rw [allDig_snoc, h]; simp [hd], valD_snoc _ _⟩

theorem dig_not2 {s : ByteArray} {k : Nat} (hk : k < s.size) {c : UInt8} (hc : c = s[k]) (h : ¬ isDig c) : allDig s.data.toList = false := by
  subst hc
  exact dig_not (l := s.data.toList) (k := k) (by rw [← Lib.size_eq]; exact hk) h
theorem take_dig2 {s : ByteArray} {k : Nat} (hk : k < s.size) {c : UInt8} (hc : c = s[k]) (h : allDig (s.data.toList.take k) = true) (hd : isDig c) : allDig (s.data.toList.take (k + 1)) = true ∧ valD (s.data.toList.take (k + 1)) = 10 * valD (s.data.toList.take k) + (c.toNat - 48) := by
  subst hc
  exact take_dig (l := s.data.toList) (k := k) (by rw [← Lib.size_eq]; exact hk) h hd
theorem toList_data (s : ByteArray) : s.toList = s.data.toList := by
  have h := Lib.extract_toList s 0 s.size
  have e : s.extract 0 s.size = s := by apply ba_ext; rw [Lib.extract_to_end]; rfl
  rw [e] at h
  rw [h, List.drop_zero, Nat.sub_zero, List.take_of_length_le (by rw [← Lib.size_eq]; exact Nat.le_refl _)]
/-- A byte of a text, by a letter. -/
theorem idx_at {s : ByteArray} {k : Nat} (h : k < s.size) {c : UInt8} (hc : c = s[k]) (W : World) : (Instr.index 9 (.string s) (.int .i64 (k : Int))).run Tryz.prog W = .ok (.int .u8 (c.toNat : Int)) W := by
  rw [run_index_string W _ _ _ _ Tryz.underlying9]
  subst hc
  simp [h]
theorem head_at {s : ByteArray} (h : 0 < s.size) : s.data.toList.head? = some s[0] := by
  have hl : 0 < s.data.toList.length := by rw [← Lib.size_eq]; exact h
  rw [List.head?_eq_getElem?, List.getElem?_eq_getElem hl]
  rfl

set_option maxRecDepth 100000 in
set_option maxHeartbeats 4000000 in
theorem rtime_any (s : ByteArray) (w : World) (hs : s.size ≤ 1048576) :
    Calls Tryz.prog 43 #[.string s] w fun e w' => e = .returned (.int .i64 (timeI s.data.toList)) ∧ w = w' := by
  have hsl : s.data.toList.length = s.size := (Lib.size_eq s).symm
  by_cases h0 : s.size = 0
  · have e1 := isEmpty_of_zero h0
    have HE := Lib.hid (time_none (l := s.data.toList) (by omega))
    clear hsl h0
    go_enter Tryz.func43, Tryz.ntmps43
    go_wp2
    go_ret
    exact ⟨ret_int HE.out.symm, rfl⟩
  · have e1 := isEmpty_of_pos (s := s) (by omega)
    by_cases h13 : 13 < s.size
    · have t1 : decide ((13 : Int) < (s.size : Int)) = true := decide_eq_true (by omega)
      have HE := Lib.hid (time_long (l := s.data.toList) (by omega))
      clear hsl h0 h13
      go_enter Tryz.func43, Tryz.ntmps43
      go_wp2
      go_ret
      exact ⟨ret_int HE.out.symm, rfl⟩
    · have t1 : decide ((13 : Int) < (s.size : Int)) = false := decide_eq_false (by omega)
      have hp : 0 < s.size := by omega
      have hh := head_at hp
      have hgo : ((((s[0].toNat : Int) == 48) = true ∧ (s.toList == [48]) = false) ∧ timeI s.data.toList = -1) ∨
          ((((s[0].toNat : Int) == 48) = true ∧ (s.toList == [48]) = true) ∨ ((s[0].toNat : Int) == 48) = false) ∧ ¬ (s.data.toList.head? = some 48 ∧ s.data.toList ≠ [48]) := by
        rw [hh, toList_data]
        by_cases a : s[0] = 48
        · rw [a]
          by_cases b : s.data.toList = [48]
          · exact .inr ⟨.inl ⟨rfl, by rw [b]; rfl⟩, fun h => h.2 b⟩
          · exact .inl ⟨⟨rfl, by simpa using b⟩, time_nought (by rw [hh, a]) b⟩
        · have a2 : s[0].toNat ≠ 48 := fun e => a (UInt8.toNat_inj.1 e)
          exact .inr ⟨.inr (by simp; omega), fun h => a (Option.some.inj h.1)⟩
      rcases hgo with ⟨⟨g1, g2⟩, hE⟩ | ⟨hgo, hno⟩
      · have HE := Lib.hid hE
        clear hsl h0 h13 hh hE
        go_enter Tryz.func43, Tryz.ntmps43
        go_wp2
        go_ret
        exact ⟨ret_int HE.out.symm, rfl⟩
      · have HL := Lib.hid hsl
        have HNO := Lib.hid hno
        clear hh hno hsl
        rcases hgo with ⟨g1, g2⟩ | g1
        all_goals
          go_enter Tryz.func43, Tryz.ntmps43
          go_wp2_with fail
          go_loop [3, 4, 23] (fun n i k => ∃ j : Nat, j ≤ s.size ∧ k = .int .i64 (j : Int) ∧ n = .int .i64 (valD (s.data.toList.take j) : Int) ∧ Hid (allDig (s.data.toList.take j) = true)) (fun _ _ k => s.size - (intOf k).toNat)
          case atStart => exact ⟨0, Nat.zero_le _, rfl, rfl, rfl⟩
          case round =>
            obtain ⟨j, hj, rfl, rfl, hD⟩ := hrel
            by_cases hlt : j < s.size
            · have HLT := Lib.hid hlt
              have tk : decide (j < s.size) = true := decide_eq_true hlt
              have hsm : valD (s.data.toList.take j) < 1000000000000 := valD_small hD.out (by rw [List.length_take]; omega)
              obtain ⟨c, hc⟩ : ∃ c, c = s[j] := ⟨_, rfl⟩
              have hidx := idx_at hlt hc
              by_cases hd : isDig c
              · obtain ⟨d1, d2⟩ := take_dig2 hlt hc hD.out hd
                have q1 : decide ((c.toNat : Int) < 48) = false := decide_eq_false (by have := hd.1; omega)
                have q2 : decide ((57 : Int) < (c.toNat : Int)) = false := decide_eq_false (by have := hd.2; omega)
                have q3 : (48 : Int) ≤ (c.toNat : Int) := by have := hd.1; omega
                have q4 : (c.toNat : Int) ≤ 57 := by have := hd.2; omega
                have HD1 := Lib.hid d1
                have HD2 := Lib.hid d2
                have HDG := Lib.hid hd
                obtain ⟨V, hV⟩ : ∃ V, V = valD (s.data.toList.take j) := ⟨_, rfl⟩
                rw [← hV] at hsm HD2
                rw [← hV]
                have hsm2 : (V : Int) < 1000000000000 := by omega
                have q5 : (0 : Int) ≤ (V : Int) := by omega
                clear d1 d2 hd hV hsm hc hlt
                go_wp2_with fail
                have hlt := HLT.out
                go_round
                case rel => exact ⟨j + 1, hlt, by go_num, congrArg (Value.int .i64) (by rw [HD2.out]; have h1 := HDG.out.1; omega), HD1.out⟩
                case measure => simp [intOf]; omega
              · have HE := Lib.hid (time_no (dig_not2 hlt hc hd))
                have hw : (decide ((c.toNat : Int) < 48) = true) ∨ (decide ((c.toNat : Int) < 48) = false ∧ decide ((57 : Int) < (c.toNat : Int)) = true) := by
                  rcases Nat.lt_or_ge c.toNat 48 with h | h
                  · exact .inl (decide_eq_true (by omega))
                  · refine .inr ⟨decide_eq_false (by omega), decide_eq_true ?_⟩
                    have : ¬ c.toNat ≤ 57 := fun h2 => hd ⟨h, h2⟩
                    omega
                clear hd hc hlt hsm
                rcases hw with q1 | ⟨q1, q2⟩
                all_goals
                  go_wp2_with fail
                  go_ret
                  exact ⟨ret_int HE.out.symm, rfl⟩
            · obtain rfl : j = s.size := by omega
              have tk : decide (s.size < s.size) = false := by simp
              rw [List.take_of_length_le (by rw [HL.out]; exact Nat.le_refl _)] at hD ⊢
              by_cases hb : 1099511627776 < valD s.data.toList
              · have HE := Lib.hid (time_big hb)
                have t2 : decide ((1099511627776 : Int) < (valD s.data.toList : Int)) = true := decide_eq_true (by omega)
                clear hb
                go_wp2_with fail
                go_ret
                exact ⟨ret_int HE.out.symm, rfl⟩
              · have HE := Lib.hid (time_fine (by rw [HL.out]; exact h0) (by rw [HL.out]; exact h13) HNO.out hD.out hb)
                have t2 : decide ((1099511627776 : Int) < (valD s.data.toList : Int)) = false := decide_eq_false (by omega)
                clear hb
                go_wp2_with fail
                go_ret
                exact ⟨ret_int HE.out.symm, rfl⟩
end Go.Proofs.YtplfimoeggecjaaGreatDoor.Sx
