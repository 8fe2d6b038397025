/-
  SHA-256 in plain words: the block's rounds, padding, tables; numbers of 16-bit pieces (the reference's way to the tables); two signs for a byte. No program in sight.
-/
import Derived.WalkKit
namespace Go.Proofs.YtplfimoeggecjaaGreatDoor.Sx

abbrev W32 := BitVec 32
def rotr (x : W32) (n : Nat) : W32 := x >>> n ||| x <<< (32 - n)
/-! ### SHA-256's plain words -/
def ssig0 (x : W32) : W32 := rotr x 7 ^^^ rotr x 18 ^^^ x >>> 3
def ssig1 (x : W32) : W32 := rotr x 17 ^^^ rotr x 19 ^^^ x >>> 10
def bsig1 (x : W32) : W32 := rotr x 6 ^^^ rotr x 11 ^^^ rotr x 25
def bsig0 (x : W32) : W32 := rotr x 2 ^^^ rotr x 13 ^^^ rotr x 22
def chP (e f g : W32) : W32 := e &&& f ^^^ ~~~e &&& g
def chR (e f g : W32) : W32 := e &&& f ||| ~~~e &&& g
def majP (a b c : W32) : W32 := a &&& b ^^^ a &&& c ^^^ b &&& c
def majR (a b c : W32) : W32 := a &&& b ||| a &&& c ||| b &&& c
theorem ch_same (e f g : W32) : chR e f g = chP e f g := by
  unfold chR chP
  ext i hi
  simp only [BitVec.getElem_or, BitVec.getElem_xor, BitVec.getElem_and, BitVec.getElem_not]
  cases e[i] <;> cases f[i] <;> cases g[i] <;> rfl
theorem maj_same (a b c : W32) : majR a b c = majP a b c := by
  unfold majR majP
  ext i hi
  simp only [BitVec.getElem_or, BitVec.getElem_xor, BitVec.getElem_and]
  cases a[i] <;> cases b[i] <;> cases c[i] <;> rfl

/-- The message's words: 16 are given, 48 made of them. -/
def wd (B : Nat → W32) (t : Nat) : W32 :=
  if _h : t < 16 then B t else wd B (t - 16) + ssig0 (wd B (t - 15)) + wd B (t - 7) + ssig1 (wd B (t - 2))
termination_by t
theorem wd_low (B : Nat → W32) {t : Nat} (h : t < 16) : wd B t = B t := by rw [wd, dif_pos h]
theorem wd_high (B : Nat → W32) {t : Nat} (h : 16 ≤ t) : wd B t = wd B (t - 16) + ssig0 (wd B (t - 15)) + wd B (t - 7) + ssig1 (wd B (t - 2)) := by rw [wd, dif_neg (by omega)]

/-- Eight words. -/
structure St where
  a : W32
  b : W32
  c : W32
  d : W32
  e : W32
  f : W32
  g : W32
  h : W32
def St.t1 (s : St) (k w : W32) : W32 := s.h + bsig1 s.e + chP s.e s.f s.g + k + w
def St.t2 (s : St) : W32 := bsig0 s.a + majP s.a s.b s.c
def St.rnd (s : St) (k w : W32) : St := ⟨s.t1 k w + s.t2, s.a, s.b, s.c, s.d + s.t1 k w, s.e, s.f, s.g⟩
def St.add (s t : St) : St := ⟨s.a + t.a, s.b + t.b, s.c + t.c, s.d + t.d, s.e + t.e, s.f + t.f, s.g + t.g, s.h + t.h⟩
def rnds (K B : Nat → W32) (s : St) : Nat → St
  | 0 => s
  | n + 1 => (rnds K B s n).rnd (K n) (wd B n)
def blk (K : Nat → W32) (s : St) (B : Nat → W32) : St := s.add (rnds K B s 64)
/-! ### Numbers of 16-bit pieces -/
def val (f : Nat → Nat) : Nat → Nat
  | 0 => 0
  | n + 1 => val f n + f n * 65536 ^ n
def upd (f : Nat → Nat) (j x : Nat) : Nat → Nat := fun i => if i = j then x else f i
theorem val_congr {f g : Nat → Nat} : ∀ {n : Nat}, (∀ i, i < n → f i = g i) → val f n = val g n
  | 0, _ => rfl
  | n + 1, h => by simp only [val]; rw [val_congr (fun i hi => h i (by omega)), h n (by omega)]
theorem val_upd_ge {f : Nat → Nat} {j x n : Nat} (h : n ≤ j) : val (upd f j x) n = val f n :=
  val_congr fun i hi => by simp [upd, show i ≠ j from by omega]
theorem val_upd {f : Nat → Nat} {j x : Nat} : ∀ {n : Nat}, j < n → val (upd f j x) n + f j * 65536 ^ j = val f n + x * 65536 ^ j
  | 0, h => by omega
  | n + 1, h => by
    simp only [val]
    rcases Nat.lt_or_ge j n with h1 | h1
    · have := val_upd (f := f) (x := x) h1
      have e : upd f j x n = f n := by simp [upd, show n ≠ j from by omega]
      rw [e]; omega
    · obtain rfl : j = n := by omega
      rw [val_upd_ge (Nat.le_refl _)]
      have e : upd f j x j = x := by simp [upd]
      rw [e]; omega
theorem val_zero {f : Nat → Nat} : ∀ {n : Nat}, (∀ i, i < n → f i = 0) → val f n = 0
  | 0, _ => rfl
  | n + 1, h => by simp only [val]; rw [val_zero (fun i hi => h i (by omega)), h n (by omega)]; simp
theorem val_lt {f : Nat → Nat} : ∀ {n : Nat}, (∀ i, i < n → f i < 65536) → val f n < 65536 ^ n
  | 0, _ => by simp [val]
  | n + 1, h => by
    simp only [val]
    have h1 := val_lt (n := n) (fun i hi => h i (by omega))
    have h2 := h n (by omega)
    have h3 : f n * 65536 ^ n ≤ 65535 * 65536 ^ n := Nat.mul_le_mul_right _ (by omega)
    rw [Nat.pow_succ]; omega
theorem val_mono {f : Nat → Nat} {m : Nat} : ∀ {n : Nat}, m ≤ n → val f m ≤ val f n
  | 0, h => by obtain rfl : m = 0 := by omega
               exact Nat.le_refl _
  | n + 1, h => by
    rcases Nat.lt_or_ge m (n + 1) with h1 | h1
    · have := val_mono (f := f) (m := m) (n := n) (by omega)
      simp only [val]; omega
    · obtain rfl : m = n + 1 := by omega
      exact Nat.le_refl _
theorem piece_le {f : Nat → Nat} {i n : Nat} (h : i < n) : f i * 65536 ^ i ≤ val f n := by
  have := val_mono (f := f) (m := i + 1) (n := n) (by omega)
  simp only [val] at this; omega
theorem piece_zero {f : Nat → Nat} {i j n : Nat} (h : val f n < 65536 ^ j) (hj : j ≤ i) (hi : i < n) : f i = 0 := by
  rcases Nat.eq_zero_or_pos (f i) with h0 | h0
  · exact h0
  · have h1 := piece_le (f := f) hi
    have h2 : 65536 ^ j ≤ 65536 ^ i := Nat.pow_le_pow_right (by omega) hj
    have h3 : 1 * 65536 ^ i ≤ f i * 65536 ^ i := Nat.mul_le_mul_right _ h0
    omega
/-- The higher pieces are the same: the first that differs decides. -/
theorem val_gt {f g : Nat → Nat} {n : Nat} : ∀ {i : Nat}, i < n → (∀ j, i < j → j < n → f j = g j) → (∀ j, j < n → g j < 65536) → g i < f i → val g n < val f n := by
  intro i hi heq hg hlt
  have h1 : val g (i + 1) < val f (i + 1) := by
    simp only [val]
    have a := val_lt (f := g) (n := i) (fun j hj => hg j (by omega))
    have b : (g i + 1) * 65536 ^ i ≤ f i * 65536 ^ i := Nat.mul_le_mul_right _ hlt
    rw [Nat.add_mul] at b
    omega
  have h2 : ∀ k, i + 1 + k ≤ n → val g (i + 1 + k) < val f (i + 1 + k) := by
    intro k
    induction k with
    | zero => intro _; exact h1
    | succ k ih =>
      intro hk
      have := ih (by omega)
      show val g (i + 1 + k + 1) < val f (i + 1 + k + 1)
      simp only [val]
      rw [heq (i + 1 + k) (by omega) (by omega)]; omega
  have := h2 (n - (i + 1)) (by omega)
  rwa [show i + 1 + (n - (i + 1)) = n from by omega] at this

/-- Carrying, after i steps. -/
def car (f : Nat → Nat) : Nat → Nat → Nat
  | 0 => f
  | i + 1 => upd (upd (car f i) (i + 1) (car f i (i + 1) + car f i i / 65536)) i (car f i i % 65536)
theorem car_far {f : Nat → Nat} : ∀ {i j : Nat}, i < j → car f i j = f j
  | 0, _, _ => rfl
  | i + 1, j, h => by simp [car, upd, show j ≠ i from by omega, show j ≠ i + 1 from by omega, car_far (f := f) (show i < j by omega)]
theorem car_low {f : Nat → Nat} : ∀ {i j : Nat}, j < i → car f i j < 65536
  | 0, _, h => by omega
  | i + 1, j, h => by
    rcases Nat.lt_or_ge j i with h1 | h1
    · simp [car, upd, show j ≠ i from by omega, show j ≠ i + 1 from by omega, car_low (f := f) h1]
    · obtain rfl : j = i := by omega
      simp [car, upd]; omega
theorem car_at {f : Nat → Nat} {M : Nat} (hM : ∀ j, f j ≤ M) (h : 1 ≤ M) : ∀ i, car f i i ≤ M + M
  | 0 => by have := hM 0; simp [car]; omega
  | i + 1 => by
    have := car_at hM h i
    have h2 := hM (i + 1)
    have h3 : car f i (i + 1) = f (i + 1) := car_far (by omega)
    simp [car, upd, h3]
    omega
theorem car_le {f : Nat → Nat} {M : Nat} (hM : ∀ j, f j ≤ M) (h : 65535 ≤ M) (i j : Nat) : car f i j ≤ M + M := by
  rcases Nat.lt_trichotomy j i with h1 | h1 | h1
  · have := car_low (f := f) h1; omega
  · subst h1; exact car_at hM (by omega) _
  · rw [car_far h1]; have := hM j; omega
theorem car_val {f : Nat → Nat} {n : Nat} : ∀ {i : Nat}, i < n → val (car f i) n = val f n
  | 0, _ => rfl
  | i + 1, h => by
    have h0 := car_val (f := f) (i := i) (n := n) (by omega)
    have h1 := val_upd (f := car f i) (j := i + 1) (x := car f i (i + 1) + car f i i / 65536) (n := n) h
    have h2 := val_upd (f := upd (car f i) (i + 1) (car f i (i + 1) + car f i i / 65536)) (j := i) (x := car f i i % 65536) (n := n) (by omega)
    have e : upd (car f i) (i + 1) (car f i (i + 1) + car f i i / 65536) i = car f i i := by simp [upd]
    rw [e] at h2
    have h3 : car f i i = 65536 * (car f i i / 65536) + car f i i % 65536 := (Nat.div_add_mod _ _).symm
    have h4 : car f i i * 65536 ^ i = car f i i / 65536 * 65536 ^ (i + 1) + car f i i % 65536 * 65536 ^ i := by
      conv => lhs; rw [h3]
      rw [Nat.add_mul, Nat.pow_succ]
      congr 1
      rw [Nat.mul_comm 65536, Nat.mul_assoc, Nat.mul_comm 65536]
    have h5 : (car f i (i + 1) + car f i i / 65536) * 65536 ^ (i + 1) = car f i (i + 1) * 65536 ^ (i + 1) + car f i i / 65536 * 65536 ^ (i + 1) := Nat.add_mul _ _ _
    show val (upd (upd (car f i) (i + 1) (car f i (i + 1) + car f i i / 65536)) i (car f i i % 65536)) n = _
    omega

/-- One piece of a times the lowest k pieces of b, added where it belongs (N pieces in all). -/
def row (N : Nat) (a : Nat → Nat) (b i : Nat) (o : Nat → Nat) : Nat → Nat → Nat
  | 0 => o
  | k + 1 => if i + k < N then upd (row N a b i o k) (i + k) (row N a b i o k (i + k) + a i * (b / 65536 ^ k % 65536)) else row N a b i o k
def acc (N : Nat) (a : Nat → Nat) (b : Nat) : Nat → Nat → Nat
  | 0 => fun _ => 0
  | i + 1 => row N a b i (acc N a b i) 3
theorem piece_mul {x b k : Nat} (hx : x < 65536) : x * (b / 65536 ^ k % 65536) ≤ 4294836225 := by
  have h : b / 65536 ^ k % 65536 < 65536 := Nat.mod_lt _ (by omega)
  generalize b / 65536 ^ k % 65536 = z at *
  have : x * z ≤ 65535 * 65535 := Nat.mul_le_mul (by omega) (by omega)
  omega
theorem row_le {N : Nat} {a : Nat → Nat} {b i X : Nat} {o : Nat → Nat} (ha : a i < 65536) (ho : ∀ j, o j ≤ X) : ∀ k j, row N a b i o k j ≤ X + k * 4294836225
  | 0, j => by have := ho j; simp [row]; omega
  | k + 1, j => by
    have h1 := row_le (N := N) (b := b) ha ho k
    have h2 := piece_mul (b := b) (k := k) ha
    unfold row
    by_cases hc : i + k < N
    · rw [if_pos hc]
      unfold upd
      by_cases hj : j = i + k
      · rw [if_pos hj]
        have := h1 (i + k)
        omega
      · rw [if_neg hj]
        exact Nat.le_trans (h1 j) (Nat.add_le_add_left (Nat.mul_le_mul_right _ (Nat.le_succ k)) _)
    · rw [if_neg hc]
      exact Nat.le_trans (h1 j) (Nat.add_le_add_left (Nat.mul_le_mul_right _ (Nat.le_succ k)) _)
theorem acc_le {N : Nat} {a : Nat → Nat} {b : Nat} (ha : ∀ i, i < N → a i < 65536) : ∀ i, i ≤ N → ∀ j, acc N a b i j ≤ i * 12884508675
  | 0, _, j => by simp [acc]
  | i + 1, h, j => by
    have := row_le (N := N) (b := b) (ha i (by omega)) (acc_le (b := b) ha i (by omega)) 3 j
    show row N a b i (acc N a b i) 3 j ≤ _
    omega
theorem mod_pow_succ (b k : Nat) : b % 65536 ^ (k + 1) = b % 65536 ^ k + b / 65536 ^ k % 65536 * 65536 ^ k := by
  rw [Nat.pow_succ, Nat.mod_mul, Nat.mul_comm (65536 ^ k)]
theorem row_alg (x y z p q : Nat) : x * (y + z * p) * q = x * y * q + x * z * (q * p) := by
  rw [Nat.mul_add, Nat.add_mul]
  congr 1
  rw [← Nat.mul_assoc, Nat.mul_assoc, Nat.mul_comm p]
theorem row_val {N : Nat} {a : Nat → Nat} {b i : Nat} {o : Nat → Nat} (h : i + 2 < N ∨ a i = 0) : ∀ k, k ≤ 3 → val (row N a b i o k) N = val o N + a i * (b % 65536 ^ k) * 65536 ^ i
  | 0, _ => by
    rw [Nat.pow_zero, Nat.mod_one]
    simp [row]
  | k + 1, hk => by
    have h1 := row_val (b := b) (o := o) h k (by omega)
    have e : a i * (b % 65536 ^ (k + 1)) * 65536 ^ i = a i * (b % 65536 ^ k) * 65536 ^ i + a i * (b / 65536 ^ k % 65536) * 65536 ^ (i + k) := by
      rw [mod_pow_succ, row_alg, Nat.pow_add]
    rw [e]
    unfold row
    by_cases hlt : i + k < N
    · rw [if_pos hlt]
      have h2 := val_upd (f := row N a b i o k) (x := row N a b i o k (i + k) + a i * (b / 65536 ^ k % 65536)) (n := N) hlt
      rw [Nat.add_mul] at h2
      omega
    · rw [if_neg hlt]
      rcases h with h | h
      · omega
      · rw [h] at h1 ⊢
        rw [h1]
        simp
theorem acc_val {N : Nat} {a : Nat → Nat} {b : Nat} (hb : b < 65536 ^ 3) (h : ∀ i, i < N → N ≤ i + 2 → a i = 0) : ∀ i, i ≤ N → val (acc N a b i) N = val a i * b
  | 0, _ => by
    simp only [val, Nat.zero_mul]
    exact val_zero fun _ _ => rfl
  | i + 1, hi => by
    have h1 := acc_val (b := b) hb h i (by omega)
    have h2 := row_val (N := N) (a := a) (b := b) (i := i) (o := acc N a b i) (by
      rcases Nat.lt_or_ge (i + 2) N with h3 | h3
      · exact .inl h3
      · exact .inr (h i (by omega) h3)) 3 (Nat.le_refl _)
    show val (row N a b i (acc N a b i) 3) N = _
    rw [h2, h1, Nat.mod_eq_of_lt hb]
    simp only [val]
    rw [Nat.add_mul, Nat.mul_assoc (a i), Nat.mul_assoc (a i), Nat.mul_comm b]
/-- What 'times' leaves. -/
def tms (N : Nat) (a : Nat → Nat) (b : Nat) : Nat → Nat := car (acc N a b N) (N - 1)
theorem tms_val {N : Nat} {a : Nat → Nat} {b : Nat} (hN : 2 ≤ N) (hb : b < 65536 ^ 3) (ha : val a N < 65536 ^ (N - 2)) : val (tms N a b) N = val a N * b := by
  unfold tms
  rw [car_val (by omega), acc_val hb (fun i hi h => piece_zero ha (by omega) hi) N (Nat.le_refl _)]
theorem tms_lt {N : Nat} {a : Nat → Nat} {b : Nat} (h : val (tms N a b) N < 65536 ^ (N - 1)) (i : Nat) (hi : i < N) : tms N a b i < 65536 := by
  rcases Nat.lt_or_ge i (N - 1) with h1 | h1
  · exact car_low h1
  · rw [piece_zero h h1 hi]; omega
/-! ### The tables -/
def kk : List Nat := [1116352408, 1899447441, 3049323471, 3921009573, 961987163, 1508970993, 2453635748, 2870763221, 3624381080, 310598401, 607225278, 1426881987, 1925078388, 2162078206, 2614888103, 3248222580, 3835390401, 4022224774, 264347078, 604807628, 770255983, 1249150122, 1555081692, 1996064986, 2554220882, 2821834349, 2952996808, 3210313671, 3336571891, 3584528711, 113926993, 338241895, 666307205, 773529912, 1294757372, 1396182291, 1695183700, 1986661051, 2177026350, 2456956037, 2730485921, 2820302411, 3259730800, 3345764771, 3516065817, 3600352804, 4094571909, 275423344, 430227734, 506948616, 659060556, 883997877, 958139571, 1322822218, 1537002063, 1747873779, 1955562222, 2024104815, 2227730452, 2361852424, 2428436474, 2756734187, 3204031479, 3329325298]
def kw (i : Nat) : W32 := BitVec.ofNat 32 (kk.getD i 0)
def h0 : St := ⟨1779033703#32, 3144134277#32, 1013904242#32, 2773480762#32, 1359893119#32, 2600822924#32, 528734635#32, 1541459225#32⟩
/-! ### The reference's tables: primes and roots -/
/-- The primes below p. -/
def prs : Nat → List Nat
  | 0 => []
  | p + 1 => if p < 2 then [] else if (prs p).all (fun q => decide (0 < p % q)) then prs p ++ [p] else prs p
def rt (p n : Nat) : Nat → Nat
  | 0 => 0
  | j + 1 => if p * 4294967296 ^ n < (rt p n j + 2 ^ (36 - j)) ^ n then rt p n j else rt p n j + 2 ^ (36 - j)
theorem prs_few : (prs 311).length = 63 := by decide +kernel
theorem prs_all : (prs 312).length = 64 := by decide +kernel
theorem prs_two : ∀ p, p < 2 → prs p = []
  | 0, _ => rfl
  | 1, _ => rfl
theorem prs_mono (p : Nat) : (prs p).length ≤ (prs (p + 1)).length := by
  show _ ≤ (if p < 2 then [] else if (prs p).all (fun q => decide (0 < p % q)) then prs p ++ [p] else prs p).length
  by_cases h : p < 2
  · rw [prs_two p h]; simp
  · rw [if_neg h]
    split
    · simp
    · exact Nat.le_refl _
theorem prs_le (p : Nat) : ∀ k, (prs p).length ≤ (prs (p + k)).length
  | 0 => Nat.le_refl _
  | k + 1 => Nat.le_trans (prs_le p k) (prs_mono (p + k))
theorem prs_lt {p : Nat} (h : p ≤ 311) : (prs p).length ≤ 63 := by
  have h1 := prs_le p (311 - p)
  rw [show p + (311 - p) = 311 from by omega, prs_few] at h1
  exact h1
theorem roots3 : (prs 312).map (fun p => rt p 3 37 % 4294967296) = kk := by decide +kernel
theorem roots2 : ((prs 312).take 8).map (fun p => BitVec.ofNat 32 (rt p 2 37)) = [h0.a, h0.b, h0.c, h0.d, h0.e, h0.f, h0.g, h0.h] := by decide +kernel

/-! ### A text in blocks of 64 -/
def wordOf (x y z u : UInt8) : W32 := BitVec.ofNat 32 (((x.toNat * 256 + y.toNat) * 256 + z.toNat) * 256 + u.toNat)
def bw (l : List UInt8) (i : Nat) : W32 := wordOf (l.getD (4 * i) 0) (l.getD (4 * i + 1) 0) (l.getD (4 * i + 2) 0) (l.getD (4 * i + 3) 0)
def hash (s : St) (l : List UInt8) : St :=
  if _h : 64 ≤ l.length then hash (blk kw s (bw (l.take 64))) (l.drop 64) else s
termination_by l.length
decreasing_by simp; omega
theorem hash_step {s : St} {l : List UInt8} (h : 64 ≤ l.length) : hash s l = hash (blk kw s (bw (l.take 64))) (l.drop 64) := by rw [hash, dif_pos h]
theorem hash_end {s : St} {l : List UInt8} (h : l.length < 64) : hash s l = s := by rw [hash, dif_neg (by omega)]
theorem hash_append : ∀ (n : Nat) {s : St} {x y : List UInt8}, x.length = 64 * n → hash s (x ++ y) = hash (hash s x) y
  | 0, s, x, y, h => by
    obtain rfl : x = [] := List.eq_nil_of_length_eq_zero (by omega)
    rw [hash_end (l := []) (by simp), List.nil_append]
  | n + 1, s, x, y, h => by
    rw [hash_step (l := x ++ y) (by simp; omega), hash_step (l := x) (by omega)]
    have e1 : (x ++ y).take 64 = x.take 64 := by rw [List.take_append_of_le_length (by omega)]
    have e2 : (x ++ y).drop 64 = x.drop 64 ++ y := by rw [List.drop_append_of_le_length (by omega)]
    rw [e1, e2]
    exact hash_append n (by simp; omega)
/-- What is left when all whole blocks are taken. -/
def left (l : List UInt8) : List UInt8 := l.drop (64 * (l.length / 64))
theorem left_length (l : List UInt8) : (left l).length = l.length % 64 := by unfold left; simp; omega
theorem hash_left (s : St) (l m : List UInt8) : hash s (l ++ m) = hash (hash s l) (left l ++ m) := by
  have h0 := hash_append (l.length / 64) (s := s) (x := l.take (64 * (l.length / 64))) (y := l.drop (64 * (l.length / 64)) ++ m) (by simp; omega)
  have h1 := hash_append (l.length / 64) (s := s) (x := l.take (64 * (l.length / 64))) (y := l.drop (64 * (l.length / 64))) (by simp; omega)
  rw [← List.append_assoc, List.take_append_drop] at h0
  rw [List.take_append_drop] at h1
  rw [h0, h1]
  have h2 : hash (hash s (l.take (64 * (l.length / 64)))) (l.drop (64 * (l.length / 64))) = hash s (l.take (64 * (l.length / 64))) := hash_end (by simp; omega)
  rw [h2]
  rfl
def be64 (n : Nat) : List UInt8 := [UInt8.ofNat (n / 72057594037927936), UInt8.ofNat (n / 281474976710656), UInt8.ofNat (n / 1099511627776), UInt8.ofNat (n / 4294967296), UInt8.ofNat (n / 16777216), UInt8.ofNat (n / 65536), UInt8.ofNat (n / 256), UInt8.ofNat n]
def zeros (n : Nat) : Nat := (119 - n % 64) % 64
def pad (n : Nat) : List UInt8 := 128 :: (List.replicate (zeros n) 0 ++ be64 (8 * n))
theorem zeros_iff {n j : Nat} (h : j ≤ zeros n) : (n % 64 + 1 + j) % 64 = 56 ↔ j = zeros n := by unfold zeros at *; omega
def bytesOf (x : W32) : List UInt8 := [UInt8.ofNat (x.toNat / 16777216), UInt8.ofNat (x.toNat / 65536), UInt8.ofNat (x.toNat / 256), UInt8.ofNat x.toNat]
def digest (s : St) : List UInt8 := bytesOf s.a ++ (bytesOf s.b ++ (bytesOf s.c ++ (bytesOf s.d ++ (bytesOf s.e ++ (bytesOf s.f ++ (bytesOf s.g ++ bytesOf s.h))))))
def sha (l : List UInt8) : List UInt8 := digest (hash h0 (l ++ pad l.length))
theorem digest_length (s : St) : (digest s).length = 32 := rfl
theorem pad_length (n : Nat) : (n + (pad n).length) % 64 = 0 := by simp [pad, be64, zeros]; omega
/-- The message check by a key. -/
def keyed (k : List UInt8) : List UInt8 := let k1 := if 64 < k.length then sha k else k; k1 ++ List.replicate (64 - k1.length) 0
def mac (k l : List UInt8) : List UInt8 := sha ((keyed k).map (· ^^^ 92) ++ sha ((keyed k).map (· ^^^ 54) ++ l))
/-! ### Two signs for each byte -/
def sign (n : Nat) : UInt8 := if n < 10 then UInt8.ofNat (48 + n) else UInt8.ofNat (87 + n)
def hex : List UInt8 → List UInt8
  | [] => []
  | c :: l => sign (c.toNat / 16) :: sign (c.toNat % 16) :: hex l
def unsign (c : UInt8) : Option Nat := if 48 ≤ c.toNat ∧ c.toNat ≤ 57 then some (c.toNat - 48) else if 97 ≤ c.toNat ∧ c.toNat ≤ 102 then some (c.toNat - 87) else none
def unhex : List UInt8 → Option (List UInt8)
  | [] => some []
  | [_] => none
  | c :: d :: l => match unsign c, unsign d, unhex l with
    | some a, some b, some m => some (UInt8.ofNat (16 * a + b) :: m)
    | _, _, _ => none
end Go.Proofs.YtplfimoeggecjaaGreatDoor.Sx
