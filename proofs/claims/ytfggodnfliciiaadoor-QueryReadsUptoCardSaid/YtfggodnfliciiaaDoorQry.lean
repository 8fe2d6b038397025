/-
  Selectors and labels: what they are in memory, and what is wrong with them, as plain functions.
-/
import Derived.Test.YtfggodnfliciiaaDoorKey2
import Derived.Test.YtfggodnfliciiaaDoorLab
namespace Go.Proofs.YtfggodnfliciiaaDoor.Sx
open Go Go.RowKit

structure Req where
  key : ByteArray
  kind : Int
  vals : List ByteArray
def reqR (B : Nat) (w : World) (cs : List Value) (r : Req) : Prop := ∃ A c, cs = [.string r.key, .int .i64 r.kind, .slice A r.vals.length c] ∧ r.key.size ≤ 1048576 ∧ StrsR B w (.slice A r.vals.length c) r.vals ∧ r.vals.length ≤ c
theorem reqR.below {B B' : Nat} {w w' : World} {cs : List Value} {r : Req} (h : reqR B w cs r) (hb : Below B w w') (hB : B ≤ B') : reqR B' w' cs r := by
  obtain ⟨A, c, e, hk, hv, hc⟩ := h
  exact ⟨A, c, e, hk, hv.below hb hB, hc⟩
abbrev ReqsR (B : Nat) (w : World) (v : Value) (l : List Req) : Prop := SlR (reqR B) 3 B w v l
theorem ReqsR.below {B B' : Nat} {w w' : World} {v : Value} {l : List Req} (h : ReqsR B w v l) (hb : Below B w w') (hB : B ≤ B') : ReqsR B' w' v l := SlR.below h hb hB fun _ _ hr => hr.below hb hB
theorem atn {w : World} {blk off : Nat} {cs : List Value} (h : ∀ j u, cs[j]? = some u → w.cell? ⟨blk, off + j, none⟩ = some u) (j : Nat) (u : Value) (hu : cs[j]? = some u) : w.cell? ⟨blk, off + j, none⟩ = some u := h j u hu
theorem ReqsR.at_ {B : Nat} {w : World} {A : Option Addr} {c : Nat} {l : List Req} (h : ReqsR B w (.slice A l.length c) l) {j : Nat} (hj : j < l.length) :
    ∃ b off A1 c1, A = some ⟨b, off, none⟩ ∧ b < B ∧ w.cell? ⟨b, off + j * 3, none⟩ = some (.string l[j].key) ∧ w.cell? ⟨b, off + j * 3 + 1, none⟩ = some (.int .i64 l[j].kind) ∧ w.cell? ⟨b, off + j * 3 + 2, none⟩ = some (.slice A1 l[j].vals.length c1) ∧
      l[j].key.size ≤ 1048576 ∧ StrsR B w (.slice A1 l[j].vals.length c1) l[j].vals := by
  obtain ⟨_, A', c', hv, hi⟩ := h
  obtain ⟨b, off, cs, hA, hlt, _, ⟨A1, k1, rfl, hk, h4, _⟩, hc⟩ := hi j hj
  injection hv with e1 _ _
  subst e1 hA
  exact ⟨b, off, A1, k1, rfl, hlt, hc 0 _ rfl, hc 1 _ rfl, hc 2 _ rfl, hk, h4⟩
theorem ReqsR.cap {B : Nat} {w : World} {b off : Nat} {c : Nat} {l : List Req} (h : ReqsR B w (.slice (some ⟨b, off, none⟩) l.length c) l) {j : Nat} (hj : j < l.length) {A1 : Option Addr} {c1 : Nat}
    (hc : w.cell? ⟨b, off + j * 3 + 2, none⟩ = some (.slice A1 l[j].vals.length c1)) : l[j].vals.length ≤ c1 := by
  obtain ⟨_, A', c', hv, hi⟩ := h
  obtain ⟨b', off', cs, hA, _, _, ⟨A2, k2, rfl, _, _, hcap⟩, hcell⟩ := hi j hj
  injection hv with e1 _ _
  rw [hA] at e1
  injection e1 with e1
  injection e1 with e1 e2
  subst e1 e2
  have h2 := hcell 2 _ rfl
  rw [h2] at hc
  injection hc with hc
  injection hc with _ _ hc
  omega
/-! ### The first that is wrong -/
def firstAt (f : Nat → Int) : Nat → Int
  | 0 => 0
  | n + 1 => if firstAt f n = 0 then f n else firstAt f n
def zeroTil (f : Nat → Int) (k : Nat) : Prop := ∀ i, i < k → f i = 0
theorem zeroTil.zero (f : Nat → Int) : zeroTil f 0 := fun i h => by omega
theorem zeroTil.succ {f : Nat → Int} {k : Nat} (h : zeroTil f k) (h0 : f k = 0) : zeroTil f (k + 1) := fun i hi => by
  rcases Nat.lt_or_ge i k with h1 | h1
  · exact h i h1
  · obtain rfl : i = k := by omega
    exact h0
theorem firstAt_zero {f : Nat → Int} {n : Nat} (h : zeroTil f n) : firstAt f n = 0 := by
  induction n with
  | zero => rfl
  | succ n ih =>
    unfold firstAt
    rw [if_pos (ih fun i hi => h i (by omega))]
    exact h n (by omega)
theorem firstAt_stop {f : Nat → Int} {k n : Nat} {e : Int} (h : zeroTil f k) (hk : k < n) (he : f k = e) (h0 : e ≠ 0) : firstAt f n = e := by
  induction n with
  | zero => omega
  | succ n ih =>
    unfold firstAt
    by_cases hkn : k = n
    · subst hkn
      rw [if_pos (firstAt_zero h), he]
    · rw [ih (by omega), if_neg h0]

def valsAt (l : List ByteArray) (i : Nat) : Int := match l[i]? with | some x => valI x | none => 0
theorem valsAt_eq {l : List ByteArray} {i : Nat} (h : i < l.length) : valsAt l i = valI l[i] := by unfold valsAt; rw [List.getElem?_eq_getElem h]
def badKind (r : Req) : Prop := r.kind < 1 ∨ 4 < r.kind ∨ ((r.kind = 1 ∨ r.kind = 2) ∧ r.vals.length = 0) ∨ (¬ (r.kind = 1 ∨ r.kind = 2) ∧ r.vals.length ≠ 0)
instance (r : Req) : Decidable (badKind r) := by unfold badKind; exact inferInstance
def reqI (r : Req) : Int := if keyI r.key = 0 then (if badKind r then 1 else if 8 < r.vals.length then 2 else firstAt (valsAt r.vals) r.vals.length) else keyI r.key
theorem reqI_key {r : Req} (h : keyI r.key ≠ 0) : reqI r = keyI r.key := if_neg h
theorem reqI_bad {r : Req} (h : keyI r.key = 0) (hb : badKind r) : reqI r = 1 := by unfold reqI; rw [if_pos h, if_pos hb]
theorem reqI_many {r : Req} (h : keyI r.key = 0) (hb : ¬ badKind r) (h8 : 8 < r.vals.length) : reqI r = 2 := by unfold reqI; rw [if_pos h, if_neg hb, if_pos h8]
theorem reqI_vals {r : Req} (h : keyI r.key = 0) (hb : ¬ badKind r) (h8 : ¬ 8 < r.vals.length) : reqI r = firstAt (valsAt r.vals) r.vals.length := by unfold reqI; rw [if_pos h, if_neg hb, if_neg h8]
def reqsAt (l : List Req) (i : Nat) : Int := match l[i]? with | some x => reqI x | none => 0
theorem reqsAt_eq {l : List Req} {i : Nat} (h : i < l.length) : reqsAt l i = reqI l[i] := by unfold reqsAt; rw [List.getElem?_eq_getElem h]
def checkQ (l : List Req) : Int := if 8 < l.length then 2 else firstAt (reqsAt l) l.length

def lessS (a b : ByteArray) : Bool := Op.bytesLess a.toList b.toList
def labI (p : Option Lab) (x : Lab) : Int := if keyI x.key = 0 then (if valI x.val = 0 then (match p with | some q => if lessS q.key x.key then 0 else 1 | none => 0) else valI x.val) else keyI x.key
def prevOf (l : List Lab) (i : Nat) : Option Lab := match i with | 0 => none | j + 1 => l[j]?
def labsAt (l : List Lab) (i : Nat) : Int := match l[i]? with | some x => labI (prevOf l i) x | none => 0
theorem labsAt_eq {l : List Lab} {i : Nat} (h : i < l.length) : labsAt l i = labI (prevOf l i) l[i] := by unfold labsAt; rw [List.getElem?_eq_getElem h]
def checkL (l : List Lab) : Int := if 10 < l.length then 2 else firstAt (labsAt l) l.length
theorem labI_key {p : Option Lab} {x : Lab} (h : keyI x.key ≠ 0) : labI p x = keyI x.key := if_neg h
theorem labI_val {p : Option Lab} {x : Lab} (h : keyI x.key = 0) (h2 : valI x.val ≠ 0) : labI p x = valI x.val := by unfold labI; rw [if_pos h, if_neg h2]
theorem labI_first {x : Lab} (h : keyI x.key = 0) (h2 : valI x.val = 0) : labI none x = 0 := by unfold labI; rw [if_pos h, if_pos h2]
theorem labI_less {q x : Lab} (h : keyI x.key = 0) (h2 : valI x.val = 0) : labI (some q) x = if lessS q.key x.key then 0 else 1 := by unfold labI; rw [if_pos h, if_pos h2]
theorem less_total : ∀ a b : List UInt8, (Op.bytesLess b a || b == a) = !(Op.bytesLess a b)
  | [], [] => rfl
  | [], _ :: _ => rfl
  | _ :: _, [] => rfl
  | x :: a, y :: b => by
    have ih := less_total a b
    unfold Op.bytesLess
    by_cases h : x = y
    · subst h
      simp [← ih]
    · have hn : x.toNat ≠ y.toNat := fun e => h (UInt8.toNat_inj.1 e)
      rcases Nat.lt_or_gt_of_ne hn with h1 | h1
      · have h2 : x < y := UInt8.lt_iff_toNat_lt.2 h1
        have h3 : ¬ y < x := fun e => by have := UInt8.lt_iff_toNat_lt.1 e; omega
        simp [h2, h3, Ne.symm h]
      · have h2 : y < x := UInt8.lt_iff_toNat_lt.2 h1
        have h3 : ¬ x < y := fun e => by have := UInt8.lt_iff_toNat_lt.1 e; omega
        simp [h2, h3, h]

/-- What a check hands back. -/
def QPost (w : World) (n : Int) (e : Ending) (w' : World) : Prop := e = .returned (.int .i64 n) ∧ Ext w w'
theorem cells3' {w : World} {k : Nat} {x y z : Value} {t : TypeId} {f : Nat × Nat} (h : w.heap[k]? = some (.cells #[x, y, z] t f)) : w.cell? ⟨k, 0, none⟩ = some x ∧ w.cell? ⟨k, 1, none⟩ = some y ∧ w.cell? ⟨k, 2, none⟩ = some z := ⟨cell_of h 0, cell_of h 1, cell_of h 2⟩
theorem cells2' {w : World} {k : Nat} {x y : Value} {t : TypeId} {f : Nat × Nat} (h : w.heap[k]? = some (.cells #[x, y] t f)) : w.cell? ⟨k, 0, none⟩ = some x ∧ w.cell? ⟨k, 1, none⟩ = some y := ⟨cell_of h 0, cell_of h 1⟩
end Go.Proofs.YtfggodnfliciiaaDoor.Sx
