/-
  slices.ContainsFunc over binds, with the closure that compares a role's space and name with a captured one.
-/
import Derived.Test.YtplfimoeggecjaaDoorChk4
namespace Go.Proofs.YtplfimoeggecjaaDoor.Sx
open Go Go.RowKit

structure Bind where
  space : ByteArray
  name : ByteArray
  role : ByteArray
  whole : Bool
  users : List ByteArray
  groups : List ByteArray

def bindR (B : Nat) (w : World) (cs : List Value) (r : Bind) : Prop := ∃ v1 v2, cs = [.string r.space, .string r.name, .string r.role, .bool r.whole, v1, v2] ∧ r.space.size ≤ 1048576 ∧ r.name.size ≤ 1048576 ∧ r.role.size ≤ 1048576 ∧ StrsAt B w v1 r.users ∧ StrsAt B w v2 r.groups
theorem bindR.below {B : Nat} {w w' : World} {cs : List Value} {r : Bind} (h : bindR B w cs r) (hb : Below B w w') : bindR B w' cs r := by
  obtain ⟨v1, v2, e, h1, h2, h3, h4, h5⟩ := h
  exact ⟨v1, v2, e, h1, h2, h3, h4.below hb, h5.below hb⟩
abbrev BindsAt (B : Nat) (w : World) (v : Value) (l : List Bind) : Prop := SlAt (bindR B) 6 B w v l
theorem BindsAt.below {B : Nat} {w w' : World} {v : Value} {xs : List Bind} (h : BindsAt B w v xs) (hb : Below B w w') : BindsAt B w' v xs := SlAt.below h hb fun _ _ hr => hr.below hb

theorem keep6 {w w' : World} {b k : Nat} {a0 a1 a2 a3 a4 a5 : Value} {t : TypeId} (hm : Mod eT b w w') (hk : w.heap[k]? = some (.cells #[a0, a1, a2, a3, a4, a5] t (0, 0))) (ht : t ≠ eT) (hne : k ≠ b) :
    w'.heap[k]? = some (.cells #[a0, a1, a2, a3, a4, a5] t (0, 0)) := hm.heap (safe_of hne hk ht) hk
theorem cells6 {w : World} {k : Nat} {a0 a1 a2 a3 a4 a5 : Value} {t : TypeId} {f : Nat × Nat} (h : w.heap[k]? = some (.cells #[a0, a1, a2, a3, a4, a5] t f)) :
    w.cell? ⟨k, 0, none⟩ = some a0 ∧ w.cell? ⟨k, 1, none⟩ = some a1 ∧ w.cell? ⟨k, 2, none⟩ = some a2 ∧ w.cell? ⟨k, 3, none⟩ = some a3 ∧ w.cell? ⟨k, 4, none⟩ = some a4 ∧ w.cell? ⟨k, 5, none⟩ = some a5 := by
  refine ⟨?_, ?_, ?_, ?_, ?_, ?_⟩ <;> simp [cell_of h]
theorem at6 {w : World} {blk off j : Nat} {a0 a1 a2 a3 a4 a5 : Value} (h : ∀ i u, [a0, a1, a2, a3, a4, a5][i]? = some u → w.cell? ⟨blk, off + j * 6 + i, none⟩ = some u) :
    w.cell? ⟨blk, off + j * 6, none⟩ = some a0 ∧ w.cell? ⟨blk, off + j * 6 + 1, none⟩ = some a1 ∧ w.cell? ⟨blk, off + j * 6 + 2, none⟩ = some a2 ∧ w.cell? ⟨blk, off + j * 6 + 3, none⟩ = some a3 ∧ w.cell? ⟨blk, off + j * 6 + 4, none⟩ = some a4 ∧ w.cell? ⟨blk, off + j * 6 + 5, none⟩ = some a5 :=
  ⟨h 0 _ rfl, h 1 _ rfl, h 2 _ rfl, h 3 _ rfl, h 4 _ rfl, h 5 _ rfl⟩

def sameBind (s n : ByteArray) (q : Bind) : Bool := eqS q.space s && eqS q.name n

set_option maxRecDepth 100000 in
theorem bindClosure (k : Nat) (s n : ByteArray) (x2 x3 x4 x5 : Value) (s' n' : ByteArray) (y2 y3 y4 y5 : Value) (w : World) (h : w.heap[k]? = some (.cells #[.string s, .string n, x2, x3, x4, x5] 71 (0, 0))) :
    Calls Tryd.prog 55 #[.agg #[.string s', .string n', y2, y3, y4, y5], .pointer (some ⟨k, 0, none⟩)] w fun e w' => e = .returned (.bool (eqS s' s && eqS n' n)) ∧ Ext w w' := by
  have hk := heap_lt h
  obtain ⟨k0, k1, k2, k3, k4, k5⟩ := cells6 h
  have hne : k ≠ w.heap.size := by omega
  have hE : Hid (∀ a b, eqS a b = (a.toList == b.toList)) := fun _ _ => rfl
  clear h
  cases h1 : (s'.toList == s.toList) with
  | false =>
    go_enter Tryd.func55, Tryd.ntmps55
    go_wp2
    go_ret
    exact ⟨ret_bool (by rw [hE.out, h1]; rfl), (Below.refl _ _).alloc (Nat.le_refl _) _⟩
  | true =>
    go_enter Tryd.func55, Tryd.ntmps55
    go_wp2
    go_ret
    exact ⟨ret_bool (by rw [hE.out, hE.out, h1]; simp), (Below.refl _ _).alloc (Nat.le_refl _) _⟩

set_option maxRecDepth 100000 in
set_option maxHeartbeats 1000000 in
theorem bindIdx (B k : Nat) (s n : ByteArray) (x2 x3 x4 x5 : Value) (A : Option Addr) (cap : Nat) (l : List Bind) (w : World) (h : w.heap[k]? = some (.cells #[.string s, .string n, x2, x3, x4, x5] 71 (0, 0)))
    (hB : B ≤ w.heap.size) (hv : BindsAt B w (.slice A l.length cap) l) :
    Calls Tryd.prog 64 #[.slice A l.length cap, .func (.func 55) #[] #[.pointer (some ⟨k, 0, none⟩)]] w (IdxPost w (l.any (sameBind s n))) := by
  obtain ⟨hn, A', cap', hv', _, _, hi⟩ := hv
  obtain ⟨rfl, _, rfl⟩ : A = A' ∧ True ∧ cap = cap' := by injection hv' with h1 h2 h3; exact ⟨h1, trivial, h3⟩
  clear hv'
  have HI := Lib.hid hi
  have H := Lib.hid h
  clear h hi
  go_enter Tryd.func64, Tryd.ntmps64
  go_wp2
  go_loopw [5, 8] (fun i k wr => ∃ j : Nat, j ≤ l.length ∧ k = .int .i64 j ∧ Hid (noneTo (sameBind s n) l j) ∧ Hid (Ext w wr)) (fun _ k _ => l.length - (intOf k).toNat)
  case atStart => exact ⟨0, Nat.zero_le _, rfl, fun i hi h => by omega, Below.refl _ _⟩
  case round =>
    obtain ⟨j, hj, rfl, hN, hX⟩ := hrel
    by_cases hlt : j < l.length
    · obtain ⟨blk, off, cs, rfl, hblk, _, ⟨u1, u2, rfl, _, _, _, h3, h4⟩, hcell⟩ := HI.out j hlt
      obtain ⟨c0, c1, c2, c3, c4, c5⟩ := at6 fun i u hu => (hX.out.cell (p := ⟨blk, off + j * 6 + i, none⟩) (by show blk < w.heap.size; omega)).trans (hcell i u hu)
      have hkr : wr.heap[k]? = some (.cells #[.string s, .string n, x2, x3, x4, x5] 71 (0, 0)) := (hX.out.block k (heap_lt H.out)).trans H.out
      have HKR := Lib.hid hkr
      have HS : Hid (∀ b, (eqS l[j].space s && eqS l[j].name n) = b → sameBind s n l[j] = b) := fun b hb => hb
      clear hcell hkr h3 h4
      obtain ⟨s', hs'⟩ : ∃ s', s' = l[j].space := ⟨_, rfl⟩
      obtain ⟨n', hn'⟩ : ∃ n', n' = l[j].name := ⟨_, rfl⟩
      rw [← hs'] at c0
      rw [← hn'] at c1
      rw [← hs', ← hn'] at HS
      clear hs' hn'
      cases hb : (eqS s' s && eqS n' n) with
      | true =>
        have HT := Lib.hid (any_some hlt (HS.out _ hb))
        have HB := Lib.hid hb
        clear hb
        go_wp2_with (go_at_call 55; refine (bindClosure _ _ _ _ _ _ _ _ _ _ _ _ _ _ HKR.out).mono ?_; rintro e w' ⟨rfl, hx⟩; have HX2 := Lib.hid hx; clear hx; rw [HB.out])
        go_ret
        exact ⟨j, rfl, by rw [HT.out]; simp, by omega, by omega, hX.out.trans HX2.out⟩
      | false =>
        have HT := Lib.hid (noneTo_succ hN.out hlt (HS.out _ hb))
        have HB := Lib.hid hb
        clear hb
        go_wp2_with (go_at_call 55; refine (bindClosure _ _ _ _ _ _ _ _ _ _ _ _ _ _ HKR.out).mono ?_; rintro e w' ⟨rfl, hx⟩; have HX2 := Lib.hid hx; clear hx; rw [HB.out])
        go_roundw
        case rel => exact ⟨j + 1, hlt, by go_num, HT, hX.out.trans HX2.out⟩
        case measure => simp [intOf]; omega
    · have HA := Lib.hid (any_none hN.out (by omega))
      go_wp2
      go_ret
      exact ⟨-1, rfl, by rw [HA.out]; rfl, by omega, by omega, hX.out⟩

set_option maxRecDepth 100000 in
theorem bindHas (B k : Nat) (s n : ByteArray) (x2 x3 x4 x5 : Value) (A : Option Addr) (cap : Nat) (l : List Bind) (w : World) (h : w.heap[k]? = some (.cells #[.string s, .string n, x2, x3, x4, x5] 71 (0, 0)))
    (hB : B ≤ w.heap.size) (hv : BindsAt B w (.slice A l.length cap) l) :
    Calls Tryd.prog 54 #[.slice A l.length cap, .func (.func 55) #[] #[.pointer (some ⟨k, 0, none⟩)]] w fun e w' => e = .returned (.bool (l.any (sameBind s n))) ∧ Ext w w' := by
  have H := Lib.hid h
  have HV := Lib.hid hv
  clear h hv
  go_enter Tryd.func54, Tryd.ntmps54
  go_wp2_with (go_at_call 64; refine (bindIdx B k s n x2 x3 x4 x5 A cap l _ H.out hB HV.out).mono ?_; rintro e w' ⟨m, rfl, hm, hm1, hm2, hx⟩; have HM := Lib.hid hm; have HX := Lib.hid hx; clear hm hx)
  go_ret
  exact ⟨ret_bool HM.out, HX.out⟩
end Go.Proofs.YtplfimoeggecjaaDoor.Sx
