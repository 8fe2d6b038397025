/-
  slices.ContainsFunc over roles, with the closure that compares a role's space and name with a captured one.
-/
import Derived.Test.YtplfimoeggecjaaDoorChk3
import Derived.Test.YtplfimoeggecjaaDoorHas
namespace Go.Proofs.YtplfimoeggecjaaDoor.Sx
open Go Go.RowKit

structure Role where
  space : ByteArray
  name : ByteArray
  rules : List Rule

def roleR (B : Nat) (w : World) (cs : List Value) (r : Role) : Prop := ∃ v, cs = [.string r.space, .string r.name, v] ∧ r.space.size ≤ 1048576 ∧ r.name.size ≤ 1048576 ∧ RulesAt B w v r.rules
theorem roleR.below {B : Nat} {w w' : World} {cs : List Value} {r : Role} (h : roleR B w cs r) (hb : Below B w w') : roleR B w' cs r := by
  obtain ⟨v, e, h1, h2, h3⟩ := h
  exact ⟨v, e, h1, h2, h3.below hb⟩
abbrev RolesAt (B : Nat) (w : World) (v : Value) (l : List Role) : Prop := SlAt (roleR B) 3 B w v l
theorem RolesAt.below {B : Nat} {w w' : World} {v : Value} {xs : List Role} (h : RolesAt B w v xs) (hb : Below B w w') : RolesAt B w' v xs := SlAt.below h hb fun _ _ hr => hr.below hb

def sameRole (s n : ByteArray) (q : Role) : Bool := eqS q.space s && eqS q.name n

set_option maxRecDepth 100000 in
theorem roleClosure (k : Nat) (s n : ByteArray) (rv : Value) (s' n' : ByteArray) (v' : Value) (w : World) (h : w.heap[k]? = some (.cells #[.string s, .string n, rv] 74 (0, 0))) :
    Calls Tryd.prog 52 #[.agg #[.string s', .string n', v'], .pointer (some ⟨k, 0, none⟩)] w fun e w' => e = .returned (.bool (eqS s' s && eqS n' n)) ∧ Ext w w' := by
  have hk := heap_lt h
  obtain ⟨k0, k1, _⟩ := cells3 h
  have hne : k ≠ w.heap.size := by omega
  have hE : Hid (∀ a b, eqS a b = (a.toList == b.toList)) := fun _ _ => rfl
  clear h
  cases h1 : (s'.toList == s.toList) with
  | false =>
    go_enter Tryd.func52, Tryd.ntmps52
    go_wp2
    go_ret
    exact ⟨ret_bool (by rw [hE.out, h1]; rfl), (Below.refl _ _).alloc (Nat.le_refl _) _⟩
  | true =>
    go_enter Tryd.func52, Tryd.ntmps52
    go_wp2
    go_ret
    exact ⟨ret_bool (by rw [hE.out, hE.out, h1]; simp), (Below.refl _ _).alloc (Nat.le_refl _) _⟩

/-- What IndexFunc returns: a place (there is one), or -1. -/
def IdxPost (w : World) (is : Bool) (e : Ending) (w' : World) : Prop := ∃ n : Int, e = .returned (.int .i64 n) ∧ decide (0 ≤ n) = is ∧ n < 1048577 ∧ -1 ≤ n ∧ Ext w w'

set_option maxRecDepth 100000 in
set_option maxHeartbeats 1000000 in
theorem roleIdx (B k : Nat) (s n : ByteArray) (rv : Value) (A : Option Addr) (cap : Nat) (l : List Role) (w : World) (h : w.heap[k]? = some (.cells #[.string s, .string n, rv] 74 (0, 0)))
    (hB : B ≤ w.heap.size) (hv : RolesAt B w (.slice A l.length cap) l) :
    Calls Tryd.prog 63 #[.slice A l.length cap, .func (.func 52) #[] #[.pointer (some ⟨k, 0, none⟩)]] w (IdxPost w (l.any (sameRole s n))) := by
  obtain ⟨hn, A', cap', hv', _, _, hi⟩ := hv
  obtain ⟨rfl, _, rfl⟩ : A = A' ∧ True ∧ cap = cap' := by injection hv' with h1 h2 h3; exact ⟨h1, trivial, h3⟩
  clear hv'
  have HI := Lib.hid hi
  have H := Lib.hid h
  clear h hi
  go_enter Tryd.func63, Tryd.ntmps63
  go_wp2
  go_loopw [5, 8] (fun i k wr => ∃ j : Nat, j ≤ l.length ∧ k = .int .i64 j ∧ Hid (noneTo (sameRole s n) l j) ∧ Hid (Ext w wr)) (fun _ k _ => l.length - (intOf k).toNat)
  case atStart => exact ⟨0, Nat.zero_le _, rfl, fun i hi h => by omega, Below.refl _ _⟩
  case round =>
    obtain ⟨j, hj, rfl, hN, hX⟩ := hrel
    by_cases hlt : j < l.length
    · obtain ⟨blk, off, cs, rfl, hblk, _, ⟨v, rfl, _, _, h3⟩, hcell⟩ := HI.out j hlt
      obtain ⟨c0, c1, c2⟩ := at3 fun i u hu => (hX.out.cell (p := ⟨blk, off + j * 3 + i, none⟩) (by show blk < w.heap.size; omega)).trans (hcell i u hu)
      have hkr : wr.heap[k]? = some (.cells #[.string s, .string n, rv] 74 (0, 0)) := (hX.out.block k (heap_lt H.out)).trans H.out
      have HKR := Lib.hid hkr
      have HS : Hid (∀ b, (eqS l[j].space s && eqS l[j].name n) = b → sameRole s n l[j] = b) := fun b hb => hb
      clear hcell hkr h3
      obtain ⟨s', hs'⟩ : ∃ s', s' = l[j].space := ⟨_, rfl⟩
      obtain ⟨n', hn'⟩ : ∃ n', n' = l[j].name := ⟨_, rfl⟩
      rw [← hs'] at c0
      rw [← hn'] at c1
      rw [← hs', ← hn'] at HS
      clear hs' hn'
      cases hb : (eqS s' s && eqS n' n) with
      | true =>
        have HT := Lib.hid (any_some hlt (HS.out _ hb))
        have HB := Lib.hid hb
        clear hb
        go_wp2_with (go_at_call 52; refine (roleClosure _ _ _ _ _ _ _ _ HKR.out).mono ?_; rintro e w' ⟨rfl, hx⟩; have HX2 := Lib.hid hx; clear hx; rw [HB.out])
        go_ret
        exact ⟨j, rfl, by rw [HT.out]; simp, by omega, by omega, hX.out.trans HX2.out⟩
      | false =>
        have HT := Lib.hid (noneTo_succ hN.out hlt (HS.out _ hb))
        have HB := Lib.hid hb
        clear hb
        go_wp2_with (go_at_call 52; refine (roleClosure _ _ _ _ _ _ _ _ HKR.out).mono ?_; rintro e w' ⟨rfl, hx⟩; have HX2 := Lib.hid hx; clear hx; rw [HB.out])
        go_roundw
        case rel => exact ⟨j + 1, hlt, by go_num, HT, hX.out.trans HX2.out⟩
        case measure => simp [intOf]; omega
    · have HA := Lib.hid (any_none hN.out (by omega))
      go_wp2
      go_ret
      exact ⟨-1, rfl, by rw [HA.out]; rfl, by omega, by omega, hX.out⟩

set_option maxRecDepth 100000 in
theorem roleHas (B k : Nat) (s n : ByteArray) (rv : Value) (A : Option Addr) (cap : Nat) (l : List Role) (w : World) (h : w.heap[k]? = some (.cells #[.string s, .string n, rv] 74 (0, 0)))
    (hB : B ≤ w.heap.size) (hv : RolesAt B w (.slice A l.length cap) l) :
    Calls Tryd.prog 51 #[.slice A l.length cap, .func (.func 52) #[] #[.pointer (some ⟨k, 0, none⟩)]] w fun e w' => e = .returned (.bool (l.any (sameRole s n))) ∧ Ext w w' := by
  have H := Lib.hid h
  have HV := Lib.hid hv
  clear h hv
  go_enter Tryd.func51, Tryd.ntmps51
  go_wp2_with (go_at_call 63; refine (roleIdx B k s n rv A cap l _ H.out hB HV.out).mono ?_; rintro e w' ⟨m, rfl, hm, hm1, hm2, hx⟩; have HM := Lib.hid hm; have HX := Lib.hid hx; clear hm hx)
  go_ret
  exact ⟨ret_bool HM.out, HX.out⟩
end Go.Proofs.YtplfimoeggecjaaDoor.Sx
