/-
  The program's query.holds, all and Match.
-/
import Derived.Test.YtplfimoeggecjaaGreatDoorQck2
import Derived.Test.YtplfimoeggecjaaGreatDoorHas
namespace Go.Proofs.YtplfimoeggecjaaGreatDoor.Sx
open Go Go.RowKit

def keyed (key : ByteArray) (x : Lab) : Bool := eqS x.key key
def holdsB (r : Req) (l : List Lab) : Bool := match l.find? (keyed r.key) with
  | some x => if r.kind = 1 then hasS r.vals x.val else if r.kind = 2 then !(hasS r.vals x.val) else decide (r.kind = 3)
  | none => if r.kind = 1 then false else if r.kind = 2 then true else decide (r.kind ≠ 3)
def allB (l : List Req) (ls : List Lab) : Bool := l.all fun r => holdsB r ls

theorem find_at {α : Type} {p : α → Bool} {l : List α} {i : Nat} (h : noneTo p l i) (hi : i < l.length) (hp : p l[i] = true) : l.find? p = some l[i] := by
  induction l generalizing i with
  | nil => simp at hi
  | cons x r ih =>
    cases i with
    | zero =>
      have hx : p x = true := hp
      rw [List.find?_cons_of_pos hx]
      rfl
    | succ i =>
      have hx : p x = false := h 0 (by simp) (by omega)
      rw [List.find?_cons_of_neg (by rw [hx]; simp)]
      exact ih (fun j hj hlt => h (j + 1) (by simpa using hj) (by omega)) (by simpa using hi) (by simpa using hp)
theorem find_none {α : Type} {p : α → Bool} {l : List α} (h : noneTo p l l.length) : l.find? p = none := by
  rw [List.find?_eq_none]
  intro x hx
  obtain ⟨i, hi, rfl⟩ := List.mem_iff_getElem.1 hx
  rw [h i hi hi]
  simp

/-- The part's box. -/
def ReqIn (w : World) (k : Nat) (r : Req) (A : Option Addr) (c : Nat) : Prop := w.heap[k]? = some (.cells #[.string r.key, .int .i64 r.kind, .slice A r.vals.length c] 56 (0, 0))
theorem ReqIn.ext {w w' : World} {k : Nat} {r : Req} {A : Option Addr} {c : Nat} (h : ReqIn w k r A c) (hx : Ext w w') : ReqIn w' k r A c := (hx.block _ (heap_lt h)).trans h

set_option maxRecDepth 100000 in
theorem holdClosure (k : Nat) (r : Req) (A : Option Addr) (c : Nat) (x : Lab) (w : World) (h : ReqIn w k r A c) :
    Calls Tryz.prog 144 #[.agg #[.string x.key, .string x.val], .pointer (some ⟨k, 0, none⟩)] w fun e w' => e = .returned (.bool (keyed r.key x)) ∧ Ext w w' := by
  have hk := heap_lt h
  obtain ⟨k0, _, _⟩ := cells3' h
  have hne : k ≠ w.heap.size := by omega
  have hE : Hid (keyed r.key x = (x.key.toList == r.key.toList)) := rfl
  clear h
  go_enter Tryz.func144, Tryz.ntmps144
  go_wp2
  go_ret
  exact ⟨ret_bool hE.out.symm, (Below.refl _ _).alloc (Nat.le_refl _) _⟩

/-- What IndexFunc hands back: the place of the first. -/
def FindPost (w : World) (l : List Lab) (key : ByteArray) (e : Ending) (w' : World) : Prop :=
  ((∃ (i : Nat) (h : i < l.length), e = .returned (.int .i64 (i : Int)) ∧ l.find? (keyed key) = some l[i]) ∨ (e = .returned (.int .i64 (-1)) ∧ l.find? (keyed key) = none)) ∧ Ext w w'

set_option maxRecDepth 100000 in
set_option maxHeartbeats 2000000 in
theorem findLab_any (B k : Nat) (v : Value) (r : Req) (A : Option Addr) (c : Nat) (l : List Lab) (w : World) (hB : B ≤ w.heap.size) (hv : LabsR B w v l) (h : ReqIn w k r A c) :
    Calls Tryz.prog 143 #[v, .func (.func 144) #[] #[.pointer (some ⟨k, 0, none⟩)]] w (FindPost w l r.key) := by
  have HV := Lib.hid hv
  have HR := Lib.hid h
  have hn := hv.1
  obtain ⟨_, A1, c1, rfl, _⟩ := hv
  clear h
  go_enter Tryz.func143, Tryz.ntmps143
  go_wp2
  go_loopw [5, 8] (fun _ k wr => ∃ j : Nat, j ≤ l.length ∧ k = .int .i64 (j : Int) ∧ Hid (noneTo (keyed r.key) l j) ∧ Hid (Ext w wr)) (fun _ k _ => l.length - (intOf k).toNat)
  case atStart => exact ⟨0, Nat.zero_le _, rfl, fun i hi h => by omega, Below.refl _ _⟩
  case round =>
    obtain ⟨j, hj, rfl, hN, hX⟩ := hrel
    by_cases hlt : j < l.length
    · obtain ⟨b, off, rfl, _, x0, x1, _, _⟩ := (HV.out.below (hX.out.mono hB) (Nat.le_refl _)).at_ hlt
      have HF : Hid (keyed r.key l[j] = true → l.find? (keyed r.key) = some l[j]) := fun h => find_at hN.out hlt h
      have HU : Hid (keyed r.key l[j] = false → noneTo (keyed r.key) l (j + 1)) := fun h => noneTo_succ hN.out hlt h
      obtain ⟨x, hx⟩ : ∃ x, x = l[j] := ⟨_, rfl⟩
      have HX := Lib.hid hx
      rw [← hx] at x0 x1 HF HU
      have HRr := Lib.hid (HR.out.ext hX.out)
      clear hx
      cases hk : keyed r.key x with
      | true =>
        have HF2 := Lib.hid (HF.out hk)
        have HK := Lib.hid hk
        clear hk
        go_wp2_with fail
        refine Calls.mono (holdClosure _ r A c x _ HRr.out) ?_
        rintro e w2 ⟨rfl, hx2⟩
        rw [HK.out]
        have HX2 : Hid (Ext w w2) := hX.out.trans hx2
        clear hx2
        go_wp2
        go_ret
        exact ⟨.inl ⟨j, hlt, rfl, by rw [HF2.out, HX.out]⟩, HX2.out⟩
      | false =>
        have HU2 := Lib.hid (HU.out hk)
        have HK := Lib.hid hk
        clear hk
        go_wp2_with fail
        refine Calls.mono (holdClosure _ r A c x _ HRr.out) ?_
        rintro e w2 ⟨rfl, hx2⟩
        rw [HK.out]
        have HX2 : Hid (Ext w w2) := hX.out.trans hx2
        clear hx2
        go_wp2
        go_roundw
        case rel => exact ⟨j + 1, hlt, by go_num, HU2, HX2⟩
        case measure => simp [intOf]; omega
    · have HF : Hid (l.find? (keyed r.key) = none) := find_none fun i hi _ => hN.out i hi (by omega)
      go_wp2
      go_ret
      exact ⟨.inr ⟨rfl, HF.out⟩, hX.out⟩
end Go.Proofs.YtplfimoeggecjaaGreatDoor.Sx
