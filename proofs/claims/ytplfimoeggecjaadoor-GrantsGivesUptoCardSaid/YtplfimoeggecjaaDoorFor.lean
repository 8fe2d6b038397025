/-
  Whom a bind is for: the program's grants.isFor.
-/
import Derived.Test.YtplfimoeggecjaaDoorAlw2
import Derived.Test.YtplfimoeggecjaaDoorUsr
namespace Go.Proofs.YtplfimoeggecjaaDoor.Sx
open Go Go.RowKit

def groupsFor (b : Bind) (l : List ByteArray) : Bool := l.any fun g => hasS b.groups g
def isForB (b : Bind) (u : User) : Bool := hasS b.users u.name || groupsFor b u.groups

/-- A bind's box. -/
def BindIn (w : World) (k : Nat) (b : Bind) (A1 A2 : Option Addr) (c1 c2 : Nat) : Prop :=
  w.heap[k]? = some (.cells #[.string b.space, .string b.name, .string b.role, .bool b.whole, .slice A1 b.users.length c1, .slice A2 b.groups.length c2] 71 (0, 0))

set_option maxRecDepth 100000 in
theorem forClosure (B k : Nat) (b : Bind) (A1 A2 : Option Addr) (c1 c2 : Nat) (g : ByteArray) (w : World) (hb : BindIn w k b A1 A2 c1 c2) (h : StrsR B w (.slice A2 b.groups.length c2) b.groups) :
    Calls Tryd.prog 58 #[.string g, .pointer (some ⟨k, 0, none⟩)] w fun e w' => e = .returned (.bool (hasS b.groups g)) ∧ w = w' := by
  obtain ⟨_, _, _, _, _, x5⟩ := cells6 hb
  have H := Lib.hid h
  clear h hb
  go_enter Tryd.func58, Tryd.ntmps58
  go_wp2_with (go_at_call 30; refine (contains_strs _ H.out).mono ?_; rintro e w' ⟨rfl, rfl⟩)
  go_ret
  exact ⟨rfl, rfl⟩

set_option maxRecDepth 100000 in
set_option maxHeartbeats 1000000 in
theorem forIdx (B k : Nat) (b : Bind) (A1 A2 A : Option Addr) (c1 c2 cap : Nat) (l : List ByteArray) (w : World) (hb : BindIn w k b A1 A2 c1 c2) (h : StrsR B w (.slice A2 b.groups.length c2) b.groups) (hv : StrsR B w (.slice A l.length cap) l) :
    Calls Tryd.prog 65 #[.slice A l.length cap, .func (.func 58) #[] #[.pointer (some ⟨k, 0, none⟩)]] w
      fun e w' => ∃ n : Int, e = .returned (.int .i64 n) ∧ decide (0 ≤ n) = groupsFor b l ∧ n < 1099511627777 ∧ -1 ≤ n ∧ w = w' := by
  have hn := hv.1
  have HV := Lib.hid hv
  have H := Lib.hid (And.intro hb h)
  clear hb h hv
  go_enter Tryd.func65, Tryd.ntmps65
  go_wp2
  go_loopw [8] (fun k wr => ∃ j : Nat, j ≤ l.length ∧ k = .int .i64 j ∧ Hid (noneTo (fun g => hasS b.groups g) l j) ∧ wr = w) (fun k _ => l.length - (intOf k).toNat)
  case atStart => exact ⟨0, Nat.zero_le _, rfl, fun i hi h => by omega, rfl⟩
  case round =>
    obtain ⟨j, hj, rfl, hN, rfl⟩ := hrel
    by_cases hlt : j < l.length
    · obtain ⟨bb, off, c', hv, _, hc⟩ := StrsR.cells HV.out (by omega)
      injection hv with h1 h2 h3
      subst h1 h3
      have hcell := (hc j hlt).1
      have HT : Hid (hasS b.groups l[j] = true → groupsFor b l = true) := fun h => any_some (p := fun g => hasS b.groups g) hlt h
      have HF : Hid (hasS b.groups l[j] = false → noneTo (fun g => hasS b.groups g) l (j + 1)) := fun h => noneTo_succ hN.out hlt h
      obtain ⟨x, hx⟩ : ∃ x, x = l[j] := ⟨_, rfl⟩
      rw [← hx] at hcell HT HF
      clear hx hc h2
      cases hh : hasS b.groups x with
      | true =>
        have HH := Lib.hid hh
        have HT' := Lib.hid (HT.out hh)
        clear hh
        go_wp2_with (go_at_call 58; refine (forClosure B _ b _ _ _ _ _ _ H.out.1 H.out.2).mono ?_; rintro e w' ⟨rfl, rfl⟩; rw [HH.out])
        go_ret
        exact ⟨j, rfl, by rw [HT'.out]; simp, by omega, by omega, rfl⟩
      | false =>
        have HH := Lib.hid hh
        have HF' := Lib.hid (HF.out hh)
        clear hh
        go_wp2_with (go_at_call 58; refine (forClosure B _ b _ _ _ _ _ _ H.out.1 H.out.2).mono ?_; rintro e w' ⟨rfl, rfl⟩; rw [HH.out])
        go_roundw
        case rel => exact ⟨j + 1, hlt, by go_num, HF', trivial⟩
        case measure => simp [intOf]; omega
    · have HA := Lib.hid (any_none hN.out (by omega))
      go_wp2
      go_ret
      exact ⟨-1, rfl, by unfold groupsFor; rw [HA.out]; rfl, by omega, by omega, rfl⟩

set_option maxRecDepth 100000 in
theorem forHas (B k : Nat) (b : Bind) (A1 A2 A : Option Addr) (c1 c2 cap : Nat) (l : List ByteArray) (w : World) (hb : BindIn w k b A1 A2 c1 c2) (h : StrsR B w (.slice A2 b.groups.length c2) b.groups) (hv : StrsR B w (.slice A l.length cap) l) :
    Calls Tryd.prog 57 #[.slice A l.length cap, .func (.func 58) #[] #[.pointer (some ⟨k, 0, none⟩)]] w fun e w' => e = .returned (.bool (groupsFor b l)) ∧ w = w' := by
  have H := Lib.hid (And.intro hb (And.intro h hv))
  clear hb h hv
  go_enter Tryd.func57, Tryd.ntmps57
  go_wp2_with (go_at_call 65; refine (forIdx B k b A1 A2 A c1 c2 cap l _ H.out.1 H.out.2.1 H.out.2.2).mono ?_; rintro e w' ⟨m, rfl, hm, hm1, hm2, rfl⟩; have HM := Lib.hid hm; clear hm)
  go_ret
  exact ⟨ret_bool HM.out, rfl⟩

set_option maxRecDepth 100000 in
set_option maxHeartbeats 1000000 in
theorem isFor_any (B : Nat) (b : Bind) (A1 A2 A : Option Addr) (c1 c2 c : Nat) (u : User) (w : World) (hB : B ≤ w.heap.size) (h1 : StrsR B w (.slice A1 b.users.length c1) b.users) (h2 : StrsR B w (.slice A2 b.groups.length c2) b.groups) (h3 : StrsR B w (.slice A u.groups.length c) u.groups) :
    Calls Tryd.prog 40 #[.agg #[.string b.space, .string b.name, .string b.role, .bool b.whole, .slice A1 b.users.length c1, .slice A2 b.groups.length c2], .agg #[.string u.name, .slice A u.groups.length c]] w fun e w' => e = .returned (.bool (isForB b u)) ∧ Ext w w' := by
  have HV := Lib.hid (And.intro h1 (And.intro h2 h3))
  clear h1 h2 h3
  have hE : Hid (∀ p, hasS b.users u.name = p → isForB b u = (p || groupsFor b u.groups)) := fun p e => by unfold isForB; rw [e]
  go_enter Tryd.func40, Tryd.ntmps40
  go_wp2_with fail
  obtain ⟨w0, hw0⟩ : ∃ w0, w0 = (w.alloc (.cells #[.string b.space, .string b.name, .string b.role, .bool b.whole, .slice A1 b.users.length c1, .slice A2 b.groups.length c2] 71)).alloc (.cells #[.string u.name, .slice A u.groups.length c] 28) := ⟨_, rfl⟩
  have hx0 : Ext w w0 := by rw [hw0]; exact ((Below.refl _ _).alloc (Nat.le_refl _) _).alloc (by simp) _
  have hg0 : BindIn w0 w.heap.size b A1 A2 c1 c2 := by rw [hw0]; exact heap_old (heap_new rfl)
  have hu0 : w0.heap[w.heap.size + 1]? = some (.cells #[.string u.name, .slice A u.groups.length c] 28 (0, 0)) := by rw [hw0]; exact heap_new (by simp)
  obtain ⟨x0, x1, x2, x3, x4, x5⟩ := cells6 hg0
  obtain ⟨y0, y1⟩ := cells2 hu0
  rw [← hw0]
  have hbl := hx0.mono hB
  have HX0 := Lib.hid hx0
  have HG := Lib.hid hg0
  have HS : Hid (StrsR B w0 (.slice A1 b.users.length c1) b.users ∧ StrsR B w0 (.slice A2 b.groups.length c2) b.groups ∧ StrsR B w0 (.slice A u.groups.length c) u.groups) := ⟨HV.out.1.below hbl (Nat.le_refl _), HV.out.2.1.below hbl (Nat.le_refl _), HV.out.2.2.below hbl (Nat.le_refl _)⟩
  clear hw0 hx0 hg0 hu0 hbl
  refine Calls.mono (contains_strs _ HS.out.1) ?_
  rintro e w' ⟨rfl, rfl⟩
  cases hp : hasS b.users u.name with
  | true =>
    have hf := Lib.hid (hE.out _ hp)
    clear hp
    go_wp2
    go_ret
    exact ⟨ret_bool (by rw [hf.out]; rfl), HX0.out⟩
  | false =>
    have hf := Lib.hid (hE.out _ hp)
    clear hp
    go_wp2_with fail
    refine Calls.mono (forHas B _ b _ _ _ _ _ _ u.groups _ HG.out HS.out.2.1 HS.out.2.2) ?_
    rintro e w' ⟨rfl, rfl⟩
    go_wp2
    go_ret
    exact ⟨ret_bool (by rw [hf.out]; rfl), HX0.out⟩
end Go.Proofs.YtplfimoeggecjaaDoor.Sx
