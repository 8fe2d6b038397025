/-
  The program's grants.Allows: some rule allows it.
-/
import Derived.Test.YtplfimoeggecjaaDoorAlw
namespace Go.Proofs.YtplfimoeggecjaaDoor.Sx
open Go Go.RowKit

/-- The ask's box. -/
def AskIn (w : World) (k : Nat) (a : Ask) : Prop := w.heap[k]? = some (.cells #[.string a.verb, .string a.kind, .string a.space, .string a.name] 33 (0, 0))
def allowsL (l : List Rule) (a : Ask) : Bool := l.any fun r => okRule r a

theorem RulesR.at_ {B : Nat} {w : World} {A : Option Addr} {c : Nat} {l : List Rule} (h : RulesR B w (.slice A l.length c) l) {j : Nat} (hj : j < l.length) :
    ∃ b off A1 c1 A2 c2 A3 c3, A = some ⟨b, off, none⟩ ∧ b < B ∧ w.cell? ⟨b, off + j * 3, none⟩ = some (.slice A1 l[j].verbs.length c1) ∧ w.cell? ⟨b, off + j * 3 + 1, none⟩ = some (.slice A2 l[j].kinds.length c2) ∧ w.cell? ⟨b, off + j * 3 + 2, none⟩ = some (.slice A3 l[j].names.length c3) ∧
      StrsR B w (.slice A1 l[j].verbs.length c1) l[j].verbs ∧ StrsR B w (.slice A2 l[j].kinds.length c2) l[j].kinds ∧ StrsR B w (.slice A3 l[j].names.length c3) l[j].names := by
  obtain ⟨_, A', c', hv, hi⟩ := h
  obtain ⟨b, off, cs, hA, hlt, _, ⟨v1, v2, v3, rfl, h1, h2, h3⟩, hc⟩ := hi j hj
  injection hv with e1 _ _
  subst e1 hA
  obtain ⟨c0, c1, c2⟩ := at3 hc
  obtain ⟨_, A1, k1, rfl, _⟩ := id h1
  obtain ⟨_, A2, k2, rfl, _⟩ := id h2
  obtain ⟨_, A3, k3, rfl, _⟩ := id h3
  exact ⟨b, off, A1, k1, A2, k2, A3, k3, rfl, hlt, c0, c1, c2, h1, h2, h3⟩

theorem past_cell {w : World} {k : Nat} {c : Array Value} {t : TypeId} {f : Nat × Nat} (h : w.heap[k]? = some (.cells c t f)) (j : Nat) (o : Obj) : (w.alloc o).cell? ⟨k, j, none⟩ = c[j]? := cell_of (heap_old h) j

set_option maxRecDepth 100000 in
set_option maxHeartbeats 1000000 in
theorem allowClosure (B k : Nat) (a : Ask) (A1 A2 A3 : Option Addr) (c1 c2 c3 : Nat) (r : Rule) (w : World) (hB : B ≤ w.heap.size) (ha : AskIn w k a) (h1 : StrsR B w (.slice A1 r.verbs.length c1) r.verbs) (h2 : StrsR B w (.slice A2 r.kinds.length c2) r.kinds) (h3 : StrsR B w (.slice A3 r.names.length c3) r.names) :
    Calls Tryd.prog 32 #[.agg #[.slice A1 r.verbs.length c1, .slice A2 r.kinds.length c2, .slice A3 r.names.length c3], .pointer (some ⟨k, 0, none⟩)] w fun e w' => e = .returned (.bool (okRule r a)) ∧ Ext w w' := by
  have HV := Lib.hid (And.intro h1 (And.intro h2 h3))
  have hk := heap_lt ha
  have hne : k ≠ w.heap.size := by omega
  have o0 := past_cell ha 0
  have o1 := past_cell ha 1
  have o2 := past_cell ha 2
  have o3 := past_cell ha 3
  simp at o0 o1 o2 o3
  have hA : Hid (∀ o, AskIn (w.alloc o) k a) := fun o => heap_old ha
  clear h1 h2 h3 ha
  go_enter Tryd.func32, Tryd.ntmps32
  go_wp2_with fail
  have hal : ∀ o, Ext w (w.alloc o) := fun o => (Below.refl _ _).alloc (Nat.le_refl _) _
  have hle : ∀ o, B ≤ (w.alloc o).heap.size := fun o => Nat.le_trans hB (hal o).size
  refine Calls.mono (allows_any B _ _ _ r a _ (hle _) (HV.out.1.below ((hal _).mono hB) (Nat.le_refl _)) (HV.out.2.1.below ((hal _).mono hB) (Nat.le_refl _)) (HV.out.2.2.below ((hal _).mono hB) (Nat.le_refl _))) ?_
  rintro e w' ⟨rfl, hx⟩
  have HX := Lib.hid ((hal _).trans hx)
  clear hx hal hle
  go_wp2
  go_ret
  exact ⟨rfl, HX.out⟩

set_option maxRecDepth 100000 in
set_option maxHeartbeats 1000000 in
theorem allowIdx (B k : Nat) (a : Ask) (A : Option Addr) (cap : Nat) (l : List Rule) (w : World) (ha : AskIn w k a) (hB : B ≤ w.heap.size) (hv : RulesR B w (.slice A l.length cap) l) :
    Calls Tryd.prog 47 #[.slice A l.length cap, .func (.func 32) #[] #[.pointer (some ⟨k, 0, none⟩)]] w
      fun e w' => ∃ n : Int, e = .returned (.int .i64 n) ∧ decide (0 ≤ n) = allowsL l a ∧ n < 1099511627777 ∧ -1 ≤ n ∧ Ext w w' := by
  have hn := hv.1
  have HV := Lib.hid hv
  have H := Lib.hid ha
  clear ha hv
  go_enter Tryd.func47, Tryd.ntmps47
  go_wp2
  go_loopw [5, 8] (fun i k wr => ∃ j : Nat, j ≤ l.length ∧ k = .int .i64 j ∧ Hid (noneTo (fun r => okRule r a) l j) ∧ Hid (Ext w wr)) (fun _ k _ => l.length - (intOf k).toNat)
  case atStart => exact ⟨0, Nat.zero_le _, rfl, fun i hi h => by omega, Below.refl _ _⟩
  case round =>
    obtain ⟨j, hj, rfl, hN, hX⟩ := hrel
    by_cases hlt : j < l.length
    · have hbl := hX.out.mono hB
      obtain ⟨b, off, A1, c1, A2, c2, A3, c3, rfl, _, x0, x1, x2, h1, h2, h3⟩ := (HV.out.below hbl (Nat.le_refl _)).at_ hlt
      have hBr : B ≤ wr.heap.size := Nat.le_trans hB hX.out.size
      have hAr : AskIn wr k a := (hX.out.block k (heap_lt H.out)).trans H.out
      have HS : Hid (∀ b, okRule l[j] a = b → (fun r => okRule r a) l[j] = b) := fun b hb => hb
      have HC : Hid (B ≤ wr.heap.size ∧ AskIn wr k a ∧ StrsR B wr (.slice A1 l[j].verbs.length c1) l[j].verbs ∧ StrsR B wr (.slice A2 l[j].kinds.length c2) l[j].kinds ∧ StrsR B wr (.slice A3 l[j].names.length c3) l[j].names) := ⟨hBr, hAr, h1, h2, h3⟩
      obtain ⟨r, hr⟩ : ∃ r, r = l[j] := ⟨_, rfl⟩
      rw [← hr] at x0 x1 x2 HC
      have HR := Lib.hid hr
      clear hr hbl hBr hAr h1 h2 h3
      cases hb : okRule r a with
      | true =>
        have HT := Lib.hid (any_some (p := fun r => okRule r a) hlt (HS.out _ (by rw [← HR.out]; exact hb)))
        have HB := Lib.hid hb
        clear hb
        go_wp2_with (go_at_call 32; refine (allowClosure B _ a _ _ _ _ _ _ r _ HC.out.1 HC.out.2.1 HC.out.2.2.1 HC.out.2.2.2.1 HC.out.2.2.2.2).mono ?_; rintro e w' ⟨rfl, hx⟩; have HX2 := Lib.hid hx; clear hx; rw [HB.out])
        go_ret
        exact ⟨j, rfl, by unfold allowsL; rw [HT.out]; simp, by omega, by omega, hX.out.trans HX2.out⟩
      | false =>
        have HT := Lib.hid (noneTo_succ hN.out hlt (HS.out _ (by rw [← HR.out]; exact hb)))
        have HB := Lib.hid hb
        clear hb
        go_wp2_with (go_at_call 32; refine (allowClosure B _ a _ _ _ _ _ _ r _ HC.out.1 HC.out.2.1 HC.out.2.2.1 HC.out.2.2.2.1 HC.out.2.2.2.2).mono ?_; rintro e w' ⟨rfl, hx⟩; have HX2 := Lib.hid hx; clear hx; rw [HB.out])
        go_roundw
        case rel => exact ⟨j + 1, hlt, by go_num, HT, hX.out.trans HX2.out⟩
        case measure => simp [intOf]; omega
    · have HA := Lib.hid (any_none hN.out (by omega))
      go_wp2
      go_ret
      exact ⟨-1, rfl, by unfold allowsL; rw [HA.out]; rfl, by omega, by omega, hX.out⟩

set_option maxRecDepth 100000 in
theorem allowHas (B k : Nat) (a : Ask) (A : Option Addr) (cap : Nat) (l : List Rule) (w : World) (ha : AskIn w k a) (hB : B ≤ w.heap.size) (hv : RulesR B w (.slice A l.length cap) l) :
    Calls Tryd.prog 31 #[.slice A l.length cap, .func (.func 32) #[] #[.pointer (some ⟨k, 0, none⟩)]] w fun e w' => e = .returned (.bool (allowsL l a)) ∧ Ext w w' := by
  have H := Lib.hid ha
  have HV := Lib.hid hv
  clear ha hv
  go_enter Tryd.func31, Tryd.ntmps31
  go_wp2_with (go_at_call 47; refine (allowIdx B k a A cap l _ H.out hB HV.out).mono ?_; rintro e w' ⟨m, rfl, hm, hm1, hm2, hx⟩; have HM := Lib.hid hm; have HX := Lib.hid hx; clear hm hx)
  go_ret
  exact ⟨ret_bool HM.out, HX.out⟩

set_option maxRecDepth 100000 in
theorem gallows_any (B : Nat) (v : Value) (l : List Rule) (a : Ask) (w : World) (hB : B ≤ w.heap.size) (hv : RulesR B w v l) :
    Calls Tryd.prog 11 #[v, a.val] w fun e w' => e = .returned (.bool (allowsL l a)) ∧ Ext w w' := by
  have HV := Lib.hid hv
  obtain ⟨_, A, cap, rfl, _⟩ := hv
  unfold Ask.val
  go_enter Tryd.func11, Tryd.ntmps11
  go_wp2_with fail
  have hal : ∀ o, Ext w (w.alloc o) := fun o => (Below.refl _ _).alloc (Nat.le_refl _) _
  refine Calls.mono (allowHas B w.heap.size a A cap l _ (heap_new rfl) (Nat.le_trans hB (hal _).size) (HV.out.below ((hal _).mono hB) (Nat.le_refl _))) ?_
  rintro e w' ⟨rfl, hx⟩
  have HX := Lib.hid ((hal _).trans hx)
  clear hx hal
  go_wp2
  go_ret
  exact ⟨rfl, HX.out⟩
end Go.Proofs.YtplfimoeggecjaaDoor.Sx
