/-
  The program's grants.CheckAsk: the walk.
-/
import Derived.Test.YtpbbohinhbboaaaChk7
namespace Go.Proofs.Ytpbbohinhbboaaa.Sx
open Go Go.RowKit

structure Ask where
  verb : ByteArray
  kind : ByteArray
  space : ByteArray
  name : ByteArray
def Ask.small (a : Ask) : Prop := a.verb.size ≤ 1048576 ∧ a.kind.size ≤ 1048576 ∧ a.space.size ≤ 1048576 ∧ a.name.size ≤ 1048576
def Ask.val (a : Ask) : Value := .agg #[.string a.verb, .string a.kind, .string a.space, .string a.name]
/-- What grants.CheckAsk answers. -/
def askI (a : Ask) : Int := spaceI (spaceI (namesI 0 [a.verb, a.kind] false) a.space) a.name

theorem cells4 {w : World} {k : Nat} {a0 a1 a2 a3 : Value} {t : TypeId} {f : Nat × Nat} (h : w.heap[k]? = some (.cells #[a0, a1, a2, a3] t f)) :
    w.cell? ⟨k, 0, none⟩ = some a0 ∧ w.cell? ⟨k, 1, none⟩ = some a1 ∧ w.cell? ⟨k, 2, none⟩ = some a2 ∧ w.cell? ⟨k, 3, none⟩ = some a3 := by
  refine ⟨?_, ?_, ?_, ?_⟩ <;> simp [cell_of h]

set_option maxRecDepth 100000 in
set_option maxHeartbeats 1000000 in
theorem gask_any (a : Ask) (w : World) (ha : a.small) : Calls Try.prog 31 #[a.val] w (CheckPost w (askI a)) := by
  obtain ⟨h1, h2, h3, h4⟩ := ha
  unfold Ask.val
  go_enter Try.func31, Try.ntmps31
  go_wp2_with fail
  obtain ⟨w0, hw0⟩ : ∃ w0, w0 = ((w.alloc (.cells #[.string a.verb, .string a.kind, .string a.space, .string a.name] 68)).alloc (.cells #[.int .i64 0] 127)).alloc (.cells #[.string a.verb, .string a.kind] 9) := ⟨_, rfl⟩
  have hg : ((w.alloc (.cells #[.string a.verb, .string a.kind, .string a.space, .string a.name] 68)).alloc (.cells #[.int .i64 0] 127)).heap[w.heap.size]? = some (.cells #[.string a.verb, .string a.kind, .string a.space, .string a.name] 68 (0, 0)) := heap_old (heap_new rfl)
  have hg0 : w0.heap[w.heap.size]? = some (.cells #[.string a.verb, .string a.kind, .string a.space, .string a.name] 68 (0, 0)) := by rw [hw0]; exact heap_old hg
  have hc0 : Chk w0 (w.heap.size + 1) 0 := by rw [hw0]; exact heap_old (heap_new (by simp))
  have hs0 : StrsS (w.heap.size + 1) w0 (some ⟨w.heap.size + 1 + 1, 0, none⟩) [a.verb, a.kind] := by
    rw [hw0]
    have := two_strs (w := (w.alloc (.cells #[.string a.verb, .string a.kind, .string a.space, .string a.name] 68)).alloc (.cells #[.int .i64 0] 127)) (b := w.heap.size + 1) (by simp) h1 h2
    simpa using this
  have hx0 : Ext w w0 := by rw [hw0]; exact (((Below.refl _ _).alloc (Nat.le_refl _) _).alloc (by simp) _).alloc (by simp; omega) _
  have hsz : w.heap.size + 1 ≤ w0.heap.size := Nat.le_of_lt (heap_lt hc0)
  have HX0 := Lib.hid hx0
  have HG0 := Lib.hid hg0
  rw [← hw0]
  clear hw0 hg hx0 hg0
  refine Calls.mono (names_any _ _ _ _ [a.verb, a.kind] false _ hc0 hs0) ?_
  rintro e w1 ⟨rfl, hc, hm⟩
  have HC1 := Lib.hid hc
  have hg1 := hm.heap (safe_of (by omega) HG0.out (by decide)) HG0.out
  obtain ⟨g0, g1, g2, g3⟩ := cells4 hg1
  have HG1 := Lib.hid hg1
  have HM1 := Lib.hid hm
  clear hc hm hg1 hc0 hs0
  go_wp2_with fail
  refine Calls.mono (space_any _ _ _ _ HC1.out h3) ?_
  rintro e w2 ⟨rfl, hc, hm⟩
  have HC2 := Lib.hid hc
  have hg2 := hm.heap (safe_of (by omega) HG1.out (by decide)) HG1.out
  obtain ⟨k0, k1, k2, k3⟩ := cells4 hg2
  have HM2 := Lib.hid (HM1.out.trans hm)
  clear hc hm hg2
  go_wp2_with fail
  refine Calls.mono (space_any _ _ _ _ HC2.out h4) ?_
  rintro e w3 ⟨rfl, hc, hm⟩
  have hcb : w3.cell? ⟨w.heap.size + 1, 0, none⟩ = some (.int .i64 (askI a)) := by have := cell_of hc 0; simpa [askI] using this
  have HM3 := Lib.hid (HM2.out.trans hm)
  clear hc hm
  have HE : Hid (Ext w w3) := Below.trans HX0.out ((HM3.out.below hsz).mono (Nat.le_succ _))
  go_wp2
  go_ret
  exact ⟨rfl, HE.out⟩
end Go.Proofs.Ytpbbohinhbboaaa.Sx
