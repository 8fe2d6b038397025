/-
  Flow: the line's methods: Len, Less, Swap.
-/
import Derived.Test.YtpbbohinhbboaaaFl1
import Derived.Test.YtpbbohinhbboaaaEqLab
import Derived.Test.YtpbbohinhbboaaaChecked
import Derived.Lib.Hide
import Derived.IntWalk
import Derived.BigQuiet
import Derived.Deep.QuietTactic
import Derived.BigRegion
import Derived.RegionTactic
namespace Go.Proofs.Ytpbbohinhbboaaa.Fw
open Go Go.RowKit Go.Proofs.Ytpbbohinhbboaaa.Sx

abbrev pT : Nat := 108
theorem pTy : TyOk 100 108 := ⟨Try.underlying100, by kernel_rfl⟩
theorem len_any (A : Option Addr) (n c : Nat) (w : World) : Calls Try.prog 190 #[.slice A n c] w fun e w' => e = .returned (.int .i64 (n : Int)) ∧ w = w' := by
  go_enter Try.func190, Try.ntmps190
  go_wp2
  go_ret
  exact ⟨rfl, rfl⟩
set_option maxRecDepth 100000 in
set_option maxHeartbeats 4000000 in
theorem less_any (base : Nat) (v : Value) (L : List Th) (i j : Nat) (w : World) (h : TRow pT base w v L) (hi : i < L.length) (hj : j < L.length) :
    Calls Try.prog 191 #[v, .int .i64 (i : Int), .int .i64 (j : Int)] w fun e w' => e = .returned (.bool (decide (lt (nth L i) (nth L j)))) ∧ Ext w w' := by
  obtain ⟨g, c, rest, rfl, hb, hg, hc, hm⟩ := h.some_ (by omega)
  obtain ⟨a1, a2, a3⟩ := row_three hg hi
  obtain ⟨b1, b2, b3⟩ := row_three hg hj
  obtain ⟨a, ha⟩ : ∃ a, a = nth L i := ⟨_, rfl⟩
  obtain ⟨b, hb⟩ : ∃ a, a = nth L j := ⟨_, rfl⟩
  rw [← ha] at a1 a2 a3
  rw [← hb] at b1 b2 b3
  rw [← ha, ← hb]
  obtain ⟨n, hn⟩ : ∃ n, n = L.length := ⟨_, rfl⟩
  rw [← hn] at hi hj ⊢
  have hi' : (i : Int) < (n : Int) := by omega
  have hj' : (j : Int) < (n : Int) := by omega
  clear ha hb hg hc hm h a1 b1
  by_cases hs : a.start = b.start
  · have t1 : (a.start != b.start) = false := by simp [hs]
    have t2 : (a.start == b.start) = true := by simp [hs]
    have HE : Hid (decide (lt a b) = decide (a.flow < b.flow)) := by unfold Hid lt; simp [hs]
    clear hs
    go_enter Try.func191, Try.ntmps191
    go_wp2
    go_quiet (fail)
    go_wp2
    go_quiet (fail)
    go_wp2
    go_ret
    exact ⟨by rw [HE.out]; rfl, by first | exact Below.refl _ _ | exact (ext_drewN' _ _).trans (ext_drewN' _ _) | exact ext_drewN' _ _⟩
  · have t1 : (a.start != b.start) = true := by simp [hs]
    have t2 : (a.start == b.start) = false := by simp [hs]
    have HE : Hid (decide (lt a b) = decide (a.start < b.start)) := by unfold Hid lt; simp [hs]
    clear hs
    go_enter Try.func191, Try.ntmps191
    go_wp2
    go_quiet (fail)
    go_wp2
    go_quiet (fail)
    go_wp2
    go_ret
    exact ⟨by rw [HE.out]; rfl, by first | exact Below.refl _ _ | exact (ext_drewN' _ _).trans (ext_drewN' _ _) | exact ext_drewN' _ _⟩
theorem grown_refl (w : World) (row : Option Nat) : w.grownBy w row := ⟨rfl, rfl, rfl, Nat.le_refl _, fun _ _ _ => rfl⟩
theorem _root_.Go.World.grownBy.drew' {w w' : World} {row : Option Nat} (h : w.grownBy w' row) : w.grownBy w'.drew row := ⟨h.os, h.tape, h.output, h.size, h.block⟩
theorem grown_setCell {w w' : World} {g o : Nat} {v : Value} (h : w.grownBy w' (some g)) : w.grownBy (w'.setCell ⟨g, o, none⟩ v) (some g) :=
  ⟨h.os, h.tape, h.output, by have := h.size; simpa [World.setCell] using this, fun k hk hne => (Below.heap_setCell w' ⟨g, o, none⟩ v k (fun e => hne (by rw [e]))).trans (h.block k hk hne)⟩
theorem grown_put3 {w : World} {g o1 o2 o3 : Nat} {x y z : Value} (w' : World) (h : w.grownBy w' (some g)) : w.grownBy (((w'.setCell ⟨g, o1, none⟩ x).setCell ⟨g, o2, none⟩ y).setCell ⟨g, o3, none⟩ z) (some g) := grown_setCell (grown_setCell (grown_setCell h))
set_option maxRecDepth 100000 in
set_option maxHeartbeats 4000000 in
theorem swap_any (base : Nat) (v : Value) (L : List Th) (i j : Nat) (w : World) (h : TRow pT base w v L) (hi : i < L.length) (hj : j < L.length) :
    Calls Try.prog 192 #[v, .int .i64 (i : Int), .int .i64 (j : Int)] w fun e w' => e = .returned (.tuple #[]) ∧ TRow pT base w' v (swapL L i j) ∧ w.grownBy w' v.ownBlock := by
  obtain ⟨g, c, rest, rfl, hb, hg, hc, hm⟩ := h.some_ (by omega)
  obtain ⟨a1, a2, a3⟩ := row_three hg hi
  obtain ⟨b1, b2, b3⟩ := row_three hg hj
  obtain ⟨a, ha⟩ : ∃ a, a = nth L i := ⟨_, rfl⟩
  obtain ⟨b, hb'⟩ : ∃ a, a = nth L j := ⟨_, rfl⟩
  rw [← ha] at a1 a2 a3
  rw [← hb'] at b1 b2 b3
  obtain ⟨n, hn⟩ : ∃ n, n = L.length := ⟨_, rfl⟩
  rw [← hn] at hi hj ⊢
  have hi' : (i : Int) < (n : Int) := by omega
  have hj' : (j : Int) < (n : Int) := by omega
  obtain ⟨W1, hW1⟩ : ∃ W, (((w.setCell ⟨g, i * 3, none⟩ (.int .i64 b.id)).setCell ⟨g, i * 3 + 1, none⟩ (.int .i64 b.flow)).setCell ⟨g, i * 3 + 2, none⟩ (.int .i64 b.start)).drew = W := ⟨_, rfl⟩
  obtain ⟨W2, hW2⟩ : ∃ W, ((W1.setCell ⟨g, j * 3, none⟩ (.int .i64 a.id)).setCell ⟨g, j * 3 + 1, none⟩ (.int .i64 a.flow)).setCell ⟨g, j * 3 + 2, none⟩ (.int .i64 a.start) = W := ⟨_, rfl⟩
  have g1 : W1.heap[g]? = some (.cells (tcells (L.set i b) ++ rest).toArray pT (0, 0)) := by rw [← hW1]; exact row_put (w := w) hg (by omega) b
  have g2 : W2.heap[g]? = some (.cells (tcells ((L.set i b).set j a) ++ rest).toArray pT (0, 0)) := by rw [← hW2]; exact row_put g1 (by rw [List.length_set]; omega) a
  have k1 : w.grownBy W1 (some g) := by rw [← hW1]; exact (grown_put3 w (grown_refl w _)).drew'
  have k2 : w.grownBy W2 (some g) := by rw [← hW2]; exact grown_put3 W1 k1
  obtain ⟨c1, c2, c3⟩ := row_three g1 (k := j) (by rw [List.length_set]; omega)
  have e0 : w.frozen? ⟨g, i * 3, none⟩ = false := row_free hg
  have e1 : w.frozen? ⟨g, i * 3 + 1, none⟩ = false := row_free hg
  have e2 : w.frozen? ⟨g, i * 3 + 2, none⟩ = false := row_free hg
  have f0 : W1.frozen? ⟨g, j * 3, none⟩ = false := row_free g1
  have f1 : W1.frozen? ⟨g, j * 3 + 1, none⟩ = false := row_free g1
  have f2 : W1.frozen? ⟨g, j * 3 + 2, none⟩ = false := row_free g1
  have HEND : Hid (TRow pT base W2 (.slice (some ⟨g, 0, none⟩) n c) (swapL L i j) ∧ w.grownBy W2 (some g)) := by
    refine ⟨.inr ⟨g, c, rest, ?_, hb, ?_, ?_, hm⟩, k2⟩
    · rw [swap_len, hn]
    · rw [g2, ha, hb']; rfl
    · rw [swap_len]; exact hc
  clear g1 g2 k1 k2 ha hb' hb hg hc hm h hn
  go_enter Try.func192, Try.ntmps192
  go_wp2
  go_region
  go_end0
  exact ⟨rfl, HEND.out⟩
/-! ### What a method of the line stands for, through an interface -/
abbrev ptrT : Nat := 106
set_option maxRecDepth 100000
abbrev lT : Nat := 100
theorem run_receiver (a : Addr) (w : World) (s : String) : (receiverAt ptrT (.val (.pointer (some a))) false (some s)).run Try.prog w = (loadVar lT a).run Try.prog w := by kernel_rfl
theorem run_load_line {a : Addr} {v : Value} {w : World} (h : w.cell? a = some v) : (loadVar lT a).run Try.prog w = .ok v w := by
  have e : (isAgg lT).run Try.prog w = .ok false w := by kernel_rfl
  unfold loadVar
  go_simp
theorem method_of {f : Nat} {a : Addr} {v : Value} {w : World} (n : Nat) (name : String) (h : w.cell? a = some v)
    (hm : ((Try.prog.info? ptrT).map fun i => (i.methods.find? (·.name == name)).map (fun m => (m.path.toList, m.func))) = some (some ([], some (f, false)))) :
    (method (n + 1) ptrT (.pointer (some a)) name).run Try.prog w = .ok (f, v) w := by
  cases hi : Try.prog.info? ptrT with
  | none => rw [hi] at hm; cases hm
  | some i =>
    rw [hi] at hm
    simp only [Option.map_some, Option.some.injEq] at hm
    cases hf : i.methods.find? (·.name == name) with
    | none => rw [hf] at hm; cases hm
    | some m =>
      rw [hf] at hm
      simp only [Option.map_some, Option.some.injEq, Prod.mk.injEq] at hm
      obtain ⟨h1, h2⟩ := hm
      have h3 : m.path = #[] := Array.toList_eq_nil_iff.1 h1
      unfold method
      simp [typeInfo, hi, hf, h2, h3, follow, Result.andThen]
      rw [run_receiver, run_load_line h]
theorem m_less (a : Addr) (v : Value) (w : World) (h : w.cell? a = some v) : (method 343 ptrT (.pointer (some a)) "Less").run Try.prog w = .ok (191, v) w := method_of 342 "Less" h (by kernel_rfl)
theorem m_swap (a : Addr) (v : Value) (w : World) (h : w.cell? a = some v) : (method 343 ptrT (.pointer (some a)) "Swap").run Try.prog w = .ok (192, v) w := method_of 342 "Swap" h (by kernel_rfl)
theorem m_len (a : Addr) (v : Value) (w : World) (h : w.cell? a = some v) : (method 343 ptrT (.pointer (some a)) "Len").run Try.prog w = .ok (190, v) w := method_of 342 "Len" h (by kernel_rfl)
theorem m_push (a : Addr) (w : World) : (method 343 ptrT (.pointer (some a)) "Push").run Try.prog w = .ok (194, .pointer (some a)) w := by kernel_rfl
theorem m_pop (a : Addr) (w : World) : (method 343 ptrT (.pointer (some a)) "Pop").run Try.prog w = .ok (193, .pointer (some a)) w := by kernel_rfl
theorem grown_cell {w w' : World} {row : Option Nat} {g o : Nat} {v : Value} (h : w.grownBy w' row) (hc : w.cell? ⟨g, o, none⟩ = some v) (hne : row ≠ some g) : w'.cell? ⟨g, o, none⟩ = some v := by
  have hg : g < w.heap.size := by
    rcases Nat.lt_or_ge g w.heap.size with h1 | h1
    · exact h1
    · simp [World.cell?, Array.getElem?_eq_none h1] at hc
  have e := h.block g hg (fun e => hne e.symm)
  simp only [World.cell?] at hc ⊢
  rw [e]
  exact hc
theorem grown_trans {w w' w'' : World} {row : Option Nat} (h : w.grownBy w' row) (h' : w'.grownBy w'' row) : w.grownBy w'' row :=
  ⟨h'.os.trans h.os, h'.tape.trans h.tape, h'.output.trans h.output, Nat.le_trans h.size h'.size, fun k hk hne => (h'.block k (Nat.lt_of_lt_of_le hk h.size) hne).trans (h.block k hk hne)⟩
end Go.Proofs.Ytpbbohinhbboaaa.Fw
