/-
  Flow: what was handed in, opened: numbers, steps.
-/
import Derived.Test.YtpbbohinhbboaaaFl14
import Derived.Test.YtpbbohinhbboaaaOpen
import Derived.Test.YtpbbohinhbboaaaOp2
namespace Go.Proofs.Ytpbbohinhbboaaa.Op
open Go Go.ChangeShapes Go.WideShapes Go.ChangeAt Go.RowKit Go.Deep Go.Proofs.Ytpbbohinhbboaaa.Sx Go.Proofs.Ytpbbohinhbboaaa.Fw

section
variable {H : Type} {enc : TypeId × Value → H} {W : World}
def intR (_ : World) (cs : List Value) (x : Int) : Prop := cs = [.int .i64 x]
def stR (_ : World) (cs : List Value) (x : St) : Prop := cs = [.int .i64 x.kind, .int .i64 x.flow, .int .i64 x.id, .int .i64 x.cost]
theorem IntsAt.of_sl {v : Value} {xs : List Int} (h : SlAt intR 1 W.heap.size W v xs) : IntsAt W v xs := by
  obtain ⟨_, A, c, hv, _, _, hi⟩ := h
  refine ⟨A, c, hv, fun h0 => ?_⟩
  obtain ⟨b, off, _, hA, hb, _⟩ := hi 0 h0
  refine ⟨b, off, hA, hb, fun j hj => ?_⟩
  obtain ⟨b', off', cs, hA', _, _, hr, hcell⟩ := hi j hj
  rw [hA] at hA'
  injection hA' with e
  injection e with e1 e2
  subst e1 e2
  have hr' : cs = [.int .i64 xs[j]] := hr
  have := hcell 0 (.int .i64 xs[j]) (by rw [hr']; rfl)
  rw [List.getD_eq_getElem?_getD, List.getElem?_eq_getElem hj]
  simpa using this
theorem StepsAt.of_sl {v : Value} {xs : List St} (h : SlAt stR 4 W.heap.size W v xs) : StepsAt W v xs := by
  obtain ⟨_, A, c, hv, _, _, hi⟩ := h
  refine ⟨A, c, hv, fun j hj => ?_⟩
  obtain ⟨b, off, cs, hA, hb, _, hr, hcell⟩ := hi j hj
  have hr' : cs = [.int .i64 xs[j].kind, .int .i64 xs[j].flow, .int .i64 xs[j].id, .int .i64 xs[j].cost] := hr
  exact ⟨b, off, hA, hb, hcell 0 _ (by rw [hr']; rfl), hcell 1 _ (by rw [hr']; rfl), hcell 2 _ (by rw [hr']; rfl), hcell 3 _ (by rw [hr']; rfl)⟩
theorem int_el (n : Nat) (cs : List Value) (d : DataW H) (ps : List MemPlace) (h : DataW.trod enc Try.prog W 0 (fun _ => true) true n 3 cs = some (d, ps)) (_ : cs.length = 1) (_ : Rows.uptoBulk d ≤ 1048576) :
    ∃ x : Int, intR W cs x ∧ (fun _ => 0) x + 1 ≤ Rows.uptoBulk d := by
  obtain ⟨k, e1, _⟩ := DataW.trod_int Try.underlying3 h
  exact ⟨k, e1, one_le d⟩
theorem st_el (n : Nat) (cs : List Value) (d : DataW H) (ps : List MemPlace) (h : DataW.trod enc Try.prog W 0 (fun _ => true) true n 35 cs = some (d, ps)) (_ : cs.length = 4) (_ : Rows.uptoBulk d ≤ 1048576) :
    ∃ x : St, stR W cs x ∧ (fun _ => 0) x + 1 ≤ Rows.uptoBulk d := by
  obtain ⟨ys, m, hd, hy, hc, hf⟩ := struct_open Try.underlying35 (by kernel_rfl) (by kernel_rfl) h
  obtain ⟨v0, y0, hv0, hy0, h0⟩ := hf 0 _ rfl
  obtain ⟨v1, y1, hv1, hy1, h1⟩ := hf 1 _ rfl
  obtain ⟨v2, y2, hv2, hy2, h2⟩ := hf 2 _ rfl
  obtain ⟨v3, y3, hv3, hy3, h3⟩ := hf 3 _ rfl
  have hcs : cs = [v0, v1, v2, v3] := by
    match cs, hc with
    | [a, b, c, e], _ => simp at hv0 hv1 hv2 hv3; rw [hv0, hv1, hv2, hv3]
  obtain ⟨k0, e0, _⟩ := DataW.trod_int Try.underlying3 h0
  obtain ⟨k1, e1, _⟩ := DataW.trod_int Try.underlying3 h1
  obtain ⟨k2, e2, _⟩ := DataW.trod_int Try.underlying3 h2
  obtain ⟨k3, e3, _⟩ := DataW.trod_int Try.underlying3 h3
  simp at e0 e1 e2 e3
  subst e0 e1 e2 e3
  exact ⟨⟨k0, k1, k2, k3⟩, hcs, one_le d⟩
set_option maxRecDepth 100000 in
theorem ints_arg {b0 : Nat} {v : Value} {d : DataW H} {p : List MemPlace} (hv : Value.okWide Try.prog W .any b0 24 v) (h : DataW.Trod enc Try.prog W 0 (fun _ => true) true 24 v d p) (hb : Rows.uptoBulk d ≤ 1048576) :
    ∃ xs, IntsAt W v xs ∧ xs.length ≤ 1048576 := by
  obtain ⟨a, n, c, rfl⟩ := okWide_slice Try.underlying24 hv
  obtain ⟨fuel, hf⟩ := h
  obtain ⟨v', xs, e, hs, hw⟩ := slice_open (R := intR) (fun _ => 0) Try.underlying24 (by kernel_rfl) (by omega) (fun n cs d ps => int_el n cs d ps) hf hb
  simp [Value.cells] at e
  subst e
  exact ⟨xs, IntsAt.of_sl hs, by omega⟩
set_option maxRecDepth 100000 in
theorem steps_arg {b0 : Nat} {v : Value} {d : DataW H} {p : List MemPlace} (hv : Value.okWide Try.prog W .any b0 27 v) (h : DataW.Trod enc Try.prog W 0 (fun _ => true) true 27 v d p) (hb : Rows.uptoBulk d ≤ 1048576) :
    ∃ xs, StepsAt W v xs ∧ xs.length ≤ 1048576 := by
  obtain ⟨a, n, c, rfl⟩ := okWide_slice Try.underlying27 hv
  obtain ⟨fuel, hf⟩ := h
  obtain ⟨v', xs, e, hs, hw⟩ := slice_open (R := stR) (fun _ => 0) Try.underlying27 (by kernel_rfl) (by omega) (fun n cs d ps => st_el n cs d ps) hf hb
  simp [Value.cells] at e
  subst e
  exact ⟨xs, StepsAt.of_sl hs, by omega⟩
end
end Go.Proofs.Ytpbbohinhbboaaa.Op
namespace Go.Proofs.Ytpbbohinhbboaaa.Fw
open Go Go.RowKit Go.Proofs.Ytpbbohinhbboaaa.Sx
theorem flowSays_walk (v1 v2 : Value) (zs : List Int) (l : List St) (w : World) (h1 : IntsAt w v1 zs) (h2 : StepsAt w v2 l) (hz : zs.length ≤ 1048576) (hl : l.length ≤ 1048576) :
    Calls Try.prog 4 #[v1, v2] w fun e w' => e = .returned (.bool true) ∧ Ext w w' := by
  by_cases he : newErr zs = 0
  · have h8 : zs.length ≤ 8 := by
      rcases Nat.lt_or_ge 8 zs.length with h | h
      · rw [newErr, if_pos h] at he; omega
      · exact h
    refine flowSays_good v1 v2 zs l w h1 h2 hl he h8 fun f hf => ?_
    have hb : zs.any badW = false := by
      rw [newErr, if_neg (by omega)] at he
      cases hb : zs.any badW
      · rfl
      · rw [if_pos (.inr hb)] at he; omega
    have hm : zs.getD f 0 ∈ zs := by
      rw [List.getD_eq_getElem?_getD, List.getElem?_eq_getElem hf]
      exact List.getElem_mem hf
    have h2 := List.any_eq_false.1 hb _ hm
    generalize zs.getD f 0 = x at h2
    unfold badW at h2
    simp at h2
    omega
  · exact flowSays_bad v1 v2 zs l w h1 h2 hz he
end Go.Proofs.Ytpbbohinhbboaaa.Fw
