/-
  What was handed in, opened: strings' slices, labels, objects, structs with fields of several cells.
-/
import Derived.Test.YtplfimoeggecjaaGreatDoorOpen
import Derived.Test.YtplfimoeggecjaaGreatDoorSlr
import Derived.Test.YtplfimoeggecjaaGreatDoorHas
namespace Go.Proofs.YtplfimoeggecjaaGreatDoor.Op
open Go Go.ChangeShapes Go.WideShapes Go.ChangeAt Go.RowKit Go.Deep Go.Proofs.YtplfimoeggecjaaGreatDoor.Sx

section
variable {H : Type} {enc : TypeId × Value → H} {P : Program} {W : World}

theorem struct_parts {t : TypeId} {fs : Array Field} {fuel : Nat} {cs : List Value} {d : DataW H} {ps : List MemPlace} (ht : P.underlying t = some (.struct fs)) (h : DataW.trod enc P W 0 (fun _ => true) true fuel t cs = some (d, ps)) :
    ∃ (ys : List (DataW H × List MemPlace)) (n : Nat), d = .agg (ys.map (·.1)) ∧ ys.length = fs.size ∧ cs.length = P.cellsOf t ∧
      ∀ (j : Nat) (f : Field), fs[j]? = some f → ∃ y : DataW H × List MemPlace, ys[j]? = some y ∧ DataW.trod enc P W 0 (fun _ => true) true n f.type ((cs.drop f.offset).take (P.cellsOf f.type)) = some y := by
  obtain ⟨ys, n, _, hy, hlen, hyl, hf⟩ := DataW.trod_struct ht h
  simp only [Prod.mk.injEq] at hy
  refine ⟨ys, n, hy.1, hyl, hlen, fun j f hj => ?_⟩
  have hjl : j < fs.size := (Array.getElem?_eq_some_iff.1 hj).1
  have h1 := hf j f hj
  have hys : ys[j]? = some (ys[j]'(by omega)) := List.getElem?_eq_getElem (by omega)
  exact ⟨_, hys, h1.trans hys⟩
theorem int_open {t : TypeId} {k : IntKind} {fuel : Nat} {cs : List Value} {d : DataW H} {ps : List MemPlace} (ht : P.underlying t = some (.int k)) (h : DataW.trod enc P W 0 (fun _ => true) true fuel t cs = some (d, ps)) :
    ∃ n : Int, cs = [.int k n] := by
  obtain ⟨n, rfl, _, _⟩ := DataW.trod_int ht h
  exact ⟨n, rfl⟩

theorem str_el' (n : Nat) (cs : List Value) (d : DataW H) (ps : List MemPlace) (h : DataW.trod enc Tryz.prog W 0 (fun _ => true) true n 9 cs = some (d, ps)) (_ : cs.length = 1) (hb : Rows.uptoBulk d ≤ 1048576) :
    ∃ x, strR W cs x ∧ ByteArray.size x + 1 ≤ Rows.uptoBulk d := by
  obtain ⟨s, rfl, hs⟩ := string_open Tryz.underlying9 h
  exact ⟨s, ⟨rfl, by omega⟩, by omega⟩
theorem strs_open' {n : Nat} {cs : List Value} {d : DataW H} {ps : List MemPlace} (h : DataW.trod enc Tryz.prog W 0 (fun _ => true) true n 37 cs = some (d, ps)) (hb : Rows.uptoBulk d ≤ 1048576) :
    ∃ v xs, cs = [v] ∧ StrsAt W.heap.size W v xs ∧ (xs.map ByteArray.size).sum + xs.length + 1 ≤ Rows.uptoBulk d :=
  slice_open (R := strR) ByteArray.size Tryz.underlying37 (by kernel_rfl) (by omega) (fun n cs d ps => str_el' n cs d ps) h hb
set_option maxRecDepth 100000 in
theorem strs_arg {b0 : Nat} {v : Value} {d : DataW H} {p : List MemPlace} (hv : Value.okWide Tryz.prog W .any b0 37 v) (h : DataW.Trod enc Tryz.prog W 0 (fun _ => true) true 37 v d p) (hb : Rows.uptoBulk d ≤ 1048576) :
    ∃ xs, StrsAt W.heap.size W v xs ∧ (xs.map ByteArray.size).sum + xs.length + 1 ≤ Rows.uptoBulk d := by
  obtain ⟨a, n, c, rfl⟩ := okWide_slice Tryz.underlying37 hv
  obtain ⟨fuel, hf⟩ := h
  obtain ⟨v', xs, e, hs, hw⟩ := strs_open' hf hb
  simp [Value.cells] at e
  subst e
  exact ⟨xs, hs, hw⟩
theorem SlAt.slr {α : Type} {R : World → List Value → α → Prop} {sz B : Nat} {w : World} {v : Value} {xs : List α} (h : SlAt R sz B w v xs) : SlR R sz B w v xs := by
  obtain ⟨hn, A, c, hv, _, _, hi⟩ := h
  exact ⟨by omega, A, c, hv, hi⟩
end
end Go.Proofs.YtplfimoeggecjaaGreatDoor.Op
