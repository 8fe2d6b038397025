/-
  Openers: strings and users that are handed in.
-/
import Derived.Test.YtplfimoeggecjaaGreatDoorUsr
import Derived.Test.YtplfimoeggecjaaGreatDoorOpen
import Derived.JoinedCond
namespace Go.Proofs.YtplfimoeggecjaaGreatDoor.Uop
open Go Go.ChangeShapes Go.WideShapes Go.ChangeAt Go.RowKit Go.Joins Go.Deep Go.Proofs.YtplfimoeggecjaaGreatDoor.Sx Go.Proofs.YtplfimoeggecjaaGreatDoor.Op
open Go.ChangeMaps (open_string)

section
variable {H : Type} {enc : TypeId × Value → H} {W : World}

theorem str_el (n : Nat) (cs : List Value) (d : DataW H) (ps : List MemPlace) (h : DataW.trod enc Tryz.prog W 0 (fun _ => true) true n 9 cs = some (d, ps)) (_ : cs.length = 1) (hb : Rows.uptoBulk d ≤ 1048576) :
    ∃ x, strR W cs x ∧ ByteArray.size x + 1 ≤ Rows.uptoBulk d := by
  obtain ⟨s, rfl, hs⟩ := string_open Tryz.underlying9 h
  exact ⟨s, ⟨rfl, by omega⟩, by omega⟩

theorem strs_open {n : Nat} {v : Value} {d : DataW H} {ps : List MemPlace} (h : DataW.trod enc Tryz.prog W 0 (fun _ => true) true n 37 [v] = some (d, ps)) (hb : Rows.uptoBulk d ≤ 1048576) :
    ∃ xs, StrsAt W.heap.size W v xs ∧ xs.length + 1 ≤ Rows.uptoBulk d := by
  obtain ⟨v', xs, e, hs, hw⟩ := slice_open (R := strR) ByteArray.size Tryz.underlying37 (by kernel_rfl) (by omega) (fun n cs d ps => str_el n cs d ps) h hb
  injection e with e1
  subst e1
  exact ⟨xs, hs, by omega⟩

set_option maxRecDepth 100000 in
theorem user_open {t : TypeId} {f0 f1 : Field} {b0 : Nat} {v : Value} {d : DataW H} {p : List MemPlace} (ht : Tryz.prog.underlying t = some (.struct #[f0, f1])) (e0 : f0.type = 9) (e1 : f1.type = 37) (hone : oneCellFields Tryz.prog #[f0, f1] = true) (hC : Tryz.prog.cellsOf t = 2)
    (hv : Value.okWide Tryz.prog W .any b0 t v) (h : DataW.Trod enc Tryz.prog W 0 (fun _ => true) true t v d p) (hb : Rows.uptoBulk d ≤ 1048576) :
    ∃ vu, ∃ u : Sx.User, v = .agg #[.string u.name, vu] ∧ StrsAt W.heap.size W vu u.groups ∧ u.name.size ≤ 1048576 := by
  obtain ⟨c0, c1, y0, y1, m, rfl, rfl, rfl, h0, h1⟩ := open_agg2 ht hone hC hv h
  rw [e0] at h0
  rw [e1] at h1
  simp only [Rows.uptoBulk, Rows.uptoBulkAll] at hb
  obtain ⟨s0, q0, w0⟩ := string_open Tryz.underlying9 h0
  simp at q0
  subst q0
  obtain ⟨x1, s1, w1⟩ := strs_open h1 (by omega)
  exact ⟨c1, ⟨s0, x1⟩, rfl, s1, by simp only; omega⟩


end
end Go.Proofs.YtplfimoeggecjaaGreatDoor.Uop
