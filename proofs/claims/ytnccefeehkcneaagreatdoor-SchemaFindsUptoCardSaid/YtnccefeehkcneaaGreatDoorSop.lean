/-
  Openers: a schema's parts that are handed in.
-/
import Derived.Test.YtnccefeehkcneaaGreatDoorScx
import Derived.Test.YtnccefeehkcneaaGreatDoorFop
import Derived.Test.YtnccefeehkcneaaGreatDoorSlr
namespace Go.Proofs.YtnccefeehkcneaaGreatDoor.Sc
open Go Go.ChangeShapes Go.WideShapes Go.ChangeAt Go.RowKit Go.Joins Go.Deep Go.Proofs.YtnccefeehkcneaaGreatDoor.Sx Go.Proofs.YtnccefeehkcneaaGreatDoor.Op
open Go.ChangeMaps (open_string)
section
variable {H : Type} {enc : TypeId × Value → H} {P : Program} {W : World}
theorem int_open {t : TypeId} {k : IntKind} {fuel : Nat} {cs : List Value} {d : DataW H} {ps : List MemPlace} (ht : P.underlying t = some (.int k)) (h : DataW.trod enc P W 0 (fun _ => true) true fuel t cs = some (d, ps)) :
    ∃ n : Int, cs = [.int k n] := by
  obtain ⟨n, rfl, _, _⟩ := DataW.trod_int ht h
  exact ⟨n, rfl⟩
theorem str_el' (n : Nat) (cs : List Value) (d : DataW H) (ps : List MemPlace) (h : DataW.trod enc Tryz.prog W 0 (fun _ => true) true n 9 cs = some (d, ps)) (_ : cs.length = 1) (hb : Rows.uptoBulk d ≤ 1048576) :
    ∃ x, strR W cs x ∧ ByteArray.size x + 1 ≤ Rows.uptoBulk d := by
  obtain ⟨s, rfl, hs⟩ := string_open Tryz.underlying9 h
  exact ⟨s, ⟨rfl, by omega⟩, by omega⟩
theorem strs_open' {n : Nat} {cs : List Value} {d : DataW H} {ps : List MemPlace} (h : DataW.trod enc Tryz.prog W 0 (fun _ => true) true n 37 cs = some (d, ps)) (hb : Rows.uptoBulk d ≤ 1048576) :
    ∃ v xs, cs = [v] ∧ StrsAt W.heap.size W v xs ∧ (xs.map ByteArray.size).sum + xs.length + 1 ≤ Rows.uptoBulk d :=
  slice_open (R := strR) ByteArray.size Tryz.underlying37 (by kernel_rfl) (by omega) (fun n cs d ps => str_el' n cs d ps) h hb
def fPart (p : PartS) : Nat := p.fields.length + p.need.length + p.enum.length
theorem fld_el (n : Nat) (cs : List Value) (d : DataW H) (ps : List MemPlace) (h : DataW.trod enc Tryz.prog W 0 (fun _ => true) true n 81 cs = some (d, ps)) (_ : cs.length = 2) (hb : Rows.uptoBulk d ≤ 1048576) :
    ∃ x, fldR W cs x ∧ x.1.size + 1 ≤ Rows.uptoBulk d := by
  obtain ⟨ys, m, rfl, hy, hc, hf⟩ := struct_open Tryz.underlying81 (by kernel_rfl) (by kernel_rfl) h
  obtain ⟨v0, y0, hv0, hy0, h0⟩ := hf 0 _ rfl
  obtain ⟨v1, y1, hv1, hy1, h1⟩ := hf 1 _ rfl
  have hys : ys = [y0, y1] := by
    match ys, hy with
    | [a, b], _ => simp at hy0 hy1; rw [hy0, hy1]
  have hcs : cs = [v0, v1] := by
    match cs, hc with
    | [a, b], _ => simp at hv0 hv1; rw [hv0, hv1]
  subst hys hcs
  simp only [List.map_cons, List.map_nil, Rows.uptoBulk, Rows.uptoBulkAll] at hb ⊢
  obtain ⟨s0, e0, w0⟩ := string_open Tryz.underlying9 h0
  obtain ⟨n1, e1⟩ := int_open Tryz.underlying3 h1
  simp at e0 e1
  subst e0 e1
  exact ⟨(s0, n1), ⟨rfl, by simp only; omega⟩, by simp only; omega⟩
theorem part_el (n : Nat) (cs : List Value) (d : DataW H) (ps : List MemPlace) (h : DataW.trod enc Tryz.prog W 0 (fun _ => true) true n 62 cs = some (d, ps)) (_ : cs.length = 9) (hb : Rows.uptoBulk d ≤ 1048576) :
    ∃ x, prtR W.heap.size W cs x ∧ fPart x + 1 ≤ Rows.uptoBulk d := by
  obtain ⟨ys, m, rfl, hy, hc, hf⟩ := struct_open Tryz.underlying62 (by kernel_rfl) (by kernel_rfl) h
  obtain ⟨v0, y0, hv0, hy0, h0⟩ := hf 0 _ rfl
  obtain ⟨v1, y1, hv1, hy1, h1⟩ := hf 1 _ rfl
  obtain ⟨v2, y2, hv2, hy2, h2⟩ := hf 2 _ rfl
  obtain ⟨v3, y3, hv3, hy3, h3⟩ := hf 3 _ rfl
  obtain ⟨v4, y4, hv4, hy4, h4⟩ := hf 4 _ rfl
  obtain ⟨v5, y5, hv5, hy5, h5⟩ := hf 5 _ rfl
  obtain ⟨v6, y6, hv6, hy6, h6⟩ := hf 6 _ rfl
  obtain ⟨v7, y7, hv7, hy7, h7⟩ := hf 7 _ rfl
  obtain ⟨v8, y8, hv8, hy8, h8⟩ := hf 8 _ rfl
  have hys : ys = [y0, y1, y2, y3, y4, y5, y6, y7, y8] := by
    match ys, hy with
    | [a, b, c, d, e, f, g, i, j], _ => simp at hy0 hy1 hy2 hy3 hy4 hy5 hy6 hy7 hy8; rw [hy0, hy1, hy2, hy3, hy4, hy5, hy6, hy7, hy8]
  have hcs : cs = [v0, v1, v2, v3, v4, v5, v6, v7, v8] := by
    match cs, hc with
    | [a, b, c, d, e, f, g, i, j], _ => simp at hv0 hv1 hv2 hv3 hv4 hv5 hv6 hv7 hv8; rw [hv0, hv1, hv2, hv3, hv4, hv5, hv6, hv7, hv8]
  subst hys hcs
  simp only [List.map_cons, List.map_nil, Rows.uptoBulk, Rows.uptoBulkAll] at hb ⊢
  obtain ⟨n0, e0⟩ := int_open Tryz.underlying3 h0
  obtain ⟨u1, fs, e1, g1, w1⟩ := slice_open (R := fldR) (fun f => f.1.size) Tryz.underlying60 (by kernel_rfl) (by omega) (fun n cs d ps => fld_el n cs d ps) h1 (by omega)
  obtain ⟨u2, x2, e2, g2, w2⟩ := strs_open' h2 (by omega)
  obtain ⟨b3, e3⟩ := bool_open Tryz.underlying4 h3
  obtain ⟨n4, e4⟩ := int_open Tryz.underlying3 h4
  obtain ⟨n5, e5⟩ := int_open Tryz.underlying2 h5
  obtain ⟨n6, e6⟩ := int_open Tryz.underlying2 h6
  obtain ⟨u7, x7, e7, g7, w7⟩ := strs_open' h7 (by omega)
  obtain ⟨s8, e8, w8⟩ := string_open Tryz.underlying9 h8
  simp at e0 e1 e2 e3 e4 e5 e6 e7 e8
  subst e0 e1 e2 e3 e4 e5 e6 e7 e8
  exact ⟨⟨n0, fs, x2, b3, n4, n5, n6, x7, s8⟩, ⟨_, _, _, rfl, SlAt.toR g1 (fun _ _ h => h), StrsAt.toR g2, StrsAt.toR g7, by simp only; omega, by obtain ⟨_, A, c, hv, hc, _⟩ := g1; exact ⟨A, _, c, hv, hc⟩⟩, by simp only [fPart]; omega⟩
theorem sum_mem {α : Type} (f : α → Nat) : ∀ (l : List α) (x : α), x ∈ l → f x ≤ (l.map f).sum
  | y :: r, x, h => by
    rw [List.map_cons, List.sum_cons]
    rcases List.mem_cons.1 h with rfl | h
    · omega
    · have := sum_mem f r x h
      omega
set_option maxRecDepth 100000 in
theorem parts_arg {b0 : Nat} {v : Value} {d : DataW H} {p : List MemPlace} (hv : Value.okWide Tryz.prog W .any b0 22 v) (h : DataW.Trod enc Tryz.prog W 0 (fun _ => true) true 22 v d p) (hb : Rows.uptoBulk d ≤ 1048576) :
    ∃ s, PartsR W.heap.size W v s ∧ s.length + 1 ≤ Rows.uptoBulk d ∧ ∀ x ∈ s, fPart x ≤ 1048576 := by
  obtain ⟨a, n, c, rfl⟩ := okWide_slice Tryz.underlying22 hv
  obtain ⟨n1, h1⟩ := h
  obtain ⟨v', xs, e, hs, hw⟩ := slice_open (R := prtR W.heap.size) fPart Tryz.underlying22 (by kernel_rfl) (by omega) (fun n cs d ps => part_el n cs d ps) h1 hb
  injection e with e1
  subst e1
  exact ⟨xs, SlAt.toR hs (fun _ _ h => h), by omega, fun x hx => by have := sum_mem fPart xs x hx; omega⟩
end
end Go.Proofs.YtnccefeehkcneaaGreatDoor.Sc
