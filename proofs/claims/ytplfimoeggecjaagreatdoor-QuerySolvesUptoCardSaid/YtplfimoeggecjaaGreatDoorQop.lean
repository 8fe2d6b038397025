/-
  Parts that are handed in, opened: what they read as.
-/
import Derived.Test.YtplfimoeggecjaaGreatDoorQry
import Derived.Test.YtplfimoeggecjaaGreatDoorOpen
import Derived.Deep.Slices
namespace Go.Proofs.YtplfimoeggecjaaGreatDoor.Qop
open Go Go.ChangeShapes Go.WideShapes Go.ChangeAt Go.RowKit Go.Joins Go.Deep Go.Proofs.YtplfimoeggecjaaGreatDoor.Sx Go.Proofs.YtplfimoeggecjaaGreatDoor.Op
open Go.ChangeMaps (open_string)

section
variable {H : Type} {enc : TypeId × Value → H} {W : World}

def fReq (r : Req) : Nat := r.vals.length
theorem str_el (n : Nat) (cs : List Value) (d : DataW H) (ps : List MemPlace) (h : DataW.trod enc Tryz.prog W 0 (fun _ => true) true n 9 cs = some (d, ps)) (_ : cs.length = 1) (hb : Rows.uptoBulk d ≤ 1048576) :
    ∃ x, strR W cs x ∧ ByteArray.size x + 1 ≤ Rows.uptoBulk d := by
  obtain ⟨s, rfl, hs⟩ := string_open Tryz.underlying9 h
  exact ⟨s, ⟨rfl, by omega⟩, by omega⟩
theorem strs_open {n : Nat} {v : Value} {d : DataW H} {ps : List MemPlace} (h : DataW.trod enc Tryz.prog W 0 (fun _ => true) true n 37 [v] = some (d, ps)) (hb : Rows.uptoBulk d ≤ 1048576) :
    ∃ xs, StrsAt W.heap.size W v xs ∧ xs.length + 1 ≤ Rows.uptoBulk d := by
  obtain ⟨v', xs, e, hs, hw⟩ := slice_open (R := strR) ByteArray.size Tryz.underlying37 (by kernel_rfl) (by omega) (fun n cs d ps => str_el n cs d ps) h hb
  injection e with e1
  subst e1
  exact ⟨xs, hs, by omega⟩
theorem strs_cap {B : Nat} {v : Value} {xs : List ByteArray} (h : StrsAt B W v xs) : ∃ A c, v = .slice A xs.length c ∧ xs.length ≤ c := by
  obtain ⟨_, A, c, hv, hc, _⟩ := h
  exact ⟨A, c, hv, hc⟩

theorem req_el (n : Nat) (cs : List Value) (d : DataW H) (ps : List MemPlace) (h : DataW.trod enc Tryz.prog W 0 (fun _ => true) true n 56 cs = some (d, ps)) (_ : cs.length = 3) (hb : Rows.uptoBulk d ≤ 1048576) :
    ∃ x, reqR W.heap.size W cs x ∧ fReq x + 1 ≤ Rows.uptoBulk d := by
  obtain ⟨ys, m, rfl, hy, hc, hf⟩ := struct_open Tryz.underlying56 (by kernel_rfl) (by kernel_rfl) h
  obtain ⟨v0, y0, hv0, hy0, h0⟩ := hf 0 _ rfl
  obtain ⟨v1, y1, hv1, hy1, h1⟩ := hf 1 _ rfl
  obtain ⟨v2, y2, hv2, hy2, h2⟩ := hf 2 _ rfl
  have hys : ys = [y0, y1, y2] := by
    match ys, hy with
    | [a, b, c], _ => simp at hy0 hy1 hy2; rw [hy0, hy1, hy2]
  have hcs : cs = [v0, v1, v2] := by
    match cs, hc with
    | [a, b, c], _ => simp at hv0 hv1 hv2; rw [hv0, hv1, hv2]
  subst hys hcs
  simp only [List.map_cons, List.map_nil, Rows.uptoBulk, Rows.uptoBulkAll] at hb ⊢
  obtain ⟨s0, e0, w0⟩ := string_open Tryz.underlying9 h0
  obtain ⟨k, e1, _⟩ := DataW.trod_int Tryz.underlying3 h1
  simp at e0 e1
  subst e0 e1
  obtain ⟨xs, hs, hw⟩ := strs_open h2 (by omega)
  obtain ⟨A, c, rfl, hcap⟩ := strs_cap hs
  exact ⟨⟨s0, k, xs⟩, ⟨A, c, rfl, by simp only; omega, hs.toR, hcap⟩, by simp only [fReq]; omega⟩

set_option maxRecDepth 100000 in
theorem reqs_open {b0 : Nat} {v : Value} {d : DataW H} {p : List MemPlace} (hv : Value.okWide Tryz.prog W .any b0 22 v) (h : DataW.Trod enc Tryz.prog W 0 (fun _ => true) true 22 v d p) (hb : Rows.uptoBulk d ≤ 1048576) :
    ∃ l, ReqsR W.heap.size W v l := by
  obtain ⟨a, n, c, rfl⟩ := okWide_slice Tryz.underlying22 hv
  obtain ⟨fuel, hf⟩ := h
  obtain ⟨v', xs, e, hs, _⟩ := slice_open (R := reqR W.heap.size) fReq Tryz.underlying22 (by kernel_rfl) (by omega) (fun n cs d ps => req_el n cs d ps) hf hb
  simp [Value.cells] at e
  subst e
  exact ⟨xs, SlAt.toR hs fun _ _ hr => hr⟩
end
end Go.Proofs.YtplfimoeggecjaaGreatDoor.Qop
