/-
  The statement QueryChecksUptoCardSaid: the law QueryChecks returns true, where what is handed in is of bulk at most 1048576; the two listed tables are tied to the program's text.
-/
import Derived.Test.YtpbbohinhbboaaaDoorQcLaw
import Derived.Test.YtpbbohinhbboaaaDoorLaid
import Derived.Test.YtpbbohinhbboaaaDoorOpen
import Derived.JoinedCond
import Derived.SevenTiedAt
import Derived.Deep.Slices
namespace Go.Proofs.YtpbbohinhbboaaaDoor.queryChecks
open Go Go.ChangeShapes Go.WideShapes Go.ChangeAt Go.RowKit Go.Joins Go.Deep Go.Proofs.YtpbbohinhbboaaaDoor.Sx Go.Proofs.YtpbbohinhbboaaaDoor.Op
open Go.ChangeMaps (open_string)

section
variable {H : Type} {enc : TypeId × Value → H} {W : World}

def fReq (r : Req) : Nat := r.vals.length
def fLab (_ : Lab) : Nat := 0
theorem str_el (n : Nat) (cs : List Value) (d : DataW H) (ps : List MemPlace) (h : DataW.trod enc Tryd.prog W 0 (fun _ => true) true n 9 cs = some (d, ps)) (_ : cs.length = 1) (hb : Rows.uptoBulk d ≤ 1048576) :
    ∃ x, strR W cs x ∧ ByteArray.size x + 1 ≤ Rows.uptoBulk d := by
  obtain ⟨s, rfl, hs⟩ := string_open Tryd.underlying9 h
  exact ⟨s, ⟨rfl, by omega⟩, by omega⟩
theorem strs_open {n : Nat} {v : Value} {d : DataW H} {ps : List MemPlace} (h : DataW.trod enc Tryd.prog W 0 (fun _ => true) true n 27 [v] = some (d, ps)) (hb : Rows.uptoBulk d ≤ 1048576) :
    ∃ xs, StrsAt W.heap.size W v xs ∧ xs.length + 1 ≤ Rows.uptoBulk d := by
  obtain ⟨v', xs, e, hs, hw⟩ := slice_open (R := strR) ByteArray.size Tryd.underlying27 (by kernel_rfl) (by omega) (fun n cs d ps => str_el n cs d ps) h hb
  injection e with e1
  subst e1
  exact ⟨xs, hs, by omega⟩
theorem strs_cap {B : Nat} {v : Value} {xs : List ByteArray} (h : StrsAt B W v xs) : ∃ A c, v = .slice A xs.length c ∧ xs.length ≤ c := by
  obtain ⟨_, A, c, hv, hc, _⟩ := h
  exact ⟨A, c, hv, hc⟩

theorem req_el (n : Nat) (cs : List Value) (d : DataW H) (ps : List MemPlace) (h : DataW.trod enc Tryd.prog W 0 (fun _ => true) true n 38 cs = some (d, ps)) (_ : cs.length = 3) (hb : Rows.uptoBulk d ≤ 1048576) :
    ∃ x, reqR W.heap.size W cs x ∧ fReq x + 1 ≤ Rows.uptoBulk d := by
  obtain ⟨ys, m, rfl, hy, hc, hf⟩ := struct_open Tryd.underlying38 (by kernel_rfl) (by kernel_rfl) h
  obtain ⟨v0, y0, hv0, hy0, h0⟩ := hf 0 _ rfl
  obtain ⟨v1, y1, hv1, hy1, h1⟩ := hf 1 _ rfl
  obtain ⟨v2, y2, hv2, hy2, h2⟩ := hf 2 _ rfl
  have hys : ys = [y0, y1, y2] := by
    match ys, hy with
    | [a, b, c], _ => simp at hy0 hy1 hy2; rw [hy0, hy1, hy2]
  have hcs : cs = [v0, v1, v2] := by
    match cs, hc with
    | [a, b, c], _ => simp at hv0 hv1 hv2; rw [hv0, hv1, hv2]
  subst hys hcs
  simp only [List.map_cons, List.map_nil, Rows.uptoBulk, Rows.uptoBulkAll] at hb ⊢
  obtain ⟨s0, e0, w0⟩ := string_open Tryd.underlying9 h0
  obtain ⟨k, e1, _⟩ := DataW.trod_int Tryd.underlying3 h1
  simp at e0 e1
  subst e0 e1
  obtain ⟨xs, hs, hw⟩ := strs_open h2 (by omega)
  obtain ⟨A, c, rfl, hcap⟩ := strs_cap hs
  exact ⟨⟨s0, k, xs⟩, ⟨A, c, rfl, by simp only; omega, hs.toR, hcap⟩, by simp only [fReq]; omega⟩

theorem lab_el (n : Nat) (cs : List Value) (d : DataW H) (ps : List MemPlace) (h : DataW.trod enc Tryd.prog W 0 (fun _ => true) true n 73 cs = some (d, ps)) (_ : cs.length = 2) (hb : Rows.uptoBulk d ≤ 1048576) :
    ∃ x, labR W cs x ∧ fLab x + 1 ≤ Rows.uptoBulk d := by
  obtain ⟨ys, m, rfl, hy, hc, hf⟩ := struct_open Tryd.underlying73 (by kernel_rfl) (by kernel_rfl) h
  obtain ⟨v0, y0, hv0, hy0, h0⟩ := hf 0 _ rfl
  obtain ⟨v1, y1, hv1, hy1, h1⟩ := hf 1 _ rfl
  have hys : ys = [y0, y1] := by
    match ys, hy with
    | [a, b], _ => simp at hy0 hy1; rw [hy0, hy1]
  have hcs : cs = [v0, v1] := by
    match cs, hc with
    | [a, b], _ => simp at hv0 hv1; rw [hv0, hv1]
  subst hys hcs
  simp only [List.map_cons, List.map_nil, Rows.uptoBulk, Rows.uptoBulkAll] at hb ⊢
  obtain ⟨s0, e0, w0⟩ := string_open Tryd.underlying9 h0
  obtain ⟨s1, e1, w1⟩ := string_open Tryd.underlying9 h1
  simp at e0 e1
  subst e0 e1
  exact ⟨⟨s0, s1⟩, ⟨rfl, by simp only; omega, by simp only; omega⟩, by simp only [fLab]; omega⟩

set_option maxRecDepth 100000 in
theorem reqs_open {b0 : Nat} {v : Value} {d : DataW H} {p : List MemPlace} (hv : Value.okWide Tryd.prog W .any b0 33 v) (h : DataW.Trod enc Tryd.prog W 0 (fun _ => true) true 33 v d p) (hb : Rows.uptoBulk d ≤ 1048576) :
    ∃ l, ReqsR W.heap.size W v l := by
  obtain ⟨a, n, c, rfl⟩ := okWide_slice Tryd.underlying33 hv
  obtain ⟨fuel, hf⟩ := h
  obtain ⟨v', xs, e, hs, _⟩ := slice_open (R := reqR W.heap.size) fReq Tryd.underlying33 (by kernel_rfl) (by omega) (fun n cs d ps => req_el n cs d ps) hf hb
  simp [Value.cells] at e
  subst e
  exact ⟨xs, SlAt.toR hs fun _ _ hr => hr⟩
set_option maxRecDepth 100000 in
theorem labs_open {b0 : Nat} {v : Value} {d : DataW H} {p : List MemPlace} (hv : Value.okWide Tryd.prog W .any b0 41 v) (h : DataW.Trod enc Tryd.prog W 0 (fun _ => true) true 41 v d p) (hb : Rows.uptoBulk d ≤ 1048576) :
    ∃ l, LabsR W.heap.size W v l := by
  obtain ⟨a, n, c, rfl⟩ := okWide_slice Tryd.underlying41 hv
  obtain ⟨fuel, hf⟩ := h
  obtain ⟨v', xs, e, hs, _⟩ := slice_open (R := labR) fLab Tryd.underlying41 (by kernel_rfl) (by omega) (fun n cs d ps => lab_el n cs d ps) hf hb
  simp [Value.cells] at e
  subst e
  exact ⟨xs, SlAt.toR hs fun _ _ hr => hr⟩
end

set_option maxRecDepth 100000 in
theorem contract (H : Type) (enc : TypeId × Value → H) (W : World) (base : Nat) (args : Array Value) (ds gs : List (DataW H)) (before : List MemPlace)
    (hval : ∀ (j : Nat) t v, Tryd.f6.params[j]? = some t → args[j]? = some v → Value.okWide Tryd.prog W .any base t v)
    (hW : DataW.Whole enc Tryd.prog Tryd.f6.params.toList Rows.queryChecksSpec.vars false W args.toList ds gs before) (hk : Rows.uptoSmall H (ds ++ gs) = true) (hsh : W.ShapedOpen Tryd.prog) :
    Calls Tryd.prog 6 args W fun e W' => ∃ v, e = .returned v ∧ Rows.queryChecksSpec.post enc Tryd.prog Tryd.f6 false true false false W args v W' := by
  have hW' := hW
  obtain ⟨p, q, hA0, hV, rfl, hfz, hnd⟩ := hW
  have hA : DataW.TrodAll enc Tryd.prog W 0 (fun _ => true) true Tryd.f6.params.toList args.toList ds p := hA0
  have hbk := bulk_bound hk
  rw [Tryd.params6] at hA hval
  obtain ⟨v0, v1, d0, d1, p0, p1, rfl, rfl, rfl, h0, h1⟩ := trodAll_two hA
  obtain ⟨rfl, rfl⟩ := trodVars_none hV
  simp only [List.append_nil, Rows.uptoBulkAll] at hbk
  obtain ⟨l, hl⟩ := reqs_open (hval 0 _ _ rfl rfl) h0 (by omega)
  obtain ⟨ls, hls⟩ := labs_open (hval 1 _ _ rfl rfl) h1 (by omega)
  refine (Sx.queryChecks_walk W.heap.size v0 v1 l ls W (Nat.le_refl _) hl hls (MaxC.of_shaped hsh)).mono fun e W' ⟨he, hg⟩ => ?_
  subst he
  exact ⟨_, rfl, Fr.post_law Fr.laidOut (by kernel_rfl) rfl Tryd.underlying4 rfl rfl hW' hg⟩

theorem reads (os : Os) {H : Type} (enc : TypeId × Value → H) : ∃ places, DataW.whole enc Tryd.prog ((Ld.laidWorld os).forCall (fun _ _ => 0) ⟨#[], #[.slice none 0 0, .slice none 0 0], []⟩).memory Tryd.f6.params.toList Rows.queryChecksSpec.vars false #[Value.slice none 0 0, Value.slice none 0 0].toList 8 = some ([.nil, .nil], [], places) :=
  ⟨[], by kernel_rfl⟩

set_option maxRecDepth 100000 in
theorem lifted (os : Os) (started : os.Started) (H : Type) (enc : TypeId × Value → H) (F : Stop.Interp) :
    ReturnsInHanded {} Tryd.checked os 6 .any ((Rows.OpenSpec.upto Rows.queryChecksSpec).preRow enc Tryd.prog Tryd.f6 Rows.queryChecksUptoRow.domain false Rows.queryChecksUptoRow.laid) (((Rows.OpenSpec.upto Rows.queryChecksSpec).at F).post enc Tryd.prog Tryd.f6 false true false false) := by
  obtain ⟨places, hx⟩ := reads os enc
  refine returnsInHanded_of_row (C := Tryd.checked) (s := Rows.OpenSpec.upto Rows.queryChecksSpec) Fr.own started (by kernel_rfl) Tryd.func6
    (witness_row_at (enc := enc) (C := Tryd.checked) false (Ld.laidWorld os) #[.slice none 0 0, .slice none 0 0] rfl (by kernel_rfl) (by kernel_rfl) (by kernel_rfl)
      (OpenSpec.preRow_of_cond 8 hx (by kernel_rfl) (fun k hk => by cases hk; kernel_rfl) (by kernel_rfl) (Ld.laid_met os _))) ?_
  intro W base args ds gs before hval hW _ hcond _ _ hsh _
  exact contract H enc W base args ds gs before hval hW (hcond _ rfl) hsh

theorem said : Rows.QueryChecksUptoSaid :=
  OpenClaim.holds_of_cond 6 Tryd.f6 rfl rfl rfl rfl rfl rfl rfl ⟨rfl, rfl, rfl, rfl, rfl⟩ rfl rfl rfl rfl rfl (by kernel_rfl) Tryd.func6 (by kernel_rfl)
    (of_decide_eq_true (by kernel_rfl)) (by unfold Func.isWrapper; first | (rw [if_pos (by decide +kernel)]; kernel_rfl) | (rw [if_neg (by decide +kernel)]; exact ⟨rfl, rfl⟩))
    (fun os started H enc _ F => by rw [OpenClaim.pre_eq_preRow]; exact lifted os started H enc F)

theorem plain (f : FuncId) (fn : Func) (hf : Tryd.pinned.checked.prog.funcNamed "seneschal/seneschallaw.QueryChecks" = some f) (hfn : Tryd.pinned.checked.prog.funcs[f]? = some fn) :
    false = Tryd.pinned.checked.prog.looks [] ∧ ∀ (j : Nat) t, fn.params[j]? = some t → Tryd.pinned.checked.prog.wantsStandIn t = false := by
  obtain rfl : f = 6 := Option.some.inj ((show Tryd.prog.funcNamed "seneschal/seneschallaw.QueryChecks" = some 6 by kernel_rfl).symm.trans hf) |>.symm
  obtain rfl : fn = Tryd.f6 := (Option.some.inj (Tryd.func6.symm.trans hfn)).symm
  refine ⟨by kernel_rfl, fun j t ht => ?_⟩
  rw [Tryd.params6] at ht
  have hm := Array.mem_of_getElem? ht
  simp at hm
  rcases hm with rfl | rfl
  · exact (show Tryd.prog.wantsStandIn 33 = false by kernel_rfl)
  · exact (show Tryd.prog.wantsStandIn 41 = false by kernel_rfl)

theorem proved : Rows.QueryChecksUptoCardSaid :=
  Claim7.holds_tied_plain_at .later [] _ _ _ _ said (fun _ h => by cases h) (by kernel_rfl) (fun _ h => by cases h) queryChecksUpto_row_tie rfl ⟨rfl, rfl⟩ (by kernel_rfl) rfl plain (by kernel_rfl)
#print axioms proved
end Go.Proofs.YtpbbohinhbboaaaDoor.queryChecks
