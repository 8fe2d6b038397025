/-
  The statement FinalSaysUptoSaid: the law FinalSays returns true, where what is handed in is of bulk at most 1048576.
-/
import Derived.Test.YtpbbohinhbboaaaFsl
import Derived.Test.YtpbbohinhbboaaaOp2
import Derived.JoinedCond
namespace Go.Proofs.Ytpbbohinhbboaaa.finalSays
open Go Go.ChangeShapes Go.WideShapes Go.ChangeAt Go.RowKit Go.Joins Go.Deep Go.Proofs.Ytpbbohinhbboaaa.Sx Go.Proofs.Ytpbbohinhbboaaa.Op
open Go.ChangeMaps (open_string)

section
variable {H : Type} {enc : TypeId × Value → H} {W : World}

theorem lab_el (n : Nat) (cs : List Value) (d : DataW H) (ps : List MemPlace) (h : DataW.trod enc Try.prog W 0 (fun _ => true) true n 124 cs = some (d, ps)) (_ : cs.length = 2) (hb : Rows.uptoBulk d ≤ 1048576) :
    ∃ x, labR W cs x ∧ (fun _ : Lab => 0) x + 1 ≤ Rows.uptoBulk d := by
  obtain ⟨ys, m, rfl, hy, hc, hf⟩ := struct_open Try.underlying124 (by kernel_rfl) (by kernel_rfl) h
  obtain ⟨v0, y0, hv0, hy0, h0⟩ := hf 0 _ rfl
  obtain ⟨v1, y1, hv1, hy1, h1⟩ := hf 1 _ rfl
  have hys : ys = [y0, y1] := by
    match ys, hy with
    | [a, b], _ => simp at hy0 hy1; rw [hy0, hy1]
  have hcs : cs = [v0, v1] := by
    match cs, hc with
    | [a, b], _ => simp at hv0 hv1; rw [hv0, hv1]
  subst hys hcs
  simp only [List.map_cons, List.map_nil, Rows.uptoBulk, Rows.uptoBulkAll] at hb ⊢
  obtain ⟨s0, e0, w0⟩ := string_open Try.underlying9 h0
  obtain ⟨s1, e1, w1⟩ := string_open Try.underlying9 h1
  simp at e0 e1
  subst e0 e1
  exact ⟨⟨s0, s1⟩, ⟨rfl, by simp only; omega, by simp only; omega⟩, by omega⟩
theorem labs_open {n : Nat} {cs : List Value} {d : DataW H} {ps : List MemPlace} (h : DataW.trod enc Try.prog W 0 (fun _ => true) true n 51 cs = some (d, ps)) (hb : Rows.uptoBulk d ≤ 1048576) :
    ∃ v xs, cs = [v] ∧ LabsR W.heap.size W v xs := by
  obtain ⟨v, xs, e, hs, _⟩ := slice_open (R := labR) (fun _ : Lab => 0) Try.underlying51 (by kernel_rfl) (by omega) (fun n cs d ps => lab_el n cs d ps) h hb
  exact ⟨v, xs, e, SlAt.slr hs⟩
theorem key_open {n : Nat} {c0 c1 c2 : Value} {d : DataW H} {ps : List MemPlace} (h : DataW.trod enc Try.prog W 0 (fun _ => true) true n 50 [c0, c1, c2] = some (d, ps)) :
    ∃ a b c, c0 = .string a ∧ c1 = .string b ∧ c2 = .string c := by
  obtain ⟨ys, m, _, hy, hc, hf⟩ := struct_open Try.underlying50 (by kernel_rfl) (by kernel_rfl) h
  obtain ⟨v0, y0, hv0, _, h0⟩ := hf 0 _ rfl
  obtain ⟨v1, y1, hv1, _, h1⟩ := hf 1 _ rfl
  obtain ⟨v2, y2, hv2, _, h2⟩ := hf 2 _ rfl
  obtain ⟨s0, e0, w0⟩ := string_open Try.underlying9 h0
  obtain ⟨s1, e1, w1⟩ := string_open Try.underlying9 h1
  obtain ⟨s2, e2, w2⟩ := string_open Try.underlying9 h2
  simp at e0 e1 e2 hv0 hv1 hv2
  subst e0 e1 e2
  exact ⟨s0, s1, s2, hv0, hv1, hv2⟩
theorem list10 {l : List Value} (h : l.length = 10) : ∃ a b c d e f g i j k, l = [a, b, c, d, e, f, g, i, j, k] := by
  match l, h with
  | [a, b, c, d, e, f, g, i, j, k], _ => exact ⟨a, b, c, d, e, f, g, i, j, k, rfl⟩

set_option maxRecDepth 100000 in
theorem thing_cells {fuel : Nat} {cs : List Value} {d : DataW H} {ps : List MemPlace} (h : DataW.trod enc Try.prog W 0 (fun _ => true) true fuel 54 cs = some (d, ps)) (hb : Rows.uptoBulk d ≤ 1048576) :
    ∃ (o : Thing) (vl vo : Value) (L3 : Option Addr) (l3 : Nat), cs = [.string o.kind, .string o.space, .string o.name, vl, vo, .slice L3 o.holds.length l3, .bool o.ending, .string o.uid, .int .i64 o.rev, .string o.doc] ∧ o.fits W.heap.size W vl vo (.slice L3 o.holds.length l3) ∧ o.holds.length ≤ l3 := by
  obtain ⟨ys, n, rfl, hy, hc, hf⟩ := struct_parts Try.underlying54 h
  have hC : Try.prog.cellsOf 54 = 10 := by kernel_rfl
  rw [hC] at hc
  obtain ⟨c0, c1, c2, c3, c4, c5, c6, c7, c8, c9, rfl⟩ := list10 hc
  obtain ⟨y0, hy0, h0'⟩ := hf 0 _ rfl
  have h0 : DataW.trod enc Try.prog W 0 (fun _ => true) true n 50 [c0, c1, c2] = some y0 := by
    have k : Try.prog.cellsOf 50 = 3 := by kernel_rfl
    have h : DataW.trod enc Try.prog W 0 (fun _ => true) true n 50 (([c0, c1, c2, c3, c4, c5, c6, c7, c8, c9].drop 0).take (Try.prog.cellsOf 50)) = some y0 := h0'
    rw [k] at h
    exact h
  obtain ⟨y1, hy1, h1'⟩ := hf 1 _ rfl
  have h1 : DataW.trod enc Try.prog W 0 (fun _ => true) true n 51 [c3] = some y1 := by
    have k : Try.prog.cellsOf 51 = 1 := by kernel_rfl
    have h : DataW.trod enc Try.prog W 0 (fun _ => true) true n 51 (([c0, c1, c2, c3, c4, c5, c6, c7, c8, c9].drop 3).take (Try.prog.cellsOf 51)) = some y1 := h1'
    rw [k] at h
    exact h
  obtain ⟨y2, hy2, h2'⟩ := hf 2 _ rfl
  have h2 : DataW.trod enc Try.prog W 0 (fun _ => true) true n 52 [c4] = some y2 := by
    have k : Try.prog.cellsOf 52 = 1 := by kernel_rfl
    have h : DataW.trod enc Try.prog W 0 (fun _ => true) true n 52 (([c0, c1, c2, c3, c4, c5, c6, c7, c8, c9].drop 4).take (Try.prog.cellsOf 52)) = some y2 := h2'
    rw [k] at h
    exact h
  obtain ⟨y3, hy3, h3'⟩ := hf 3 _ rfl
  have h3 : DataW.trod enc Try.prog W 0 (fun _ => true) true n 52 [c5] = some y3 := by
    have k : Try.prog.cellsOf 52 = 1 := by kernel_rfl
    have h : DataW.trod enc Try.prog W 0 (fun _ => true) true n 52 (([c0, c1, c2, c3, c4, c5, c6, c7, c8, c9].drop 5).take (Try.prog.cellsOf 52)) = some y3 := h3'
    rw [k] at h
    exact h
  obtain ⟨y4, hy4, h4'⟩ := hf 4 _ rfl
  have h4 : DataW.trod enc Try.prog W 0 (fun _ => true) true n 4 [c6] = some y4 := by
    have k : Try.prog.cellsOf 4 = 1 := by kernel_rfl
    have h : DataW.trod enc Try.prog W 0 (fun _ => true) true n 4 (([c0, c1, c2, c3, c4, c5, c6, c7, c8, c9].drop 6).take (Try.prog.cellsOf 4)) = some y4 := h4'
    rw [k] at h
    exact h
  obtain ⟨y5, hy5, h5'⟩ := hf 5 _ rfl
  have h5 : DataW.trod enc Try.prog W 0 (fun _ => true) true n 9 [c7] = some y5 := by
    have k : Try.prog.cellsOf 9 = 1 := by kernel_rfl
    have h : DataW.trod enc Try.prog W 0 (fun _ => true) true n 9 (([c0, c1, c2, c3, c4, c5, c6, c7, c8, c9].drop 7).take (Try.prog.cellsOf 9)) = some y5 := h5'
    rw [k] at h
    exact h
  obtain ⟨y6, hy6, h6'⟩ := hf 6 _ rfl
  have h6 : DataW.trod enc Try.prog W 0 (fun _ => true) true n 3 [c8] = some y6 := by
    have k : Try.prog.cellsOf 3 = 1 := by kernel_rfl
    have h : DataW.trod enc Try.prog W 0 (fun _ => true) true n 3 (([c0, c1, c2, c3, c4, c5, c6, c7, c8, c9].drop 8).take (Try.prog.cellsOf 3)) = some y6 := h6'
    rw [k] at h
    exact h
  obtain ⟨y7, hy7, h7'⟩ := hf 7 _ rfl
  have h7 : DataW.trod enc Try.prog W 0 (fun _ => true) true n 9 [c9] = some y7 := by
    have k : Try.prog.cellsOf 9 = 1 := by kernel_rfl
    have h : DataW.trod enc Try.prog W 0 (fun _ => true) true n 9 (([c0, c1, c2, c3, c4, c5, c6, c7, c8, c9].drop 9).take (Try.prog.cellsOf 9)) = some y7 := h7'
    rw [k] at h
    exact h
  have hys : ys = [y0, y1, y2, y3, y4, y5, y6, y7] := by
    match ys, hy with
    | [a, b, c, d, e, f, g, i], _ => simp at hy0 hy1 hy2 hy3 hy4 hy5 hy6 hy7; rw [hy0, hy1, hy2, hy3, hy4, hy5, hy6, hy7]
  subst hys
  simp only [List.map_cons, List.map_nil, Rows.uptoBulk, Rows.uptoBulkAll] at hb
  obtain ⟨a, b, c, rfl, rfl, rfl⟩ := key_open h0
  obtain ⟨vl, ls, e1, hl⟩ := labs_open h1 (by omega)
  obtain ⟨vo, os, e2, ho, _⟩ := strs_open' h2 (by omega)
  obtain ⟨vh, hs, e3, hh, _⟩ := strs_open' h3 (by omega)
  obtain ⟨en, e4⟩ := bool_open Try.underlying4 h4
  obtain ⟨ui, e5, _⟩ := string_open Try.underlying9 h5
  obtain ⟨re, e6⟩ := int_open Try.underlying3 h6
  obtain ⟨dc, e7, _⟩ := string_open Try.underlying9 h7
  simp at e1 e2 e3 e4 e5 e6 e7
  subst e1 e2 e3 e4 e5 e6 e7
  have hh' := hh
  obtain ⟨_, A, cp, rfl, hcp, _, _⟩ := hh'
  exact ⟨⟨a, b, c, ls, os, hs, en, ui, re, dc⟩, _, _, _, _, rfl, ⟨hl, SlAt.slr ho, SlAt.slr hh⟩, hcp⟩

set_option maxRecDepth 100000 in
theorem thing_open {b0 : Nat} {v : Value} {d : DataW H} {p : List MemPlace} (hv : Value.okWide Try.prog W .any b0 54 v) (h : DataW.Trod enc Try.prog W 0 (fun _ => true) true 54 v d p) (hb : Rows.uptoBulk d ≤ 1048576) :
    ∃ (o : Thing) (vl vo : Value) (L3 : Option Addr) (l3 : Nat), v = o.val vl vo (.slice L3 o.holds.length l3) ∧ o.fits W.heap.size W vl vo (.slice L3 o.holds.length l3) ∧ o.holds.length ≤ l3 := by
  obtain ⟨cs, rfl, _⟩ := okWide_struct Try.underlying54 hv
  obtain ⟨fuel, hf⟩ := h
  obtain ⟨o, vl, vo, L3, l3, e, h1, h2⟩ := thing_cells hf hb
  refine ⟨o, vl, vo, L3, l3, ?_, h1, h2⟩
  have e' : cs.toList = [.string o.kind, .string o.space, .string o.name, vl, vo, .slice L3 o.holds.length l3, .bool o.ending, .string o.uid, .int .i64 o.rev, .string o.doc] := e
  have : cs = #[.string o.kind, .string o.space, .string o.name, vl, vo, .slice L3 o.holds.length l3, .bool o.ending, .string o.uid, .int .i64 o.rev, .string o.doc] := Array.toList_inj.1 e'
  rw [this]
  rfl
end

set_option maxRecDepth 100000 in
theorem contract (H : Type) (enc : TypeId × Value → H) (W : World) (base : Nat) (args : Array Value) (ds gs : List (DataW H)) (before : List MemPlace)
    (hval : ∀ (j : Nat) t v, Try.f6.params[j]? = some t → args[j]? = some v → Value.okWide Try.prog W .any base t v)
    (hW : DataW.Whole enc Try.prog Try.f6.params.toList Rows.finalSaysSpec.vars false W args.toList ds gs before) (hk : Rows.uptoSmall H (ds ++ gs) = true) :
    Calls Try.prog 6 args W fun e W' => ∃ v, e = .returned v ∧ Rows.finalSaysSpec.post enc Try.prog Try.f6 false true false false W args v W' := by
  have hW' := hW
  obtain ⟨p, q, hA0, hV, rfl, hfz, hnd⟩ := hW
  have hA : DataW.TrodAll enc Try.prog W 0 (fun _ => true) true Try.f6.params.toList args.toList ds p := hA0
  have hbk := bulk_bound hk
  rw [Try.params6] at hA hval
  obtain ⟨v0, v1, d0, d1, p0, p1, rfl, rfl, rfl, h0, h1⟩ := trodAll_two hA
  obtain ⟨rfl, rfl⟩ := trodVars_none hV
  simp only [List.append_nil, Rows.uptoBulkAll] at hbk
  obtain ⟨o, vl, vo, L3, l3, rfl, hf, hc⟩ := thing_open (hval 0 _ _ rfl rfl) h0 (by omega)
  obtain ⟨hd, rfl, rfl, rfl, _⟩ := open_string Try.underlying9 (hval 1 _ _ rfl rfl) h1
  have hz : hd.size ≤ 1048576 := by simp [Rows.uptoBulk] at hbk; omega
  refine (Sx.finalSays_walk W.heap.size o vl vo L3 l3 hd W (Nat.le_refl _) hf hc hz).mono fun e W' ⟨he, hg⟩ => ?_
  subst he
  exact ⟨_, rfl, Fr.post_law Fr.laidOut (by kernel_rfl) rfl Try.underlying4 rfl rfl hW' hg⟩

set_option maxRecDepth 100000 in
theorem lifted (os : Os) (started : os.Started) (H : Type) (enc : TypeId × Value → H) (F : Stop.Interp) :
    ReturnsInHanded {} Try.checked os 6 .any ((Rows.OpenSpec.upto Rows.finalSaysSpec).pre6 enc Try.prog Try.f6 Rows.finalSaysUptoRow.domain false) (((Rows.OpenSpec.upto Rows.finalSaysSpec).at F).post enc Try.prog Try.f6 false true false false) := by
  refine returnsInHanded_of_cond (C := Try.checked) (s := Rows.OpenSpec.upto Rows.finalSaysSpec) (k := Rows.uptoSmall) rfl Fr.own started (by kernel_rfl) Try.func6
    (OpenSpec.witness (enc := enc) (C := Try.checked) (s := Rows.OpenSpec.upto Rows.finalSaysSpec) (k := Rows.uptoSmall) rfl false ⟨#[], #[.agg #[.string ByteArray.empty, .string ByteArray.empty, .string ByteArray.empty, .slice none 0 0, .slice none 0 0, .slice none 0 0, .bool false, .string ByteArray.empty, .int .i64 0, .string ByteArray.empty], .string ByteArray.empty], []⟩ 8 (by kernel_rfl) (by kernel_rfl) (by kernel_rfl)
      (x := ([.agg [.agg [.lit (.string []), .lit (.string []), .lit (.string [])], .nil, .nil, .nil, .lit (.bool false), .lit (.string []), .lit (.int .i64 0), .lit (.string [])], .lit (.string [])], [], [])) (by kernel_rfl) rfl (by kernel_rfl)) ?_
  intro W base args ds gs before hval hW _ hk _
  exact contract H enc W base args ds gs before hval hW hk

theorem over : Rows.finalSaysUptoRow.holds Try.pinned (Rows.OpenSpec.upto Rows.finalSaysSpec) :=
  OpenClaim.holds_of_cond 6 Try.f6 rfl rfl rfl rfl rfl rfl rfl ⟨rfl, rfl, rfl, rfl, rfl⟩ rfl rfl rfl rfl rfl (by kernel_rfl) Try.func6 (by kernel_rfl)
    (of_decide_eq_true (by kernel_rfl)) (by unfold Func.isWrapper; first | (rw [if_pos (by decide +kernel)]; kernel_rfl) | (rw [if_neg (by decide +kernel)]; exact ⟨rfl, rfl⟩))
    (fun os started H enc _ F => lifted os started H enc F)

theorem proved : Rows.FinalSaysUptoSaid :=
  over
#print axioms proved
end Go.Proofs.Ytpbbohinhbboaaa.finalSays
