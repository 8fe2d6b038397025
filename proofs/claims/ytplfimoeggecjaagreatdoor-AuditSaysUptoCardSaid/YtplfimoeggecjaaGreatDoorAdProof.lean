/-
  The statement AuditSaysUptoCardSaid: the law AuditSays returns true, where what is handed in is of bulk at most 1048576; the listed tables and errors are tied to the program's text.
-/
import Derived.Test.YtplfimoeggecjaaGreatDoorAdB
import Derived.Test.YtplfimoeggecjaaGreatDoorOp2
import Derived.Test.YtplfimoeggecjaaGreatDoorLd7
import Derived.Test.YtplfimoeggecjaaGreatDoorOpen
import Derived.JoinedCond
import Derived.SevenTiedAt
namespace Go.Proofs.YtplfimoeggecjaaGreatDoor.auditSays
open Go Go.ChangeShapes Go.WideShapes Go.ChangeAt Go.RowKit Go.Joins Go.Deep Go.Proofs.YtplfimoeggecjaaGreatDoor.Sx Go.Proofs.YtplfimoeggecjaaGreatDoor.Op
open Go.ChangeMaps (open_string)

section
variable {H : Type} {enc : TypeId × Value → H} {W : World}
theorem key_cells {n : Nat} {c0 c1 c2 : Value} {d : DataW H} {ps : List MemPlace} (h : DataW.trod enc Tryz.prog W 0 (fun _ => true) true n 34 [c0, c1, c2] = some (d, ps)) (hb : Rows.uptoBulk d ≤ 1048576) :
    ∃ a b c, c0 = .string a ∧ c1 = .string b ∧ c2 = .string c ∧ ByteArray.size a ≤ 1048576 ∧ ByteArray.size b ≤ 1048576 ∧ ByteArray.size c ≤ 1048576 := by
  obtain ⟨ys, m, rfl, hy, hc, hf⟩ := struct_open Tryz.underlying34 (by kernel_rfl) (by kernel_rfl) h
  obtain ⟨v0, y0, hv0, hy0, h0⟩ := hf 0 _ rfl
  obtain ⟨v1, y1, hv1, hy1, h1⟩ := hf 1 _ rfl
  obtain ⟨v2, y2, hv2, hy2, h2⟩ := hf 2 _ rfl
  have hys : ys = [y0, y1, y2] := by
    match ys, hy with
    | [a, b, c], _ => simp at hy0 hy1 hy2; rw [hy0, hy1, hy2]
  subst hys
  simp only [List.map_cons, List.map_nil, Rows.uptoBulk, Rows.uptoBulkAll] at hb
  obtain ⟨s0, e0, w0⟩ := string_open Tryz.underlying9 h0
  obtain ⟨s1, e1, w1⟩ := string_open Tryz.underlying9 h1
  obtain ⟨s2, e2, w2⟩ := string_open Tryz.underlying9 h2
  simp at e0 e1 e2 hv0 hv1 hv2
  subst e0 e1 e2
  exact ⟨s0, s1, s2, hv0, hv1, hv2, by omega, by omega, by omega⟩
theorem list7 {l : List Value} (h : l.length = 7) : ∃ a b c d e f g, l = [a, b, c, d, e, f, g] := by
  match l, h with
  | [a, b, c, d, e, f, g], _ => exact ⟨a, b, c, d, e, f, g, rfl⟩
set_option maxRecDepth 100000 in
theorem ent_cells {fuel : Nat} {cs : List Value} {d : DataW H} {ps : List MemPlace} (h : DataW.trod enc Tryz.prog W 0 (fun _ => true) true fuel 36 cs = some (d, ps)) (hb : Rows.uptoBulk d ≤ 1048576) :
    ∃ e : Ent, cs = [.string e.who, .string e.verb, .string e.kind, .string e.space, .string e.name, .int .i64 e.what, .int .i64 e.rev] ∧ e.small := by
  obtain ⟨ys, n, rfl, hy, hc, hf⟩ := struct_parts Tryz.underlying36 h
  have hC : Tryz.prog.cellsOf 36 = 7 := by kernel_rfl
  rw [hC] at hc
  obtain ⟨c0, c1, c2, c3, c4, c5, c6, rfl⟩ := list7 hc
  obtain ⟨y0, hy0, h0'⟩ := hf 0 _ rfl
  have h0 : DataW.trod enc Tryz.prog W 0 (fun _ => true) true n 9 [c0] = some y0 := by
    have k : Tryz.prog.cellsOf 9 = 1 := by kernel_rfl
    have h : DataW.trod enc Tryz.prog W 0 (fun _ => true) true n 9 (([c0, c1, c2, c3, c4, c5, c6].drop 0).take (Tryz.prog.cellsOf 9)) = some y0 := h0'
    rw [k] at h
    exact h
  obtain ⟨y1, hy1, h1'⟩ := hf 1 _ rfl
  have h1 : DataW.trod enc Tryz.prog W 0 (fun _ => true) true n 9 [c1] = some y1 := by
    have k : Tryz.prog.cellsOf 9 = 1 := by kernel_rfl
    have h : DataW.trod enc Tryz.prog W 0 (fun _ => true) true n 9 (([c0, c1, c2, c3, c4, c5, c6].drop 1).take (Tryz.prog.cellsOf 9)) = some y1 := h1'
    rw [k] at h
    exact h
  obtain ⟨y2, hy2, h2'⟩ := hf 2 _ rfl
  have h2 : DataW.trod enc Tryz.prog W 0 (fun _ => true) true n 34 [c2, c3, c4] = some y2 := by
    have k : Tryz.prog.cellsOf 34 = 3 := by kernel_rfl
    have h : DataW.trod enc Tryz.prog W 0 (fun _ => true) true n 34 (([c0, c1, c2, c3, c4, c5, c6].drop 2).take (Tryz.prog.cellsOf 34)) = some y2 := h2'
    rw [k] at h
    exact h
  obtain ⟨y3, hy3, h3'⟩ := hf 3 _ rfl
  have h3 : DataW.trod enc Tryz.prog W 0 (fun _ => true) true n 24 [c5] = some y3 := by
    have k : Tryz.prog.cellsOf 24 = 1 := by kernel_rfl
    have h : DataW.trod enc Tryz.prog W 0 (fun _ => true) true n 24 (([c0, c1, c2, c3, c4, c5, c6].drop 5).take (Tryz.prog.cellsOf 24)) = some y3 := h3'
    rw [k] at h
    exact h
  obtain ⟨y4, hy4, h4'⟩ := hf 4 _ rfl
  have h4 : DataW.trod enc Tryz.prog W 0 (fun _ => true) true n 3 [c6] = some y4 := by
    have k : Tryz.prog.cellsOf 3 = 1 := by kernel_rfl
    have h : DataW.trod enc Tryz.prog W 0 (fun _ => true) true n 3 (([c0, c1, c2, c3, c4, c5, c6].drop 6).take (Tryz.prog.cellsOf 3)) = some y4 := h4'
    rw [k] at h
    exact h
  have hys : ys = [y0, y1, y2, y3, y4] := by
    match ys, hy with
    | [a, b, c, d, e], _ => simp at hy0 hy1 hy2 hy3 hy4; rw [hy0, hy1, hy2, hy3, hy4]
  subst hys
  simp only [List.map_cons, List.map_nil, Rows.uptoBulk, Rows.uptoBulkAll] at hb
  obtain ⟨s0, e0, w0⟩ := string_open Tryz.underlying9 h0
  obtain ⟨s1, e1, w1⟩ := string_open Tryz.underlying9 h1
  obtain ⟨a, b, c, rfl, rfl, rfl, za, zb, zc⟩ := key_cells h2 (by omega)
  obtain ⟨wt, e3⟩ := int_open Tryz.underlying24 h3
  obtain ⟨rv, e4⟩ := int_open Tryz.underlying3 h4
  simp at e0 e1 e3 e4
  subst e0 e1 e3 e4
  exact ⟨⟨s0, s1, a, b, c, wt, rv⟩, rfl, by show s0.size ≤ _; omega, by show s1.size ≤ _; omega, za, zb, zc⟩
set_option maxRecDepth 100000 in
theorem ent_open {b0 : Nat} {v : Value} {d : DataW H} {p : List MemPlace} (hv : Value.okWide Tryz.prog W .any b0 36 v) (h : DataW.Trod enc Tryz.prog W 0 (fun _ => true) true 36 v d p) (hb : Rows.uptoBulk d ≤ 1048576) :
    ∃ e : Ent, v = e.val ∧ e.small := by
  obtain ⟨cs, rfl, _⟩ := okWide_struct Tryz.underlying36 hv
  obtain ⟨fuel, hf⟩ := h
  obtain ⟨e, h1, h2⟩ := ent_cells hf hb
  refine ⟨e, ?_, h2⟩
  have e' : cs.toList = [.string e.who, .string e.verb, .string e.kind, .string e.space, .string e.name, .int .i64 e.what, .int .i64 e.rev] := h1
  have : cs = #[.string e.who, .string e.verb, .string e.kind, .string e.space, .string e.name, .int .i64 e.what, .int .i64 e.rev] := Array.toList_inj.1 e'
  rw [this]
  rfl
end

set_option maxRecDepth 100000 in
theorem contract (H : Type) (enc : TypeId × Value → H) (W : World) (base : Nat) (args : Array Value) (ds gs : List (DataW H)) (before : List MemPlace)
    (hval : ∀ (j : Nat) t v, Tryz.f4.params[j]? = some t → args[j]? = some v → Value.okWide Tryz.prog W .any base t v)
    (hW : DataW.Whole enc Tryz.prog Tryz.f4.params.toList Rows.auditSaysSpec.vars false W args.toList ds gs before) (hk : Rows.uptoSmall H (ds ++ gs) = true) (hm : Sx.MaxC W) (ht : Sx.Tab10 W ∧ Sx.Errs W) :
    Calls Tryz.prog 4 args W fun e W' => ∃ v, e = .returned v ∧ Rows.auditSaysSpec.post enc Tryz.prog Tryz.f4 false true false false W args v W' := by
  have hW' := hW
  obtain ⟨p, q, hA0, hV, rfl, hfz, hnd⟩ := hW
  have hA : DataW.TrodAll enc Tryz.prog W 0 (fun _ => true) true Tryz.f4.params.toList args.toList ds p := hA0
  have hbk := bulk_bound hk
  rw [Tryz.params4] at hA hval
  obtain ⟨v0, v1, v2, v3, d0, d1, d2, d3, p0, p1, p2, p3, rfl, rfl, rfl, h0, h1, h2, h3⟩ := trodAll_four hA
  obtain ⟨rfl, rfl⟩ := trodVars_none hV
  simp only [List.append_nil, Rows.uptoBulkAll] at hbk
  obtain ⟨x, rfl, hx⟩ := ent_open (hval 0 _ _ rfl rfl) h0 (by omega)
  obtain ⟨s, rfl, rfl, rfl, _⟩ := open_string Tryz.underlying9 (hval 1 _ _ rfl rfl) h1
  obtain ⟨root, rfl, rfl, rfl, _⟩ := open_string Tryz.underlying9 (hval 2 _ _ rfl rfl) h2
  obtain ⟨l, hl, _⟩ := strs_arg (hval 3 _ _ rfl rfl) h3 (by omega)
  simp [Rows.uptoBulk] at hbk
  refine (Sx.auditSays_walk W.heap.size v3 x s root l W (Nat.le_refl _) hx (by omega) (by omega) hl hm ht.1 ht.2).mono fun e W' ⟨he, hg⟩ => ?_
  subst he
  exact ⟨_, rfl, Fr.post_law Fr.laidOut (by kernel_rfl) rfl Tryz.underlying4 rfl rfl hW' hg⟩

theorem reads (os : Os) {H : Type} (enc : TypeId × Value → H) : ∃ places, DataW.whole enc Tryz.prog ((Ld.laidWorld os).forCall (fun _ _ => 0) ⟨#[], #[.agg #[.string ByteArray.empty, .string ByteArray.empty, .string ByteArray.empty, .string ByteArray.empty, .string ByteArray.empty, .int .i64 0, .int .i64 0], .string ByteArray.empty, .string ByteArray.empty, .slice none 0 0], []⟩).memory Tryz.f4.params.toList Rows.auditSaysSpec.vars false (#[Value.agg #[.string ByteArray.empty, .string ByteArray.empty, .string ByteArray.empty, .string ByteArray.empty, .string ByteArray.empty, .int .i64 0, .int .i64 0], .string ByteArray.empty, .string ByteArray.empty, .slice none 0 0] : Array Value).toList 8 = some ([.agg [.lit (.string []), .lit (.string []), .agg [.lit (.string []), .lit (.string []), .lit (.string [])], .lit (.int .i64 0), .lit (.int .i64 0)], .lit (.string []), .lit (.string []), .nil], [], places) :=
  ⟨[], by kernel_rfl⟩

set_option maxRecDepth 100000 in
theorem lifted (os : Os) (started : os.Started) (H : Type) (enc : TypeId × Value → H) (F : Stop.Interp) :
    ReturnsInHanded {} Tryz.checked os 4 .any ((Rows.OpenSpec.upto Rows.auditSaysSpec).preRow enc Tryz.prog Tryz.f4 Rows.auditSaysUptoRow.domain false Rows.auditSaysUptoRow.laid) (((Rows.OpenSpec.upto Rows.auditSaysSpec).at F).post enc Tryz.prog Tryz.f4 false true false false) := by
  obtain ⟨places, hx⟩ := reads os enc
  refine returnsInHanded_of_row (C := Tryz.checked) (s := Rows.OpenSpec.upto Rows.auditSaysSpec) Fr.own started (by kernel_rfl) Tryz.func4
    (witness_row_atRef (enc := enc) (C := Tryz.checked) false (Ld.laidWorld os) #[.agg #[.string ByteArray.empty, .string ByteArray.empty, .string ByteArray.empty, .string ByteArray.empty, .string ByteArray.empty, .int .i64 0, .int .i64 0], .string ByteArray.empty, .string ByteArray.empty, .slice none 0 0] rfl (by kernel_rfl) (by kernel_rfl) (by kernel_rfl)
      (OpenSpec.preRow_of_cond 8 hx (by kernel_rfl) (fun k hk => by cases hk; kernel_rfl) (by kernel_rfl) (Ld.laid_met os _))) ?_
  intro W base args ds gs before hval hW _ hcond _ hlaid hsh _
  exact contract H enc W base args ds gs before hval hW (hcond _ rfl) (MaxC.of_shaped hsh) (Ld.laid_facts hlaid)

theorem said : Rows.AuditSaysUptoSaid :=
  OpenClaim.holds_of_cond 4 Tryz.f4 rfl rfl rfl rfl rfl rfl rfl ⟨rfl, rfl, rfl, rfl, rfl⟩ rfl rfl rfl rfl rfl (by kernel_rfl) Tryz.func4 (by kernel_rfl)
    (of_decide_eq_true (by kernel_rfl)) (by unfold Func.isWrapper; first | (rw [if_pos (by decide +kernel)]; kernel_rfl) | (rw [if_neg (by decide +kernel)]; exact ⟨rfl, rfl⟩))
    (fun os started H enc _ F => by rw [OpenClaim.pre_eq_preRow]; exact lifted os started H enc F)

theorem plain (f : FuncId) (fn : Func) (hf : Tryz.pinned.checked.prog.funcNamed "seneschal/seneschallaw.AuditSays" = some f) (hfn : Tryz.pinned.checked.prog.funcs[f]? = some fn) :
    true = Tryz.pinned.checked.prog.looks [] ∧ ∀ (j : Nat) t, fn.params[j]? = some t → Tryz.pinned.checked.prog.wantsStandIn t = false := by
  obtain rfl : f = 4 := Option.some.inj ((show Tryz.prog.funcNamed "seneschal/seneschallaw.AuditSays" = some 4 by kernel_rfl).symm.trans hf) |>.symm
  obtain rfl : fn = Tryz.f4 := (Option.some.inj (Tryz.func4.symm.trans hfn)).symm
  refine ⟨by kernel_rfl, fun j t ht => ?_⟩
  rw [Tryz.params4] at ht
  have hm := Array.mem_of_getElem? ht
  simp at hm
  rcases hm with rfl | rfl | rfl
  · exact (show Tryz.prog.wantsStandIn 36 = false by kernel_rfl)
  · exact (show Tryz.prog.wantsStandIn 9 = false by kernel_rfl)
  · exact (show Tryz.prog.wantsStandIn 37 = false by kernel_rfl)

theorem proved : Rows.AuditSaysUptoCardSaid :=
  Claim7.holds_tied_plain_at .later [] _ _ _ _ said (fun _ h => by cases h) (by kernel_rfl) (fun _ h => by cases h) auditSaysUpto_row_tie rfl ⟨rfl, rfl⟩ (by kernel_rfl) rfl plain (by kernel_rfl)
#print axioms proved
end Go.Proofs.YtplfimoeggecjaaGreatDoor.auditSays
