/-
  The statement TokenSaysUptoCardSaid: the law TokenSays returns true, where what is handed in is of bulk at most 1048576; the listed tables and errors are tied to the program's text.
-/
import Derived.Test.YtplfimoeggecjaaGreatDoorTkB
import Derived.Test.YtplfimoeggecjaaGreatDoorUop
import Derived.Test.YtplfimoeggecjaaGreatDoorLd7
import Derived.Test.YtplfimoeggecjaaGreatDoorOp3
import Derived.JoinedCond
import Derived.SevenTiedAt
namespace Go.Proofs.YtplfimoeggecjaaGreatDoor.tokenSays
open Go Go.ChangeShapes Go.WideShapes Go.ChangeAt Go.RowKit Go.Joins Go.Deep Go.Proofs.YtplfimoeggecjaaGreatDoor.Sx Go.Proofs.YtplfimoeggecjaaGreatDoor.Op Go.Proofs.YtplfimoeggecjaaGreatDoor.Uop
open Go.ChangeMaps (open_string)

set_option maxRecDepth 100000 in
theorem contract (H : Type) (enc : TypeId × Value → H) (W : World) (base : Nat) (args : Array Value) (ds gs : List (DataW H)) (before : List MemPlace)
    (hval : ∀ (j : Nat) t v, Tryz.f5.params[j]? = some t → args[j]? = some v → Value.okWide Tryz.prog W .any base t v)
    (hW : DataW.Whole enc Tryz.prog Tryz.f5.params.toList Rows.tokenSaysSpec.vars false W args.toList ds gs before) (hk : Rows.uptoSmall H (ds ++ gs) = true) (hm : Sx.MaxC W) (ht : Sx.Tab10 W ∧ Sx.Errs W) :
    Calls Tryz.prog 5 args W fun e W' => ∃ v, e = .returned v ∧ Rows.tokenSaysSpec.post enc Tryz.prog Tryz.f5 false true false false W args v W' := by
  have hW' := hW
  obtain ⟨p, q, hA0, hV, rfl, hfz, hnd⟩ := hW
  have hA : DataW.TrodAll enc Tryz.prog W 0 (fun _ => true) true Tryz.f5.params.toList args.toList ds p := hA0
  have hbk := bulk_bound hk
  rw [Tryz.params5] at hA hval
  obtain ⟨v0, v1, v2, v3, v4, d0, d1, d2, d3, d4, p0, p1, p2, p3, p4, rfl, rfl, rfl, h0, h1, h2, h3, h4⟩ := trodAll_five hA
  obtain ⟨rfl, rfl⟩ := trodVars_none hV
  simp only [List.append_nil, Rows.uptoBulkAll] at hbk
  obtain ⟨key, rfl, rfl, rfl, _⟩ := open_string Tryz.underlying9 (hval 0 _ _ rfl rfl) h0
  obtain ⟨vu, u, rfl, hu, hz⟩ := user_open Tryz.underlying45 rfl rfl (by kernel_rfl) (by kernel_rfl) (hval 1 _ _ rfl rfl) h1 (by omega)
  obtain ⟨til, rfl, rfl, rfl, _⟩ := open_int Tryz.underlying3 (hval 2 _ _ rfl rfl) h2
  obtain ⟨t, rfl, rfl, rfl, _⟩ := open_string Tryz.underlying9 (hval 3 _ _ rfl rfl) h3
  obtain ⟨now, rfl, rfl, rfl, _⟩ := open_int Tryz.underlying3 (hval 4 _ _ rfl rfl) h4
  simp [Rows.uptoBulk] at hbk
  refine (Sx.tokenSays_walk W.heap.size vu key u til t now W (Nat.le_refl _) (by omega) hz hu (by omega) hm ht.1 ht.2).mono fun e W' ⟨he, hg⟩ => ?_
  subst he
  exact ⟨_, rfl, Fr.post_law Fr.laidOut (by kernel_rfl) rfl Tryz.underlying4 rfl rfl hW' hg⟩

theorem reads (os : Os) {H : Type} (enc : TypeId × Value → H) : ∃ places, DataW.whole enc Tryz.prog ((Ld.laidWorld os).forCall (fun _ _ => 0) ⟨#[], #[.string ByteArray.empty, .agg #[.string ByteArray.empty, .slice none 0 0], .int .i64 0, .string ByteArray.empty, .int .i64 0], []⟩).memory Tryz.f5.params.toList Rows.tokenSaysSpec.vars false (#[Value.string ByteArray.empty, .agg #[.string ByteArray.empty, .slice none 0 0], .int .i64 0, .string ByteArray.empty, .int .i64 0] : Array Value).toList 8 = some ([.lit (.string []), .agg [.lit (.string []), .nil], .lit (.int .i64 0), .lit (.string []), .lit (.int .i64 0)], [], places) :=
  ⟨[], by kernel_rfl⟩

set_option maxRecDepth 100000 in
theorem lifted (os : Os) (started : os.Started) (H : Type) (enc : TypeId × Value → H) (F : Stop.Interp) :
    ReturnsInHanded {} Tryz.checked os 5 .any ((Rows.OpenSpec.upto Rows.tokenSaysSpec).preRow enc Tryz.prog Tryz.f5 Rows.tokenSaysUptoRow.domain false Rows.tokenSaysUptoRow.laid) (((Rows.OpenSpec.upto Rows.tokenSaysSpec).at F).post enc Tryz.prog Tryz.f5 false true false false) := by
  obtain ⟨places, hx⟩ := reads os enc
  refine returnsInHanded_of_row (C := Tryz.checked) (s := Rows.OpenSpec.upto Rows.tokenSaysSpec) Fr.own started (by kernel_rfl) Tryz.func5
    (witness_row_atRef (enc := enc) (C := Tryz.checked) false (Ld.laidWorld os) #[.string ByteArray.empty, .agg #[.string ByteArray.empty, .slice none 0 0], .int .i64 0, .string ByteArray.empty, .int .i64 0] rfl (by kernel_rfl) (by kernel_rfl) (by kernel_rfl)
      (OpenSpec.preRow_of_cond 8 hx (by kernel_rfl) (fun k hk => by cases hk; kernel_rfl) (by kernel_rfl) (Ld.laid_met os _))) ?_
  intro W base args ds gs before hval hW _ hcond _ hlaid hsh _
  exact contract H enc W base args ds gs before hval hW (hcond _ rfl) (MaxC.of_shaped hsh) (Ld.laid_facts hlaid)

theorem said : Rows.TokenSaysUptoSaid :=
  OpenClaim.holds_of_cond 5 Tryz.f5 rfl rfl rfl rfl rfl rfl rfl ⟨rfl, rfl, rfl, rfl, rfl⟩ rfl rfl rfl rfl rfl (by kernel_rfl) Tryz.func5 (by kernel_rfl)
    (of_decide_eq_true (by kernel_rfl)) (by unfold Func.isWrapper; first | (rw [if_pos (by decide +kernel)]; kernel_rfl) | (rw [if_neg (by decide +kernel)]; exact ⟨rfl, rfl⟩))
    (fun os started H enc _ F => by rw [OpenClaim.pre_eq_preRow]; exact lifted os started H enc F)

theorem plain (f : FuncId) (fn : Func) (hf : Tryz.pinned.checked.prog.funcNamed "seneschal/seneschallaw.TokenSays" = some f) (hfn : Tryz.pinned.checked.prog.funcs[f]? = some fn) :
    true = Tryz.pinned.checked.prog.looks [] ∧ ∀ (j : Nat) t, fn.params[j]? = some t → Tryz.pinned.checked.prog.wantsStandIn t = false := by
  obtain rfl : f = 5 := Option.some.inj ((show Tryz.prog.funcNamed "seneschal/seneschallaw.TokenSays" = some 5 by kernel_rfl).symm.trans hf) |>.symm
  obtain rfl : fn = Tryz.f5 := (Option.some.inj (Tryz.func5.symm.trans hfn)).symm
  refine ⟨by kernel_rfl, fun j t ht => ?_⟩
  rw [Tryz.params5] at ht
  have hm := Array.mem_of_getElem? ht
  simp at hm
  rcases hm with rfl | rfl | rfl | rfl | rfl
  · exact (show Tryz.prog.wantsStandIn 9 = false by kernel_rfl)
  · exact (show Tryz.prog.wantsStandIn 45 = false by kernel_rfl)
  · exact (show Tryz.prog.wantsStandIn 3 = false by kernel_rfl)
  · exact (show Tryz.prog.wantsStandIn 9 = false by kernel_rfl)
  · exact (show Tryz.prog.wantsStandIn 3 = false by kernel_rfl)

theorem proved : Rows.TokenSaysUptoCardSaid :=
  Claim7.holds_tied_plain_at .later [] _ _ _ _ said (fun _ h => by cases h) (by kernel_rfl) (fun _ h => by cases h) tokenSaysUpto_row_tie rfl ⟨rfl, rfl⟩ (by kernel_rfl) rfl plain (by kernel_rfl)
#print axioms proved
end Go.Proofs.YtplfimoeggecjaaGreatDoor.tokenSays
