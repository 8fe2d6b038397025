/-
  The statement AuditProofsUptoSaid: the law AuditProofs returns true, where what is handed in is of bulk at most 1048576.
-/
import Derived.Test.YtpbbohinhbboaaaAuC
import Derived.Test.YtpbbohinhbboaaaOp2
import Derived.Test.YtpbbohinhbboaaaOp3
import Derived.Test.YtpbbohinhbboaaaOpen
import Derived.JoinedCond
namespace Go.Proofs.Ytpbbohinhbboaaa.auditProofs
open Go Go.ChangeShapes Go.WideShapes Go.ChangeAt Go.RowKit Go.Joins Go.Deep Go.Proofs.Ytpbbohinhbboaaa.Sx Go.Proofs.Ytpbbohinhbboaaa.Op
open Go.ChangeMaps (open_string)

set_option maxRecDepth 100000 in
theorem contract (H : Type) (enc : TypeId × Value → H) (W : World) (base : Nat) (args : Array Value) (ds gs : List (DataW H)) (before : List MemPlace)
    (hval : ∀ (j : Nat) t v, Try.f10.params[j]? = some t → args[j]? = some v → Value.okWide Try.prog W .any base t v)
    (hW : DataW.Whole enc Try.prog Try.f10.params.toList Rows.auditProofsSpec.vars false W args.toList ds gs before) (hk : Rows.uptoSmall H (ds ++ gs) = true) :
    Calls Try.prog 10 args W fun e W' => ∃ v, e = .returned v ∧ Rows.auditProofsSpec.post enc Try.prog Try.f10 false true false false W args v W' := by
  have hW' := hW
  obtain ⟨p, q, hA0, hV, rfl, hfz, hnd⟩ := hW
  have hA : DataW.TrodAll enc Try.prog W 0 (fun _ => true) true Try.f10.params.toList args.toList ds p := hA0
  have hbk := bulk_bound hk
  rw [Try.params10] at hA hval
  obtain ⟨v0, v1, v2, v3, v4, v5, d0, d1, d2, d3, d4, d5, p0, p1, p2, p3, p4, p5, rfl, rfl, rfl, h0, h1, h2, h3, h4, h5⟩ := trodAll_six hA
  obtain ⟨rfl, rfl⟩ := trodVars_none hV
  simp only [List.append_nil, Rows.uptoBulkAll] at hbk
  obtain ⟨xs, hxs, hbx⟩ := strs_arg (hval 0 _ _ rfl rfl) h0 (by omega)
  obtain ⟨i, rfl, rfl, rfl, _⟩ := open_int Try.underlying3 (hval 1 _ _ rfl rfl) h1
  obtain ⟨p2, rfl, rfl, rfl, _⟩ := open_string Try.underlying9 (hval 2 _ _ rfl rfl) h2
  obtain ⟨p3, rfl, rfl, rfl, _⟩ := open_string Try.underlying9 (hval 3 _ _ rfl rfl) h3
  obtain ⟨n, rfl, rfl, rfl, _⟩ := open_int Try.underlying3 (hval 4 _ _ rfl rfl) h4
  obtain ⟨ys, hys, hby⟩ := strs_arg (hval 5 _ _ rfl rfl) h5 (by omega)
  have hz1 : xs.length ≤ 1048576 := by omega
  have hz3 : p3.size ≤ 1048576 := by simp [Rows.uptoBulk] at hbk; omega
  refine (Sx.auditProofs_walk v0 v5 xs ys i n p2 p3 W (Lines.of_at hxs (Nat.le_refl _)) (Lines.of_at hys (Nat.le_refl _)) hz1 hz3).mono fun e W' ⟨he, hg⟩ => ?_
  subst he
  exact ⟨_, rfl, Fr.post_law Fr.laidOut (by kernel_rfl) rfl Try.underlying4 rfl rfl hW' hg⟩

set_option maxRecDepth 100000 in
theorem lifted (os : Os) (started : os.Started) (H : Type) (enc : TypeId × Value → H) (F : Stop.Interp) :
    ReturnsInHanded {} Try.checked os 10 .any ((Rows.OpenSpec.upto Rows.auditProofsSpec).pre6 enc Try.prog Try.f10 Rows.auditProofsUptoRow.domain false) (((Rows.OpenSpec.upto Rows.auditProofsSpec).at F).post enc Try.prog Try.f10 false true false false) := by
  refine returnsInHanded_of_cond (C := Try.checked) (s := Rows.OpenSpec.upto Rows.auditProofsSpec) (k := Rows.uptoSmall) rfl Fr.own started (by kernel_rfl) Try.func10
    (OpenSpec.witness (enc := enc) (C := Try.checked) (s := Rows.OpenSpec.upto Rows.auditProofsSpec) (k := Rows.uptoSmall) rfl false ⟨#[], #[.slice none 0 0, .int .i64 0, .string ByteArray.empty, .string ByteArray.empty, .int .i64 0, .slice none 0 0], []⟩ 8 (by kernel_rfl) (by kernel_rfl) (by kernel_rfl)
      (x := ([.nil, .lit (.int .i64 0), .lit (.string []), .lit (.string []), .lit (.int .i64 0), .nil], [], [])) (by kernel_rfl) rfl (by kernel_rfl)) ?_
  intro W base args ds gs before hval hW _ hk _
  exact contract H enc W base args ds gs before hval hW hk

theorem over : Rows.auditProofsUptoRow.holds Try.pinned (Rows.OpenSpec.upto Rows.auditProofsSpec) :=
  OpenClaim.holds_of_cond 10 Try.f10 rfl rfl rfl rfl rfl rfl rfl ⟨rfl, rfl, rfl, rfl, rfl⟩ rfl rfl rfl rfl rfl (by kernel_rfl) Try.func10 (by kernel_rfl)
    (of_decide_eq_true (by kernel_rfl)) (by unfold Func.isWrapper; first | (rw [if_pos (by decide +kernel)]; kernel_rfl) | (rw [if_neg (by decide +kernel)]; exact ⟨rfl, rfl⟩))
    (fun os started H enc _ F => lifted os started H enc F)

theorem proved : Rows.AuditProofsUptoSaid :=
  over
#print axioms proved
end Go.Proofs.Ytpbbohinhbboaaa.auditProofs
