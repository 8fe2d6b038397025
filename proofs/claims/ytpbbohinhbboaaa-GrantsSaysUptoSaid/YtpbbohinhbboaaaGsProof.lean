/-
  The statement GrantsSaysUptoSaid: the law GrantsSays returns true, where what is handed in is of bulk at most 1048576. (Without the bound the reference's list of flaws could pass the memory there is.)
-/
import Derived.Test.YtpbbohinhbboaaaGsLaw
import Derived.Test.YtpbbohinhbboaaaGcProof
namespace Go.Proofs.Ytpbbohinhbboaaa.grantsSays
open Go Go.ChangeShapes Go.WideShapes Go.ChangeAt Go.RowKit Go.Joins Go.Deep Go.Proofs.Ytpbbohinhbboaaa.Sx Go.Proofs.Ytpbbohinhbboaaa.Op Go.Proofs.Ytpbbohinhbboaaa.grantsChecks
open Go.ChangeMaps (open_string)

section
variable {H : Type} {enc : TypeId × Value → H} {W : World}

theorem total_le (l : List Role) : totalR l ≤ (l.map fRole).sum := by
  induction l with
  | nil => simp [totalR]
  | cons r l ih =>
    simp only [totalR, List.map_cons, List.sum_cons, fRole] at *
    omega

set_option maxRecDepth 100000 in
theorem grants_open2 {t : TypeId} {f0 f1 : Field} {b0 : Nat} {v : Value} {d : DataW H} {p : List MemPlace} (ht : Try.prog.underlying t = some (.struct #[f0, f1])) (e0 : f0.type = 63) (e1 : f1.type = 64) (hone : oneCellFields Try.prog #[f0, f1] = true) (hC : Try.prog.cellsOf t = 2)
    (hv : Value.okWide Try.prog W .any b0 t v) (h : DataW.Trod enc Try.prog W 0 (fun _ => true) true t v d p) (hb : Rows.uptoBulk d ≤ 1048576) :
    ∃ vr vb g, v = .agg #[vr, vb] ∧ RolesAt W.heap.size W vr g.roles ∧ BindsAt W.heap.size W vb g.binds ∧ grantsW g < 8796093022208 ∧ g.few := by
  obtain ⟨c0, c1, y0, y1, m, rfl, rfl, rfl, h0, h1⟩ := open_agg2 ht hone hC hv h
  rw [e0] at h0
  rw [e1] at h1
  simp only [Rows.uptoBulk, Rows.uptoBulkAll] at hb
  obtain ⟨v0, rs, e, hs, hw⟩ := slice_open (R := roleR W.heap.size) fRole Try.underlying63 (by kernel_rfl) (by omega) (fun n cs d ps => role_el n cs d ps) h0 (by omega)
  injection e with e
  subst e
  obtain ⟨v1, bs, e, hs1, hw1⟩ := slice_open (R := bindR W.heap.size) fBind Try.underlying64 (by kernel_rfl) (by omega) (fun n cs d ps => bind_el n cs d ps) h1 (by omega)
  injection e with e
  subst e
  refine ⟨c0, c1, ⟨rs, bs⟩, rfl, hs, hs1, ?_, by simp only; omega, ?_⟩
  rotate_left
  · have := total_le rs
    simp only
    omega
  have b1 := rolesW_bound rs (by omega) rs.length (Nat.le_refl _)
  have b2 := bindsW_bound bs (by omega) bs.length (Nat.le_refl _)
  rw [List.take_length] at b1 b2
  simp only [grantsW]
  omega


set_option maxRecDepth 100000 in
theorem user_open {t : TypeId} {f0 f1 : Field} {b0 : Nat} {v : Value} {d : DataW H} {p : List MemPlace} (ht : Try.prog.underlying t = some (.struct #[f0, f1])) (e0 : f0.type = 9) (e1 : f1.type = 52) (hone : oneCellFields Try.prog #[f0, f1] = true) (hC : Try.prog.cellsOf t = 2)
    (hv : Value.okWide Try.prog W .any b0 t v) (h : DataW.Trod enc Try.prog W 0 (fun _ => true) true t v d p) (hb : Rows.uptoBulk d ≤ 1048576) :
    ∃ vu, ∃ u : Sx.User, v = .agg #[.string u.name, vu] ∧ StrsAt W.heap.size W vu u.groups ∧ u.name.size ≤ 1048576 := by
  obtain ⟨c0, c1, y0, y1, m, rfl, rfl, rfl, h0, h1⟩ := open_agg2 ht hone hC hv h
  rw [e0] at h0
  rw [e1] at h1
  simp only [Rows.uptoBulk, Rows.uptoBulkAll] at hb
  obtain ⟨s0, q0, w0⟩ := string_open Try.underlying9 h0
  simp at q0
  subst q0
  obtain ⟨x1, s1, w1⟩ := strs_open h1 (by omega)
  exact ⟨c1, ⟨s0, x1⟩, rfl, s1, by simp only; omega⟩

end

set_option maxRecDepth 100000 in
theorem contract (H : Type) (enc : TypeId × Value → H) (W : World) (base : Nat) (args : Array Value) (ds gs : List (DataW H)) (before : List MemPlace)
    (hval : ∀ (j : Nat) t v, Try.f9.params[j]? = some t → args[j]? = some v → Value.okWide Try.prog W .any base t v)
    (hW : DataW.Whole enc Try.prog Try.f9.params.toList Rows.grantsSaysSpec.vars false W args.toList ds gs before) (hk : Rows.uptoSmall H (ds ++ gs) = true) :
    Calls Try.prog 9 args W fun e W' => ∃ v, e = .returned v ∧ Rows.grantsSaysSpec.post enc Try.prog Try.f9 false true false false W args v W' := by
  have hW' := hW
  obtain ⟨p, q, hA0, hV, rfl, hfz, hnd⟩ := hW
  have hA : DataW.TrodAll enc Try.prog W 0 (fun _ => true) true Try.f9.params.toList args.toList ds p := hA0
  have hbk := bulk_bound hk
  rw [Try.params9] at hA hval
  obtain ⟨v0, v1, v2, v3, d0, d1, d2, d3, p0, p1, p2, p3, rfl, rfl, rfl, h0, h1, h2, h3⟩ := trodAll_four hA
  obtain ⟨rfl, rfl⟩ := trodVars_none hV
  simp only [List.append_nil, Rows.uptoBulkAll] at hbk
  obtain ⟨vr, vb, g, rfl, hr, hb, hw, hfew⟩ := grants_open2 Try.underlying66 rfl rfl (by kernel_rfl) (by kernel_rfl) (hval 0 _ _ rfl rfl) h0 (by omega)
  obtain ⟨vu, u, rfl, hu, hz⟩ := user_open Try.underlying78 rfl rfl (by kernel_rfl) (by kernel_rfl) (hval 1 _ _ rfl rfl) h1 (by omega)
  obtain ⟨sp, rfl, rfl, rfl, _⟩ := open_string Try.underlying9 (hval 2 _ _ rfl rfl) h2
  obtain ⟨a, rfl, ha⟩ := ask_open Try.underlying68 rfl rfl rfl rfl (by kernel_rfl) (by kernel_rfl) (hval 3 _ _ rfl rfl) h3 (by omega)
  have hsp : sp.size ≤ 1048576 := by simp [Rows.uptoBulk] at hbk; omega
  refine (Sx.grantsSays_walk W.heap.size vr vb vu g u sp a W (Nat.le_refl _) hr hb hu hz hsp ha hfew hw).mono fun e W' ⟨he, hg⟩ => ?_
  subst he
  exact ⟨_, rfl, Fr.post_law Fr.laidOut (by kernel_rfl) rfl Try.underlying4 rfl rfl hW' hg⟩

set_option maxRecDepth 100000 in
theorem lifted (os : Os) (started : os.Started) (H : Type) (enc : TypeId × Value → H) (F : Stop.Interp) :
    ReturnsInHanded {} Try.checked os 9 .any ((Rows.OpenSpec.upto Rows.grantsSaysSpec).pre6 enc Try.prog Try.f9 Rows.grantsSaysUptoRow.domain false) (((Rows.OpenSpec.upto Rows.grantsSaysSpec).at F).post enc Try.prog Try.f9 false true false false) := by
  refine returnsInHanded_of_cond (C := Try.checked) (s := Rows.OpenSpec.upto Rows.grantsSaysSpec) (k := Rows.uptoSmall) rfl Fr.own started (by kernel_rfl) Try.func9
    (OpenSpec.witness (enc := enc) (C := Try.checked) (s := Rows.OpenSpec.upto Rows.grantsSaysSpec) (k := Rows.uptoSmall) rfl false ⟨#[], #[.agg #[.slice none 0 0, .slice none 0 0], .agg #[.string ByteArray.empty, .slice none 0 0], .string ByteArray.empty, .agg #[.string ByteArray.empty, .string ByteArray.empty, .string ByteArray.empty, .string ByteArray.empty]], []⟩ 8 (by kernel_rfl) (by kernel_rfl) (by kernel_rfl)
      (x := ([.agg [.nil, .nil], .agg [.lit (.string []), .nil], .lit (.string []), .agg [.lit (.string []), .lit (.string []), .lit (.string []), .lit (.string [])]], [], [])) (by kernel_rfl) rfl (by kernel_rfl)) ?_
  intro W base args ds gs before hval hW _ hk _
  exact contract H enc W base args ds gs before hval hW hk

theorem over : Rows.grantsSaysUptoRow.holds Try.pinned (Rows.OpenSpec.upto Rows.grantsSaysSpec) :=
  OpenClaim.holds_of_cond 9 Try.f9 rfl rfl rfl rfl rfl rfl rfl ⟨rfl, rfl, rfl, rfl, rfl⟩ rfl rfl rfl rfl rfl (by kernel_rfl) Try.func9 (by kernel_rfl)
    (of_decide_eq_true (by kernel_rfl)) (by unfold Func.isWrapper; first | (rw [if_pos (by decide +kernel)]; kernel_rfl) | (rw [if_neg (by decide +kernel)]; exact ⟨rfl, rfl⟩))
    (fun os started H enc _ F => lifted os started H enc F)

theorem proved : Rows.GrantsSaysUptoSaid :=
  over
#print axioms proved
end Go.Proofs.Ytpbbohinhbboaaa.grantsSays
