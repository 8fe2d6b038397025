/-
  Openers: grants, users, rules and asks that are handed in.
-/
import Derived.Test.YtplfimoeggecjaaDoorFlw4
import Derived.Test.YtplfimoeggecjaaDoorChk8
import Derived.Test.YtplfimoeggecjaaDoorHld
import Derived.Test.YtplfimoeggecjaaDoorOpen
import Derived.JoinedCond
namespace Go.Proofs.YtplfimoeggecjaaDoor.Gop
open Go Go.ChangeShapes Go.WideShapes Go.ChangeAt Go.RowKit Go.Joins Go.Deep Go.Proofs.YtplfimoeggecjaaDoor.Sx Go.Proofs.YtplfimoeggecjaaDoor.Op
open Go.ChangeMaps (open_string)

section
variable {H : Type} {enc : TypeId × Value → H} {W : World}

def fRule (r : Rule) : Nat := r.verbs.length + r.kinds.length + r.names.length
def fRole (r : Role) : Nat := (r.rules.map fRule).sum + r.rules.length
def fBind (r : Bind) : Nat := r.users.length + r.groups.length

theorem str_el (n : Nat) (cs : List Value) (d : DataW H) (ps : List MemPlace) (h : DataW.trod enc Tryd.prog W 0 (fun _ => true) true n 9 cs = some (d, ps)) (_ : cs.length = 1) (hb : Rows.uptoBulk d ≤ 1048576) :
    ∃ x, strR W cs x ∧ ByteArray.size x + 1 ≤ Rows.uptoBulk d := by
  obtain ⟨s, rfl, hs⟩ := string_open Tryd.underlying9 h
  exact ⟨s, ⟨rfl, by omega⟩, by omega⟩

theorem strs_open {n : Nat} {v : Value} {d : DataW H} {ps : List MemPlace} (h : DataW.trod enc Tryd.prog W 0 (fun _ => true) true n 26 [v] = some (d, ps)) (hb : Rows.uptoBulk d ≤ 1048576) :
    ∃ xs, StrsAt W.heap.size W v xs ∧ xs.length + 1 ≤ Rows.uptoBulk d := by
  obtain ⟨v', xs, e, hs, hw⟩ := slice_open (R := strR) ByteArray.size Tryd.underlying26 (by kernel_rfl) (by omega) (fun n cs d ps => str_el n cs d ps) h hb
  injection e with e1
  subst e1
  exact ⟨xs, hs, by omega⟩

theorem rule_el (n : Nat) (cs : List Value) (d : DataW H) (ps : List MemPlace) (h : DataW.trod enc Tryd.prog W 0 (fun _ => true) true n 31 cs = some (d, ps)) (_ : cs.length = 3) (hb : Rows.uptoBulk d ≤ 1048576) :
    ∃ x, ruleR W.heap.size W cs x ∧ fRule x + 1 ≤ Rows.uptoBulk d := by
  obtain ⟨ys, m, rfl, hy, hc, hf⟩ := struct_open Tryd.underlying31 (by kernel_rfl) (by kernel_rfl) h
  obtain ⟨v0, y0, hv0, hy0, h0⟩ := hf 0 _ rfl
  obtain ⟨v1, y1, hv1, hy1, h1⟩ := hf 1 _ rfl
  obtain ⟨v2, y2, hv2, hy2, h2⟩ := hf 2 _ rfl
  have hys : ys = [y0, y1, y2] := by
    match ys, hy with
    | [a, b, c], _ => simp at hy0 hy1 hy2; rw [hy0, hy1, hy2]
  have hcs : cs = [v0, v1, v2] := by
    match cs, hc with
    | [a, b, c], _ => simp at hv0 hv1 hv2; rw [hv0, hv1, hv2]
  subst hys hcs
  simp only [List.map_cons, List.map_nil, Rows.uptoBulk, Rows.uptoBulkAll] at hb ⊢
  obtain ⟨x0, s0, w0⟩ := strs_open h0 (by omega)
  obtain ⟨x1, s1, w1⟩ := strs_open h1 (by omega)
  obtain ⟨x2, s2, w2⟩ := strs_open h2 (by omega)
  exact ⟨⟨x0, x1, x2⟩, ⟨_, _, _, rfl, s0, s1, s2⟩, by simp only [fRule]; omega⟩

theorem role_el (n : Nat) (cs : List Value) (d : DataW H) (ps : List MemPlace) (h : DataW.trod enc Tryd.prog W 0 (fun _ => true) true n 74 cs = some (d, ps)) (_ : cs.length = 3) (hb : Rows.uptoBulk d ≤ 1048576) :
    ∃ x, roleR W.heap.size W cs x ∧ fRole x + 1 ≤ Rows.uptoBulk d := by
  obtain ⟨ys, m, rfl, hy, hc, hf⟩ := struct_open Tryd.underlying74 (by kernel_rfl) (by kernel_rfl) h
  obtain ⟨v0, y0, hv0, hy0, h0⟩ := hf 0 _ rfl
  obtain ⟨v1, y1, hv1, hy1, h1⟩ := hf 1 _ rfl
  obtain ⟨v2, y2, hv2, hy2, h2⟩ := hf 2 _ rfl
  have hys : ys = [y0, y1, y2] := by
    match ys, hy with
    | [a, b, c], _ => simp at hy0 hy1 hy2; rw [hy0, hy1, hy2]
  have hcs : cs = [v0, v1, v2] := by
    match cs, hc with
    | [a, b, c], _ => simp at hv0 hv1 hv2; rw [hv0, hv1, hv2]
  subst hys hcs
  simp only [List.map_cons, List.map_nil, Rows.uptoBulk, Rows.uptoBulkAll] at hb ⊢
  obtain ⟨s0, e0, w0⟩ := string_open Tryd.underlying9 h0
  obtain ⟨s1, e1, w1⟩ := string_open Tryd.underlying9 h1
  simp at e0 e1
  subst e0 e1
  obtain ⟨v', xs, e, hs, hw⟩ := slice_open (R := ruleR W.heap.size) fRule Tryd.underlying29 (by kernel_rfl) (by omega) (fun n cs d ps => rule_el n cs d ps) h2 (by omega)
  injection e with e1
  subst e1
  exact ⟨⟨s0, s1, xs⟩, ⟨_, rfl, by simp only; omega, by simp only; omega, hs⟩, by simp only [fRole]; omega⟩

theorem bind_el (n : Nat) (cs : List Value) (d : DataW H) (ps : List MemPlace) (h : DataW.trod enc Tryd.prog W 0 (fun _ => true) true n 71 cs = some (d, ps)) (_ : cs.length = 6) (hb : Rows.uptoBulk d ≤ 1048576) :
    ∃ x, bindR W.heap.size W cs x ∧ fBind x + 1 ≤ Rows.uptoBulk d := by
  obtain ⟨ys, m, rfl, hy, hc, hf⟩ := struct_open Tryd.underlying71 (by kernel_rfl) (by kernel_rfl) h
  obtain ⟨v0, y0, hv0, hy0, h0⟩ := hf 0 _ rfl
  obtain ⟨v1, y1, hv1, hy1, h1⟩ := hf 1 _ rfl
  obtain ⟨v2, y2, hv2, hy2, h2⟩ := hf 2 _ rfl
  obtain ⟨v3, y3, hv3, hy3, h3⟩ := hf 3 _ rfl
  obtain ⟨v4, y4, hv4, hy4, h4⟩ := hf 4 _ rfl
  obtain ⟨v5, y5, hv5, hy5, h5⟩ := hf 5 _ rfl
  have hys : ys = [y0, y1, y2, y3, y4, y5] := by
    match ys, hy with
    | [a, b, c, d, e, f], _ => simp at hy0 hy1 hy2 hy3 hy4 hy5; rw [hy0, hy1, hy2, hy3, hy4, hy5]
  have hcs : cs = [v0, v1, v2, v3, v4, v5] := by
    match cs, hc with
    | [a, b, c, d, e, f], _ => simp at hv0 hv1 hv2 hv3 hv4 hv5; rw [hv0, hv1, hv2, hv3, hv4, hv5]
  subst hys hcs
  simp only [List.map_cons, List.map_nil, Rows.uptoBulk, Rows.uptoBulkAll] at hb ⊢
  obtain ⟨s0, e0, w0⟩ := string_open Tryd.underlying9 h0
  obtain ⟨s1, e1, w1⟩ := string_open Tryd.underlying9 h1
  obtain ⟨s2, e2, w2⟩ := string_open Tryd.underlying9 h2
  obtain ⟨s3, e3⟩ := bool_open Tryd.underlying4 h3
  simp at e0 e1 e2 e3
  subst e0 e1 e2 e3
  obtain ⟨x4, t4, w4⟩ := strs_open h4 (by omega)
  obtain ⟨x5, t5, w5⟩ := strs_open h5 (by omega)
  exact ⟨⟨s0, s1, s2, s3, x4, x5⟩, ⟨_, _, rfl, by simp only; omega, by simp only; omega, by simp only; omega, t4, t5⟩, by simp only [fBind]; omega⟩

theorem rulesW_le (l : List Rule) : rulesW l ≤ 1 + 2 * ((l.map fRule).sum + l.length) := by
  unfold rulesW
  have : (l.map ruleW).sum ≤ 2 * ((l.map fRule).sum + l.length) := by
    induction l with
    | nil => simp
    | cons r l ih =>
      simp only [List.map_cons, List.sum_cons, List.length_cons, ruleW, fRule] at *
      omega
  omega
theorem rolesW_bound (l : List Role) (hl : l.length ≤ 1048576) (k : Nat) (hk : k ≤ l.length) : rolesW l k ≤ k * 1048580 + 2 * ((l.take k).map fRole).sum := by
  induction k with
  | zero => simp [rolesW]
  | succ k ih =>
    have h1 := ih (by omega)
    rw [rolesW_succ l k (by omega), List.take_succ_eq_append_getElem (by omega), List.map_append, List.sum_append]
    have h2 := rulesW_le l[k].rules
    simp only [List.map_cons, List.map_nil, List.sum_cons, List.sum_nil, fRole] at *
    omega
theorem bindsW_bound (l : List Bind) (hl : l.length ≤ 1048576) (k : Nat) (hk : k ≤ l.length) : bindsW l k ≤ k * 1048584 + ((l.take k).map fBind).sum := by
  induction k with
  | zero => simp [bindsW]
  | succ k ih =>
    have h1 := ih (by omega)
    rw [bindsW_succ l k (by omega), List.take_succ_eq_append_getElem (by omega), List.map_append, List.sum_append]
    simp only [List.map_cons, List.map_nil, List.sum_cons, List.sum_nil, fBind] at *
    omega

set_option maxRecDepth 100000 in
theorem grants_open {t : TypeId} {f0 f1 : Field} {b0 : Nat} {v : Value} {d : DataW H} {p : List MemPlace} (ht : Tryd.prog.underlying t = some (.struct #[f0, f1])) (e0 : f0.type = 22) (e1 : f1.type = 23) (hone : oneCellFields Tryd.prog #[f0, f1] = true) (hC : Tryd.prog.cellsOf t = 2)
    (hv : Value.okWide Tryd.prog W .any b0 t v) (h : DataW.Trod enc Tryd.prog W 0 (fun _ => true) true t v d p) (hb : Rows.uptoBulk d ≤ 1048576) :
    ∃ vr vb g, v = .agg #[vr, vb] ∧ RolesAt W.heap.size W vr g.roles ∧ BindsAt W.heap.size W vb g.binds ∧ grantsW g < 8796093022208 := by
  obtain ⟨c0, c1, y0, y1, m, rfl, rfl, rfl, h0, h1⟩ := open_agg2 ht hone hC hv h
  rw [e0] at h0
  rw [e1] at h1
  simp only [Rows.uptoBulk, Rows.uptoBulkAll] at hb
  obtain ⟨v0, rs, e, hs, hw⟩ := slice_open (R := roleR W.heap.size) fRole Tryd.underlying22 (by kernel_rfl) (by omega) (fun n cs d ps => role_el n cs d ps) h0 (by omega)
  injection e with e
  subst e
  obtain ⟨v1, bs, e, hs1, hw1⟩ := slice_open (R := bindR W.heap.size) fBind Tryd.underlying23 (by kernel_rfl) (by omega) (fun n cs d ps => bind_el n cs d ps) h1 (by omega)
  injection e with e
  subst e
  refine ⟨c0, c1, ⟨rs, bs⟩, rfl, hs, hs1, ?_⟩
  have b1 := rolesW_bound rs (by omega) rs.length (Nat.le_refl _)
  have b2 := bindsW_bound bs (by omega) bs.length (Nat.le_refl _)
  rw [List.take_length] at b1 b2
  simp only [grantsW]
  omega

set_option maxRecDepth 100000 in
theorem ask_open {t : TypeId} {f0 f1 f2 f3 : Field} {b0 : Nat} {v : Value} {d : DataW H} {p : List MemPlace} (ht : Tryd.prog.underlying t = some (.struct #[f0, f1, f2, f3])) (e0 : f0.type = 9) (e1 : f1.type = 9) (e2 : f2.type = 9) (e3 : f3.type = 9) (hone : oneCellFields Tryd.prog #[f0, f1, f2, f3] = true) (hC : Tryd.prog.cellsOf t = 4)
    (hv : Value.okWide Tryd.prog W .any b0 t v) (h : DataW.Trod enc Tryd.prog W 0 (fun _ => true) true t v d p) (hb : Rows.uptoBulk d ≤ 1048576) :
    ∃ a : Sx.Ask, v = a.val ∧ a.small := by
  obtain ⟨c0, c1, c2, c3, y0, y1, y2, y3, m, rfl, rfl, rfl, h0, h1, h2, h3⟩ := open_agg4 ht hone hC hv h
  rw [e0] at h0
  rw [e1] at h1
  rw [e2] at h2
  rw [e3] at h3
  simp only [Rows.uptoBulk, Rows.uptoBulkAll] at hb
  obtain ⟨s0, q0, w0⟩ := string_open Tryd.underlying9 h0
  obtain ⟨s1, q1, w1⟩ := string_open Tryd.underlying9 h1
  obtain ⟨s2, q2, w2⟩ := string_open Tryd.underlying9 h2
  obtain ⟨s3, q3, w3⟩ := string_open Tryd.underlying9 h3
  simp at q0 q1 q2 q3
  subst q0 q1 q2 q3
  exact ⟨⟨s0, s1, s2, s3⟩, rfl, by simp only [Ask.small]; omega⟩
theorem total_le (l : List Role) : totalR l ≤ (l.map fRole).sum := by
  induction l with
  | nil => simp [totalR]
  | cons r l ih =>
    simp only [totalR, List.map_cons, List.sum_cons, fRole] at *
    omega

set_option maxRecDepth 100000 in
theorem grants_open2 {t : TypeId} {f0 f1 : Field} {b0 : Nat} {v : Value} {d : DataW H} {p : List MemPlace} (ht : Tryd.prog.underlying t = some (.struct #[f0, f1])) (e0 : f0.type = 22) (e1 : f1.type = 23) (hone : oneCellFields Tryd.prog #[f0, f1] = true) (hC : Tryd.prog.cellsOf t = 2)
    (hv : Value.okWide Tryd.prog W .any b0 t v) (h : DataW.Trod enc Tryd.prog W 0 (fun _ => true) true t v d p) (hb : Rows.uptoBulk d ≤ 1048576) :
    ∃ vr vb g, v = .agg #[vr, vb] ∧ RolesAt W.heap.size W vr g.roles ∧ BindsAt W.heap.size W vb g.binds ∧ grantsW g < 8796093022208 ∧ g.few := by
  obtain ⟨c0, c1, y0, y1, m, rfl, rfl, rfl, h0, h1⟩ := open_agg2 ht hone hC hv h
  rw [e0] at h0
  rw [e1] at h1
  simp only [Rows.uptoBulk, Rows.uptoBulkAll] at hb
  obtain ⟨v0, rs, e, hs, hw⟩ := slice_open (R := roleR W.heap.size) fRole Tryd.underlying22 (by kernel_rfl) (by omega) (fun n cs d ps => role_el n cs d ps) h0 (by omega)
  injection e with e
  subst e
  obtain ⟨v1, bs, e, hs1, hw1⟩ := slice_open (R := bindR W.heap.size) fBind Tryd.underlying23 (by kernel_rfl) (by omega) (fun n cs d ps => bind_el n cs d ps) h1 (by omega)
  injection e with e
  subst e
  refine ⟨c0, c1, ⟨rs, bs⟩, rfl, hs, hs1, ?_, by simp only; omega, ?_⟩
  rotate_left
  · have := total_le rs
    simp only
    omega
  have b1 := rolesW_bound rs (by omega) rs.length (Nat.le_refl _)
  have b2 := bindsW_bound bs (by omega) bs.length (Nat.le_refl _)
  rw [List.take_length] at b1 b2
  simp only [grantsW]
  omega


set_option maxRecDepth 100000 in
theorem user_open {t : TypeId} {f0 f1 : Field} {b0 : Nat} {v : Value} {d : DataW H} {p : List MemPlace} (ht : Tryd.prog.underlying t = some (.struct #[f0, f1])) (e0 : f0.type = 9) (e1 : f1.type = 26) (hone : oneCellFields Tryd.prog #[f0, f1] = true) (hC : Tryd.prog.cellsOf t = 2)
    (hv : Value.okWide Tryd.prog W .any b0 t v) (h : DataW.Trod enc Tryd.prog W 0 (fun _ => true) true t v d p) (hb : Rows.uptoBulk d ≤ 1048576) :
    ∃ vu, ∃ u : Sx.User, v = .agg #[.string u.name, vu] ∧ StrsAt W.heap.size W vu u.groups ∧ u.name.size ≤ 1048576 := by
  obtain ⟨c0, c1, y0, y1, m, rfl, rfl, rfl, h0, h1⟩ := open_agg2 ht hone hC hv h
  rw [e0] at h0
  rw [e1] at h1
  simp only [Rows.uptoBulk, Rows.uptoBulkAll] at hb
  obtain ⟨s0, q0, w0⟩ := string_open Tryd.underlying9 h0
  simp at q0
  subst q0
  obtain ⟨x1, s1, w1⟩ := strs_open h1 (by omega)
  exact ⟨c1, ⟨s0, x1⟩, rfl, s1, by simp only; omega⟩


set_option maxRecDepth 100000 in
theorem rule_open {t : TypeId} {f0 f1 f2 : Field} {b0 : Nat} {v : Value} {d : DataW H} {p : List MemPlace} (ht : Tryd.prog.underlying t = some (.struct #[f0, f1, f2])) (e0 : f0.type = 26) (e1 : f1.type = 26) (e2 : f2.type = 26) (hone : oneCellFields Tryd.prog #[f0, f1, f2] = true) (hC : Tryd.prog.cellsOf t = 3)
    (hv : Value.okWide Tryd.prog W .any b0 t v) (h : DataW.Trod enc Tryd.prog W 0 (fun _ => true) true t v d p) (hb : Rows.uptoBulk d ≤ 1048576) :
    ∃ v1 v2 v3, ∃ r : Sx.Rule, v = .agg #[v1, v2, v3] ∧ StrsAt W.heap.size W v1 r.verbs ∧ StrsAt W.heap.size W v2 r.kinds ∧ StrsAt W.heap.size W v3 r.names := by
  obtain ⟨c0, c1, c2, y0, y1, y2, m, rfl, rfl, rfl, h0, h1, h2⟩ := open_agg3 ht hone hC hv h
  rw [e0] at h0
  rw [e1] at h1
  rw [e2] at h2
  simp only [Rows.uptoBulk, Rows.uptoBulkAll] at hb
  obtain ⟨x0, s0, w0⟩ := strs_open h0 (by omega)
  obtain ⟨x1, s1, w1⟩ := strs_open h1 (by omega)
  obtain ⟨x2, s2, w2⟩ := strs_open h2 (by omega)
  exact ⟨c0, c1, c2, ⟨x0, x1, x2⟩, rfl, s0, s1, s2⟩
set_option maxRecDepth 100000 in
theorem rules_open {n : Nat} {v : Value} {d : DataW H} {ps : List MemPlace} (h : DataW.trod enc Tryd.prog W 0 (fun _ => true) true n 29 [v] = some (d, ps)) (hb : Rows.uptoBulk d ≤ 1048576) :
    ∃ l, RulesAt W.heap.size W v l ∧ (l.map fRule).sum + l.length + 1 ≤ Rows.uptoBulk d := by
  obtain ⟨v', xs, e, hs, hw⟩ := slice_open (R := ruleR W.heap.size) fRule Tryd.underlying29 (by kernel_rfl) (by omega) (fun n cs d ps => rule_el n cs d ps) h hb
  injection e with e1
  subst e1
  exact ⟨xs, hs, by omega⟩
set_option maxRecDepth 100000 in
theorem rules_arg {b0 : Nat} {v : Value} {d : DataW H} {p : List MemPlace} (hv : Value.okWide Tryd.prog W .any b0 29 v) (h : DataW.Trod enc Tryd.prog W 0 (fun _ => true) true 29 v d p) (hb : Rows.uptoBulk d ≤ 1048576) :
    ∃ l, RulesAt W.heap.size W v l ∧ (l.map fRule).sum + l.length + 1 ≤ Rows.uptoBulk d := by
  obtain ⟨a, n, c, rfl⟩ := okWide_slice Tryd.underlying29 hv
  obtain ⟨fuel, hf⟩ := h
  exact rules_open (n := fuel) (by simpa [Value.cells] using hf) hb
theorem flat_le {f : Sx.Rule → List ByteArray} (h : ∀ r, (f r).length ≤ fRule r) (l : List Sx.Rule) : ((l.map f).flatten).length ≤ (l.map fRule).sum := by
  induction l with
  | nil => simp
  | cons x l ih =>
    have := h x
    simp only [List.map_cons, List.flatten_cons, List.length_append, List.sum_cons]
    omega
end
end Go.Proofs.YtplfimoeggecjaaDoor.Gop
