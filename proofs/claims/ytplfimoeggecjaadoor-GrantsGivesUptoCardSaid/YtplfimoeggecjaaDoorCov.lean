/-
  The program's grants.Covers.
-/
import Derived.Test.YtplfimoeggecjaaDoorBey1
namespace Go.Proofs.YtplfimoeggecjaaDoor.Sx
open Go Go.RowKit Go.Proofs.YtplfimoeggecjaaDoor.Dc

set_option maxRecDepth 100000 in
set_option maxHeartbeats 8000000 in
theorem gcovers_any (B : Nat) (v v1 v2 v3 : Value) (l : List Rule) (r : Rule) (w : World) (hB : B ≤ w.heap.size) (hv : RulesR B w v l) (h1 : StrsR B w v1 r.verbs) (h2 : StrsR B w v2 r.kinds) (h3 : StrsR B w v3 r.names) (hl : l.length ≤ 1048576) (htab : Tab10 w) (hf1 : (verbsOf l).length ≤ 1048576) (hf2 : (kindsOf l).length ≤ 1048576) (hf3 : (namesOf l).length ≤ 1048576) :
    Calls Tryd.prog 6 #[v, .agg #[v1, v2, v3]] w fun e w' => e = .returned (.bool (beyondL l r).isNone) ∧ Ext w w' := by
  have C : ∀ W, Ext w W → Calls Tryd.prog 4 #[v, .agg #[v1, v2, v3]] W fun e w' => e = .returned (beyV (beyondL l r)) ∧ Ext W w' := fun W hW =>
    gbeyond_any B v v1 v2 v3 l r W (Nat.le_trans hB hW.size) (hv.below (hW.mono hB) (Nat.le_refl _)) (h1.below (hW.mono hB) (Nat.le_refl _)) (h2.below (hW.mono hB) (Nat.le_refl _)) (h3.below (hW.mono hB) (Nat.le_refl _)) hl (htab.ext hW) hf1 hf2 hf3
  clear htab hf1 hf2 hf3 hv h1 h2 h3
  generalize beyondL l r = o at C ⊢
  go_enter Tryd.func6, Tryd.ntmps6
  cases o with
  | none =>
    go_wp2_with (first | (go_at_call 4; go_loud (refine (C _ (new_ext w _)).mono ?_; rintro e w' ⟨rfl, hx⟩; simp only [beyV, askNone, Ask.val])))
    go_ret
    exact ⟨rfl, ((new_ext w _).trans hx).trans (new_ext w' _)⟩
  | some a =>
    go_wp2_with (first | (go_at_call 4; go_loud (refine (C _ (new_ext w _)).mono ?_; rintro e w' ⟨rfl, hx⟩; simp only [beyV, Ask.val])))
    go_ret
    exact ⟨rfl, ((new_ext w _).trans hx).trans (new_ext w' _)⟩
end Go.Proofs.YtplfimoeggecjaaDoor.Sx
