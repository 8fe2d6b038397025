/-
  The program's grants.checker: rules.
-/
import Derived.Test.YtplfimoeggecjaaDoorChk2
namespace Go.Proofs.YtplfimoeggecjaaDoor.Sx
open Go Go.RowKit

def manyI (n most : Nat) : Int := if most < n then 2 else 0
def rulesI (c : Int) (l : List Rule) : Int := l.foldl ruleI (say c (manyI l.length 8))
def rulesTo (c : Int) (l : List Rule) (k : Nat) : Int := (l.take k).foldl ruleI (say c (manyI l.length 8))
theorem rulesTo_succ (c : Int) (l : List Rule) (k : Nat) (h : k < l.length) : rulesTo c l (k + 1) = ruleI (rulesTo c l k) l[k] := by
  unfold rulesTo
  rw [List.take_succ_eq_append_getElem h, List.foldl_append]
  rfl
theorem rulesTo_all (c : Int) (l : List Rule) (k : Nat) (h : l.length ≤ k) : rulesTo c l k = rulesI c l := by
  unfold rulesTo rulesI
  rw [List.take_of_length_le h]

theorem at3 {w : World} {blk off j : Nat} {x y z : Value} (h : ∀ i u, [x, y, z][i]? = some u → w.cell? ⟨blk, off + j * 3 + i, none⟩ = some u) :
    w.cell? ⟨blk, off + j * 3, none⟩ = some x ∧ w.cell? ⟨blk, off + j * 3 + 1, none⟩ = some y ∧ w.cell? ⟨blk, off + j * 3 + 2, none⟩ = some z :=
  ⟨h 0 x rfl, h 1 y rfl, h 2 z rfl⟩

set_option maxRecDepth 100000 in
set_option maxHeartbeats 1000000 in
theorem rules_any (B b : Nat) (c : Int) (v : Value) (l : List Rule) (w : World) (h : Chk w b c) (hB : B ≤ b) (hv : RulesAt B w v l) :
    Calls Tryd.prog 18 #[.pointer (some ⟨b, 0, none⟩), v] w (ChkPost w b (rulesI c l)) := by
  have hbs : b < w.heap.size := heap_lt h
  have hv0 := hv
  obtain ⟨hn, A, cap, rfl, _, _, hi⟩ := hv
  have HI := Lib.hid hi
  have H := Lib.hid h
  clear h hv0 hi
  go_enter Tryd.func18, Tryd.ntmps18
  go_wp2_with fail
  refine Calls.mono (need_to _ _ _ _ (manyI l.length 8) _ H.out ?_) ?_
  · unfold manyI
    (repeat' split) <;> first | rfl | (exfalso; (try simp only [decide_eq_true_eq] at *) <;> omega)
  rintro e w1 ⟨rfl, hc1, hm1⟩
  have HC1 := Lib.hid hc1
  have HM1 := Lib.hid hm1
  clear hc1 hm1
  go_wp2
  go_loopw [5, 13] (fun s k wr => ∃ j : Nat, j ≤ l.length ∧ k = .int .i64 j ∧ Hid (Chk wr b (rulesTo c l j)) ∧ Hid (Mod eT b w wr)) (fun _ k _ => l.length - (intOf k).toNat)
  case atStart => exact ⟨0, Nat.zero_le _, rfl, HC1.out, HM1.out⟩
  case round =>
    obtain ⟨j, hj, rfl, hC, hM⟩ := hrel
    by_cases hlt : j < l.length
    · obtain ⟨blk, off, cs, rfl, hblk, _, ⟨v1, v2, v3, rfl, h1, h2, h3⟩, hcell⟩ := HI.out j hlt
      have hbel := hM.out.below (Nat.le_of_lt hbs)
      obtain ⟨c0, c1, c2⟩ := at3 fun i u hu => (hbel.cell (p := ⟨blk, off + j * 3 + i, none⟩) (by show blk < b; omega)).trans (hcell i u hu)
      have HS := Lib.hid (rulesTo_succ c l j hlt)
      have hbel' := hbel.mono hB
      have HR := Lib.hid (And.intro (h1.below hbel') (And.intro (h2.below hbel') (h3.below hbel')))
      obtain ⟨r, hr⟩ : ∃ r, r = l[j] := ⟨_, rfl⟩
      rw [← hr] at HS HR
      clear hr h1 h2 h3 hcell hbel hbel'
      obtain ⟨A1, k1, rfl⟩ : ∃ A k, v1 = .slice A r.verbs.length k := ⟨_, _, HR.out.1.2.choose_spec.choose_spec.1⟩
      obtain ⟨A2, k2, rfl⟩ : ∃ A k, v2 = .slice A r.kinds.length k := ⟨_, _, HR.out.2.1.2.choose_spec.choose_spec.1⟩
      obtain ⟨A3, k3, rfl⟩ : ∃ A k, v3 = .slice A r.names.length k := ⟨_, _, HR.out.2.2.2.choose_spec.choose_spec.1⟩
      go_wp2_with fail
      have hbr : b < wr.heap.size := heap_lt hC.out
      have hal : ∀ o, Below B wr (wr.alloc o) := fun o => (Below.refl _ _).alloc (by omega) _
      refine Calls.mono (rule_any B b _ _ _ _ r _ (hC.out.mod_alloc _) hB (HR.out.1.below (hal _)) (HR.out.2.1.below (hal _)) (HR.out.2.2.below (hal _))) ?_
      rintro e w2 ⟨rfl, hc2, hm2⟩
      have HC2 := Lib.hid hc2
      have HM2 := Lib.hid ((Mod.refl.alloc _).trans hm2)
      clear hc2 hm2 hal
      go_wp2
      go_roundw
      case rel => exact ⟨j + 1, hlt, by go_num, by unfold Hid; rw [HS.out]; exact HC2.out, hM.out.trans HM2.out⟩
      case measure => simp [intOf]; omega
    · have HA := Lib.hid (rulesTo_all c l j (by omega))
      go_wp2
      go_end0
      exact ⟨rfl, by rw [← HA.out]; exact hC.out, hM.out⟩
end Go.Proofs.YtplfimoeggecjaaDoor.Sx
