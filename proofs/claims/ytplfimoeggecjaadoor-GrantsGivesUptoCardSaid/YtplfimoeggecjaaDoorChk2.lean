/-
  The program's grants.checker: rule, rules.
-/
import Derived.Test.YtplfimoeggecjaaDoorChk
namespace Go.Proofs.YtplfimoeggecjaaDoor.Sx
open Go Go.RowKit

structure Rule where
  verbs : List ByteArray
  kinds : List ByteArray
  names : List ByteArray

/-- A rule's three cells. -/
def ruleR (B : Nat) (w : World) (cs : List Value) (r : Rule) : Prop := ∃ v1 v2 v3, cs = [v1, v2, v3] ∧ StrsAt B w v1 r.verbs ∧ StrsAt B w v2 r.kinds ∧ StrsAt B w v3 r.names
theorem ruleR.below {B : Nat} {w w' : World} {cs : List Value} {r : Rule} (h : ruleR B w cs r) (hb : Below B w w') : ruleR B w' cs r := by
  obtain ⟨v1, v2, v3, e, h1, h2, h3⟩ := h
  exact ⟨v1, v2, v3, e, h1.below hb, h2.below hb, h3.below hb⟩
abbrev RulesAt (B : Nat) (w : World) (v : Value) (l : List Rule) : Prop := SlAt (ruleR B) 3 B w v l
theorem RulesAt.below {B : Nat} {w w' : World} {v : Value} {xs : List Rule} (h : RulesAt B w v xs) (hb : Below B w w') : RulesAt B w' v xs := SlAt.below h hb fun _ _ hr => hr.below hb

def ruleBad (r : Rule) : Int := if 6 < r.verbs.length ∨ 6 < r.kinds.length ∨ 6 < r.names.length then 2 else 0
def ruleNone (r : Rule) : Int := if r.verbs.length < 1 ∨ r.kinds.length < 1 then 1 else 0
def ruleI (c : Int) (r : Rule) : Int := namesI (namesI (namesI (say (say c (ruleBad r)) (ruleNone r)) r.verbs true) r.kinds true) r.names false

theorem Chk.mod_alloc {w : World} {b : Nat} {c : Int} (h : Chk w b c) (o : Obj) : Chk (w.alloc o) b c := heap_old h

theorem need_to (b : Nat) (c e : Int) (is : Bool) (v : Int) (w : World) (h : Chk w b c) (hv : (if is then 0 else e) = v) : Calls Tryd.prog 38 #[.pointer (some ⟨b, 0, none⟩), .bool is, .int .i64 e] w (ChkPost w b (say c v)) := by
  subst hv
  exact need_any b c e is w h

theorem keep3 {w w' : World} {b k : Nat} {x y z : Value} {t : TypeId} (hm : Mod eT b w w') (hk : w.heap[k]? = some (.cells #[x, y, z] t (0, 0))) (ht : t ≠ eT) (hne : k ≠ b) :
    w'.heap[k]? = some (.cells #[x, y, z] t (0, 0)) := hm.heap (safe_of hne hk ht) hk
theorem cells3 {w : World} {k : Nat} {x y z : Value} {t : TypeId} {f : Nat × Nat} (h : w.heap[k]? = some (.cells #[x, y, z] t f)) :
    w.cell? ⟨k, 0, none⟩ = some x ∧ w.cell? ⟨k, 1, none⟩ = some y ∧ w.cell? ⟨k, 2, none⟩ = some z := by
  refine ⟨?_, ?_, ?_⟩ <;> simp [cell_of h]

set_option maxRecDepth 100000 in
set_option maxHeartbeats 4000000 in
theorem rule_any (B b : Nat) (c : Int) (v1 v2 v3 : Value) (r : Rule) (w : World) (h : Chk w b c) (hB : B ≤ b) (h1 : StrsAt B w v1 r.verbs) (h2 : StrsAt B w v2 r.kinds) (h3 : StrsAt B w v3 r.names) :
    Calls Tryd.prog 39 #[.pointer (some ⟨b, 0, none⟩), .agg #[v1, v2, v3]] w (ChkPost w b (ruleI c r)) := by
  have hbs : b < w.heap.size := heap_lt h
  obtain ⟨A1, c1, rfl, s1⟩ := strsS_of h1 hB hbs
  obtain ⟨A2, c2, rfl, s2⟩ := strsS_of h2 hB hbs
  obtain ⟨A3, c3, rfl, s3⟩ := strsS_of h3 hB hbs
  clear h1 h2 h3
  have n1 := s1.1
  have n2 := s2.1
  have n3 := s3.1
  have H := Lib.hid h
  have S1 := Lib.hid s1
  have S2 := Lib.hid s2
  have S3 := Lib.hid s3
  clear h s1 s2 s3
  have hne : w.heap.size ≠ b := by omega
  have HNE := Lib.hid hne
  clear hne
  go_enter Tryd.func39, Tryd.ntmps39
  go_wp2_with fail
  all_goals
    refine Calls.mono (need_to _ _ _ _ (ruleBad r) _ (H.out.mod_alloc _) ?_) ?_
    · unfold ruleBad
      (repeat' split) <;> first | rfl | (exfalso; (try simp only [decide_eq_true_eq, reduceCtorEq] at *) <;> omega)
    rintro e w1 ⟨rfl, hc1, hm1⟩
    have hk1 := keep3 hm1 (heap_new rfl) (by decide) HNE.out
    have hm1' := (Mod.refl.alloc _).trans hm1
    obtain ⟨k0, k1, k2⟩ := cells3 hk1
    have HK1 := Lib.hid hk1
    have HC1 := Lib.hid hc1
    have HM1 := Lib.hid hm1'
    clear hk1 hm1 hm1' hc1
    go_wp2_with fail
    all_goals try (exfalso; omega)
    all_goals
      refine Calls.mono (need_to _ _ _ _ (ruleNone r) _ HC1.out ?_) ?_
      · unfold ruleNone
        (repeat' split) <;> first | rfl | (exfalso; (try simp only [decide_eq_true_eq, reduceCtorEq] at *) <;> omega)
      rintro e w2 ⟨rfl, hc2, hm2⟩
      have hk2 := keep3 hm2 HK1.out (by decide) HNE.out
      obtain ⟨k0', k1', k2'⟩ := cells3 hk2
      have HK2 := Lib.hid hk2
      have HC2 := Lib.hid hc2
      have HM2 := Lib.hid (HM1.out.trans hm2)
      clear hk2 hm2 hc2
      clear k0 k1 k2
      try (exfalso; omega)
      go_wp2_with fail
      refine Calls.mono (names_any _ _ _ _ r.verbs true _ HC2.out (S1.out.mod HM2.out)) ?_
      rintro e w3 ⟨rfl, hc3, hm3⟩
      have hk3 := keep3 hm3 HK2.out (by decide) HNE.out
      obtain ⟨l0, l1, l2⟩ := cells3 hk3
      have HK3 := Lib.hid hk3
      have HC3 := Lib.hid hc3
      have HM3 := Lib.hid (HM2.out.trans hm3)
      clear hk3 hm3 hc3
      go_wp2_with fail
      refine Calls.mono (names_any _ _ _ _ r.kinds true _ HC3.out (S2.out.mod HM3.out)) ?_
      rintro e w4 ⟨rfl, hc4, hm4⟩
      have hk4 := keep3 hm4 HK3.out (by decide) HNE.out
      obtain ⟨m0, m1, m2⟩ := cells3 hk4
      have HC4 := Lib.hid hc4
      have HM4 := Lib.hid (HM3.out.trans hm4)
      clear hk4 hm4 hc4
      go_wp2_with fail
      refine Calls.mono (names_any _ _ _ _ r.names false _ HC4.out (S3.out.mod HM4.out)) ?_
      rintro e w5 ⟨rfl, hc5, hm5⟩
      have HC5 := Lib.hid hc5
      have HM5 := Lib.hid (HM4.out.trans hm5)
      clear hm5 hc5
      go_wp2
      go_end0
      exact ⟨rfl, HC5.out, HM5.out⟩
end Go.Proofs.YtplfimoeggecjaaDoor.Sx
