/-
  The reference's flaws: rules, first.
-/
import Derived.Test.YtplfimoeggecjaaDoorFlw2
namespace Go.Proofs.YtplfimoeggecjaaDoor.Sx
open Go Go.RowKit

def ruleW (r : Rule) : Nat := 2 + r.verbs.length + r.kinds.length + r.names.length
def rulesWTo (l : List Rule) (k : Nat) : Nat := ((l.take k).map ruleW).sum
def rulesW (l : List Rule) : Nat := 1 + (l.map ruleW).sum
theorem rulesWTo_succ (l : List Rule) (k : Nat) (h : k < l.length) : rulesWTo l (k + 1) = rulesWTo l k + ruleW l[k] := by
  unfold rulesWTo
  rw [List.take_succ_eq_append_getElem h, List.map_append, List.sum_append]
  simp
theorem sum_take_le (l : List Nat) (k : Nat) : (l.take k).sum ≤ l.sum := by
  induction l generalizing k with
  | nil => simp
  | cons x l ih =>
    cases k with
    | zero => simp
    | succ k => have := ih k; simp; omega
theorem rulesWTo_le (l : List Rule) (k : Nat) : 1 + rulesWTo l k ≤ rulesW l := by
  unfold rulesWTo rulesW
  have := sum_take_le (l.map ruleW) k
  rw [← List.map_take] at this
  omega
theorem rulesWTo_all (l : List Rule) : 1 + rulesWTo l l.length = rulesW l := by
  unfold rulesWTo rulesW
  rw [List.take_length]

/-- A round's box beside the flaws. -/
def FB (w0 w : World) (b k : Nat) (R : Array Value) (tr : TypeId) (c : Int) (K : Nat) : Prop :=
  w.heap[k]? = some (.cells R tr (0, 0)) ∧ Flw w b c K ∧ Mod eT b w0 w ∧ k ≠ b ∧ tr ≠ eT
theorem FB.step {w0 w w' : World} {b k : Nat} {R : Array Value} {tr : TypeId} {c c' : Int} {K K' : Nat} (h : FB w0 w b k R tr c K) (hc : Flw w' b c' K') (hm : Mod eT b w w') : FB w0 w' b k R tr c' K' := by
  obtain ⟨h2, _, h4, h6, h7⟩ := h
  exact ⟨hm.heap (safe_of h6 h2 h7) h2, hc, h4.trans hm, h6, h7⟩
theorem FB.cells3 {w0 w : World} {b k : Nat} {x y z : Value} {tr : TypeId} {c : Int} {K : Nat} (h : FB w0 w b k #[x, y, z] tr c K) :
    w.cell? ⟨k, 0, none⟩ = some x ∧ w.cell? ⟨k, 1, none⟩ = some y ∧ w.cell? ⟨k, 2, none⟩ = some z := Sx.cells3 h.1

theorem Mod.heap3 {w w' : World} {b k : Nat} {x y z : Value} {t : TypeId} (hm : Mod eT b w w') (hk : w.heap[k]? = some (.cells #[x, y, z] t (0, 0))) (ht : t ≠ eT) (hne : k ≠ b) :
    w'.heap[k]? = some (.cells #[x, y, z] t (0, 0)) := hm.heap (safe_of hne hk ht) hk

set_option maxRecDepth 100000 in
set_option maxHeartbeats 2000000 in
theorem frules_any (B b : Nat) (c : Int) (K : Nat) (v : Value) (l : List Rule) (w : World) (h : Flw w b c K) (hB : B ≤ b) (hv : RulesAt B w v l) (hK : K + rulesW l < 8796093022208) :
    Calls Tryd.prog 24 #[.pointer (some ⟨b, 0, none⟩), v] w (FlwPost w b (rulesI c l) (K + rulesW l)) := by
  have hbs : b < w.heap.size := h.lt
  obtain ⟨hn, A, cap, rfl, _, _, hi⟩ := hv
  have HI := Lib.hid hi
  have H := Lib.hid h
  have hK0 : K < 8796093022208 := by omega
  have HK := Lib.hid hK
  clear h hi hK
  go_enter Tryd.func24, Tryd.ntmps24
  go_wp2_with fail
  refine Calls.mono (add_to _ _ _ (manyI l.length 8) _ _ _ H.out hK0 ?_) ?_
  · unfold manyI
    (repeat' split) <;> first | rfl | contradiction | (exfalso; (try simp only [decide_eq_true_eq] at *) <;> omega)
  rintro e w1 ⟨rfl, hc1, hm1⟩
  have HC1 := Lib.hid hc1
  have HM1 := Lib.hid hm1
  clear hc1 hm1
  go_wp2
  go_loopw [5, 13] (fun s k wr => ∃ j : Nat, j ≤ l.length ∧ k = .int .i64 j ∧ Hid (Flw wr b (rulesTo c l j) (K + 1 + rulesWTo l j)) ∧ Hid (Mod eT b w wr)) (fun _ k _ => l.length - (intOf k).toNat)
  case atStart => exact ⟨0, Nat.zero_le _, rfl, HC1.out, HM1.out⟩
  case round =>
    obtain ⟨j, hj, rfl, hC, hM⟩ := hrel
    by_cases hlt : j < l.length
    · obtain ⟨blk, off, cs, rfl, hblk, _, ⟨v1, v2, v3, rfl, h1, h2, h3⟩, hcell⟩ := HI.out j hlt
      have hbel := hM.out.below (Nat.le_of_lt hbs)
      obtain ⟨c0, c1, c2⟩ := at3 fun i u hu => (hbel.cell (p := ⟨blk, off + j * 3 + i, none⟩) (by show blk < b; omega)).trans (hcell i u hu)
      have HS := Lib.hid (rulesTo_succ c l j hlt)
      have hW := rulesWTo_succ l j hlt
      have hW2 := rulesWTo_le l (j + 1)
      have HR := Lib.hid (And.intro h1 (And.intro h2 h3))
      obtain ⟨r, hr⟩ : ∃ r, r = l[j] := ⟨_, rfl⟩
      rw [← hr] at HS HR hW
      clear hr h1 h2 h3 hcell hbel
      have HW : Hid (rulesWTo l (j + 1) = rulesWTo l j + ruleW r ∧ K + 1 + rulesWTo l j + ruleW r < 8796093022208) := ⟨hW, by have := HK.out; omega⟩
      clear hW hW2
      have hkk : K + 1 + rulesWTo l j + (2 + r.verbs.length + r.kinds.length + r.names.length) < 8796093022208 := HW.out.2
      obtain ⟨A1, k1, rfl⟩ : ∃ A k, v1 = .slice A r.verbs.length k := ⟨_, _, HR.out.1.2.choose_spec.choose_spec.1⟩
      obtain ⟨A2, k2, rfl⟩ : ∃ A k, v2 = .slice A r.kinds.length k := ⟨_, _, HR.out.2.1.2.choose_spec.choose_spec.1⟩
      obtain ⟨A3, k3, rfl⟩ : ∃ A k, v3 = .slice A r.names.length k := ⟨_, _, HR.out.2.2.2.choose_spec.choose_spec.1⟩
      have n1 := HR.out.1.1
      have n2 := HR.out.2.1.1
      have n3 := HR.out.2.2.1
      have hbr : b < wr.heap.size := hC.out.lt
      have HNE : Hid (wr.heap.size ≠ b) := by unfold Hid; omega
      have S1 : Hid (∀ w', Mod eT b w w' → b < w'.heap.size → StrsS b w' A1 r.verbs) := fun w' hm hz => strsS_at (HR.out.1.below ((hm.below (Nat.le_of_lt hbs)).mono hB)) hB hz
      have S2 : Hid (∀ w', Mod eT b w w' → b < w'.heap.size → StrsS b w' A2 r.kinds) := fun w' hm hz => strsS_at (HR.out.2.1.below ((hm.below (Nat.le_of_lt hbs)).mono hB)) hB hz
      have S3 : Hid (∀ w', Mod eT b w w' → b < w'.heap.size → StrsS b w' A3 r.names) := fun w' hm hz => strsS_at (HR.out.2.2.below ((hm.below (Nat.le_of_lt hbs)).mono hB)) hB hz
      have B1 : Hid (FB w (wr.alloc (.cells #[.slice A1 r.verbs.length k1, .slice A2 r.kinds.length k2, .slice A3 r.names.length k3] 31)) b wr.heap.size #[.slice A1 r.verbs.length k1, .slice A2 r.kinds.length k2, .slice A3 r.names.length k3] 31 (rulesTo c l j) (K + 1 + rulesWTo l j)) := ⟨heap_new rfl, hC.out.mod_alloc _, hM.out.alloc _, HNE.out, by decide⟩
      go_wp2_with fail
      all_goals
        refine Calls.mono (add_to _ _ _ (ruleBad r) _ _ _ B1.out.2.1 (by omega) ?_) ?_
        · unfold ruleBad; (repeat' split) <;> first | rfl | contradiction | (exfalso; (try simp only [decide_eq_true_eq] at *) <;> omega)
        rintro e w2 ⟨rfl, hc, hm⟩
        have B2 := Lib.hid (B1.out.step hc hm)
        clear hc hm
        obtain ⟨b0, b1, b2⟩ := B2.out.cells3
        go_wp2_with fail
        all_goals try (exfalso; omega)
        all_goals
          refine Calls.mono (add_to _ _ _ (ruleNone r) _ _ _ B2.out.2.1 (by omega) ?_) ?_
          · unfold ruleNone; (repeat' split) <;> first | rfl | contradiction | (exfalso; (try simp only [beq_iff_eq] at *) <;> omega)
          rintro e w3 ⟨rfl, hc, hm⟩
          have B3 := Lib.hid (B2.out.step hc hm)
          clear hc hm
          obtain ⟨b0, b1, b2⟩ := B3.out.cells3
          go_wp2_with fail
          refine Calls.mono (fnames_any _ _ _ _ _ r.verbs true _ B3.out.2.1 (S1.out _ B3.out.2.2.1 B3.out.2.1.lt) (by omega)) ?_
          rintro e w4 ⟨rfl, hc, hm⟩
          have B4 := Lib.hid (B3.out.step hc hm)
          clear hc hm
          obtain ⟨b0, b1, b2⟩ := B4.out.cells3
          go_wp2_with fail
          refine Calls.mono (fnames_any _ _ _ _ _ r.kinds true _ B4.out.2.1 (S2.out _ B4.out.2.2.1 B4.out.2.1.lt) (by omega)) ?_
          rintro e w5 ⟨rfl, hc, hm⟩
          have B5 := Lib.hid (B4.out.step hc hm)
          clear hc hm
          obtain ⟨b0, b1, b2⟩ := B5.out.cells3
          go_wp2_with fail
          refine Calls.mono (fnames_any _ _ _ _ _ r.names false _ B5.out.2.1 (S3.out _ B5.out.2.2.1 B5.out.2.1.lt) (by omega)) ?_
          rintro e w6 ⟨rfl, hc, hm⟩
          have B6 := Lib.hid (B5.out.step hc hm)
          clear hc hm
          go_wp2
          go_roundw
          case rel => exact ⟨j + 1, hlt, by go_num, by unfold Hid; rw [HS.out, HW.out.1]; exact B6.out.2.1.more (by unfold ruleW; omega), B6.out.2.2.1⟩
          case measure => simp [intOf]; omega
    · have HA := Lib.hid (rulesTo_all c l j (by omega))
      obtain rfl : j = l.length := by omega
      have HWA := Lib.hid (rulesWTo_all l)
      go_wp2
      go_end0
      exact ⟨rfl, by rw [← HA.out, ← HWA.out]; exact hC.out.more (by omega), hM.out⟩

set_option maxRecDepth 100000 in
/-- The list of flaws, handed over. -/
theorem first_any (b : Nat) (c : Int) (K : Nat) (v : Value) (w : World) (h : Flw w b c K) (hv : w.cell? ⟨b, 0, none⟩ = some v) (hK : K < 8796093022209) :
    Calls Tryd.prog 25 #[v] w fun e w' => e = .returned (.int .i64 c) ∧ w = w' := by
  obtain ⟨v0, L, h1, h2, h3, h4, h5⟩ := h
  obtain rfl : v0 = v := by
    have := cell_of h1 0
    rw [hv] at this
    simpa using this.symm
  cases L with
  | nil =>
    simp at h3
    subst h3
    obtain ⟨A, cp, rfl⟩ : ∃ A cp, v0 = .slice A 0 cp := by
      rcases h2.2 with ⟨rfl, _⟩ | ⟨g, cap, cur, rfl, _⟩
      · exact ⟨_, _, rfl⟩
      · exact ⟨_, _, rfl⟩
    clear h1 h2 hv h4
    go_enter Tryd.func25, Tryd.ntmps25
    go_wp2
    go_ret
    exact ⟨rfl, rfl⟩
  | cons x l =>
    simp at h3
    subst h3
    obtain ⟨g, cap, rfl⟩ := own_succ h2
    have hc := h2.cellAt 0 (by simp)
    simp at hc
    have hl : l.length + 1 ≤ 8796093022209 := by simp at h5; omega
    have hn : Hid (x :: l = x :: l) := rfl
    clear h1 h2 hv h4 h5
    go_enter Tryd.func25, Tryd.ntmps25
    go_wp2
    go_ret
    exact ⟨rfl, rfl⟩
end Go.Proofs.YtplfimoeggecjaaDoor.Sx
