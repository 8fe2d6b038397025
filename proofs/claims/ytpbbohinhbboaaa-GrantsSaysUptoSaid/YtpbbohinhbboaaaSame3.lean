/-
  The reference's SameAll of rules, where both lists read the same: it returns true.
-/
import Derived.Test.YtpbbohinhbboaaaSame2
import Derived.Test.YtpbbohinhbboaaaAlw2
import Derived.Deep.RegionHeld3
namespace Go.Proofs.Ytpbbohinhbboaaa.Sx
open Go Go.RowKit

set_option maxRecDepth 100000 in
set_option maxHeartbeats 2000000 in
theorem sameRules_any (B : Nat) (v u : Value) (l : List Rule) (w : World) (hB : B ≤ w.heap.size) (h1 : RulesR B w v l) (h2 : RulesR B w u l) :
    Calls Try.prog 45 #[v, u, .func (.func 46) #[] #[]] w fun e w' => e = .returned (.bool true) ∧ Ext w w' := by
  have H := Lib.hid (And.intro h1 h2)
  have hn := h1.1
  obtain ⟨_, A, c, rfl, _⟩ := h1
  obtain ⟨_, A', c', rfl, _⟩ := h2
  go_enter Try.func45, Try.ntmps45
  go_wp2
  go_loopw [7, 15] (fun _ k wr => ∃ j : Nat, j ≤ l.length ∧ k = .int .i64 j ∧ Hid (Ext w wr)) (fun _ k _ => l.length - (intOf k).toNat)
  case atStart => exact ⟨0, Nat.zero_le _, rfl, Below.refl _ _⟩
  case round =>
    obtain ⟨j, hj, rfl, hX⟩ := hrel
    by_cases hlt : j < l.length
    · have hbl := hX.out.mono hB
      obtain ⟨b, off, A1, c1, A2, c2, A3, c3, rfl, hbB, x0, x1, x2, t1, t2, t3⟩ := RulesR.at_ (H.out.1.below hbl (Nat.le_refl _)) hlt
      obtain ⟨b', off', D1, d1, D2, d2, D3, d3, rfl, hbB', y0, y1, y2, u1, u2, u3⟩ := RulesR.at_ (H.out.2.below hbl (Nat.le_refl _)) hlt
      obtain ⟨r, hr⟩ : ∃ r, r = l[j] := ⟨_, rfl⟩
      rw [← hr] at x0 x1 x2 t1 t2 t3 y0 y1 y2 u1 u2 u3
      have hbz : B ≤ wr.heap.size := Nat.le_trans hB hX.out.size
      have CS : Hid (∀ wk, Ext wr wk → Calls Try.prog 46 #[.agg #[.slice A1 r.verbs.length c1, .slice A2 r.kinds.length c2, .slice A3 r.names.length c3], .agg #[.slice D1 r.verbs.length d1, .slice D2 r.kinds.length d2, .slice D3 r.names.length d3]] wk fun e w' => e = .returned (.bool true) ∧ Ext w w' ∧
          w'.cell? ⟨b, off + j * 3, none⟩ = some (.slice A1 r.verbs.length c1) ∧ w'.cell? ⟨b, off + j * 3 + 1, none⟩ = some (.slice A2 r.kinds.length c2) ∧ w'.cell? ⟨b, off + j * 3 + 2, none⟩ = some (.slice A3 r.names.length c3) ∧
          w'.cell? ⟨b', off' + j * 3, none⟩ = some (.slice D1 r.verbs.length d1) ∧ w'.cell? ⟨b', off' + j * 3 + 1, none⟩ = some (.slice D2 r.kinds.length d2) ∧ w'.cell? ⟨b', off' + j * 3 + 2, none⟩ = some (.slice D3 r.names.length d3)) := fun wk hk => by
        have hb2 := hk.mono hbz
        refine (sameRule_any B _ _ _ _ _ _ r wk (Nat.le_trans hbz hk.size) (t1.below hb2 (Nat.le_refl _)) (t2.below hb2 (Nat.le_refl _)) (t3.below hb2 (Nat.le_refl _)) (u1.below hb2 (Nat.le_refl _)) (u2.below hb2 (Nat.le_refl _)) (u3.below hb2 (Nat.le_refl _))).mono fun e w' ⟨he, hx⟩ => ?_
        have hx' := (hk.trans hx).mono hbz
        exact ⟨he, hX.out.trans (hk.trans hx), (hx'.cell (p := ⟨b, _, none⟩) hbB).trans x0, (hx'.cell (p := ⟨b, _, none⟩) hbB).trans x1, (hx'.cell (p := ⟨b, _, none⟩) hbB).trans x2, (hx'.cell (p := ⟨b', _, none⟩) hbB').trans y0, (hx'.cell (p := ⟨b', _, none⟩) hbB').trans y1, (hx'.cell (p := ⟨b', _, none⟩) hbB').trans y2⟩
      have hxx : Ext wr wr := Below.refl _ _
      have hl1 : (0 : Int) ≤ (j : Int) := by omega
      have hl2 : (j : Int) < (l.length : Int) := by omega
      clear t1 t2 t3 u1 u2 u3 hbz hbl hr
      go_wp2
      go_region_held3 (fun w' => w'.cell? ⟨b, off + j * 3, none⟩ = some (.slice A1 r.verbs.length c1) ∧ w'.cell? ⟨b, off + j * 3 + 1, none⟩ = some (.slice A2 r.kinds.length c2) ∧ w'.cell? ⟨b, off + j * 3 + 2, none⟩ = some (.slice A3 r.names.length c3) ∧
          w'.cell? ⟨b', off' + j * 3, none⟩ = some (.slice D1 r.verbs.length d1) ∧ w'.cell? ⟨b', off' + j * 3 + 1, none⟩ = some (.slice D2 r.kinds.length d2) ∧ w'.cell? ⟨b', off' + j * 3 + 2, none⟩ = some (.slice D3 r.names.length d3))
        (first | (refine ⟨by assumption, by assumption, by assumption, by assumption, by assumption, by assumption⟩) | go_keep)
        (first
          | (go_at_call 46; refine (CS.out _ (by first | assumption | (apply Below.drew; assumption))).mono ?_; rintro e w' ⟨rfl, r0, r1, r2, r3, r4, r5, r6⟩))
      have HX9 := Lib.hid r0
      clear r0 x0 x1 x2 y0 y1 y2
      go_wp2
      go_roundw
      case rel => exact ⟨j + 1, hlt, by go_num, HX9⟩
      case measure => simp [intOf]; omega
    · go_wp2
      go_ret
      exact ⟨rfl, hX.out⟩
end Go.Proofs.Ytpbbohinhbboaaa.Sx
