/-
  The reference's fresh text: the closure in Beyond.
-/
import Derived.Test.YtplfimoeggecjaaDoorFrs
import Derived.Deep.RegionHeld3
namespace Go.Proofs.YtplfimoeggecjaaDoor.Sx
open Go Go.RowKit Go.Proofs.YtplfimoeggecjaaDoor.Dc

set_option maxRecDepth 100000 in
set_option maxHeartbeats 2000000 in
theorem rfresh_any (B kw i : Nat) (v : Value) (ws : List ByteArray) (w : World) (hi : i < 3) (hB : B ≤ w.heap.size) (hk : kw < w.heap.size) (hc : w.cell? ⟨kw, i, none⟩ = some v) (h : StrsR B w v ws) (hf : ws.length ≤ 1048576) :
    Calls Tryd.prog 12 #[.int .i64 (i : Int), .pointer (some ⟨kw, 0, none⟩)] w fun e w' => e = .returned (.string (freshS ws)) ∧ Ext w w' := by
  have H := Lib.hid (And.intro h (And.intro hB hc))
  obtain ⟨_, A, c, rfl, -⟩ := h
  have hii : (i : Int) < 3 := by omega
  clear hc hB
  go_enter Tryd.func12, Tryd.ntmps12
  go_wp2_with fail
  go_loopw [4] (fun x wr => ∃ k : Nat, x = .int .i64 (k : Int) ∧ Hid (∀ m, m < k → xN m ∈ ws) ∧ Ext w wr) (fun x _ => ws.length + 1 - (intOf x).toNat)
  case atStart => exact ⟨0, rfl, fun m hm => by omega, Below.refl _ _⟩
  case round =>
    obtain ⟨k, rfl, hkk, hE⟩ := hrel
    have hkl : k ≤ ws.length := there_le hkk.out
    have hki : (k : Int) ≤ 1048576 := by omega
    have HE := Lib.hid hE
    have hcr : wr.cell? ⟨kw, i, none⟩ = some (.slice A ws.length c) := (hE.cell (p := ⟨kw, i, none⟩) hk).trans H.out.2.2
    obtain ⟨t, htt⟩ : ∃ t, t = hasS ws ((⟨#[120]⟩ : ByteArray) ++ decS k) := ⟨_, rfl⟩
    have HT := Lib.hid htt
    have HCR := Lib.hid hcr
    have CI : Hid (∀ wk, Ext wr wk → Calls Tryd.prog 14 #[.int .i64 (k : Int)] wk fun e w' => e = .returned (.string (decS k)) ∧ w'.cell? ⟨kw, i, none⟩ = some (.slice A ws.length c) ∧ Ext wr w') := fun wk hw => (digits_any k wk (by omega)).mono fun e w' ⟨a, b⟩ => ⟨a, ((hw.trans b).cell (p := ⟨kw, i, none⟩) (Nat.lt_of_lt_of_le hk hE.size)).trans HCR.out, hw.trans b⟩
    have CH : Hid (∀ wk, Ext wr wk → Calls Tryd.prog 13 #[.slice A ws.length c, .string ((⟨#[120]⟩ : ByteArray) ++ decS k)] wk fun e w' => e = .returned (.bool t) ∧ w'.cell? ⟨kw, i, none⟩ = some (.slice A ws.length c) ∧ Ext wr w') := fun wk hw => by
      rw [htt]
      refine (rhas_any _ (H.out.1.below ((hE.trans hw).mono H.out.2.1) (Nat.le_refl _))).mono fun e w' ⟨a, b⟩ => ⟨a, ?_, by rw [← b]; exact hw⟩
      rw [← b]
      exact (hw.cell (p := ⟨kw, i, none⟩) (Nat.lt_of_lt_of_le hk hE.size)).trans HCR.out
    have hz : (decS k).size ≤ 1048577 := by have := decS_size k; omega
    have hbig : (9223372036854775807 < 1 + (decS k).size) = False := eq_false (by omega)
    have hxx : Ext wr wr := Below.refl _ _
    clear hE htt
    have CI2 : Hid (∀ wk, Calls Tryd.prog 14 #[.int .i64 (k : Int)] wk fun e w' => e = .returned (.string (decS k)) ∧ Ext wk w') := fun wk => digits_any k wk (by omega)
    go_wp2_with fail
    go_region_held3 (fun w' => w'.cell? ⟨kw, i, none⟩ = some (.slice A ws.length c))
      (first | assumption | go_keep)
      (first
        | (go_at_call 14; refine (CI.out _ (by first | assumption | (apply Below.drew; assumption))).mono ?_; rintro e w2 ⟨rfl, r1, hx2⟩)
        | (go_at_call 13; refine (CH.out _ (by first | assumption | (apply Below.drew; assumption))).mono ?_; rintro e w3 ⟨rfl, r2, hx3⟩))
    have HX3 := Lib.hid hx3
    clear hx2 hx3 r1 r2
    cases t with
    | false =>
      have HF : Hid (freshS ws = (⟨#[120]⟩ : ByteArray) ++ decS k) := by
        unfold Hid freshS
        rw [freshN_eq (k := k) ⟨hkk.out, fun hm => by
          have := HT.out
          rw [xN_cat, (hasS_iff _ _).2 hm] at this
          cases this⟩, xN_cat]
      go_wp2_with (go_at_call 14; (with_reducible refine (CI2.out _).mono ?_); rintro e w4 ⟨rfl, hx4⟩; have HX4 := Lib.hid hx4; clear hx4)
      go_ret
      exact ⟨by rw [HF.out]; rfl, (HE.out.trans HX3.out).trans HX4.out⟩
    | true =>
      go_wp2_with fail
      go_roundw
      case rel => exact ⟨k + 1, by go_num, fun m hm => by
        rcases Nat.lt_or_ge m k with h1 | h1
        · exact hkk.out m h1
        · rw [show m = k by omega, ← xN_cat]; exact (hasS_iff _ _).1 HT.out.symm, HE.out.trans HX3.out⟩
      case measure => simp [intOf]; omega
end Go.Proofs.YtplfimoeggecjaaDoor.Sx
