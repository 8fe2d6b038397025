/-
  slices.BinarySearch of names that rise: the name's place.
-/
import Derived.Test.YtahinicpceokcaaGreatDoorJcB
import Derived.Deep.LoopGhost
import Derived.Lib.Strings
namespace Go.Proofs.YtahinicpceokcaaGreatDoor.Jm
open Go Go.RowKit Go.Proofs.YtahinicpceokcaaGreatDoor.Sx Go.Proofs.YtahinicpceokcaaGreatDoor.Js Go.Proofs.YtahinicpceokcaaGreatDoor.Gr

theorem less_lt : ∀ (x y : Tx), Op.bytesLess x y = decide (x < y)
  | [], [] => by simp [Op.bytesLess]
  | _ :: _, [] => by simp [Op.bytesLess]
  | [], _ :: _ => by simp [Op.bytesLess]
  | a :: x, b :: y => by
    rw [Op.bytesLess, less_lt x y]
    simp only [List.cons_lt_cons_iff]
    by_cases h1 : a < b <;> by_cases h2 : a = b <;> by_cases h3 : x < y <;> simp [h1, h2, h3]
theorem bx_less (x y : Tx) : Op.bytesLess (bx x).toList (bx y).toList = decide (x < y) := by rw [bx_list, bx_list, less_lt]
theorem bx_beq (x y : Tx) : ((bx x).toList == (bx y).toList) = decide (x = y) := by
  rw [bx_list, bx_list, Bool.eq_iff_iff, beq_iff_eq, decide_eq_true_eq]
theorem bx_bne (x : ByteArray) : (x.toList != x.toList) = false := by simp

set_option maxHeartbeats 1000000 in
theorem nanS_any (x : ByteArray) (w : World) : Calls Tryz.prog 144 #[.string x] w fun e w' => e = .returned (.bool false) ∧ w = w' := by
  have h := bx_bne x
  go_enter Tryz.func144, Tryz.ntmps144
  go_wp2
  go_ret
  exact ⟨rfl, rfl⟩
set_option maxHeartbeats 1000000 in
theorem nanC_any (x : ByteArray) (w : World) : Calls Tryz.prog 169 #[.string x] w fun e w' => e = .returned (.bool false) ∧ w = w' := by
  have h := bx_bne x
  go_enter Tryz.func169, Tryz.ntmps169
  go_wp2
  go_ret
  exact ⟨rfl, rfl⟩
set_option maxHeartbeats 1000000 in
theorem less_any (x y : Tx) (w : World) : Calls Tryz.prog 143 #[.string (bx x), .string (bx y)] w fun e w' => e = .returned (.bool (decide (x < y))) ∧ w = w' := by
  have h := bx_less x y
  obtain ⟨b, hb⟩ : ∃ b, b = decide (x < y) := ⟨_, rfl⟩
  rw [← hb] at h
  rw [← hb]
  clear hb
  go_enter Tryz.func143, Tryz.ntmps143
  go_wp2_with (go_at_call 169; refine (nanC_any _ _).mono ?_; rintro e w' ⟨rfl, rfl⟩)
  go_ret
  exact ⟨rfl, rfl⟩

set_option maxRecDepth 100000 in
set_option maxHeartbeats 4000000 in
theorem search_any (F : Nat → Prop) (A : Option Addr) (n c : Nat) (ns : List Tx) (t : Tx) (w : World) (hn : ns.length = n) (h : NamesAt F w A ns) (hr : Rise ns) (hsm : n ≤ 1048576) :
    Calls Tryz.prog 119 #[.slice A n c, .string (bx t)] w fun e w' => e = .returned (.tuple #[.int .i64 ((place ns t : Nat) : Int), .bool (decide (t ∈ ns))]) ∧ w = w' := by
  have H := Lib.hid h
  have HN := Lib.hid hn
  have HP := Lib.hid (place_spec hr t)
  have hpl := place_le ns t
  have HM := Lib.hid (place_mem hr t)
  obtain ⟨p, hp⟩ : ∃ p, p = place ns t := ⟨_, rfl⟩
  rw [← hp] at HP hpl HM
  rw [← hp]
  have hpn : p ≤ n := by omega
  clear h hn hp hpl hr
  go_enter Tryz.func119, Tryz.ntmps119
  go_wp2_with fail
  go_loopw [7, 8] (fun a b wr => ∃ lo hi : Nat, a = .int .i64 (lo : Int) ∧ b = .int .i64 (hi : Int) ∧ lo ≤ p ∧ p ≤ hi ∧ hi ≤ n ∧ w = wr) (fun a b _ => (intOf b - intOf a).toNat)
  case atStart => exact ⟨0, n, rfl, rfl, Nat.zero_le _, hpn, Nat.le_refl _, rfl⟩
  case round =>
    obtain ⟨lo, hi, rfl, rfl, hlo, hhi, hin, rfl⟩ := hrel
    by_cases hlt : lo < hi
    · have hm : (lo + hi) / 2 < ns.length := by have := HN.out; omega
      obtain ⟨g, off, hA, _, cm⟩ := H.out ((lo + hi) / 2) hm
      have hsp := HP.out _ hm
      obtain ⟨y, hy⟩ : ∃ y, y = ns[(lo + hi) / 2] := ⟨_, rfl⟩
      rw [← hy] at cm hsp
      subst hA
      clear hm hy
      by_cases hyt : y < t
      · have CL : Hid (Calls Tryz.prog 143 #[.string (bx y), .string (bx t)] w fun e w' => e = .returned (.bool true) ∧ w = w') := by have h := less_any y t w; rw [decide_eq_true hyt] at h; exact h
        have hlp := hsp.2 hyt
        clear hyt hsp
        go_wp2_with (go_at_call 143; refine CL.out.mono ?_; rintro e w' ⟨rfl, rfl⟩)
        go_roundw
        case rel => exact ⟨(lo + hi) / 2 + 1, hi, by rw [show ((lo : Int) + (hi : Int)) / 2 + 1 = (((lo + hi) / 2 + 1 : Nat) : Int) by omega], rfl, by omega, hhi, hin, (by first | rfl | trivial)⟩
        case measure => simp [intOf]; omega
      · have CL : Hid (Calls Tryz.prog 143 #[.string (bx y), .string (bx t)] w fun e w' => e = .returned (.bool false) ∧ w = w') := by have h := less_any y t w; rw [decide_eq_false hyt] at h; exact h
        have hlp : ¬ (lo + hi) / 2 < p := fun h => hyt (hsp.1 h)
        clear hyt hsp
        go_wp2_with (go_at_call 143; refine CL.out.mono ?_; rintro e w' ⟨rfl, rfl⟩)
        go_roundw
        case rel => exact ⟨lo, (lo + hi) / 2, rfl, by rw [show ((lo : Int) + (hi : Int)) / 2 = (((lo + hi) / 2 : Nat) : Int) by omega], hlo, by omega, by omega, (by first | rfl | trivial)⟩
        case measure => simp [intOf]; omega
    · obtain rfl : lo = p := by omega
      obtain rfl : hi = lo := by omega
      by_cases hl : hi < n
      · have hm : hi < ns.length := by have := HN.out; omega
        obtain ⟨g, off, hA, _, cm⟩ := H.out hi hm
        obtain ⟨y, hy⟩ : ∃ y, y = ns[hi] := ⟨_, rfl⟩
        rw [← hy] at cm
        subst hA
        have hb := bx_beq y t
        by_cases hyt : y = t
        · have HE : Hid (decide (t ∈ ns) = true) := decide_eq_true (HM.out.2 ⟨hm, by rw [← hy]; exact hyt⟩)
          rw [decide_eq_true hyt] at hb
          clear hyt hy hm
          go_wp2_with (go_at_call 144; refine (nanS_any _ _).mono ?_; rintro e w' ⟨rfl, rfl⟩)
          go_ret2
          exact ⟨by rw [HE.out]; rfl, rfl⟩
        · have HE : Hid (decide (t ∈ ns) = false) := decide_eq_false (fun h => by obtain ⟨h1, h2⟩ := HM.out.1 h; exact hyt (by rw [hy]; exact h2))
          rw [decide_eq_false hyt] at hb
          clear hyt hy hm
          go_wp2_with (go_at_call 144; refine (nanS_any _ _).mono ?_; rintro e w' ⟨rfl, rfl⟩)
          go_ret2
          exact ⟨by rw [HE.out]; rfl, rfl⟩
      · have HE : Hid (decide (t ∈ ns) = false) := decide_eq_false (fun h => by obtain ⟨h1, h2⟩ := HM.out.1 h; have := HN.out; omega)
        go_wp2_with (go_at_call 144; refine (nanS_any _ _).mono ?_; rintro e w' ⟨rfl, rfl⟩)
        go_ret2
        exact ⟨by rw [HE.out]; rfl, rfl⟩
end Go.Proofs.YtahinicpceokcaaGreatDoor.Jm
