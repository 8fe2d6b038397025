/-
  The reference's Hex, Unhex.
-/
import Derived.Test.YtplfimoeggecjaaGreatDoorSh7
import Derived.Test.YtplfimoeggecjaaGreatDoorChr
import Derived.Test.YtplfimoeggecjaaGreatDoorSr2
import Derived.Test.YtplfimoeggecjaaGreatDoorShelf
namespace Go.Proofs.YtplfimoeggecjaaGreatDoor.Sx
open Go Go.RowKit

def bs (l : List UInt8) : ByteArray := ⟨l.toArray⟩
theorem bs_size (l : List UInt8) : (bs l).size = l.length := by show l.toArray.size = _; simp
theorem bs_two (l : List UInt8) (x y : UInt8) : bs (l ++ [x, y]) = bs l ++ (sgn x ++ sgn y) := by
  apply ByteArray.ext
  simp [bs, sgn]
theorem digs_cut (n : Nat) (h : n < 16) : ((⟨#[48, 49, 50, 51, 52, 53, 54, 55, 56, 57, 97, 98, 99, 100, 101, 102]⟩ : ByteArray).extract n 16).extract 0 1 = sgn (sign n) ∧ (1 : Int) ≤ (((⟨#[48, 49, 50, 51, 52, 53, 54, 55, 56, 57, 97, 98, 99, 100, 101, 102]⟩ : ByteArray).extract n 16).size : Int) := by
  have : n = 0 ∨ n = 1 ∨ n = 2 ∨ n = 3 ∨ n = 4 ∨ n = 5 ∨ n = 6 ∨ n = 7 ∨ n = 8 ∨ n = 9 ∨ n = 10 ∨ n = 11 ∨ n = 12 ∨ n = 13 ∨ n = 14 ∨ n = 15 := by omega
  rcases this with rfl | rfl | rfl | rfl | rfl | rfl | rfl | rfl | rfl | rfl | rfl | rfl | rfl | rfl | rfl | rfl <;> exact ⟨by decide, by decide⟩
set_option maxRecDepth 100000 in
set_option maxHeartbeats 4000000 in
theorem rhex_any (s : ByteArray) (w : World) (hs : s.size ≤ 1099511627776) :
    Calls Tryz.prog 46 #[.string s] w fun e w' => e = .returned (.string (bs (hex s.data.toList))) ∧ Ext w w' := by
  have HS := Lib.hid hs
  have hs1 : (s.size : Int) ≤ 1099511627776 := by omega
  clear hs
  go_enter Tryz.func46, Tryz.ntmps46
  go_wp2_with fail
  go_loopw [3, 7] (fun x y wr => ∃ i : Nat, i ≤ s.size ∧ x = .string (bs (hex (s.data.toList.take i))) ∧ y = .int .i64 (i : Int) ∧ Hid (Ext w wr)) (fun _ y _ => s.size - (intOf y).toNat)
  case atStart => exact ⟨0, by omega, rfl, rfl, Below.refl _ _⟩
  case round =>
    obtain ⟨i, hi, rfl, rfl, hx⟩ := hrel
    by_cases hlt : i < s.size
    · obtain ⟨o, ho⟩ : ∃ o, o = bs (hex (s.data.toList.take i)) := ⟨_, rfl⟩
      have HO := Lib.hid ho
      have hz : (9223372036854775807 < o.size + 2) = False := by
        rw [ho, bs_size, hex_len]
        have := HS.out
        simp
        omega
      rw [← ho]
      clear ho
      have p0 : (0 : Int) ≤ (i : Int) := by omega
      have p1 : (i : Int) < (s.size : Int) := by omega
      have hb2 := s[i].toNat_lt
      have b0 : (0 : Int) ≤ (s[i].toNat : Int) / 16 := by omega
      have b1 : (s[i].toNat : Int) / 16 ≤ 16 := by omega
      have b2 : (0 : Int) ≤ (s[i].toNat : Int) % 16 := by omega
      have b3 : (s[i].toNat : Int) % 16 ≤ 16 := by omega
      obtain ⟨X1, hX1⟩ : ∃ X1 : ByteArray, X1 = (⟨#[48, 49, 50, 51, 52, 53, 54, 55, 56, 57, 97, 98, 99, 100, 101, 102]⟩ : ByteArray).extract ((s[i].toNat : Int) / 16).toNat 16 := ⟨_, rfl⟩
      obtain ⟨X2, hX2⟩ : ∃ X2 : ByteArray, X2 = (⟨#[48, 49, 50, 51, 52, 53, 54, 55, 56, 57, 97, 98, 99, 100, 101, 102]⟩ : ByteArray).extract ((s[i].toNat : Int) % 16).toNat 16 := ⟨_, rfl⟩
      obtain ⟨x1, hx1⟩ : ∃ x1 : ByteArray, x1 = sgn (sign (s[i].toNat / 16)) := ⟨_, rfl⟩
      obtain ⟨x2, hx2⟩ : ∃ x2 : ByteArray, x2 = sgn (sign (s[i].toNat % 16)) := ⟨_, rfl⟩
      have e1 : (⟨#[48, 49, 50, 51, 52, 53, 54, 55, 56, 57, 97, 98, 99, 100, 101, 102]⟩ : ByteArray).extract ((s[i].toNat : Int) / 16).toNat 16 = X1 := hX1.symm
      have e2 : (⟨#[48, 49, 50, 51, 52, 53, 54, 55, 56, 57, 97, 98, 99, 100, 101, 102]⟩ : ByteArray).extract ((s[i].toNat : Int) % 16).toNat 16 = X2 := hX2.symm
      obtain ⟨e3, e4⟩ : X1.extract 0 1 = x1 ∧ (1 : Int) ≤ (X1.size : Int) := by rw [hX1, hx1]; exact digs_cut (s[i].toNat / 16) (by omega)
      obtain ⟨e5, e6⟩ : X2.extract 0 1 = x2 ∧ (1 : Int) ≤ (X2.size : Int) := by rw [hX2, hx2]; exact digs_cut (s[i].toNat % 16) (by omega)
      have e7 : x1.size = 1 := by rw [hx1]; rfl
      have e8 : x2.size = 1 := by rw [hx2]; rfl
      have HX12 := Lib.hid (And.intro hx1 hx2)
      clear hX1 hX2 hx1 hx2
      have b6 : IntKind.u8.wrap ((s[i].toNat : Int) / 16) = (s[i].toNat : Int) / 16 := by rw [IntKind.wrap_u8]; omega
      have b7 : IntKind.u8.wrap ((s[i].toNat : Int) % 16) = (s[i].toNat : Int) % 16 := by rw [IntKind.wrap_u8]; omega
      clear hb2
      go_wp2_with fail
      go_quiet (fail)
      go_wp2_with fail
      go_roundw
      case rel =>
        refine ⟨i + 1, by omega, ?_, by go_num, Ext.trans hx.out (drewN_ext _ _)⟩
        rw [take_snoc' s i hlt, hex_snoc, bs_two, ← HO.out, HX12.out.1, HX12.out.2]
      case measure => simp [intOf]; omega
    · obtain rfl : i = s.size := by omega
      have e : bs (hex (s.data.toList.take s.size)) = bs (hex s.data.toList) := by rw [List.take_of_length_le (by simp)]
      rw [e]
      go_wp2_with fail
      go_ret
      exact ⟨rfl, hx.out⟩
/-- The place of a sign, or -1. -/
def un (c : UInt8) : Int := match unsign c with
  | some n => (n : Int)
  | none => -1
theorem un_some {c : UInt8} {n : Nat} (h : unsign c = some n) : un c = (n : Int) := by unfold un; rw [h]
theorem un_none {c : UInt8} (h : unsign c = none) : un c = -1 := by unfold un; rw [h]
theorem idx_any (c : UInt8) (w : World) : Calls Tryz.prog 90 #[.string ⟨#[48, 49, 50, 51, 52, 53, 54, 55, 56, 57, 97, 98, 99, 100, 101, 102]⟩, .int .u8 (c.toNat : Int)] w fun e w' => e = .returned (.int .i64 (un c)) ∧ w' = w :=
  (Tryz.strings_IndexByte _ (c.toNat : Int) w).mono fun e w' ⟨he, hw⟩ => ⟨by
    rw [he]
    have h : ∀ n : Fin 256, Lib.indexByte [48, 49, 50, 51, 52, 53, 54, 55, 56, 57, 97, 98, 99, 100, 101, 102] (UInt8.ofNat n.1) = un (UInt8.ofNat n.1) := by decide +kernel
    have h2 := h ⟨c.toNat, c.toNat_lt⟩
    have e1 : UInt8.ofNat c.toNat = c := by simp
    have e2 : ((c.toNat : Int).toNat).toUInt8 = c := by simp
    rw [e1] at h2
    rw [e2]
    rw [← h2], hw⟩
theorem bs_snoc (l : List UInt8) (c : UInt8) : bs (l ++ [c]) = bs l ++ sgn c := by
  apply ByteArray.ext
  simp [bs, sgn]
set_option maxRecDepth 100000 in
set_option maxHeartbeats 4000000 in
theorem runhex_any (s : ByteArray) (w : World) (hs : s.size ≤ 1099511627776) :
    Calls Tryz.prog 54 #[.string s] w fun e w' => e = .returned (unhexV s.data.toList) ∧ Ext w w' := by
  have HS := Lib.hid hs
  have hs1 : (s.size : Int) ≤ 1099511627776 := by omega
  clear hs
  go_enter Tryz.func54, Tryz.ntmps54
  go_wp2_with fail
  go_loopw [4, 5] (fun x y wr => ∃ (i j : Nat) (o : List UInt8), i ≤ s.size ∧ Hid (i = 2 * j ∧ o.length = j) ∧ x = .string (bs o) ∧ y = .int .i64 (i : Int) ∧ Hid (Ext w wr) ∧ Hid (unhex s.data.toList = (unhex (s.data.toList.drop i)).map (o ++ ·))) (fun _ y _ => s.size - (intOf y).toNat)
  case atStart => exact ⟨0, 0, [], by omega, ⟨rfl, rfl⟩, rfl, rfl, Below.refl _ _, by unfold Hid; simp⟩
  case round =>
    obtain ⟨i, j, o, hi, HIJ, rfl, rfl, hx, HU⟩ := hrel
    by_cases hlt : i < s.size
    · by_cases hone : i + 1 = s.size
      · have HN : Hid (unhexV s.data.toList = .tuple #[.string ⟨#[]⟩, .int .i64 16]) := by
          unfold Hid unhexV
          rw [unhex_odd j s.data.toList (by have := HIJ.out.1; simp; omega)]
        have ht : ((i : Int) + 1 == (s.size : Int)) = true := by simp; omega
        clear hone
        go_wp2_with fail
        go_ret2
        exact ⟨ret_val HN.out.symm, hx.out⟩
      · have hlt1 : i + 1 < s.size := by omega
        have ht : ((i : Int) + 1 == (s.size : Int)) = false := by simp; omega
        have p0 : (0 : Int) ≤ (i : Int) := by omega
        have p1 : (i : Int) + 1 < (s.size : Int) := by omega
        have p2 : (i : Int) < (s.size : Int) := by omega
        have p3 : (0 : Int) ≤ (i : Int) + 1 := by omega
        have p4 : IntKind.i64.wrap ((i : Int) + 1) = (i : Int) + 1 := IntWalk.i64_in _ (by omega)
        have p5 : ((i : Int) + 1).toNat = i + 1 := by omega
        have hd := drop_two s i hlt1
        have hcons := unhex_cons s[i] s[i + 1] (s.data.toList.drop (i + 2))
        rw [← hd] at hcons
        have HC := Lib.hid hcons
        clear hone hd hcons
        cases ha : unsign s[i] with
        | none =>
          have hu1 := un_none ha
          have hnone : unhex (s.data.toList.drop i) = none := by rw [HC.out, ha]
          have HN : Hid (unhexV s.data.toList = .tuple #[.string ⟨#[]⟩, .int .i64 16]) := by unfold Hid unhexV; rw [HU.out, hnone]; rfl
          clear hnone ha
          go_wp2_with fail
          go_quiet ((go_at_call 90; exact Calls.quiet_of_same (idx_any _ _)))
          go_wp2_with fail
          go_ret2
          exact ⟨ret_val HN.out.symm, Ext.trans hx.out (drewN_ext _ _)⟩
        | some a =>
          cases hb : unsign s[i + 1] with
          | none =>
            have hu1 := un_some ha
            have hu2 := un_none hb
            have ha0 : decide ((a : Int) < 0) = false := by simp
            have hnone : unhex (s.data.toList.drop i) = none := by rw [HC.out, ha, hb]
            have HN : Hid (unhexV s.data.toList = .tuple #[.string ⟨#[]⟩, .int .i64 16]) := by unfold Hid unhexV; rw [HU.out, hnone]; rfl
            clear hnone ha hb
            go_wp2_with fail
            go_quiet ((go_at_call 90; exact Calls.quiet_of_same (idx_any _ _)))
            go_wp2_with fail
            go_ret2
            exact ⟨ret_val HN.out.symm, Ext.trans hx.out (drewN_ext _ _)⟩
          | some b =>
            have ha1 := unsign_lt ha
            have hb1 := unsign_lt hb
            have hu1 := un_some ha
            have hu2 := un_some hb
            have ha0 : decide ((a : Int) < 0) = false := by simp
            have hb0 : decide ((b : Int) < 0) = false := by simp
            have ha2 : (0 : Int) ≤ (a : Int) := by omega
            have hb2 : (0 : Int) ≤ (b : Int) := by omega
            have ha3 : (a : Int) < 16 := by omega
            have hb3 : (b : Int) < 16 := by omega
            have hnext : unhex (s.data.toList.drop i) = (unhex (s.data.toList.drop (i + 2))).map ([UInt8.ofNat (16 * a + b)] ++ ·) := by
              rw [HC.out, ha, hb]
              cases unhex (s.data.toList.drop (i + 2)) <;> rfl
            have HU2 : Hid (unhex s.data.toList = (unhex (s.data.toList.drop (i + 2))).map (o ++ [UInt8.ofNat (16 * a + b)] ++ ·)) := by
              unfold Hid
              rw [HU.out, hnext, Option.map_map]
              congr 1
              funext x
              simp
            have HB := Lib.hid (bs_snoc o (UInt8.ofNat (16 * a + b)))
            have HCV : Hid ((16 : Int) * (a : Int) + (b : Int) = ((UInt8.ofNat (16 * a + b)).toNat : Int)) := by unfold Hid; simp; omega
            obtain ⟨t, hto⟩ : ∃ t, t = bs o := ⟨_, rfl⟩
            rw [← hto] at HB
            rw [← hto]
            obtain ⟨u, huo⟩ : ∃ u, u = sgn (UInt8.ofNat (16 * a + b)) := ⟨_, rfl⟩
            rw [← huo] at HB
            have HUO := Lib.hid huo
            have hz : (9223372036854775807 < t.size + u.size) = False := by
              rw [hto, huo, bs_size]
              have := HIJ.out
              have e : (sgn (UInt8.ofNat (16 * a + b))).size = 1 := rfl
              rw [e]
              simp
              omega
            clear ha hb hnext hto huo
            go_wp2_with fail
            go_quiet ((go_at_call 90; exact Calls.quiet_of_same (idx_any _ _)))
            go_wp2_with (go_at_call 48; (with_reducible refine (chr_at _ (UInt8.ofNat (16 * a + b)) HCV.out _).mono ?_); rintro e w5 ⟨rfl, hx5⟩; have HX5 := Lib.hid hx5; clear hx5; rw [← HUO.out])
            go_roundw
            case rel => exact ⟨i + 2, j + 1, o ++ [UInt8.ofNat (16 * a + b)], by omega, ⟨by have := HIJ.out.1; omega, by rw [List.length_append, HIJ.out.2]; rfl⟩, by rw [HB.out], by go_num, Ext.trans (Ext.trans hx.out (drewN_ext _ _)) HX5.out, HU2⟩
            case measure => simp [intOf]; omega
    · obtain rfl : i = s.size := by omega
      have HN : Hid (unhexV s.data.toList = .tuple #[.string (bs o), .int .i64 0]) := by
        have h := HU.out
        rw [List.drop_of_length_le (by simp)] at h
        unfold Hid unhexV
        rw [h]
        simp [unhex, bs]
      go_wp2_with fail
      go_ret2
      exact ⟨ret_val HN.out.symm, hx.out⟩
end Go.Proofs.YtplfimoeggecjaaGreatDoor.Sx
