/-
  The reference's Mac.
-/
import Derived.Test.YtplfimoeggecjaaGreatDoorSr7
namespace Go.Proofs.YtplfimoeggecjaaGreatDoor.Sx
open Go Go.RowKit

theorem xor8r (c : UInt8) : bits BinOp.xor IntKind.i64 (c.toNat : Int) 54 = ((c ^^^ 54).toNat : Int) ∧ bits BinOp.xor IntKind.i64 (c.toNat : Int) 92 = ((c ^^^ 92).toNat : Int) := by
  have h : ∀ n : Fin 256, bits BinOp.xor IntKind.i64 ((n.1 : Nat) : Int) 54 = (((UInt8.ofNat n.1) ^^^ 54).toNat : Int) ∧ bits BinOp.xor IntKind.i64 ((n.1 : Nat) : Int) 92 = (((UInt8.ofNat n.1) ^^^ 92).toNat : Int) := by decide +kernel
  have := h ⟨c.toNat, c.toNat_lt⟩
  simpa using this
theorem map_xor_snoc (x : UInt8) (K : List UInt8) {i : Nat} (h : i < K.length) : bs ((K.take (i + 1)).map (· ^^^ x)) = bs ((K.take i).map (· ^^^ x)) ++ sgn (K[i] ^^^ x) := by
  rw [List.take_succ_eq_append_getElem h, List.map_append]
  exact bs_snoc _ _
set_option maxRecDepth 100000 in
set_option maxHeartbeats 4000000 in
theorem rmac_any (key s : ByteArray) (w : World) (hk : key.size ≤ 1048576) (hs : s.size ≤ 1048576) :
    Calls Tryz.prog 52 #[.string key, .string s] w fun e w' => e = .returned (.string (bs (mac key.data.toList s.data.toList))) ∧ Ext w w' := by
  have hk1 : (key.size : Int) ≤ 1048576 := by omega
  have HS := Lib.hid hs
  have HK := Lib.hid hk
  clear hk hs
  by_cases hlong : 64 < key.size
  all_goals
    have HLONG := Lib.hid hlong
    go_enter Tryz.func52, Tryz.ntmps52
    go_upto_region 3 with (go_at_call 47; (with_reducible refine (rsum_any key _ (by have := HK.out; omega)).mono ?_); rintro e w1 ⟨rfl, hx1⟩)
  · obtain ⟨k1, hk1⟩ : ∃ k1, k1 = shaS key := ⟨_, rfl⟩
    rw [← hk1]
    have hk64 : k1.size ≤ 64 := by rw [hk1, shaS_size]; omega
    have HK_1 : Hid (keyed key.data.toList = k1.data.toList ++ List.replicate (64 - k1.size) 0) := by
      unfold Hid keyed
      rw [if_pos (by have := HLONG.out; simp; omega), hk1]
      rfl
    have HX := Lib.hid hx1
    clear hk1 hx1 HLONG hlong
    obtain ⟨z, hz⟩ : ∃ z, z = 64 - k1.size := ⟨_, rfl⟩
    have hzi : (64 : Int) - (k1.size : Int) = (z : Int) := by omega
    have hz64 : z ≤ 64 := by omega
    obtain ⟨rz, hrz⟩ : ∃ rz, rz = bs (List.replicate z 0) := ⟨_, rfl⟩
    have hrs : rz.size = z := by rw [hrz, bs_size, List.length_replicate]
    have HRZ := Lib.hid hrz
    have HZ := Lib.hid hz
    have hw64 : (k1.size : Int) ≤ 64 := by omega
    clear hz hrz
    go_upto_region 4 with (first
      | (go_at_call 48; (with_reducible refine (chr_at 0 0 rfl _).mono ?_); rintro e w3 ⟨rfl, hx3⟩; have HX3 := Lib.hid hx3; clear hx3)
      | (go_at_call 85; (with_reducible refine (rep_any z _ (by omega)).mono ?_); rintro e w5 ⟨rfl, hx5⟩; rw [← HRZ.out]; have HX5 := Lib.hid hx5; clear hx5))
    obtain ⟨K, hK⟩ : ∃ K, K = keyed key.data.toList := ⟨_, rfl⟩
    have hKt : k1 ++ rz = bs K := by
      rw [hK, HK_1.out, HRZ.out, HZ.out]
      apply ByteArray.ext
      simp [bs]
    have hKl : K.length = 64 := by rw [hK, HK_1.out, List.length_append, List.length_replicate]; have e : k1.data.toList.length = k1.size := by simp
                                   omega
    obtain ⟨t, ht⟩ : ∃ t, t = k1 ++ rz := ⟨_, rfl⟩
    rw [← ht]
    rw [hKt] at ht
    have hts : t.size = 64 := by rw [ht, bs_size, hKl]
    have HKK := Lib.hid hK
    have HKL := Lib.hid hKl
    have HT := Lib.hid ht
    have HX2 : Hid (Ext w w5) := Ext.trans (Ext.trans HX.out HX3.out) HX5.out
    clear hK hKt hKl ht hzi hz64 hrs hw64 hk64 HX HX3 HX5
    have HTS := Lib.hid hts
    clear hts
    go_wp2_with fail
    go_loopw [5, 6, 20] (fun x y z wx => ∃ i : Nat, i ≤ 64 ∧ x = .string (bs ((K.take i).map (· ^^^ 54))) ∧ y = .string (bs ((K.take i).map (· ^^^ 92))) ∧ z = .int .i64 (i : Int) ∧ Hid (Ext w wx)) (fun _ _ z _ => 64 - (intOf z).toNat)
    case atStart => exact ⟨0, by omega, rfl, rfl, rfl, HX2⟩
    case round =>
      obtain ⟨i, hi, rfl, rfl, rfl, hI⟩ := hrel
      obtain ⟨wo, rfl⟩ : ∃ wo : World, wo = wr := ⟨_, rfl⟩
      obtain ⟨kI, hkI⟩ : ∃ kI, kI = bs ((K.take i).map (· ^^^ 54)) := ⟨_, rfl⟩
      obtain ⟨kO, hkO⟩ : ∃ kO, kO = bs ((K.take i).map (· ^^^ 92)) := ⟨_, rfl⟩
      have hsI : kI.size = i := by rw [hkI, bs_size, List.length_map, List.length_take, HKL.out]; omega
      have hsO : kO.size = i := by rw [hkO, bs_size, List.length_map, List.length_take, HKL.out]; omega
      rw [← hkI, ← hkO]
      have HI := Lib.hid hkI
      have HO := Lib.hid hkO
      clear hkI hkO
      by_cases hlt : i < 64
      · have hiK : i < K.length := by rw [HKL.out]; exact hlt
        have hit : i < t.size := by rw [HTS.out]; exact hlt
        have hti : t[i] = K[i] := by have h := HT.out; subst h; rfl
        obtain ⟨c, hc⟩ : ∃ c, c = t[i] := ⟨_, rfl⟩
        have p0 : (0 : Int) ≤ (i : Int) := by omega
        have p1 : (i : Int) < (t.size : Int) := by omega
        have hbt : (t[i].toNat : Int) < 256 := by have := t[i].toNat_lt; omega
        obtain ⟨x1, x2⟩ := xor8r t[i]
        obtain ⟨cI, hcI⟩ : ∃ cI : UInt8, cI = t[i] ^^^ 54 := ⟨_, rfl⟩
        obtain ⟨cO, hcO⟩ : ∃ cO : UInt8, cO = t[i] ^^^ 92 := ⟨_, rfl⟩
        rw [← hcI] at x1
        rw [← hcO] at x2
        obtain ⟨sI, hsgI⟩ : ∃ c, c = sgn cI := ⟨_, rfl⟩
        obtain ⟨sO, hsgO⟩ : ∃ c, c = sgn cO := ⟨_, rfl⟩
        have hz1 : sI.size = 1 := by rw [hsgI]; rfl
        have hz2 : sO.size = 1 := by rw [hsgO]; rfl
        have HSI := Lib.hid hsgI
        have HSO := Lib.hid hsgO
        have HN1 : Hid (bs ((K.take (i + 1)).map (· ^^^ 54)) = kI ++ sI) := by unfold Hid; rw [map_xor_snoc 54 K hiK, ← HI.out, HSI.out, hcI, hti]
        have HN2 : Hid (bs ((K.take (i + 1)).map (· ^^^ 92)) = kO ++ sO) := by unfold Hid; rw [map_xor_snoc 92 K hiK, ← HO.out, HSO.out, hcO, hti]
        clear hti hc hcI hcO hsgI hsgO hiK
        go_wp2_with (first
          | (go_at_call 48; (with_reducible refine (chr_one cI _).mono ?_); rintro e w6 ⟨rfl, hx6⟩; rw [← HSI.out]; have HX6 := Lib.hid hx6; clear hx6)
          | (go_at_call 48; (with_reducible refine (chr_one cO _).mono ?_); rintro e w7 ⟨rfl, hx7⟩; rw [← HSO.out]; have HX7 := Lib.hid hx7; clear hx7))
        go_roundw
        case rel => exact ⟨i + 1, by omega, by rw [HN1.out], by rw [HN2.out], by go_num, Ext.trans (Ext.trans hI.out HX6.out) HX7.out⟩
        case measure => simp [intOf]; omega
      · obtain rfl : i = 64 := by omega
        have HT64 : Hid (K.take 64 = K) := by unfold Hid; rw [List.take_of_length_le (by rw [HKL.out]; exact Nat.le_refl _)]
        obtain ⟨r1, hr1⟩ : ∃ r1, r1 = shaS (kI ++ s) := ⟨_, rfl⟩
        have HR1 := Lib.hid hr1
        have hrs1 : r1.size = 32 := by rw [hr1]; rfl
        have hs1 : s.size ≤ 1048576 := HS.out
        have HFIN : Hid (bs (mac key.data.toList s.data.toList) = shaS (kO ++ r1)) := by
          unfold Hid
          rw [HR1.out, HI.out, HO.out, HT64.out, HKK.out]
          unfold mac shaS bs
          simp
        clear hr1
        go_wp2_with (first
          | (go_at_call 47; (with_reducible refine (rsum_any (kI ++ s) _ (by rw [ByteArray.size_append]; omega)).mono ?_); rintro e w8 ⟨rfl, hx8⟩; rw [← HR1.out]; have HX8 := Lib.hid hx8; clear hx8)
          | (go_at_call 47; (with_reducible refine (rsum_any (kO ++ r1) _ (by rw [ByteArray.size_append]; omega)).mono ?_); rintro e w9 ⟨rfl, hx9⟩; have HX9 := Lib.hid hx9; clear hx9))
        go_ret
        refine ⟨?_, Ext.trans (Ext.trans hI.out HX8.out) HX9.out⟩
        rw [HFIN.out]
        rfl
  · have hk64 : key.size ≤ 64 := by omega
    have HK_1 : Hid (keyed key.data.toList = key.data.toList ++ List.replicate (64 - key.size) 0) := by
      unfold Hid keyed
      rw [if_neg (by have := HLONG.out; simp; omega)]
      have e : key.data.toList.length = key.size := by simp
      show key.data.toList ++ List.replicate (64 - key.data.toList.length) 0 = _
      rw [e]
    have HX : Hid (Ext w w) := Below.refl _ _
    clear hlong HLONG
    obtain ⟨z, hz⟩ : ∃ z, z = 64 - key.size := ⟨_, rfl⟩
    have hzi : (64 : Int) - (key.size : Int) = (z : Int) := by omega
    have hz64 : z ≤ 64 := by omega
    obtain ⟨rz, hrz⟩ : ∃ rz, rz = bs (List.replicate z 0) := ⟨_, rfl⟩
    have hrs : rz.size = z := by rw [hrz, bs_size, List.length_replicate]
    have HRZ := Lib.hid hrz
    have HZ := Lib.hid hz
    have hw64 : (key.size : Int) ≤ 64 := by omega
    clear hz hrz
    go_upto_region 4 with (first
      | (go_at_call 48; (with_reducible refine (chr_at 0 0 rfl _).mono ?_); rintro e w3 ⟨rfl, hx3⟩; have HX3 := Lib.hid hx3; clear hx3)
      | (go_at_call 85; (with_reducible refine (rep_any z _ (by omega)).mono ?_); rintro e w5 ⟨rfl, hx5⟩; rw [← HRZ.out]; have HX5 := Lib.hid hx5; clear hx5))
    obtain ⟨K, hK⟩ : ∃ K, K = keyed key.data.toList := ⟨_, rfl⟩
    have hKt : key ++ rz = bs K := by
      rw [hK, HK_1.out, HRZ.out, HZ.out]
      apply ByteArray.ext
      simp [bs]
    have hKl : K.length = 64 := by rw [hK, HK_1.out, List.length_append, List.length_replicate]; have e : key.data.toList.length = key.size := by simp
                                   omega
    obtain ⟨t, ht⟩ : ∃ t, t = key ++ rz := ⟨_, rfl⟩
    rw [← ht]
    rw [hKt] at ht
    have hts : t.size = 64 := by rw [ht, bs_size, hKl]
    have HKK := Lib.hid hK
    have HKL := Lib.hid hKl
    have HT := Lib.hid ht
    have HX2 : Hid (Ext w w5) := Ext.trans (Ext.trans HX.out HX3.out) HX5.out
    clear hK hKt hKl ht hzi hz64 hrs hw64 hk64 HX HX3 HX5
    have HTS := Lib.hid hts
    clear hts
    go_wp2_with fail
    go_loopw [5, 6, 20] (fun x y z wx => ∃ i : Nat, i ≤ 64 ∧ x = .string (bs ((K.take i).map (· ^^^ 54))) ∧ y = .string (bs ((K.take i).map (· ^^^ 92))) ∧ z = .int .i64 (i : Int) ∧ Hid (Ext w wx)) (fun _ _ z _ => 64 - (intOf z).toNat)
    case atStart => exact ⟨0, by omega, rfl, rfl, rfl, HX2⟩
    case round =>
      obtain ⟨i, hi, rfl, rfl, rfl, hI⟩ := hrel
      obtain ⟨wo, rfl⟩ : ∃ wo : World, wo = wr := ⟨_, rfl⟩
      obtain ⟨kI, hkI⟩ : ∃ kI, kI = bs ((K.take i).map (· ^^^ 54)) := ⟨_, rfl⟩
      obtain ⟨kO, hkO⟩ : ∃ kO, kO = bs ((K.take i).map (· ^^^ 92)) := ⟨_, rfl⟩
      have hsI : kI.size = i := by rw [hkI, bs_size, List.length_map, List.length_take, HKL.out]; omega
      have hsO : kO.size = i := by rw [hkO, bs_size, List.length_map, List.length_take, HKL.out]; omega
      rw [← hkI, ← hkO]
      have HI := Lib.hid hkI
      have HO := Lib.hid hkO
      clear hkI hkO
      by_cases hlt : i < 64
      · have hiK : i < K.length := by rw [HKL.out]; exact hlt
        have hit : i < t.size := by rw [HTS.out]; exact hlt
        have hti : t[i] = K[i] := by have h := HT.out; subst h; rfl
        obtain ⟨c, hc⟩ : ∃ c, c = t[i] := ⟨_, rfl⟩
        have p0 : (0 : Int) ≤ (i : Int) := by omega
        have p1 : (i : Int) < (t.size : Int) := by omega
        have hbt : (t[i].toNat : Int) < 256 := by have := t[i].toNat_lt; omega
        obtain ⟨x1, x2⟩ := xor8r t[i]
        obtain ⟨cI, hcI⟩ : ∃ cI : UInt8, cI = t[i] ^^^ 54 := ⟨_, rfl⟩
        obtain ⟨cO, hcO⟩ : ∃ cO : UInt8, cO = t[i] ^^^ 92 := ⟨_, rfl⟩
        rw [← hcI] at x1
        rw [← hcO] at x2
        obtain ⟨sI, hsgI⟩ : ∃ c, c = sgn cI := ⟨_, rfl⟩
        obtain ⟨sO, hsgO⟩ : ∃ c, c = sgn cO := ⟨_, rfl⟩
        have hz1 : sI.size = 1 := by rw [hsgI]; rfl
        have hz2 : sO.size = 1 := by rw [hsgO]; rfl
        have HSI := Lib.hid hsgI
        have HSO := Lib.hid hsgO
        have HN1 : Hid (bs ((K.take (i + 1)).map (· ^^^ 54)) = kI ++ sI) := by unfold Hid; rw [map_xor_snoc 54 K hiK, ← HI.out, HSI.out, hcI, hti]
        have HN2 : Hid (bs ((K.take (i + 1)).map (· ^^^ 92)) = kO ++ sO) := by unfold Hid; rw [map_xor_snoc 92 K hiK, ← HO.out, HSO.out, hcO, hti]
        clear hti hc hcI hcO hsgI hsgO hiK
        go_wp2_with (first
          | (go_at_call 48; (with_reducible refine (chr_one cI _).mono ?_); rintro e w6 ⟨rfl, hx6⟩; rw [← HSI.out]; have HX6 := Lib.hid hx6; clear hx6)
          | (go_at_call 48; (with_reducible refine (chr_one cO _).mono ?_); rintro e w7 ⟨rfl, hx7⟩; rw [← HSO.out]; have HX7 := Lib.hid hx7; clear hx7))
        go_roundw
        case rel => exact ⟨i + 1, by omega, by rw [HN1.out], by rw [HN2.out], by go_num, Ext.trans (Ext.trans hI.out HX6.out) HX7.out⟩
        case measure => simp [intOf]; omega
      · obtain rfl : i = 64 := by omega
        have HT64 : Hid (K.take 64 = K) := by unfold Hid; rw [List.take_of_length_le (by rw [HKL.out]; exact Nat.le_refl _)]
        obtain ⟨r1, hr1⟩ : ∃ r1, r1 = shaS (kI ++ s) := ⟨_, rfl⟩
        have HR1 := Lib.hid hr1
        have hrs1 : r1.size = 32 := by rw [hr1]; rfl
        have hs1 : s.size ≤ 1048576 := HS.out
        have HFIN : Hid (bs (mac key.data.toList s.data.toList) = shaS (kO ++ r1)) := by
          unfold Hid
          rw [HR1.out, HI.out, HO.out, HT64.out, HKK.out]
          unfold mac shaS bs
          simp
        clear hr1
        go_wp2_with (first
          | (go_at_call 47; (with_reducible refine (rsum_any (kI ++ s) _ (by rw [ByteArray.size_append]; omega)).mono ?_); rintro e w8 ⟨rfl, hx8⟩; rw [← HR1.out]; have HX8 := Lib.hid hx8; clear hx8)
          | (go_at_call 47; (with_reducible refine (rsum_any (kO ++ r1) _ (by rw [ByteArray.size_append]; omega)).mono ?_); rintro e w9 ⟨rfl, hx9⟩; have HX9 := Lib.hid hx9; clear hx9))
        go_ret
        refine ⟨?_, Ext.trans (Ext.trans hI.out HX8.out) HX9.out⟩
        rw [HFIN.out]
        rfl
end Go.Proofs.YtplfimoeggecjaaGreatDoor.Sx
