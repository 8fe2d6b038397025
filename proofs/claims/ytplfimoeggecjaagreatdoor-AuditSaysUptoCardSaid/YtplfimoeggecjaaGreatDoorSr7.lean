/-
  The reference's Sum.
-/
import Derived.Test.YtplfimoeggecjaaGreatDoorSr6
import Derived.Test.YtplfimoeggecjaaGreatDoorRst
import Derived.Deep.DeepCutAuto
import Derived.Deep.CutBlock
import Derived.Laws.Strings2
import Derived.Deep.RegionHeld3
namespace Go.Proofs.YtplfimoeggecjaaGreatDoor.Sx
open Go Go.RowKit

def lenS : Value → Nat
  | .string b => b.size
  | _ => 0
set_option maxRecDepth 100000 in
set_option maxHeartbeats 8000000 in
theorem rsum_any (s : ByteArray) (w : World) (hs : s.size ≤ 1073741824) :
    Calls Tryz.prog 47 #[.string s] w fun e w' => e = .returned (.string (shaS s)) ∧ Ext w w' := by
  have HS := Lib.hid hs
  have hs1 : (s.size : Int) ≤ 1073741824 := by omega
  clear hs
  go_enter Tryz.func47, Tryz.ntmps47
  go_wp2_with (go_at_call 83; (with_reducible refine (primes_any _).mono ?_); rintro e w1 ⟨Ap, cp, rfl, hp⟩; have HP := Lib.hid hp; clear hp)
  go_loopw [3, 4, 28] (fun x y z wr => ∃ (i n : Nat) (Ah Ak : Option Addr) (ch ck : Nat), i ≤ 64 ∧ z = .int .i64 (i : Int) ∧ x = .slice Ah n ch ∧ y = .slice Ak i ck ∧ Hid (n = (hls.take i).length) ∧ Hid (Tab w wr (.slice Ah n ch) (.slice Ak i ck) (hls.take i) (kls.take i) (.slice Ap 64 cp))) (fun _ _ z _ => 64 - (intOf z).toNat)
  case atStart => exact ⟨0, 0, none, none, 0, 0, by omega, rfl, rfl, rfl, rfl, Tab.start HP.out⟩
  case round =>
    obtain ⟨i, n, Ah, Ak, ch, ck, hi, rfl, rfl, rfl, hn, hT⟩ := hrel
    by_cases hlt : i < 64
    · as_aux_lemma =>
      have hil : i < P64.length := by rw [P64_len]; exact hlt
      obtain ⟨ad, had, hat⟩ : ∃ ad, Ap = some ad ∧ ∀ j u, (qbvals P64)[j]? = some u → wr.cell? (ad.add j) = some u := by
        rcases hT.out.p.src with ⟨c', hv, h0⟩ | ⟨ad, c', hv, hc⟩
        · rw [h0] at hil; simp at hil
        · injection hv with e1 _ _
          exact ⟨ad, e1, hc⟩
      subst had
      obtain ⟨q, hq⟩ : ∃ q, q = P64[i] := ⟨_, rfl⟩
      have hcell : wr.cell? (ad.add i) = some (.int .u64 (q : Int)) := hat i _ (by simp [qbvals, qbval, hil, hq])
      have HQ311 : Hid (q ≤ 311) := by unfold Hid; rw [hq]; exact P64_mem (List.getElem_mem hil)
      have HKS : Hid (kls.take (i + 1) = kls.take i ++ [rtw 3 q]) := by unfold Hid; rw [hq]; exact kls_snoc hil
      have HKL : Hid ((kls.take i).length = i) := by unfold Hid; rw [List.length_take, kls_len]; omega
      by_cases h8 : i < 8
      · have HHS : Hid (hls.take (i + 1) = hls.take i ++ [rtw 2 q]) := by unfold Hid; rw [hq]; exact hls_snoc h8 hil
        have hn8 : n ≤ 8 := by rw [hn.out, List.length_take, hls_len]; omega
        clear hat hq
        go_wp2_with (first
          | (go_at_call 84; (with_reducible refine (root_2 q _ HQ311.out).mono ?_); rintro e w4 ⟨rfl, hx4⟩; have HT4 := Lib.hid ((hT.out.ext hx4).ext (new_ext _ (.cells #[.int .u32 ((rtw 2 q).toNat : Int)] wu8T (0, 0)))); clear hx4)
          | (go_at_call 84; (with_reducible refine (root_3 q _ HQ311.out).mono ?_); rintro e w6 ⟨rfl, hx6⟩; have HT6 := Lib.hid ((HT5.out.ext hx6).ext (new_ext _ (.cells #[.int .u32 ((rtw 3 q).toNat : Int)] wu8T (0, 0)))); clear hx6)
          | (at_builtin; refine wappend_bytes rfl _ _ (by rfl) w.heap.size n 1 _ _ _ (hls.take i) [rtw 2 q] (by rfl) (by rfl) HT4.out.h (wSrcB.of_one (heap_new rfl)) hn.out.symm rfl (by omega) HT4.out.x.size ?_; intro A5 c5 w5 h1 h2 h3; have HT5 := Lib.hid (HT4.out.stepH h1 h2 h3); clear h1 h2 h3)
          | (at_builtin; refine wappend_bytes rfl _ _ (by rfl) w.heap.size i 1 _ _ _ (kls.take i) [rtw 3 q] (by rfl) (by rfl) HT6.out.k (wSrcB.of_one (heap_new rfl)) HKL.out rfl (by omega) HT6.out.x.size ?_; intro A7 c7 w7 h1 h2 h3; have HT7 := Lib.hid (HT6.out.stepK h1 h2 h3); clear h1 h2 h3))
        go_roundw
        case rel => exact ⟨i + 1, n + 1, A5, A7, c5, c7, by omega, by go_num, rfl, rfl, by unfold Hid; rw [HHS.out, List.length_append, ← hn.out]; rfl, by rw [HHS.out, HKS.out]; exact HT7⟩
        case measure => simp [intOf]; omega
      · have HHS : Hid (hls.take (i + 1) = hls.take i) := by
          unfold Hid
          rw [List.take_of_length_le (by rw [hls_len]; omega), List.take_of_length_le (by rw [hls_len]; omega)]
        have ht8 : decide ((i : Int) < 8) = false := by simp; omega
        clear hat hq
        have HT4 := Lib.hid hT.out
        go_wp2_with (first
          | (go_at_call 84; (with_reducible refine (root_3 q _ HQ311.out).mono ?_); rintro e w6 ⟨rfl, hx6⟩; have HT6 := Lib.hid ((HT4.out.ext hx6).ext (new_ext _ (.cells #[.int .u32 ((rtw 3 q).toNat : Int)] wu8T (0, 0)))); clear hx6)
          | (at_builtin; refine wappend_bytes rfl _ _ (by rfl) w.heap.size i 1 _ _ _ (kls.take i) [rtw 3 q] (by rfl) (by rfl) HT6.out.k (wSrcB.of_one (heap_new rfl)) HKL.out rfl (by omega) HT6.out.x.size ?_; intro A7 c7 w7 h1 h2 h3; have HT7 := Lib.hid (HT6.out.stepK h1 h2 h3); clear h1 h2 h3))
        go_roundw
        case rel => exact ⟨i + 1, n, Ah, A7, ch, c7, by omega, by go_num, rfl, rfl, by unfold Hid; rw [HHS.out]; exact hn.out, by rw [HHS.out, HKS.out]; exact HT7⟩
        case measure => simp [intOf]; omega
    · obtain rfl : i = 64 := by omega
      have HH : Hid (hls.take 64 = h0.list) := by unfold Hid; rw [List.take_of_length_le (by rw [hls_len]; omega)]; exact hls_eq
      have HKK : Hid (kls.take 64 = kls) := by unfold Hid; rw [List.take_of_length_le (by rw [kls_len]; omega)]
      have hn8 : n = 8 := by rw [hn.out, HH.out]; rfl
      subst hn8
      obtain ⟨gh, gk, rh, rk, rfl, rfl, hR⟩ := Tabs.of_tab (by have h := hT.out; rw [HH.out, HKK.out] at h; exact h) (by decide)
      have HR := Lib.hid hR
      clear hT hR hn HH HKK hi hlt
      obtain ⟨z, hz⟩ : ∃ z, z = (119 - s.size % 64) % 64 := ⟨_, rfl⟩
      have hz63 : z ≤ 63 := by omega
      have HZ := Lib.hid hz
      have HZ63 := Lib.hid hz63
      obtain ⟨rz, hrz⟩ : ∃ rz, rz = bs (List.replicate z 0) := ⟨_, rfl⟩
      have hrs : rz.size = z := by rw [hrz, bs_size, List.length_replicate]
      have HRZ := Lib.hid hrz
      have hs128 : (sgn 128).size = 1 := rfl
      obtain ⟨c128, hc128⟩ : ∃ c, c = sgn 128 := ⟨_, rfl⟩
      have HC128 := Lib.hid hc128
      rw [← hc128] at hs128
      clear hz hrz hc128
      go_wp2_with (first
        | (go_at_call 48; (with_reducible refine (chr_at 128 128 rfl _).mono ?_); rintro e w2 ⟨rfl, hx2⟩; rw [← HC128.out]; have HX2 := Lib.hid hx2; clear hx2)
        | (go_at_call 48; (with_reducible refine (chr_at 0 0 rfl _).mono ?_); rintro e w3 ⟨rfl, hx3⟩; have HX3 := Lib.hid hx3; clear hx3)
        | (go_at_call 86; (with_reducible refine (rest_any s.size _ (by have := HS.out; omega)).mono ?_); rintro e w4 ⟨rfl, rfl⟩; rw [← HZ.out])
        | (go_at_call 85; (with_reducible refine (rep_any z _ (by omega)).mono ?_); rintro e w5 ⟨rfl, hx5⟩; rw [← HRZ.out]; have HX5 := Lib.hid hx5; clear hx5))
      obtain ⟨t0, ht0⟩ : ∃ t0, t0 = s ++ (c128 ++ rz) := ⟨_, rfl⟩
      rw [← ht0]
      have HT0 : Hid (t0 = bs (s.data.toList ++ 128 :: List.replicate z 0)) := by
        unfold Hid
        rw [ht0, HC128.out, HRZ.out]
        apply ByteArray.ext
        simp [bs, sgn]
      have HR5 : Hid (Tabs w gh gk rh rk h0.list w5) := ((HR.out.ext HX2.out).ext HX3.out).ext HX5.out
      have HSZ : Hid (t0.size ≤ s.size + 64) := by unfold Hid; rw [HT0.out, bs_size]; simp; omega
      clear ht0 hs128 hrs hz63 HX2 HX3 HX5
      go_loopw [0, 61] (fun x y wr => ∃ i : Nat, i ≤ 8 ∧ y = .int .i64 (i : Int) ∧ x = .string (bs (s.data.toList ++ 128 :: List.replicate z 0 ++ (be64 (8 * s.size)).take i)) ∧ Hid (Tabs w gh gk rh rk h0.list wr)) (fun _ y _ => 8 - (intOf y).toNat)
      case atStart => exact ⟨0, by omega, rfl, by rw [HT0.out, List.take_zero, List.append_nil], HR5⟩
      case round =>
        obtain ⟨i, hi, rfl, rfl, hR⟩ := hrel
        by_cases h8 : i < 8
        · as_aux_lemma =>
          obtain ⟨t, ht⟩ : ∃ t, t = bs (s.data.toList ++ 128 :: List.replicate z 0 ++ (be64 (8 * s.size)).take i) := ⟨_, rfl⟩
          rw [← ht]
          have hsz : t.size ≤ 1073741824 + 80 := by
            rw [ht, bs_size, List.length_append, List.length_append, List.length_cons, List.length_replicate, List.length_take]
            have h1 := HS.out
            have h2 := HZ63.out
            have h3 : s.data.toList.length = s.size := by simp
            have h4 : (be64 (8 * s.size)).length = 8 := rfl
            omega
          have hi8 : i = 0 ∨ i = 1 ∨ i = 2 ∨ i = 3 ∨ i = 4 ∨ i = 5 ∨ i = 6 ∨ i = 7 := by omega
          have HTT := Lib.hid ht
          clear ht hi h8
          rcases hi8 with rfl | rfl | rfl | rfl | rfl | rfl | rfl | rfl
          · obtain ⟨u, hu⟩ : ∃ u, u = sgn (UInt8.ofNat (8 * s.size / 72057594037927936)) := ⟨_, rfl⟩
            have hus : u.size = 1 := by rw [hu]; rfl
            have HU := Lib.hid hu
            clear hu
            go_wp2_with (go_at_call 48; (with_reducible refine (chr_at _ (UInt8.ofNat (8 * s.size / 72057594037927936)) (be_ref s.size 72057594037927936 72057594037927936 rfl (by have := HS.out; omega)) _).mono ?_); rintro e w2 ⟨rfl, hx2⟩; rw [← HU.out]; have HX2 := Lib.hid hx2; clear hx2)
            go_roundw
            case rel => exact ⟨1, by omega, rfl, by rw [HTT.out, HU.out]; exact congrArg Value.string (bs_snoc' _ _ _), hR.out.ext HX2.out⟩
            case measure => simp [intOf]
          · obtain ⟨u, hu⟩ : ∃ u, u = sgn (UInt8.ofNat (8 * s.size / 281474976710656)) := ⟨_, rfl⟩
            have hus : u.size = 1 := by rw [hu]; rfl
            have HU := Lib.hid hu
            clear hu
            go_wp2_with (go_at_call 48; (with_reducible refine (chr_at _ (UInt8.ofNat (8 * s.size / 281474976710656)) (be_ref s.size 281474976710656 281474976710656 rfl (by have := HS.out; omega)) _).mono ?_); rintro e w2 ⟨rfl, hx2⟩; rw [← HU.out]; have HX2 := Lib.hid hx2; clear hx2)
            go_roundw
            case rel => exact ⟨2, by omega, rfl, by rw [HTT.out, HU.out]; exact congrArg Value.string (bs_snoc' _ _ _), hR.out.ext HX2.out⟩
            case measure => simp [intOf]
          · obtain ⟨u, hu⟩ : ∃ u, u = sgn (UInt8.ofNat (8 * s.size / 1099511627776)) := ⟨_, rfl⟩
            have hus : u.size = 1 := by rw [hu]; rfl
            have HU := Lib.hid hu
            clear hu
            go_wp2_with (go_at_call 48; (with_reducible refine (chr_at _ (UInt8.ofNat (8 * s.size / 1099511627776)) (be_ref s.size 1099511627776 1099511627776 rfl (by have := HS.out; omega)) _).mono ?_); rintro e w2 ⟨rfl, hx2⟩; rw [← HU.out]; have HX2 := Lib.hid hx2; clear hx2)
            go_roundw
            case rel => exact ⟨3, by omega, rfl, by rw [HTT.out, HU.out]; exact congrArg Value.string (bs_snoc' _ _ _), hR.out.ext HX2.out⟩
            case measure => simp [intOf]
          · obtain ⟨u, hu⟩ : ∃ u, u = sgn (UInt8.ofNat (8 * s.size / 4294967296)) := ⟨_, rfl⟩
            have hus : u.size = 1 := by rw [hu]; rfl
            have HU := Lib.hid hu
            clear hu
            go_wp2_with (go_at_call 48; (with_reducible refine (chr_at _ (UInt8.ofNat (8 * s.size / 4294967296)) (be_ref s.size 4294967296 4294967296 rfl (by have := HS.out; omega)) _).mono ?_); rintro e w2 ⟨rfl, hx2⟩; rw [← HU.out]; have HX2 := Lib.hid hx2; clear hx2)
            go_roundw
            case rel => exact ⟨4, by omega, rfl, by rw [HTT.out, HU.out]; exact congrArg Value.string (bs_snoc' _ _ _), hR.out.ext HX2.out⟩
            case measure => simp [intOf]
          · obtain ⟨u, hu⟩ : ∃ u, u = sgn (UInt8.ofNat (8 * s.size / 16777216)) := ⟨_, rfl⟩
            have hus : u.size = 1 := by rw [hu]; rfl
            have HU := Lib.hid hu
            clear hu
            go_wp2_with (go_at_call 48; (with_reducible refine (chr_at _ (UInt8.ofNat (8 * s.size / 16777216)) (be_ref s.size 16777216 16777216 rfl (by have := HS.out; omega)) _).mono ?_); rintro e w2 ⟨rfl, hx2⟩; rw [← HU.out]; have HX2 := Lib.hid hx2; clear hx2)
            go_roundw
            case rel => exact ⟨5, by omega, rfl, by rw [HTT.out, HU.out]; exact congrArg Value.string (bs_snoc' _ _ _), hR.out.ext HX2.out⟩
            case measure => simp [intOf]
          · obtain ⟨u, hu⟩ : ∃ u, u = sgn (UInt8.ofNat (8 * s.size / 65536)) := ⟨_, rfl⟩
            have hus : u.size = 1 := by rw [hu]; rfl
            have HU := Lib.hid hu
            clear hu
            go_wp2_with (go_at_call 48; (with_reducible refine (chr_at _ (UInt8.ofNat (8 * s.size / 65536)) (be_ref s.size 65536 65536 rfl (by have := HS.out; omega)) _).mono ?_); rintro e w2 ⟨rfl, hx2⟩; rw [← HU.out]; have HX2 := Lib.hid hx2; clear hx2)
            go_roundw
            case rel => exact ⟨6, by omega, rfl, by rw [HTT.out, HU.out]; exact congrArg Value.string (bs_snoc' _ _ _), hR.out.ext HX2.out⟩
            case measure => simp [intOf]
          · obtain ⟨u, hu⟩ : ∃ u, u = sgn (UInt8.ofNat (8 * s.size / 256)) := ⟨_, rfl⟩
            have hus : u.size = 1 := by rw [hu]; rfl
            have HU := Lib.hid hu
            clear hu
            go_wp2_with (go_at_call 48; (with_reducible refine (chr_at _ (UInt8.ofNat (8 * s.size / 256)) (be_ref s.size 256 256 rfl (by have := HS.out; omega)) _).mono ?_); rintro e w2 ⟨rfl, hx2⟩; rw [← HU.out]; have HX2 := Lib.hid hx2; clear hx2)
            go_roundw
            case rel => exact ⟨7, by omega, rfl, by rw [HTT.out, HU.out]; exact congrArg Value.string (bs_snoc' _ _ _), hR.out.ext HX2.out⟩
            case measure => simp [intOf]
          · obtain ⟨u, hu⟩ : ∃ u, u = sgn (UInt8.ofNat (8 * s.size)) := ⟨_, rfl⟩
            have hus : u.size = 1 := by rw [hu]; rfl
            have HU := Lib.hid hu
            clear hu
            go_wp2_with (go_at_call 48; (with_reducible refine (chr_at _ (UInt8.ofNat (8 * s.size)) (be_ref0 s.size (by have := HS.out; omega)) _).mono ?_); rintro e w2 ⟨rfl, hx2⟩; rw [← HU.out]; have HX2 := Lib.hid hx2; clear hx2)
            go_roundw
            case rel => exact ⟨8, by omega, rfl, by rw [HTT.out, HU.out]; exact congrArg Value.string (bs_snoc' _ _ _), hR.out.ext HX2.out⟩
            case measure => simp [intOf]
        · obtain rfl : i = 8 := by omega
          have HT : Hid (s.data.toList ++ 128 :: List.replicate z 0 ++ (be64 (8 * s.size)).take 8 = s.data.toList ++ pad s.size) := by
            unfold Hid pad zeros
            have e8 : (be64 (8 * s.size)).take 8 = be64 (8 * s.size) := rfl
            rw [e8, List.append_assoc, List.cons_append, ← HZ.out]
          rw [HT.out]
          obtain ⟨T, hTT⟩ : ∃ T, T = s.data.toList ++ pad s.size := ⟨_, rfl⟩
          rw [← hTT]
          have HTT := Lib.hid hTT
          have HT64 : Hid (T.length % 64 = 0) := by
            unfold Hid
            rw [hTT, List.length_append]
            have h := pad_length s.size
            have e : s.data.toList.length = s.size := by simp
            rw [e]
            exact h
          have HTL : Hid (T.length ≤ 1073741824 + 128) := by
            unfold Hid
            rw [hTT, List.length_append]
            have e : s.data.toList.length = s.size := by simp
            have e2 : (pad s.size).length ≤ 72 := by simp [pad, be64, zeros]; omega
            have := HS.out
            omega
          clear hTT HT h8 hi
          have e8 : ((8 : Nat) : Int) = 8 := rfl
          rw [e8]
          clear e8
          go_wp2_with fail
          go_loopw [0] (fun x wr => ∃ (st : St) (r : List UInt8), x = .string (bs r) ∧ Hid (r.length % 64 = 0) ∧ Hid (r.length ≤ 1073741824 + 128) ∧ Hid (hash st r = hash h0 T) ∧ Hid (Tabs w gh gk rh rk st.list wr)) (fun x _ => lenS x)
          case atStart => exact ⟨h0, T, rfl, HT64, HTL, rfl, hR⟩
          case round =>
            obtain ⟨st, r, rfl, hr64, hrl, hrh, hR⟩ := hrel
            obtain ⟨t, ht⟩ : ∃ t, t = bs r := ⟨_, rfl⟩
            rw [← ht]
            have HTB := Lib.hid ht
            have htl : t.data.toList = r := by rw [ht]; simp [bs]
            have hts : t.size = r.length := by rw [ht, bs_size]
            by_cases h0 : r = []
            · as_aux_lemma =>
              have g1 : t.toList.isEmpty = true := is_empty (by rw [hts, h0]; rfl)
              have HST : Hid (st = hash Sx.h0 T) := by have h := hrh.out; rw [h0, hash_end (by decide)] at h; exact h
              clear htl hts ht hr64 hrl hrh
              go_wp2_with fail
              go_loopw [23, 255] (fun x y wx => ∃ i : Nat, i ≤ 8 ∧ x = .string (bs ((digest st).take (4 * i))) ∧ y = .int .i64 (i : Int) ∧ Hid (Tabs w gh gk rh rk st.list wx)) (fun _ y _ => 8 - (intOf y).toNat)
              case atStart => exact ⟨0, by omega, rfl, rfl, hR⟩
              case round =>
                obtain ⟨i, hi, rfl, rfl, hI⟩ := hrel
                obtain ⟨wo, rfl⟩ : ∃ wo : World, wo = wr := ⟨_, rfl⟩
                by_cases hlt : i < 8
                · obtain ⟨o, ho⟩ : ∃ o, o = bs ((digest st).take (4 * i)) := ⟨_, rfl⟩
                  rw [← ho]
                  have hos : o.size ≤ 32 := by rw [ho, bs_size, List.length_take, digest_length]; omega
                  have HO := Lib.hid ho
                  obtain ⟨x, hx⟩ : ∃ x, x = st.get i := ⟨_, rfl⟩
                  have y1 : wo.cell? ⟨gh, i, none⟩ = some (.int .u32 (x.toNat : Int)) := by rw [hx]; exact row_cell hI.out.h (list_at st hlt)
                  have HXX := Lib.hid hx
                  have p0 : (0 : Int) ≤ (i : Int) := by omega
                  have p1 : (i : Int) < 8 := by omega
                  have hx32 : (x.toNat : Int) < 4294967296 := by have := x.isLt; omega
                  obtain ⟨b1, b2, b3, b4, hbl, hb1, hb2, hb3, hb4⟩ := bytes_ref x
                  have HBL := Lib.hid hbl
                  obtain ⟨c1, hc1⟩ : ∃ c, c = sgn b1 := ⟨_, rfl⟩
                  have HC1 := Lib.hid hc1
                  have hz1 : c1.size = 1 := by rw [hc1]; rfl
                  have hw1 : (b1.toNat : Int) < 256 := by have := b1.toNat_lt; omega
                  obtain ⟨c2, hc2⟩ : ∃ c, c = sgn b2 := ⟨_, rfl⟩
                  have HC2 := Lib.hid hc2
                  have hz2 : c2.size = 1 := by rw [hc2]; rfl
                  have hw2 : (b2.toNat : Int) < 256 := by have := b2.toNat_lt; omega
                  obtain ⟨c3, hc3⟩ : ∃ c, c = sgn b3 := ⟨_, rfl⟩
                  have HC3 := Lib.hid hc3
                  have hz3 : c3.size = 1 := by rw [hc3]; rfl
                  have hw3 : (b3.toNat : Int) < 256 := by have := b3.toNat_lt; omega
                  obtain ⟨c4, hc4⟩ : ∃ c, c = sgn b4 := ⟨_, rfl⟩
                  have HC4 := Lib.hid hc4
                  have hz4 : c4.size = 1 := by rw [hc4]; rfl
                  have hw4 : (b4.toNat : Int) < 256 := by have := b4.toNat_lt; omega
                  clear ho hx hbl hc1 hc2 hc3 hc4
                  go_wp2_with (first
                    | (go_at_call 48; (with_reducible refine (chr_one b1 _).mono ?_); rintro e w11 ⟨rfl, hx1⟩; rw [← HC1.out]; have HX1 := Lib.hid hx1; clear hx1)
                    | (go_at_call 48; (with_reducible refine (chr_one b2 _).mono ?_); rintro e w12 ⟨rfl, hx2⟩; rw [← HC2.out]; have HX2 := Lib.hid hx2; clear hx2)
                    | (go_at_call 48; (with_reducible refine (chr_one b3 _).mono ?_); rintro e w13 ⟨rfl, hx3⟩; rw [← HC3.out]; have HX3 := Lib.hid hx3; clear hx3)
                    | (go_at_call 48; (with_reducible refine (chr_one b4 _).mono ?_); rintro e w14 ⟨rfl, hx4⟩; rw [← HC4.out]; have HX4 := Lib.hid hx4; clear hx4))
                  go_roundw
                  case rel => exact ⟨i + 1, by omega, by rw [digest_take st hlt, ← HXX.out, HBL.out, bs_four, ← HO.out, HC1.out, HC2.out, HC3.out, HC4.out], by go_num, ((((hI.out.ext HX1.out).ext HX2.out).ext HX3.out).ext HX4.out)⟩
                  case measure => simp [intOf]; omega
                · obtain rfl : i = 8 := by omega
                  have hd : bs ((digest st).take (4 * 8)) = shaS s := by
                    rw [List.take_of_length_le (by rw [digest_length]; decide), HST.out, HTT.out]
                    have e : s.data.toList.length = s.size := by simp
                    unfold shaS sha bs
                    rw [e]
                  rw [hd]
                  clear hd
                  go_wp2_with fail
                  go_ret
                  exact ⟨rfl, hI.out.x⟩
            · have hr1 : 64 ≤ r.length := by have := hr64.out; have : 0 < r.length := List.length_pos_iff.2 h0; omega
              have g1 : t.toList.isEmpty = false := not_empty (by rw [hts]; omega)
              have HTL2 := Lib.hid htl
              have HTS := Lib.hid hts
              clear htl hts ht
              go_wp2_with fail
              obtain ⟨B, hB⟩ : ∃ B, B = bw (r.take 64) := ⟨_, rfl⟩
              obtain ⟨g9, hg9⟩ : ∃ g9, g9 = wr.heap.size := ⟨_, rfl⟩
              rw [← hg9]
              have HW : Hid (TabW w gh gk rh rk st.list g9 (wcells B 0) (wr.alloc (.cells (wcells B 0) 114 (0, 0)))) := by rw [hg9]; exact TabW.start hR.out
              have HB := Lib.hid hB
              clear hB hg9
              go_loopw [79] (fun x wx => ∃ i : Nat, i ≤ 64 ∧ x = .int .i64 (i : Int) ∧ Hid (TabW w gh gk rh rk st.list g9 (wcells B i) wx)) (fun x _ => 64 - (intOf x).toNat)
              case atStart => exact ⟨0, by omega, rfl, HW⟩
              case round =>
                obtain ⟨i, hi, rfl, hI⟩ := hrel
                obtain ⟨wo, rfl⟩ : ∃ wo : World, wo = wr := ⟨_, rfl⟩
                by_cases hlt : i < 64
                · by_cases h16 : i < 16
                  · as_aux_lemma =>
                    have q0 : (0 : Int) ≤ 4 * (i : Int) := by omega
                    have q1 : 4 * (i : Int) + 4 ≤ (t.size : Int) := by rw [HTS.out]; omega
                    obtain ⟨X, hX⟩ : ∃ X, X = t.extract (4 * i) (4 * i + 4) := ⟨_, rfl⟩
                    have q2 : (4 * (i : Int)).toNat = 4 * i := by omega
                    have q3 : (4 * (i : Int) + 4).toNat = 4 * i + 4 := by omega
                    have hx1 : ∀ W, (Instr.slice 9 (.string t) (some (.int .i64 (4 * (i : Int)))) (some (.int .i64 (4 * (i : Int) + 4))) none).run Tryz.prog W = .ok (.string X) W := fun W => by
                      rw [run_slice_string W 9 t .i64 .i64 (4 * (i : Int)) (4 * (i : Int) + 4) Tryz.underlying9 (by omega) (by omega) (by omega), hX, q2, q3]
                    have HX := Lib.hid hX
                    clear hX
                    obtain ⟨bx, bY, bz, bu, hxl, hbw⟩ := four_of hr1 h16
                    have hxl2 : X.data.toList = [bx, bY, bz, bu] := by rw [HX.out, HTB.out]; exact hxl
                    obtain ⟨cx, wx, hcv, hxx, hby⟩ := text_bytes X [bx, bY, bz, bu] hxl2 wo
                    obtain ⟨gx, hgx⟩ : ∃ gx, gx = wo.heap.size := ⟨_, rfl⟩
                    rw [← hgx] at hcv hby
                    have HLX : Hid (g9 < gx) := by rw [hgx]; exact heap_lt hI.out.o
                    have hcv2 : (convert 9 93 (.string X)).run Tryz.prog wo = .ok (.slice (some ⟨gx, 0, none⟩) 4 cx) wx := hcv
                    obtain ⟨lx, hlx⟩ : ∃ lx, lx = [bx, bY, bz, bu] := ⟨_, rfl⟩
                    rw [← hlx] at hby
                    have hl4 : lx.length = 4 := by rw [hlx]; rfl
                    have HIX : Hid (TabW w gh gk rh rk st.list g9 ((wcells B i).setIfInBounds i (w32 (vj lx 0))) wx ∧ BytesAt wx gx 0 lx) := by
                      refine ⟨?_, hby⟩
                      have e : (wcells B i).setIfInBounds i (w32 (vj lx 0)) = wcells B i := setIf_same (by rw [wcells_at _ _ (by omega), if_neg (Nat.lt_irrefl _)]; rfl)
                      rw [e]
                      exact hI.out.ext hxx
                    have HFIN : Hid ((wcells B i).setIfInBounds i (w32 (vj lx 4)) = wcells B (i + 1)) := wcells_set B (by omega) (by rw [hlx, vj_four, ← hbw, ← HB.out, wd_low _ h16])
                    have HL4 := Lib.hid hl4
                    clear hcv hlx hl4 hxl hbw hxl2 hby hxx hgx
                    go_wp2_with fail
                    clear hcv2 hx1 q0 q1 q2 q3
                    go_loopw [93] (fun x wy => ∃ j : Nat, j ≤ 4 ∧ x = .int .i64 (j : Int) ∧ Hid (TabW w gh gk rh rk st.list g9 ((wcells B i).setIfInBounds i (w32 (vj lx j))) wy ∧ BytesAt wy gx 0 lx)) (fun x _ => 4 - (intOf x).toNat)
                    case atStart => exact ⟨0, by omega, rfl, HIX⟩
                    case round =>
                      obtain ⟨j, hj, rfl, hJ⟩ := hrel
                      by_cases hj4 : j < 4
                      · have hjl : j < lx.length := by rw [HL4.out]; exact hj4
                        obtain ⟨c, hc⟩ : ∃ c, c = lx[j] := ⟨_, rfl⟩
                        obtain ⟨v, hv⟩ : ∃ v, v = vj lx j := ⟨_, rfl⟩
                        have HVS := Lib.hid (vj_succ hjl)
                        rw [← hc, ← hv] at HVS
                        have hcc := hJ.out.2.2 j hjl
                        rw [← hc, Nat.zero_add] at hcc
                        have hw1 := cell_of (j := i) hJ.out.1.o
                        rw [setIf_at (by simp [wcells]; omega), ← hv] at hw1
                        have hw2 : wr.cell? ⟨g9, i, none⟩ = some (.int .u32 (v.toNat : Int)) := hw1
                        have hwf := free_of (j := i) hJ.out.1.o
                        have p0 : (0 : Int) ≤ (i : Int) := by omega
                        have p1 : (i : Int) < 64 := by omega
                        have HC := Lib.hid hc
                        have HV := Lib.hid hv
                        clear hc hv hw1
                        go_wp2_with fail
                        rw [w_horner]
                        have HN : Hid (TabW w gh gk rh rk st.list g9 ((wcells B i).setIfInBounds i (w32 (vj lx (j + 1)))) (wr.setCell ⟨g9, i, none⟩ (.int .u32 ((v * 256#32 + BitVec.ofNat 32 c.toNat).toNat : Int))) ∧ BytesAt (wr.setCell ⟨g9, i, none⟩ (.int .u32 ((v * 256#32 + BitVec.ofNat 32 c.toNat).toNat : Int))) gx 0 lx) := by
                          refine ⟨?_, hJ.out.2.kept (grown_setCell _ _ _ _) (fun e => by injection e with e; have := HLX.out; omega)⟩
                          have h := hJ.out.1.set (i := i) (w32 (v * 256#32 + BitVec.ofNat 32 c.toNat))
                          rw [setIf_set] at h
                          rw [HVS.out]
                          exact h
                        go_roundw
                        case rel => exact ⟨j + 1, by omega, by go_num, HN⟩
                        case measure => simp [intOf]; omega
                      · obtain rfl : j = 4 := by omega
                        have HN : Hid (TabW w gh gk rh rk st.list g9 (wcells B (i + 1)) wr) := by
                          have h := hJ.out.1
                          rw [HFIN.out] at h
                          exact h
                        go_wp2_with fail
                        go_roundw
                        case rel => exact ⟨i + 1, by omega, by go_num, HN⟩
                        case measure => simp [intOf]; omega
                  · as_aux_lemma =>
                    have hi16 : 16 ≤ i := by omega
                    obtain ⟨i2, hi2⟩ : ∃ i2, i2 = i - 2 := ⟨_, rfl⟩
                    have d2 : wo.cell? ⟨g9, i - 2, none⟩ = some (.int .u32 ((wd B (i - 2)).toNat : Int)) := by rw [cell_of hI.out.o, wcells_at _ _ (by omega), if_pos (by omega)]; rfl
                    have d15 : wo.cell? ⟨g9, i - 15, none⟩ = some (.int .u32 ((wd B (i - 15)).toNat : Int)) := by rw [cell_of hI.out.o, wcells_at _ _ (by omega), if_pos (by omega)]; rfl
                    have HWD := Lib.hid (wd_high B hi16)
                    have ht16 : decide ((i : Int) < 16) = false := by simp; omega
                    go_wp2_with fail
                    have a2 : (0 : Int) ≤ (i : Int) - 2 := by omega
                    have b2 : (i : Int) - 2 < 64 := by omega
                    have a15 : (0 : Int) ≤ (i : Int) - 15 := by omega
                    have b15 : (i : Int) - 15 < 64 := by omega
                    have n2 : ((i : Int) - 2).toNat = i - 2 := by omega
                    have n15 : ((i : Int) - 15).toNat = i - 15 := by omega
                    have v2 : IntKind.i64.wrap ((i : Int) - 2) = (i : Int) - 2 := IntWalk.i64_in _ (by omega)
                    have v15 : IntKind.i64.wrap ((i : Int) - 15) = (i : Int) - 15 := IntWalk.i64_in _ (by omega)
                    go_quiet (fail)
                    go_wp2_with fail
                    obtain ⟨wq, hwq⟩ : ∃ wq, wq = wo.drewN nq := ⟨_, rfl⟩
                    rw [← hwq]
                    have hQ : Hid (TabW w gh gk rh rk st.list g9 (wcells B i) wq) := by unfold Hid; rw [hwq]; exact hI.out.ext (drewN_ext _ _)
                    clear n2 n15 v2 v15 a2 b2 a15 b15 hwq d2 d15 hI
                    have d7 : wq.cell? ⟨g9, i - 7, none⟩ = some (.int .u32 ((wd B (i - 7)).toNat : Int)) := by rw [cell_of hQ.out.o, wcells_at _ _ (by omega), if_pos (by omega)]; rfl
                    have d16 : wq.cell? ⟨g9, i - 16, none⟩ = some (.int .u32 ((wd B (i - 16)).toNat : Int)) := by rw [cell_of hQ.out.o, wcells_at _ _ (by omega), if_pos (by omega)]; rfl
                    have cc : wq.cell? ⟨g9, i, none⟩ = some (.int .u32 0) := by rw [cell_of hQ.out.o, wcells_at _ _ (by omega), if_neg (Nat.lt_irrefl _)]
                    have cf := free_of (j := i) hQ.out.o
                    have a7 : (0 : Int) ≤ (i : Int) - 7 := by omega
                    have b7 : (i : Int) - 7 < 64 := by omega
                    have a16 : (0 : Int) ≤ (i : Int) - 16 := by omega
                    have b16 : (i : Int) - 16 < 64 := by omega
                    have p0 : (0 : Int) ≤ (i : Int) := by omega
                    have p1 : (i : Int) < 64 := by omega
                    have q7 : (7 : Int) ≤ (i : Int) := by omega
                    have q16 : (16 : Int) ≤ (i : Int) := by omega
                    have f7 : (⟨g9, i, none⟩ : Addr) ≠ ⟨g9, i - 7, none⟩ := by intro e; injection e; omega
                    have f16 : (⟨g9, i, none⟩ : Addr) ≠ ⟨g9, i - 16, none⟩ := by intro e; injection e; omega
                    have n7 : ((i : Int) - 7).toNat = i - 7 := by omega
                    have n16 : ((i : Int) - 16).toNat = i - 16 := by omega
                    have v7 : IntKind.i64.wrap ((i : Int) - 7) = (i : Int) - 7 := IntWalk.i64_in _ (by omega)
                    have v16 : IntKind.i64.wrap ((i : Int) - 16) = (i : Int) - 16 := IntWalk.i64_in _ (by omega)
                    have hsame : SameW wq wq := ⟨0, rfl⟩
                    have CT : Hid (∀ wk x (m : Int) (h : m ∈ [(2 : Int), 6, 7, 11, 13, 17, 18, 19, 22, 25]), SameW wq wk → Calls Tryz.prog 87 #[.int .u32 (x.toNat : Int), .int .i64 m] wk fun e w' => e = .returned (.int .u32 ((rotr x m.toNat).toNat : Int)) ∧ SameW wq w' ∧ w'.cell? ⟨g9, i - 7, none⟩ = some (.int .u32 ((wd B (i - 7)).toNat : Int)) ∧ w'.cell? ⟨g9, i - 16, none⟩ = some (.int .u32 ((wd B (i - 16)).toNat : Int)) ∧ w'.cell? ⟨g9, i, none⟩ = some (.int .u32 0) ∧ w'.frozen? ⟨g9, i, none⟩ = false) := fun wk x m h hk =>
                      (turn_of x m h wk).mono fun e w' ⟨he, hq⟩ => by
                        have hk' := hk.trans hq
                        exact ⟨he, hk', (hk'.cell _).trans d7, (hk'.cell _).trans d16, (hk'.cell _).trans cc, (hk'.frozen _).trans cf⟩
                    clear hi2
                    go_wp2_with fail
                    go_region_held3 (fun w' => w'.cell? ⟨g9, i - 7, none⟩ = some (.int .u32 ((wd B (i - 7)).toNat : Int)) ∧ w'.cell? ⟨g9, i - 16, none⟩ = some (.int .u32 ((wd B (i - 16)).toNat : Int))) (first | (refine ⟨?_, ?_⟩ <;> (first | assumption | (simp only [World.cell?_drew]; assumption) | (simp only [cell_other f7, cell_other f16]; assumption) | (simp only [World.cell?_drew, cell_other f7, cell_other f16]; assumption)))) ((go_simp; go_at_call 87; with_reducible refine (CT.out _ _ _ (by decide) (by first | assumption | (apply SameW.drew; assumption))).mono ?_; rintro e w5 ⟨rfl, hsw, z1, z2, z3, z4⟩))
                    go_wp2_with fail
                    rw [w_sched2, ← HWD.out]
                    have HN : Hid (TabW w gh gk rh rk st.list g9 (wcells B (i + 1)) (w5.setCell ⟨g9, i, none⟩ (.int .u32 ((wd B i).toNat : Int)))) := by
                      have h := (hQ.out.ext hsw.ext).set (i := i) (w32 (wd B i))
                      rw [wcells_set B (by omega) rfl] at h
                      exact h
                    exact ⟨⟨i + 1, by omega, by go_num, HN⟩, by simp [intOf]; omega⟩
                · obtain rfl : i = 64 := by omega
                  have hgh := hI.out.h
                  go_wp2_with (go_at_call 88; (with_reducible refine (copyW8 st gh ch rh _ hgh).mono ?_); rintro e wv ⟨gv, rv, rfl, hv1, hv2, hv3⟩; have HV := Lib.hid (hI.out.withV hv3 hv1 hv2); clear hv1 hv2 hv3 hgh)
                  clear hI
                  have hcv : 8 ≤ 8 + rv.length := by omega
                  obtain ⟨cv, hcve⟩ : ∃ cv, cv = 8 + rv.length := ⟨_, rfl⟩
                  have hle : St.list st = (rnds kw B st 0).list := rfl
                  go_loopw [15, 147] (fun x y wx => ∃ (n gv cv : Nat) (rv : List Value), n ≤ 64 ∧ 8 ≤ cv ∧ y = .int .i64 (n : Int) ∧ x = .slice (some ⟨gv, 0, none⟩) 8 cv ∧ Hid (TabV w gh gk rh rk st.list g9 (wcells B 64) gv rv (rnds kw B st n).list wx)) (fun _ y _ => 64 - (intOf y).toNat)
                  case atStart => exact ⟨0, gv, _, rv, by omega, hcv, rfl, rfl, HV⟩
                  case round =>
                    clear HV hcv hcve
                    obtain ⟨n, gv, cv, rv, hn, hcv, rfl, rfl, hI⟩ := hrel
                    obtain ⟨wo, rfl⟩ : ∃ wo : World, wo = wr := ⟨_, rfl⟩
                    by_cases hlt : n < 64
                    · obtain ⟨q, hq⟩ : ∃ q, q = rnds kw B st n := ⟨_, rfl⟩
                      rw [← hq] at hI
                      have HQ := Lib.hid hq
                      clear hq
                      have y0 : wo.cell? ⟨gv, 0, none⟩ = some (.int .u32 (q.a.toNat : Int)) := row_cell hI.out.v (j := 0) rfl
                      have y1 : wo.cell? ⟨gv, 1, none⟩ = some (.int .u32 (q.b.toNat : Int)) := row_cell hI.out.v (j := 1) rfl
                      have y2 : wo.cell? ⟨gv, 2, none⟩ = some (.int .u32 (q.c.toNat : Int)) := row_cell hI.out.v (j := 2) rfl
                      have y3 : wo.cell? ⟨gv, 3, none⟩ = some (.int .u32 (q.d.toNat : Int)) := row_cell hI.out.v (j := 3) rfl
                      have y4 : wo.cell? ⟨gv, 4, none⟩ = some (.int .u32 (q.e.toNat : Int)) := row_cell hI.out.v (j := 4) rfl
                      have y5 : wo.cell? ⟨gv, 5, none⟩ = some (.int .u32 (q.f.toNat : Int)) := row_cell hI.out.v (j := 5) rfl
                      have y6 : wo.cell? ⟨gv, 6, none⟩ = some (.int .u32 (q.g.toNat : Int)) := row_cell hI.out.v (j := 6) rfl
                      have y7 : wo.cell? ⟨gv, 7, none⟩ = some (.int .u32 (q.h.toNat : Int)) := row_cell hI.out.v (j := 7) rfl
                      go_wp2_with fail
                      go_quiet (fail)
                      obtain ⟨nq1, hnq1⟩ : ∃ m, m = nq := ⟨_, rfl⟩
                      rw [← hnq1]
                      clear hnq1
                      go_wp2_with fail
                      go_quiet (fail)
                      rw [w_most]
                      go_wp2_with fail
                      obtain ⟨wa, hwa⟩ : ∃ wa, wa = (wo.drewN nq1).drewN nq := ⟨_, rfl⟩
                      rw [← hwa]
                      have hA : Hid (TabV w gh gk rh rk st.list g9 (wcells B 64) gv rv q.list wa) := by unfold Hid; rw [hwa]; exact hI.out.ext (Ext.trans (drewN_ext _ _) (drewN_ext _ _))
                      have HX1 : Hid (Ext wo wa) := by unfold Hid; rw [hwa]; exact Ext.trans (drewN_ext _ _) (drewN_ext _ _)
                      clear hwa y0 y1 y2 y3 y4 y5 y6 y7
                      have z5 : wa.cell? ⟨gv, 5, none⟩ = some (.int .u32 (q.f.toNat : Int)) := row_cell hA.out.v (j := 5) rfl
                      have z6 : wa.cell? ⟨gv, 6, none⟩ = some (.int .u32 (q.g.toNat : Int)) := row_cell hA.out.v (j := 6) rfl
                      have z7 : wa.cell? ⟨gv, 7, none⟩ = some (.int .u32 (q.h.toNat : Int)) := row_cell hA.out.v (j := 7) rfl
                      have zk : wa.cell? ⟨gk, n, none⟩ = some (.int .u32 ((kw n).toNat : Int)) := row_cell hA.out.k (kls_at hlt)
                      have zw : wa.cell? ⟨g9, n, none⟩ = some (.int .u32 ((wd B n).toNat : Int)) := by rw [cell_of hA.out.o, wcells_at _ _ hlt, if_pos hlt]; rfl
                      have p0 : (0 : Int) ≤ (n : Int) := by omega
                      have p1 : (n : Int) < 64 := by omega
                      go_quiet ((go_at_call 87; exact Calls.quiet_of (turn_of _ _ (by decide) _)))
                      rw [w_t1r]
                      obtain ⟨wb, hwb⟩ : ∃ wb, wb = wa.drewN nq := ⟨_, rfl⟩
                      rw [← hwb]
                      have hsw : SameW wa wb := ⟨_, hwb⟩
                      clear hwb z5 z6 z7 zk zw
                      go_upto_region 39 with (go_at_call 87; (with_reducible refine (turn_of _ _ (by decide) _).mono ?_); rintro e w5 ⟨rfl, hq5⟩; replace hsw := hsw.trans hq5; clear hq5)
                      rw [w_t2r]
                      obtain ⟨t1, ht1⟩ : ∃ t1, t1 = q.t1 (kw n) (wd B n) := ⟨_, rfl⟩
                      rw [← ht1]
                      have HT1 := Lib.hid ht1
                      obtain ⟨x, hx⟩ : ∃ x, x = t1 + q.t2 := ⟨_, rfl⟩
                      have hs12 : ((t1.toNat : Int) + (q.t2.toNat : Int)) % 4294967296 = (x.toNat : Int) := by rw [hx, w_add]
                      have HX := Lib.hid hx
                      obtain ⟨x4, hx4⟩ : ∃ x4, x4 = q.d + t1 := ⟨_, rfl⟩
                      have hs4 : ((q.d.toNat : Int) + (t1.toNat : Int)) % 4294967296 = (x4.toNat : Int) := by rw [hx4, w_add]
                      have HX4 := Lib.hid hx4
                      have hA5 : Hid (TabV w gh gk rh rk st.list g9 (wcells B 64) gv rv q.list w5) := hA.out.ext hsw.ext
                      have HSW := Lib.hid hsw
                      have hc7 : (7 : Int) ≤ (cv : Int) := by omega
                      have hc0 : ¬ cv = 0 := by omega
                      clear ht1 hx hx4 hsw hA
                      go_wp2_with (at_builtin; refine wappend_bytes rfl _ _ (by rfl) w5.heap.size 1 7 _ _ _ [x] (q.list.take 7) (by rfl) (by rfl) (wBRow.lit x) (src7 (hA5.out.ext (new_ext _ _)).v (show 7 ≤ 8 by omega)) rfl rfl (by omega) (by simp) ?_; intro A2 c2 w7 h1 h2 h3; obtain ⟨g2, r2, hv2, hb2, hr2⟩ := h1.open (by simp); obtain ⟨rfl, -, hc2⟩ := slice_inj hv2; have hc28 : 8 ≤ c2 := (by rw [hc2]; exact Nat.le_add_right 8 _); have y4 := row_cell hr2 (j := 4) (x := q.d) rfl; have f4 := free_of (j := 4) hr2; have H7 := Lib.hid (And.intro hr2 (And.intro hb2 (ext_of_grown_new h2))); clear h1 h2 h3 hv2 hb2 hr2 hc2)
                      have HN : Hid (TabV w gh gk rh rk st.list g9 (wcells B 64) g2 r2 (rnds kw B st (n + 1)).list (w7.setCell ⟨g2, 4, none⟩ (.int .u32 (x4.toNat : Int)))) := by
                        obtain ⟨i1, i2, i3⟩ := H7.out
                        have e : (rnds kw B st (n + 1)).list = ([x] ++ q.list.take 7).set 4 x4 := by
                          rw [rnds_succ, ← HQ.out, HX.out, HX4.out, HT1.out]
                          rfl
                        rw [e]
                        exact hA5.out.toTabW.withV ((Ext.trans (Below.refl _ _) i3).setCell (p := ⟨g2, 4, none⟩) i2 _) (row_set x4 i1 (by simp [St.list])) i2
                      go_roundw
                      case rel => exact ⟨n + 1, g2, c2, r2, by omega, hc28, by go_num, rfl, HN⟩
                      case measure => simp [intOf]; omega
                    · obtain rfl : n = 64 := by omega
                      obtain ⟨q, hq⟩ : ∃ q, q = rnds kw B st 64 := ⟨_, rfl⟩
                      rw [← hq] at hI
                      have HQ := Lib.hid hq
                      clear hq hlt hn
                      have hI7 : Hid (TabV w gh gk rh rk (addw st q 0) g9 (wcells B 64) gv rv q.list wo) := hI
                      have e64 : ((64 : Nat) : Int) = 64 := rfl
                      rw [e64]
                      clear hI e64
                      go_wp2_with fail
                      go_loopw [239] (fun x wx => ∃ i : Nat, i ≤ 8 ∧ x = .int .i64 (i : Int) ∧ Hid (TabV w gh gk rh rk (addw st q i) g9 (wcells B 64) gv rv q.list wx)) (fun x _ => 8 - (intOf x).toNat)
                      case atStart => exact ⟨0, by omega, rfl, hI7⟩
                      case round =>
                        obtain ⟨i, hi, rfl, hI⟩ := hrel
                        obtain ⟨wo, rfl⟩ : ∃ wo : World, wo = wr := ⟨_, rfl⟩
                        by_cases hlt : i < 8
                        · have y1 : wo.cell? ⟨gh, i, none⟩ = some (.int .u32 ((st.get i).toNat : Int)) := row_cell hI.out.h (by rw [addw_at _ _ _ hlt, if_neg (Nat.lt_irrefl _)])
                          have y2 : wo.cell? ⟨gv, i, none⟩ = some (.int .u32 ((q.get i).toNat : Int)) := row_cell hI.out.v (list_at q hlt)
                          have yf := free_of (j := i) hI.out.h
                          have p0 : (0 : Int) ≤ (i : Int) := by omega
                          have p1 : (i : Int) < 8 := by omega
                          obtain ⟨x, hx⟩ : ∃ x, x = st.get i + q.get i := ⟨_, rfl⟩
                          have hs : (((st.get i).toNat : Int) + ((q.get i).toNat : Int)) % 4294967296 = (x.toNat : Int) := by rw [hx, w_add]
                          have HN : Hid (TabV w gh gk rh rk (addw st q (i + 1)) g9 (wcells B 64) gv rv q.list (wo.setCell ⟨gh, i, none⟩ (.int .u32 (x.toNat : Int)))) := by rw [hx]; exact hI.out.setH hlt
                          clear hx
                          go_wp2_with fail
                          go_still_tail 10, (by kernel_rfl)
                          go_wp2_with fail
                          go_roundw
                          case rel => exact ⟨i + 1, by omega, by go_num, HN.out.ext (Below.drew (Below.refl _ _))⟩
                          case measure => simp [intOf]; omega
                        · obtain rfl : i = 8 := by omega
                          have HR2 : Hid (Tabs w gh gk rh rk (st.add q).list wo) := hI.out.toTabs
                          have hcut : (64 : Int) ≤ (t.size : Int) := by rw [HTS.out]; omega
                          obtain ⟨t2, ht2⟩ : ∃ t2, t2 = t.extract 64 t.size := ⟨_, rfl⟩
                          have ht3 : t.extract 64 t.size = t2 := ht2.symm
                          have HT2 : Hid (t2 = bs (r.drop 64)) := by unfold Hid; rw [ht2, HTB.out]; exact bs_drop r 64
                          have HB2 := HB.out
                          have HHS : Hid (hash (st.add q) (r.drop 64) = hash Sx.h0 T) := by
                            unfold Hid
                            rw [← hrh.out, hash_step hr1, HQ.out, HB.out]
                            rfl
                          clear ht2 HB2 hi hlt
                          go_wp2_with fail
                          go_roundw
                          case rel => exact ⟨st.add q, r.drop 64, by rw [HT2.out], by unfold Hid; rw [List.length_drop]; have := hr64.out; omega, by unfold Hid; rw [List.length_drop]; have := hrl.out; omega, HHS, HR2⟩
                          case measure =>
                            show t2.size < t.size
                            rw [HT2.out, HTS.out, bs_size, List.length_drop]
                            omega
end Go.Proofs.YtplfimoeggecjaaGreatDoor.Sx
