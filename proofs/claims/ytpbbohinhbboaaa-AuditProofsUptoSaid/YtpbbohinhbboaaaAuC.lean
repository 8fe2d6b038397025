/-
  Audit: verification in plain words, round by round. No program in sight.
  Audit: the reference's AuditVerify.
  Audit: the program's Verify.
  The law AuditProofs: it returns true.
-/
import Derived.Test.YtpbbohinhbboaaaAuB
import Derived.Test.YtpbbohinhbboaaaSamd
namespace Go.Proofs.Ytpbbohinhbboaaa.Sx

/-- Does a proof of lines of memory give a root? -/
def verifyS (root line : ByteArray) (i n : Int) (xs : List ByteArray) : Bool := verifyL root.data.toList line.data.toList i n (bl xs)
theorem climb_at {s : List UInt8} {ps : List (List UInt8)} {ls : List Bool} {i : Nat} (h : i < ps.length) (h2 : i < ls.length) :
    climbL s (ps.drop i) (ls.drop i) = match stepL s ps[i] ls[i] with | some z => climbL z (ps.drop (i + 1)) (ls.drop (i + 1)) | none => none := by
  rw [List.drop_eq_getElem_cons h, List.drop_eq_getElem_cons h2]
  rfl
theorem climb_end {s : List UInt8} {ps : List (List UInt8)} {ls : List Bool} {i : Nat} (h : ps.length ≤ i) : climbL s (ps.drop i) ls = some s := by
  rw [List.drop_eq_nil_of_le h]
  cases ls <;> rfl
/-- The end of a verification: what a sum gives against a root. -/
def endL (root : ByteArray) : Option (List UInt8) → Bool
  | some s => hex s == root.data.toList
  | none => false
theorem verifyS_out {root line : ByteArray} {i n : Int} {xs : List ByteArray} (h : n < 1 ∨ 200 < n ∨ i < 0 ∨ n ≤ i) : verifyS root line i n xs = false := if_pos h
theorem verifyS_len {root line : ByteArray} {i n : Nat} {xs : List ByteArray} (h1 : 1 ≤ n) (h2 : n ≤ 200) (h3 : i < n) (hl : xs.length ≠ (sidesL i n).length) : verifyS root line i n xs = false := by
  unfold verifyS verifyL
  rw [if_neg (by omega)]
  exact if_pos (by rw [bl_len]; exact hl)
theorem verifyS_in {root line : ByteArray} {i n : Nat} {xs : List ByteArray} (h1 : 1 ≤ n) (h2 : n ≤ 200) (h3 : i < n) (hl : xs.length = (sidesL i n).length) : verifyS root line i n xs = endL root (climbL (sha (0 :: line.data.toList)) ((bl xs).drop 0) ((sidesL i n).drop 0)) := by
  unfold verifyS verifyL
  rw [if_neg (by omega)]
  refine (if_neg (by rw [bl_len]; exact fun hn => hn hl)).trans ?_
  rw [List.drop_zero, List.drop_zero]
  show (match climbL (sha (0 :: line.data.toList)) (bl xs) (sidesL i n) with | some s => hex s == root.data.toList | none => false) = _
  unfold endL
  cases climbL (sha (0 :: line.data.toList)) (bl xs) (sidesL i n) <;> rfl
theorem stepL_some {s p o : List UInt8} {b : Bool} (h : unhex p = some o) (h2 : o.length = 32) : stepL s p b = some (if b then sha (1 :: (s ++ o)) else sha (1 :: (o ++ s))) := by
  unfold stepL
  rw [h]
  exact if_pos h2
theorem stepL_none {s p : List UInt8} {b : Bool} (h : unhex p = none) : stepL s p b = none := by
  unfold stepL
  rw [h]
theorem stepL_len {s p o : List UInt8} {b : Bool} (h : unhex p = some o) (h2 : ¬ o.length = 32) : stepL s p b = none := by
  unfold stepL
  rw [h]
  exact if_neg h2
end Go.Proofs.Ytpbbohinhbboaaa.Sx
namespace Go.Proofs.Ytpbbohinhbboaaa.Sx
open Go Go.RowKit

set_option maxRecDepth 100000 in
set_option maxHeartbeats 4000000 in
theorem rverify_any (root line : ByteArray) (i n : Int) (v : Value) (xs : List ByteArray) (w : World) (h : Lines w v xs) (hl : line.size ≤ 1048576) :
    Calls Try.prog 55 #[.string root, .string line, .int .i64 i, .int .i64 n, v] w fun e w' => e = .returned (.bool (verifyS root line i n xs)) ∧ Ext w w' := by
  by_cases h1 : n < 1 ∨ 200 < n
  · have HV := Lib.hid (verifyS_out (root := root) (line := line) (i := i) (xs := xs) (n := n) (by omega))
    have ho : outB n 1 200 = true := by
      unfold outB
      rcases h1 with h1 | h1
      · simp [h1]
      · simp [h1]
    obtain ⟨A, c, rfl, _⟩ := h
    clear h1 hl
    go_enter Try.func55, Try.ntmps55
    go_wp2_with (go_at_call 59; (with_reducible refine (outside_any _ _ _ _).mono ?_); rintro e w' ⟨he, rfl⟩; rw [ho] at he; subst he)
    go_ret
    exact ⟨by rw [HV.out]; rfl, Below.refl _ _⟩
  · have ho : outB n 1 200 = false := by
      unfold outB
      simp
      omega
    by_cases h3 : i < 0 ∨ n ≤ i
    · have HV := Lib.hid (verifyS_out (root := root) (line := line) (i := i) (xs := xs) (n := n) (by omega))
      have ho2 : outB i 0 (n - 1) = true := by
        unfold outB
        rcases h3 with h3 | h3
        · simp [h3]
        · simp; omega
      have hn1 : 1 ≤ n := by omega
      have hn2 : n ≤ 200 := by omega
      obtain ⟨A, c, rfl, _⟩ := h
      clear h1 hl h3
      go_enter Try.func55, Try.ntmps55
      go_wp2_with (first
        | (go_at_call 59; (with_reducible refine (outside_any n 1 200 _).mono ?_); rintro e w' ⟨he, rfl⟩; rw [ho] at he; subst he)
        | (go_at_call 59; (with_reducible refine (outside_any i 0 (n - 1) _).mono ?_); rintro e w' ⟨he, rfl⟩; rw [ho2] at he; subst he))
      go_ret
      exact ⟨by rw [HV.out]; rfl, Below.refl _ _⟩
    · obtain ⟨j, rfl⟩ : ∃ j : Nat, i = (j : Int) := ⟨i.toNat, by omega⟩
      obtain ⟨q, rfl⟩ : ∃ q : Nat, n = (q : Int) := ⟨n.toNat, by omega⟩
      have ho2 : outB (j : Int) 0 ((q : Int) - 1) = false := by
        unfold outB
        simp
        omega
      have hn1 : (1 : Int) ≤ (q : Int) := by omega
      have hn2 : (q : Int) ≤ 200 := by omega
      have C := fun wk => Lib.hid (sides_any q j q wk (Nat.le_refl _) (by omega) (by omega))
      by_cases h5 : xs.length = (sidesL j q).length
      · have HV := Lib.hid (verifyS_in (root := root) (line := line) (i := j) (xs := xs) (n := q) (by omega) (by omega) (by omega) h5)
        obtain ⟨z, hz⟩ : ∃ z, z = (sidesL j q).length := ⟨_, rfl⟩
        have HZ := Lib.hid hz
        have hz200 : z ≤ 200 := by rw [hz]; have := sidesL_len q j q (Nat.le_refl _); omega
        have hxz : xs.length = z := h5.trans hz.symm
        have HXZ := Lib.hid hxz
        have HLN := Lib.hid h
        obtain ⟨A, c, rfl, _⟩ := h
        rw [hxz] at HLN
        rw [hxz]
        obtain ⟨s0, hs0⟩ : ∃ s, s = sgn 0 ++ line := ⟨_, rfl⟩
        have CS : Hid (∀ wk, Calls Try.prog 36 #[.string (sgn 0 ++ line)] wk fun e w' => e = .returned (.string (shaS (sgn 0 ++ line))) ∧ Ext wk w') := fun wk => rsum_any _ wk (by rw [ByteArray.size_append]; have : (sgn 0).size = 1 := rfl; omega)
        have hls : (line.size : Int) ≤ 1048576 := by omega
        have hbig : (9223372036854775807 < (sgn 0).size + line.size) = False := eq_false (by have : (sgn 0).size = 1 := rfl; omega)
        clear h1 h3 h5 hz hxz hl
        go_enter Try.func55, Try.ntmps55
        go_wp2_with (first
          | (go_at_call 59; (with_reducible refine (outside_any (q : Int) 1 200 _).mono ?_); rintro e w' ⟨he, rfl⟩; rw [ho] at he; subst he)
          | (go_at_call 59; (with_reducible refine (outside_any (j : Int) 0 ((q : Int) - 1) _).mono ?_); rintro e w' ⟨he, rfl⟩; rw [ho2] at he; subst he)
          | (go_at_call 114; (with_reducible refine (C _).out.mono ?_); rintro e w2 ⟨A2, c2, rfl, h4⟩; rw [← HZ.out]; rw [← HZ.out] at h4; have H4 := Lib.hid h4; clear h4)
          | (go_at_call 93; (with_reducible refine (chr_at 0 0 rfl _).mono ?_); rintro e w3 ⟨rfl, hx3⟩; have HX3 := Lib.hid hx3; clear hx3)
          | (go_at_call 36; (with_reducible refine (CS.out _).mono ?_); rintro e w4 ⟨rfl, hx4⟩; have HX4 := Lib.hid hx4; clear hx4))
        go_loopw [12, 39] (fun x y wr => ∃ (t : ByteArray) (k : Nat), x = .string t ∧ y = .int .i64 (k : Int) ∧ Hid (k ≤ z ∧ t.size = 32 ∧ verifyS root line j q xs = endL root (climbL t.data.toList ((bl xs).drop k) ((sidesL j q).drop k))) ∧ Ext w2 wr) (fun _ y _ => z - (intOf y).toNat)
        case atStart =>
          have e1 : (shaS (sgn 0 ++ line)).data.toList = sha (0 :: line.data.toList) := by simp [shaS, sgn, ByteArray.data_append]
          exact ⟨shaS (sgn 0 ++ line), 0, rfl, rfl, ⟨by omega, rfl, by rw [e1]; exact HV.out⟩, HX3.out.trans HX4.out⟩
        case round =>
          obtain ⟨t, k, rfl, rfl, hk, hE⟩ := hrel
          have HE := Lib.hid hE
          by_cases hkz : k < z
          · have tk : decide (k < z) = true := by simp; omega
            have hkx : k < xs.length := by rw [HXZ.out]; exact hkz
            obtain ⟨b, off, c', hv, _, hl'⟩ := (HLN.out.ext (H4.out.2.trans hE)).some_ (by omega)
            injection hv with hv1 hv2 hv3
            subst hv1
            subst hv3
            have hp := (hl'.2 k hkx).1
            have hps := Lib.hid (hl'.2 k hkx).2
            obtain ⟨p, hpe⟩ : ∃ p, p = xs[k] := ⟨_, rfl⟩
            rw [← hpe] at hp hps
            have HPE := Lib.hid hpe
            have HKX := Lib.hid hkx
            obtain ⟨ad, rfl⟩ : ∃ ad, A2 = some ad := by
              rcases H4.out.1.src with ⟨_, _, h0⟩ | ⟨ad, _, he, hh⟩
              · have := HZ.out; rw [h0] at this; simp at this; omega
              · injection he with e1
                exact ⟨ad, e1⟩
            have hb : ∀ wk, Ext wr wk → ∀ m u, (tbvals (sidesL j q))[m]? = some u → wk.cell? (ad.add m) = some u := fun wk hwk => by
              rcases (H4.out.1.ext (hE.trans hwk)).src with ⟨_, h0, _⟩ | ⟨ad2, _, he, hh⟩
              · cases h0
              · injection he with e1
                injection e1 with e2
                subst e2
                exact hh
            clear hE hl' hpe hv2
            have hks : k < (sidesL j q).length := by rw [← HZ.out]; exact hkz
            obtain ⟨sd, hsd⟩ : ∃ sd, sd = (sidesL j q)[k] := ⟨_, rfl⟩
            have HBK : Hid (∀ wk, Ext wr wk → wk.cell? (ad.add k) = some (.bool sd)) := fun wk hwk => hb wk hwk k _ (by unfold tbvals; rw [List.getElem?_map, List.getElem?_eq_getElem hks, hsd]; rfl)
            have HST : Hid (verifyS root line j q xs = endL root (match stepL t.data.toList p.data.toList sd with | some z => climbL z ((bl xs).drop (k + 1)) ((sidesL j q).drop (k + 1)) | none => none)) := by
              unfold Hid
              have hkb : k < (bl xs).length := by rw [bl_len]; exact HKX.out
              rw [hk.out.2.2, climb_at hkb hks, hsd, HPE.out]
              simp only [bl, List.getElem_map]
              all_goals (cases stepL t.data.toList xs[k].data.toList (sidesL j q)[k] <;> rfl)
            have HSD := Lib.hid hsd
            clear hb hsd
            have hk200 : (k : Int) ≤ 200 := by omega
            have HKZ := Lib.hid hkz
            clear hkz
            cases hun : unhex p.data.toList with
            | none =>
              have HF : Hid (verifyS root line j q xs = false) := by
                unfold Hid
                rw [HST.out, stepL_none hun]
                rfl
              have CU : Hid (∀ wk, Calls Try.prog 34 #[.string p] wk fun e w' => e = .returned (.tuple #[.string ⟨#[]⟩, .int .i64 16]) ∧ Ext wk w') := fun wk => (runhex_any p wk (by have := hps.out; omega)).mono fun _ _ ⟨h1, h2⟩ => ⟨by rw [h1]; unfold unhexV; rw [hun], h2⟩
              clear hun
              go_wp2_with (go_at_call 34; (with_reducible refine (CU.out _).mono ?_); rintro e w5 ⟨rfl, hx5⟩; have HX5 := Lib.hid hx5; clear hx5)
              go_ret
              exact ⟨by rw [HF.out]; rfl, H4.out.2.trans (HE.out.trans HX5.out)⟩
            | some o =>
              have CU : Hid (∀ wk, Calls Try.prog 34 #[.string p] wk fun e w' => e = .returned (.tuple #[.string (bs o), .int .i64 0]) ∧ Ext wk w') := fun wk => (runhex_any p wk (by have := hps.out; omega)).mono fun _ _ ⟨h1, h2⟩ => ⟨by rw [h1]; unfold unhexV; rw [hun]; rfl, h2⟩
              by_cases ho32 : o.length = 32
              · have hz1 : (bs o).size = 32 := by rw [bs_size]; exact ho32
                have hz2 : (((bs o).size : Int) == 32) = true := by simp; omega
                have hz3 : (((bs o).size : Int) != 32) = false := by simp; omega
                have ht32 : t.size = 32 := hk.out.2.1
                have hs1 : (sgn 1).size = 1 := rfl
                cases sd with
                | true =>
                  obtain ⟨u, hu⟩ : ∃ u, u = shaS (sgn 1 ++ t ++ (bs o)) := ⟨_, rfl⟩
                  have CS2 : Hid (∀ wk, Calls Try.prog 36 #[.string (sgn 1 ++ t ++ (bs o))] wk fun e w' => e = .returned (.string u) ∧ Ext wk w') := fun wk => (rsum_any _ wk (by rw [ByteArray.size_append, ByteArray.size_append]; omega)).mono fun _ _ ⟨h1, h2⟩ => ⟨by rw [h1, hu], h2⟩
                  have HNEXT : Hid (u.size = 32 ∧ verifyS root line j q xs = endL root (climbL u.data.toList ((bl xs).drop (k + 1)) ((sidesL j q).drop (k + 1)))) := by
                    refine ⟨by rw [hu]; rfl, ?_⟩
                    have e1 : u.data.toList = sha (1 :: (t.data.toList ++ o)) := by rw [hu]; simp [shaS, sgn, bs, ByteArray.data_append]
                    rw [HST.out, stepL_some hun ho32, e1]
                    rfl
                  have hb1 : (9223372036854775807 < (sgn 1).size + (t).size) = False := eq_false (by omega)
                  have hb2 : (9223372036854775807 < (sgn 1).size + (t).size + ((bs o)).size) = False := eq_false (by omega)
                  clear hun hu hz1 ho32 ht32 hs1
                  go_wp2_with (first
                    | (go_at_call 34; (with_reducible refine (CU.out _).mono ?_); rintro e w5 ⟨rfl, hx5⟩; have hbk5 := HBK.out _ hx5; have HX5 := Lib.hid hx5; clear hx5)
                    | (go_at_call 93; (with_reducible refine (chr_at 1 1 rfl _).mono ?_); rintro e w6 ⟨rfl, hx6⟩; have HX6 := Lib.hid hx6; clear hx6)
                    | (go_at_call 36; (with_reducible refine (CS2.out _).mono ?_); rintro e w7 ⟨rfl, hx7⟩; have HX7 := Lib.hid hx7; clear hx7))
                  go_roundw
                  case rel => exact ⟨u, k + 1, rfl, by go_num, ⟨by have := HKZ.out; omega, HNEXT.out⟩, HE.out.trans (HX5.out.trans (HX6.out.trans HX7.out))⟩
                  case measure => have := HKZ.out; simp [intOf]; omega
                | false =>
                  obtain ⟨u, hu⟩ : ∃ u, u = shaS (sgn 1 ++ (bs o) ++ t) := ⟨_, rfl⟩
                  have CS2 : Hid (∀ wk, Calls Try.prog 36 #[.string (sgn 1 ++ (bs o) ++ t)] wk fun e w' => e = .returned (.string u) ∧ Ext wk w') := fun wk => (rsum_any _ wk (by rw [ByteArray.size_append, ByteArray.size_append]; omega)).mono fun _ _ ⟨h1, h2⟩ => ⟨by rw [h1, hu], h2⟩
                  have HNEXT : Hid (u.size = 32 ∧ verifyS root line j q xs = endL root (climbL u.data.toList ((bl xs).drop (k + 1)) ((sidesL j q).drop (k + 1)))) := by
                    refine ⟨by rw [hu]; rfl, ?_⟩
                    have e1 : u.data.toList = sha (1 :: (o ++ t.data.toList)) := by rw [hu]; simp [shaS, sgn, bs, ByteArray.data_append]
                    rw [HST.out, stepL_some hun ho32, e1]
                    rfl
                  have hb1 : (9223372036854775807 < (sgn 1).size + ((bs o)).size) = False := eq_false (by omega)
                  have hb2 : (9223372036854775807 < (sgn 1).size + ((bs o)).size + (t).size) = False := eq_false (by omega)
                  clear hun hu hz1 ho32 ht32 hs1
                  go_wp2_with (first
                    | (go_at_call 34; (with_reducible refine (CU.out _).mono ?_); rintro e w5 ⟨rfl, hx5⟩; have hbk5 := HBK.out _ hx5; have HX5 := Lib.hid hx5; clear hx5)
                    | (go_at_call 93; (with_reducible refine (chr_at 1 1 rfl _).mono ?_); rintro e w6 ⟨rfl, hx6⟩; have HX6 := Lib.hid hx6; clear hx6)
                    | (go_at_call 36; (with_reducible refine (CS2.out _).mono ?_); rintro e w7 ⟨rfl, hx7⟩; have HX7 := Lib.hid hx7; clear hx7))
                  go_roundw
                  case rel => exact ⟨u, k + 1, rfl, by go_num, ⟨by have := HKZ.out; omega, HNEXT.out⟩, HE.out.trans (HX5.out.trans (HX6.out.trans HX7.out))⟩
                  case measure => have := HKZ.out; simp [intOf]; omega
              · have HF : Hid (verifyS root line j q xs = false) := by
                  unfold Hid
                  rw [HST.out, stepL_len hun ho32]
                  rfl
                have hz1 : (bs o).size ≠ 32 := by rw [bs_size]; exact ho32
                have hz2 : (((bs o).size : Int) == 32) = false := by simp; omega
                have hz3 : (((bs o).size : Int) != 32) = true := by simp; omega
                clear hun ho32 hz1
                go_wp2_with (go_at_call 34; (with_reducible refine (CU.out _).mono ?_); rintro e w5 ⟨rfl, hx5⟩; have HX5 := Lib.hid hx5; clear hx5)
                go_ret
                exact ⟨by rw [HF.out]; rfl, H4.out.2.trans (HE.out.trans HX5.out)⟩
          · have tk : decide (k < z) = false := by simp; omega
            have HEND : Hid (verifyS root line j q xs = (root.toList == (bs (hex t.data.toList)).toList)) := by
              unfold Hid
              have e2 : (bl xs).length ≤ k := by have := HXZ.out; rw [bl_len]; omega
              rw [hk.out.2.2, climb_end e2]
              show (hex t.data.toList == root.data.toList) = _
              have e3 : (bs (hex t.data.toList)).data.toList = hex t.data.toList := by simp [bs]
              rw [ByteArray.toList_eq, ByteArray.toList_eq, e3]
              exact BEq.comm
            have CH : Hid (∀ wk, Calls Try.prog 40 #[.string t] wk fun e w' => e = .returned (.string (bs (hex t.data.toList))) ∧ Ext wk w') := fun wk => rhex_any t wk (by have := hk.out; omega)
            clear hE hkz
            go_wp2_with (go_at_call 40; (with_reducible refine (CH.out _).mono ?_); rintro e w5 ⟨rfl, hx5⟩; have HX5 := Lib.hid hx5; clear hx5)
            go_ret
            exact ⟨by rw [HEND.out]; rfl, H4.out.2.trans (HE.out.trans HX5.out)⟩
      · have HV := Lib.hid (verifyS_len (root := root) (line := line) (i := j) (xs := xs) (n := q) (by omega) (by omega) (by omega) h5)
        have hb : ((xs.length : Int) != ((sidesL j q).length : Int)) = true := by simp; omega
        have hb2 : ((xs.length : Int) == ((sidesL j q).length : Int)) = false := by simp; omega
        obtain ⟨A, c, rfl, _⟩ := h
        clear h1 hl h3 h5
        go_enter Try.func55, Try.ntmps55
        go_wp2_with (first
          | (go_at_call 59; (with_reducible refine (outside_any (q : Int) 1 200 _).mono ?_); rintro e w' ⟨he, rfl⟩; rw [ho] at he; subst he)
          | (go_at_call 59; (with_reducible refine (outside_any (j : Int) 0 ((q : Int) - 1) _).mono ?_); rintro e w' ⟨he, rfl⟩; rw [ho2] at he; subst he)
          | (go_at_call 114; (with_reducible refine (C _).out.mono ?_); rintro e w2 ⟨A2, c2, rfl, h4⟩; have H4 := Lib.hid h4; clear h4))
        go_ret
        exact ⟨by rw [HV.out]; rfl, H4.out.2⟩
end Go.Proofs.Ytpbbohinhbboaaa.Sx
namespace Go.Proofs.Ytpbbohinhbboaaa.Sx
open Go Go.RowKit

theorem bt_rev {zs : List Bool} {l k r : Nat} (h : l = zs.length) (hk : k < l) (hr : r = l - 1 - k) (h2 : k < zs.reverse.length) : (tbvals zs)[r]? = some (.bool zs.reverse[k]) := by
  unfold tbvals
  have hrz : r < zs.length := by omega
  rw [List.getElem?_map, List.getElem?_eq_getElem hrz, List.getElem_reverse]
  simp only [Option.map_some, tbval]
  congr 2
  have : zs.length - 1 - k = r := by omega
  simp only [this]
set_option maxRecDepth 100000 in
set_option maxHeartbeats 8000000 in
theorem verify_any (root line : ByteArray) (i n : Int) (v : Value) (xs : List ByteArray) (w : World) (h : Lines w v xs) (hl : line.size ≤ 1048576) :
    Calls Try.prog 54 #[.string root, .string line, .int .i64 i, .int .i64 n, v] w fun e w' => e = .returned (.bool (verifyS root line i n xs)) ∧ Ext w w' := by
  by_cases h1 : n < 1 ∨ 200 < n ∨ i < 0 ∨ n ≤ i
  · have HV := Lib.hid (verifyS_out (root := root) (line := line) (i := i) (xs := xs) (n := n) h1)
    obtain ⟨A, c, rfl, _⟩ := h
    by_cases a1 : n < 1
    · have t1 : decide (n < 1) = true := by simp; omega
      clear h1 hl a1
      go_enter Try.func54, Try.ntmps54
      go_wp2
      go_ret
      exact ⟨by rw [HV.out]; rfl, Below.refl _ _⟩
    · by_cases a2 : 200 < n
      · have t1 : decide (n < 1) = false := by simp; omega
        have t2 : decide (200 < n) = true := by simp; omega
        clear h1 hl a1 a2
        go_enter Try.func54, Try.ntmps54
        go_wp2
        go_ret
        exact ⟨by rw [HV.out]; rfl, Below.refl _ _⟩
      · have t1 : decide (n < 1) = false := by simp; omega
        have t2 : decide (200 < n) = false := by simp; omega
        by_cases a3 : i < 0
        · have t3 : decide (i < 0) = true := by simp; omega
          clear h1 hl a1 a2 a3
          go_enter Try.func54, Try.ntmps54
          go_wp2
          go_ret
          exact ⟨by rw [HV.out]; rfl, Below.refl _ _⟩
        · have t3 : decide (i < 0) = false := by simp; omega
          have t4 : decide (n ≤ i) = true := by simp; omega
          clear h1 hl a1 a2 a3
          go_enter Try.func54, Try.ntmps54
          go_wp2
          go_ret
          exact ⟨by rw [HV.out]; rfl, Below.refl _ _⟩
  · obtain ⟨j, rfl⟩ : ∃ j : Nat, i = (j : Int) := ⟨i.toNat, by omega⟩
    obtain ⟨q, rfl⟩ : ∃ q : Nat, n = (q : Int) := ⟨n.toNat, by omega⟩
    have t1 : decide ((q : Int) < 1) = false := by simp; omega
    have t2 : decide (200 < (q : Int)) = false := by simp; omega
    have t3 : decide ((j : Int) < 0) = false := by simp
    have t4 : decide (q ≤ j) = false := by simp; omega
    have HJQ : Hid (j < q ∧ q ≤ 200) := ⟨by omega, by omega⟩
    obtain ⟨z, hz⟩ : ∃ z, z = xs.length := ⟨_, rfl⟩
    have HXZ := Lib.hid hz
    have HLN := Lib.hid h
    have HLS := Lib.hid hl
    obtain ⟨A, c, rfl, _⟩ := h
    rw [← hz]
    rw [← hz] at HLN
    clear h1 hz hl
    go_enter Try.func54, Try.ntmps54
    go_wp2_with fail
    go_loopw [2, 3, 11] (fun x y v wr => ∃ (a m l : Nat) (B : Option Addr) (d : Nat) (zs : List Bool), x = .int .i64 (a : Int) ∧ y = .int .i64 (m : Int) ∧ m ≤ 200 ∧ v = .slice B l d ∧ Hid (l = zs.length ∧ a < m ∧ sidesL j q = sidesL a m ++ zs.reverse) ∧ Hid (tAcc w wr (.slice B l d) zs)) (fun _ y _ _ => (intOf y).toNat)
    case atStart => exact ⟨j, q, 0, none, 0, [], rfl, rfl, HJQ.out.2, rfl, ⟨rfl, HJQ.out.1, by simp⟩, tAcc.nil (Below.refl _ _)⟩
    case round =>
      obtain ⟨a, m, l, B, d, zs, rfl, rfl, hm2, rfl, hI, hA⟩ := hrel
      obtain ⟨wo, rfl⟩ : ∃ wo : World, wo = wr := ⟨_, rfl⟩
      have hl200 : l ≤ 200 := by
        have e1 := congrArg List.length hI.out.2.2
        rw [List.length_append, List.length_reverse, ← hI.out.1] at e1
        have e2 := sidesL_len q j q (Nat.le_refl _)
        have := HJQ.out
        omega
      by_cases hone : m = 1
      · have HZS : Hid (sidesL j q = zs.reverse) := by
          unfold Hid
          rw [hI.out.2.2, sidesL_few (by omega), List.nil_append]
        have HL : Hid (l = zs.length ∧ l = (sidesL j q).length) := ⟨hI.out.1, by rw [HZS.out, List.length_reverse]; exact hI.out.1⟩
        subst hone
        by_cases h5 : l = z
        · subst h5
          have HV : Hid (verifyS root line j q xs = endL root (climbL (sha (0 :: line.data.toList)) ((bl xs).drop 0) ((sidesL j q).drop 0))) := verifyS_in (root := root) (line := line) (i := j) (xs := xs) (n := q) (by have := HJQ.out; omega) HJQ.out.2 HJQ.out.1 (by rw [← HXZ.out]; exact HL.out.2)
          obtain ⟨s0, hs0⟩ : ∃ s, s = shaS ((⟨#[0]⟩ : ByteArray) ++ line) := ⟨_, rfl⟩
          have CS : Hid (∀ wk, Calls Try.prog 35 #[.string ((⟨#[0]⟩ : ByteArray) ++ line)] wk fun e w' => e = .returned (.string s0) ∧ Ext wk w') := fun wk => (sum_any _ wk (by rw [ByteArray.size_append]; have : (⟨#[0]⟩ : ByteArray).size = 1 := rfl; have := HLS.out; omega)).mono fun _ _ ⟨h1, h2⟩ => ⟨by rw [h1, hs0]; rfl, h2⟩
          have HS0 : Hid (s0.size = 32 ∧ s0.data.toList = sha (0 :: line.data.toList)) := ⟨by rw [hs0]; rfl, by rw [hs0]; simp [shaS, ByteArray.data_append]⟩
          have hbig : line.size ≤ 1048576 := HLS.out
          clear hs0
          go_wp2_with (go_at_call 35; (with_reducible refine (CS.out _).mono ?_); rintro e w4 ⟨rfl, hx4⟩; have HX4 := Lib.hid hx4; clear hx4)
          go_loopw [13, 63] (fun x y wr => ∃ (t : ByteArray) (k : Nat), x = .string t ∧ y = .int .i64 (k : Int) ∧ Hid (k ≤ l ∧ t.size = 32 ∧ verifyS root line j q xs = endL root (climbL t.data.toList ((bl xs).drop k) ((sidesL j q).drop k))) ∧ Ext wo wr) (fun _ y _ => l - (intOf y).toNat)
          case atStart => exact ⟨s0, 0, rfl, rfl, ⟨by omega, HS0.out.1, by rw [HS0.out.2]; exact HV.out⟩, HX4.out⟩
          case round =>
            obtain ⟨t, k, rfl, rfl, hk, hE⟩ := hrel
            have HE := Lib.hid hE
            by_cases hkz : k < l
            · have tk : decide (k < l) = true := by simp; omega
              have hkx : k < xs.length := by rw [← HXZ.out]; exact hkz
              obtain ⟨b, off, c', hv, _, hl'⟩ := (HLN.out.ext (hA.out.2.trans hE)).some_ (by omega)
              injection hv with hv1 hv2 hv3
              subst hv1
              subst hv3
              have hp := (hl'.2 k hkx).1
              have hps := Lib.hid (hl'.2 k hkx).2
              obtain ⟨p, hpe⟩ : ∃ p, p = xs[k] := ⟨_, rfl⟩
              rw [← hpe] at hp hps
              have HPE := Lib.hid hpe
              have HKX := Lib.hid hkx
              obtain ⟨ad, rfl⟩ : ∃ ad, B = some ad := by
                rcases hA.out.src with ⟨_, _, h0⟩ | ⟨ad, _, he, hh⟩
                · have := hI.out.1; rw [h0] at this; simp at this; omega
                · injection he with e1
                  exact ⟨ad, e1⟩
              have hb : ∀ wk, Ext wr wk → ∀ m u, (tbvals zs)[m]? = some u → wk.cell? (ad.add m) = some u := fun wk hwk => by
                rcases (hA.out.ext (hE.trans hwk)).src with ⟨_, h0, _⟩ | ⟨ad2, _, he, hh⟩
                · cases h0
                · injection he with e1
                  injection e1 with e2
                  subst e2
                  exact hh
              clear hE hl' hpe hv2
              have hks : k < (sidesL j q).length := by rw [← HL.out.2]; exact hkz
              obtain ⟨sd, hsd⟩ : ∃ sd, sd = (sidesL j q)[k] := ⟨_, rfl⟩
              obtain ⟨r, hr⟩ : ∃ r, r = l - 1 - k := ⟨_, rfl⟩
              have HBK : Hid (∀ wk, Ext wr wk → wk.cell? (ad.add r) = some (.bool sd)) := fun wk hwk => hb wk hwk r _ (by
                rw [bt_rev HL.out.1 hkz hr (by rw [← HZS.out]; exact hks), hsd]
                congr 2
                simp only [HZS.out])
              have HST : Hid (verifyS root line j q xs = endL root (match stepL t.data.toList p.data.toList sd with | some z => climbL z ((bl xs).drop (k + 1)) ((sidesL j q).drop (k + 1)) | none => none)) := by
                unfold Hid
                have hkb : k < (bl xs).length := by rw [bl_len]; exact HKX.out
                rw [hk.out.2.2, climb_at hkb hks, hsd, HPE.out]
                simp only [bl, List.getElem_map]
                all_goals (cases stepL t.data.toList xs[k].data.toList (sidesL j q)[k] <;> rfl)
              have HSD := Lib.hid hsd
              have hrl : r < l := by omega
              have hri : (l : Int) - 1 - (k : Int) = (r : Int) := by omega
              have hk200 : (k : Int) ≤ 200 := by omega
              have hl1 : (1 : Int) ≤ (l : Int) := by omega
              have hkl : (k : Int) ≤ (l : Int) - 1 := by omega
              have hl2 : (l : Int) ≤ 200 := by omega
              have HR := Lib.hid hr
              clear hb hsd hr
              have HKZ := Lib.hid hkz
              clear hkz
              cases hun : unhex p.data.toList with
              | none =>
                have HF : Hid (verifyS root line j q xs = false) := by
                  unfold Hid
                  rw [HST.out, stepL_none hun]
                  rfl
                have CU : Hid (∀ wk, Calls Try.prog 33 #[.string p] wk fun e w' => e = .returned (.tuple #[.string ⟨#[]⟩, .int .i64 16]) ∧ Ext wk w') := fun wk => (unhex_any p wk (by have := hps.out; omega)).mono fun _ _ ⟨h1, h2⟩ => ⟨by rw [h1]; unfold unhexV; rw [hun], h2⟩
                clear hun hri
                go_wp2_with (go_at_call 33; (with_reducible refine (CU.out _).mono ?_); rintro e w5 ⟨rfl, hx5⟩; have HX5 := Lib.hid hx5; clear hx5)
                go_ret
                exact ⟨by rw [HF.out]; rfl, hA.out.2.trans (HE.out.trans HX5.out)⟩
              | some o =>
                have CU : Hid (∀ wk, Calls Try.prog 33 #[.string p] wk fun e w' => e = .returned (.tuple #[.string (bs o), .int .i64 0]) ∧ Ext wk w') := fun wk => (unhex_any p wk (by have := hps.out; omega)).mono fun _ _ ⟨h1, h2⟩ => ⟨by rw [h1]; unfold unhexV; rw [hun]; rfl, h2⟩
                by_cases ho32 : o.length = 32
                · have hz1 : (bs o).size = 32 := by rw [bs_size]; exact ho32
                  have hz2 : (((bs o).size : Int) == 32) = true := by simp; omega
                  have hz3 : (((bs o).size : Int) != 32) = false := by simp; omega
                  have ht32 : t.size = 32 := hk.out.2.1
                  have hs1 : (⟨#[1]⟩ : ByteArray).size = 1 := rfl
                  cases sd with
                  | true =>
                    obtain ⟨u, hu⟩ : ∃ u, u = shaS ((⟨#[1]⟩ : ByteArray) ++ t ++ (bs o)) := ⟨_, rfl⟩
                    have CS2 : Hid (∀ wk, Calls Try.prog 35 #[.string ((⟨#[1]⟩ : ByteArray) ++ t ++ (bs o))] wk fun e w' => e = .returned (.string u) ∧ Ext wk w') := fun wk => (sum_any _ wk (by rw [ByteArray.size_append, ByteArray.size_append]; omega)).mono fun _ _ ⟨h1, h2⟩ => ⟨by rw [h1, hu]; rfl, h2⟩
                    have HNEXT : Hid (u.size = 32 ∧ verifyS root line j q xs = endL root (climbL u.data.toList ((bl xs).drop (k + 1)) ((sidesL j q).drop (k + 1)))) := by
                      refine ⟨by rw [hu]; rfl, ?_⟩
                      have e1 : u.data.toList = sha (1 :: (t.data.toList ++ o)) := by rw [hu]; simp [shaS, bs, ByteArray.data_append]
                      rw [HST.out, stepL_some hun ho32, e1]
                      rfl
                    clear hun hu ho32 hs1
                    go_wp2_with (first
                      | (go_at_call 33; (with_reducible refine (CU.out _).mono ?_); rintro e w5 ⟨rfl, hx5⟩; have hbk5 := HBK.out _ hx5; have HX5 := Lib.hid hx5; clear hx5)
                      | (go_at_call 35; (with_reducible refine (CS2.out _).mono ?_); rintro e w7 ⟨rfl, hx7⟩; have HX7 := Lib.hid hx7; clear hx7))
                    go_roundw
                    case rel => exact ⟨u, k + 1, rfl, by go_num, ⟨by have := HKZ.out; omega, HNEXT.out⟩, HE.out.trans (HX5.out.trans HX7.out)⟩
                    case measure => have := HKZ.out; simp [intOf]; omega
                  | false =>
                    obtain ⟨u, hu⟩ : ∃ u, u = shaS ((⟨#[1]⟩ : ByteArray) ++ (bs o) ++ t) := ⟨_, rfl⟩
                    have CS2 : Hid (∀ wk, Calls Try.prog 35 #[.string ((⟨#[1]⟩ : ByteArray) ++ (bs o) ++ t)] wk fun e w' => e = .returned (.string u) ∧ Ext wk w') := fun wk => (sum_any _ wk (by rw [ByteArray.size_append, ByteArray.size_append]; omega)).mono fun _ _ ⟨h1, h2⟩ => ⟨by rw [h1, hu]; rfl, h2⟩
                    have HNEXT : Hid (u.size = 32 ∧ verifyS root line j q xs = endL root (climbL u.data.toList ((bl xs).drop (k + 1)) ((sidesL j q).drop (k + 1)))) := by
                      refine ⟨by rw [hu]; rfl, ?_⟩
                      have e1 : u.data.toList = sha (1 :: (o ++ t.data.toList)) := by rw [hu]; simp [shaS, bs, ByteArray.data_append]
                      rw [HST.out, stepL_some hun ho32, e1]
                      rfl
                    clear hun hu ho32 hs1
                    go_wp2_with (first
                      | (go_at_call 33; (with_reducible refine (CU.out _).mono ?_); rintro e w5 ⟨rfl, hx5⟩; have hbk5 := HBK.out _ hx5; have HX5 := Lib.hid hx5; clear hx5)
                      | (go_at_call 35; (with_reducible refine (CS2.out _).mono ?_); rintro e w7 ⟨rfl, hx7⟩; have HX7 := Lib.hid hx7; clear hx7))
                    go_roundw
                    case rel => exact ⟨u, k + 1, rfl, by go_num, ⟨by have := HKZ.out; omega, HNEXT.out⟩, HE.out.trans (HX5.out.trans HX7.out)⟩
                    case measure => have := HKZ.out; simp [intOf]; omega
                · have HF : Hid (verifyS root line j q xs = false) := by
                    unfold Hid
                    rw [HST.out, stepL_len hun ho32]
                    rfl
                  have hz1 : (bs o).size ≠ 32 := by rw [bs_size]; exact ho32
                  have hz2 : (((bs o).size : Int) == 32) = false := by simp; omega
                  have hz3 : (((bs o).size : Int) != 32) = true := by simp; omega
                  clear hun ho32 hz1 hri
                  go_wp2_with (go_at_call 33; (with_reducible refine (CU.out _).mono ?_); rintro e w5 ⟨rfl, hx5⟩; have HX5 := Lib.hid hx5; clear hx5)
                  go_ret
                  exact ⟨by rw [HF.out]; rfl, hA.out.2.trans (HE.out.trans HX5.out)⟩
            · have tk : decide (k < l) = false := by simp; omega
              have HEND : Hid (verifyS root line j q xs = ((bs (hex t.data.toList)).toList == root.toList)) := by
                unfold Hid
                have e2 : (bl xs).length ≤ k := by have := HXZ.out; rw [bl_len]; omega
                rw [hk.out.2.2, climb_end e2]
                show (hex t.data.toList == root.data.toList) = _
                have e3 : (bs (hex t.data.toList)).data.toList = hex t.data.toList := by simp [bs]
                rw [ByteArray.toList_eq, ByteArray.toList_eq, e3]
              have CH : Hid (∀ wk, Calls Try.prog 39 #[.string t] wk fun e w' => e = .returned (.string (bs (hex t.data.toList))) ∧ Ext wk w') := fun wk => hex_any t wk (by have := hk.out; omega)
              clear hE hkz
              go_wp2_with (go_at_call 39; (with_reducible refine (CH.out _).mono ?_); rintro e w5 ⟨rfl, hx5⟩; have HX5 := Lib.hid hx5; clear hx5)
              go_ret
              exact ⟨by rw [HEND.out]; rfl, hA.out.2.trans (HE.out.trans HX5.out)⟩
        · have HV := Lib.hid (verifyS_len (root := root) (line := line) (i := j) (xs := xs) (n := q) (by have := HJQ.out; omega) HJQ.out.2 HJQ.out.1 (by rw [← HXZ.out, ← HL.out.2]; exact fun e => h5 e.symm))
          have hb : ((l : Int) != (z : Int)) = true := by simp; omega
          have hb2 : ((l : Int) == (z : Int)) = false := by simp; omega
          clear h5
          go_wp2_with fail
          go_ret
          exact ⟨by rw [HV.out]; rfl, hA.out.2⟩
      · have h2 : 2 ≤ m := by have := hI.out; omega
        obtain ⟨k, hk⟩ : ∃ k, k = hp m := ⟨_, rfl⟩
        obtain ⟨hk1, hk2, hk3⟩ := hp_lt h2 hm2
        rw [← hk] at hk1 hk2 hk3
        have ht1 : decide (1 < (m : Int)) = true := by simp; omega
        have HN2 := Lib.hid (And.intro h2 hm2)
        have HK := Lib.hid hk
        have HK3 := Lib.hid (And.intro hk1 (And.intro hk2 hk3))
        have HMANY := Lib.hid (sidesL_many (i := a) h2 hm2)
        rw [← hk] at HMANY
        have HLZ := Lib.hid hI.out.1
        have hm200 : (m : Int) ≤ 200 := by omega
        have ha200 : (a : Int) ≤ 200 := by have := hI.out.2.1; omega
        have hkm : (k : Int) < (m : Int) := by omega
        clear hk hone
        by_cases hlt : a < k
        · have tl : decide (a < k) = true := by simp; omega
          have HS : Hid (sidesL a m = sidesL a k ++ [true]) := by unfold Hid; rw [HMANY.out, if_pos hlt]
          have HLT := Lib.hid hlt
          clear hlt hk1 hk2 hk3 h2
          go_wp2_with (first
            | (go_at_call 112; (with_reducible refine (half_any m _ HN2.out.1 HN2.out.2).mono ?_); rintro e w1 ⟨rfl, rfl⟩; rw [← HK.out])
            | (at_builtin; refine tappend_acc rfl _ _ (by rfl) l 1 w _ _ _ zs [true] (by rfl) (by rfl) (hA.out.alloc _) (tSrcB.of_block (ys := [true]) (heap_new rfl)) HLZ.out.symm rfl (by omega) ?_; intro A3 c3 w3 h3; have H3 := Lib.hid h3; clear h3))
          go_roundw
          case rel => exact ⟨a, k, l + 1, A3, c3, zs ++ [true], rfl, rfl, by have := HK3.out; omega, rfl, ⟨by rw [List.length_append, ← HLZ.out]; rfl, HLT.out, by rw [hI.out.2.2, HS.out]; simp⟩, H3.out⟩
          case measure => have := HK3.out; simp [intOf]; omega
        · have tl : decide (a < k) = false := by simp; omega
          have HS : Hid (sidesL a m = sidesL (a - k) (m - k) ++ [false]) := by unfold Hid; rw [HMANY.out, if_neg hlt]
          have hka : (k : Int) ≤ (a : Int) := by omega
          have HLT := Lib.hid hlt
          clear hlt hk1 hk2 hk3 h2
          go_wp2_with (first
            | (go_at_call 112; (with_reducible refine (half_any m _ HN2.out.1 HN2.out.2).mono ?_); rintro e w1 ⟨rfl, rfl⟩; rw [← HK.out])
            | (at_builtin; refine tappend_acc rfl _ _ (by rfl) l 1 w _ _ _ zs [false] (by rfl) (by rfl) (hA.out.alloc _) (tSrcB.of_block (ys := [false]) (heap_new rfl)) HLZ.out.symm rfl (by omega) ?_; intro A3 c3 w3 h3; have H3 := Lib.hid h3; clear h3))
          go_roundw
          case rel => exact ⟨a - k, m - k, l + 1, A3, c3, zs ++ [false], (by have e1 : ((a - k : Nat) : Int) = (a : Int) - (k : Int) := (by omega); rw [e1]), (by have e1 : ((m - k : Nat) : Int) = (m : Int) - (k : Int) := (by omega); rw [e1]), by omega, rfl, ⟨by rw [List.length_append, ← HLZ.out]; rfl, by have := hI.out.2.1; omega, by rw [hI.out.2.2, HS.out]; simp⟩, H3.out⟩
          case measure => have := HK3.out; simp [intOf]; omega
end Go.Proofs.Ytpbbohinhbboaaa.Sx
namespace Go.Proofs.Ytpbbohinhbboaaa.Sx
open Go Go.RowKit

theorem proofS_sizes : ∀ (m : Nat) (xs : List ByteArray) (i : Nat), xs.length ≤ m → ∀ x ∈ proofS xs i, x.size ≤ 64
  | 0, xs, i, h => by rw [proofS_few (by omega)]; simp
  | m + 1, xs, i, h => by
    by_cases h2 : 2 ≤ xs.length ∧ xs.length ≤ 200
    · have hh := hp_lt h2.1 h2.2
      rw [proofS_many h2.1 h2.2]
      intro x hx
      split at hx
      · rcases List.mem_append.1 hx with hx | hx
        · exact proofS_sizes m (xs.take (hp xs.length)) i (by rw [List.length_take]; omega) x hx
        · rw [List.mem_singleton.1 hx, hexS_size, rootS_size]; omega
      · rcases List.mem_append.1 hx with hx | hx
        · exact proofS_sizes m (xs.drop (hp xs.length)) (i - hp xs.length) (by rw [List.length_drop]; omega) x hx
        · rw [List.mem_singleton.1 hx, hexS_size, rootS_size]; omega
    · unfold proofS
      rw [proofL, dif_neg (by rw [bl_len]; exact h2)]
      simp
theorem pfL_small (xs : List ByteArray) (i : Int) (h : xs.length ≤ 1048576) : (pfL xs i).length ≤ 1099511627776 ∧ ∀ x ∈ pfL xs i, x.size ≤ 1048576 := by
  unfold pfL
  split
  · simp
  · split
    · simp
    · have h1 := proofS_len xs.length xs i.toNat (Nat.le_refl _)
      refine ⟨by omega, fun x hx => ?_⟩
      have := proofS_sizes xs.length xs i.toNat (Nat.le_refl _) x hx
      omega
theorem rootV_ways (xs : List ByteArray) : ∃ (a : ByteArray) (e : Int), rootV xs = .tuple #[.string a, .int .i64 e] := by
  unfold rootV
  split
  · exact ⟨_, _, rfl⟩
  · exact ⟨_, _, rfl⟩
set_option maxRecDepth 100000 in
set_option maxHeartbeats 4000000 in
theorem auditProofs_walk (v1 v2 : Value) (xs ps : List ByteArray) (i n : Int) (root line : ByteArray) (w : World) (h1 : Lines w v1 xs) (h2 : Lines w v2 ps) (hx : xs.length ≤ 1048576) (hl : line.size ≤ 1048576) :
    Calls Try.prog 10 #[v1, .int .i64 i, .string root, .string line, .int .i64 n, v2] w fun e w' => e = .returned (.bool true) ∧ Ext w w' := by
  obtain ⟨a, er, hae⟩ := rootV_ways xs
  obtain ⟨b, hb⟩ : ∃ b, b = verifyS root line i n ps := ⟨_, rfl⟩
  obtain ⟨zs, hzs⟩ : ∃ z, z = pfL xs i := ⟨_, rfl⟩
  obtain ⟨pe, hpe⟩ : ∃ z, z = pfE xs i := ⟨_, rfl⟩
  have HS : Hid (zs.length ≤ 1099511627776 ∧ ∀ x ∈ zs, x.size ≤ 1048576) := by rw [hzs]; exact pfL_small xs i hx
  have C1 : Hid (∀ wk, Ext w wk → Calls Try.prog 49 #[v1] wk fun e w' => e = .returned (.tuple #[.string a, .int .i64 er]) ∧ Ext wk w') := fun wk hw => (root_lines v1 xs wk (h1.ext hw)).mono fun _ _ ⟨a1, a2⟩ => ⟨by rw [a1, hae], a2⟩
  have C2 : Hid (∀ wk, Ext w wk → Calls Try.prog 50 #[v1] wk fun e w' => e = .returned (.tuple #[.string a, .int .i64 er]) ∧ Ext wk w') := fun wk hw => (rroot_lines v1 xs wk (h1.ext hw)).mono fun _ _ ⟨a1, a2⟩ => ⟨by rw [a1, hae], a2⟩
  have C3 : Hid (∀ wk, Ext w wk → Calls Try.prog 51 #[v1, .int .i64 i] wk (PrPost wk zs pe)) := fun wk hw => by rw [hzs, hpe]; exact proof_any v1 xs i wk (h1.ext hw) hx
  have C4 : Hid (∀ wk, Ext w wk → Calls Try.prog 52 #[v1, .int .i64 i] wk (PrPost wk zs pe)) := fun wk hw => by rw [hzs, hpe]; exact rProof_any v1 xs i wk (h1.ext hw) hx
  have C5 : Hid (∀ wk, Ext w wk → Calls Try.prog 54 #[.string root, .string line, .int .i64 i, .int .i64 n, v2] wk fun e w' => e = .returned (.bool b) ∧ Ext wk w') := fun wk hw => by rw [hb]; exact verify_any root line i n v2 ps wk (h2.ext hw) hl
  have C6 : Hid (∀ wk, Ext w wk → Calls Try.prog 55 #[.string root, .string line, .int .i64 i, .int .i64 n, v2] wk fun e w' => e = .returned (.bool b) ∧ Ext wk w') := fun wk hw => by rw [hb]; exact rverify_any root line i n v2 ps wk (h2.ext hw) hl
  have t1 : (a.toList == a.toList) = true := by simp
  have t2 : (b == b) = true := by simp
  obtain ⟨A, c, rfl, _⟩ := h1
  obtain ⟨A', c', rfl, _⟩ := h2
  clear hae hb hzs hpe hx hl
  go_enter Try.func10, Try.ntmps10
  go_wp2_with (first
    | (go_at_call 49; (with_reducible refine (C1.out _ (Below.refl _ _)).mono ?_); rintro _ w1 ⟨rfl, hx1⟩; have HX1 := Lib.hid hx1; clear hx1)
    | (go_at_call 50; (with_reducible refine (C2.out _ HX1.out).mono ?_); rintro _ w2 ⟨rfl, hx2⟩; have HX2 := Lib.hid (HX1.out.trans hx2); clear hx2)
    | (go_at_call 51; (with_reducible refine (C3.out _ HX2.out).mono ?_); rintro _ w3 ⟨A3, c3, rfl, hr3, hx3⟩; have HX3 := Lib.hid (And.intro hr3 (HX2.out.trans hx3)); clear hx3 hr3)
    | (go_at_call 52; (with_reducible refine (C4.out _ HX3.out.2).mono ?_); rintro _ w4 ⟨A4, c4, rfl, hr4, hx4⟩; have HX4 := Lib.hid (And.intro (HX3.out.1.ext hx4) (And.intro hr4 (HX3.out.2.trans hx4))); clear hx4 hr4)
    | (go_at_call 53; (with_reducible refine (eq_strs (HX4.out.1.strs HS.out.1 HS.out.2) (HX4.out.2.1.strs HS.out.1 HS.out.2)).mono ?_); rintro _ w5 ⟨rfl, rfl⟩)
    | (go_at_call 54; (with_reducible refine (C5.out _ HX4.out.2.2).mono ?_); rintro _ w6 ⟨rfl, hx6⟩; have HX6 := Lib.hid (HX4.out.2.2.trans hx6); clear hx6)
    | (go_at_call 55; (with_reducible refine (C6.out _ HX6.out).mono ?_); rintro _ w7 ⟨rfl, hx7⟩; have HX7 := Lib.hid (HX6.out.trans hx7); clear hx7))
  go_ret
  exact ⟨rfl, HX7.out⟩
end Go.Proofs.Ytpbbohinhbboaaa.Sx
