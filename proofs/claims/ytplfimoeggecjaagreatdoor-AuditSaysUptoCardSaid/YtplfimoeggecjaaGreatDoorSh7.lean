/-
  The program's Hex, digit, Unhex.
-/
import Derived.Test.YtplfimoeggecjaaGreatDoorSh6
namespace Go.Proofs.YtplfimoeggecjaaGreatDoor.Sx
open Go Go.RowKit

theorem digs_at (n : Nat) (hn : n < 16) (h : n < (⟨#[48, 49, 50, 51, 52, 53, 54, 55, 56, 57, 97, 98, 99, 100, 101, 102]⟩ : ByteArray).size) : (⟨#[48, 49, 50, 51, 52, 53, 54, 55, 56, 57, 97, 98, 99, 100, 101, 102]⟩ : ByteArray)[n]'h = sign n := by
  have : n = 0 ∨ n = 1 ∨ n = 2 ∨ n = 3 ∨ n = 4 ∨ n = 5 ∨ n = 6 ∨ n = 7 ∨ n = 8 ∨ n = 9 ∨ n = 10 ∨ n = 11 ∨ n = 12 ∨ n = 13 ∨ n = 14 ∨ n = 15 := by omega
  rcases this with rfl | rfl | rfl | rfl | rfl | rfl | rfl | rfl | rfl | rfl | rfl | rfl | rfl | rfl | rfl | rfl <;> rfl
theorem digs_hi (c : UInt8) (h : ((c.toNat : Int) / 16).toNat < (⟨#[48, 49, 50, 51, 52, 53, 54, 55, 56, 57, 97, 98, 99, 100, 101, 102]⟩ : ByteArray).size) : (⟨#[48, 49, 50, 51, 52, 53, 54, 55, 56, 57, 97, 98, 99, 100, 101, 102]⟩ : ByteArray)[((c.toNat : Int) / 16).toNat]'h = sign (c.toNat / 16) := by
  have hc := c.toNat_lt
  exact digs_at (c.toNat / 16) (by omega) h
theorem and15 (c : UInt8) : bits BinOp.and IntKind.u8 (c.toNat : Int) 15 = ((c.toNat % 16 : Nat) : Int) := by
  have h : ∀ n : Fin 256, bits BinOp.and IntKind.u8 ((n.1 : Nat) : Int) 15 = ((n.1 % 16 : Nat) : Int) := by decide +kernel
  exact h ⟨c.toNat, c.toNat_lt⟩
theorem digs_lo (c : UInt8) (h : (bits BinOp.and IntKind.u8 (c.toNat : Int) 15).toNat < (⟨#[48, 49, 50, 51, 52, 53, 54, 55, 56, 57, 97, 98, 99, 100, 101, 102]⟩ : ByteArray).size) : (⟨#[48, 49, 50, 51, 52, 53, 54, 55, 56, 57, 97, 98, 99, 100, 101, 102]⟩ : ByteArray)[(bits BinOp.and IntKind.u8 (c.toNat : Int) 15).toNat]'h = sign (c.toNat % 16) := by
  have hc := c.toNat_lt
  have e : (bits BinOp.and IntKind.u8 (c.toNat : Int) 15).toNat = c.toNat % 16 := by rw [and15]; rfl
  rw [← digs_at (c.toNat % 16) (by omega) (by rw [← e]; exact h)]
  congr 1
theorem hex_snoc (l : List UInt8) (c : UInt8) : hex (l ++ [c]) = hex l ++ [sign (c.toNat / 16), sign (c.toNat % 16)] := by
  induction l with
  | nil => rfl
  | cons x l ih => rw [List.cons_append, hex, ih]; rfl
theorem hex_len (l : List UInt8) : (hex l).length = 2 * l.length := by
  induction l with
  | nil => rfl
  | cons x l ih => rw [hex, List.length_cons, List.length_cons, List.length_cons, ih]; omega
theorem take_snoc' (s : ByteArray) (k : Nat) (h : k < s.size) : s.data.toList.take (k + 1) = s.data.toList.take k ++ [s[k]] := by
  rw [List.take_succ_eq_append_getElem (by simpa using h)]; rfl
theorem SrcB.of_two {w : World} {g c : Nat} {x y : UInt8} (h : w.heap[g]? = some (.cells #[.int .u8 (x.toNat : Int), .int .u8 (y.toNat : Int)] u8T (0, 0))) : SrcB w (.slice (some ⟨g, 0, none⟩) 2 c) [x, y] :=
  SrcB.of_block (ys := [x, y]) h
set_option maxRecDepth 100000 in
set_option maxHeartbeats 4000000 in
theorem hex_any (s : ByteArray) (w : World) (hs : s.size ≤ 1099511627776) :
    Calls Tryz.prog 44 #[.string s] w fun e w' => e = .returned (.string ⟨(hex s.data.toList).toArray⟩) ∧ Ext w w' := by
  have hs1 : (s.size : Int) ≤ 1099511627776 := by omega
  go_enter Tryz.func44, Tryz.ntmps44
  go_wp2_with fail
  go_loopw [3, 7] (fun x y wr => ∃ (i : Nat) (A : Option Addr) (c : Nat), i ≤ s.size ∧ x = .slice A (2 * i) c ∧ y = .int .i64 (i : Int) ∧ Hid (Acc w wr (.slice A (2 * i) c) (hex (s.data.toList.take i)))) (fun _ y _ => s.size - (intOf y).toNat)
  case atStart => exact ⟨0, none, 0, by omega, rfl, rfl, Acc.nil (Below.refl _ _)⟩
  case round =>
    obtain ⟨i, A, c, hi, rfl, rfl, hacc⟩ := hrel
    by_cases hlt : i < s.size
    · obtain ⟨q, hq⟩ : ∃ q, q = 2 * i := ⟨_, rfl⟩
      have HQ := Lib.hid hq
      rw [← hq] at hacc
      have HLQ : Hid ((hex (s.data.toList.take i)).length = q) := by unfold Hid; rw [hex_len, List.length_take, hq]; simp; omega
      have hq2 : q + 2 ≤ 140737488355328 := by omega
      rw [← hq]
      clear hq
      have p0 : (0 : Int) ≤ (i : Int) := by omega
      have p1 : (i : Int) < (s.size : Int) := by omega
      have hb2 := s[i].toNat_lt
      have b0 : (0 : Int) ≤ (s[i].toNat : Int) / 16 := by omega
      have b1 : (s[i].toNat : Int) / 16 < 16 := by omega
      have b2 : (0 : Int) ≤ bits BinOp.and IntKind.u8 (s[i].toNat : Int) 15 := by rw [and15]; omega
      have b3 : bits BinOp.and IntKind.u8 (s[i].toNat : Int) 15 < 16 := by rw [and15]; omega
      have hv1 := digs_hi s[i]
      have hv2 := digs_lo s[i]
      clear hb2
      go_wp2_with fail
      go_region_law (refine step_append_acc rfl _ _ (by rfl) q 2 w _ _ _ (hex (s.data.toList.take i)) [sign (s[i].toNat / 16), sign (s[i].toNat % 16)] (by rfl) (by rfl) (hacc.out.drew.alloc _) (SrcB.of_two (heap_new rfl)) HLQ.out rfl hq2 ?_; intro A7 c7 w7 h7; have H7 := Lib.hid h7; clear h7)
      all_goals
        go_wp2_with fail
        go_roundw
        case rel => exact ⟨i + 1, A7, c7, by omega, by rw [HQ.out]; rfl, by go_num, by have h := H7.out; rw [HQ.out, ← hex_snoc, ← take_snoc' s i hlt] at h; exact h⟩
        case measure => simp [intOf]; omega
    · obtain rfl : i = s.size := by omega
      have hcv := run_string hacc.out.src
      go_wp2_with fail
      go_ret
      refine ⟨?_, hacc.out.2⟩
      rw [List.take_of_length_le (by simp)]
      rfl
/-- What Unhex answers. -/
def unhexV (l : List UInt8) : Value := match unhex l with
  | some o => .tuple #[.string ⟨o.toArray⟩, .int .i64 0]
  | none => .tuple #[.string ⟨#[]⟩, .int .i64 16]
/-- What digit answers. -/
def digitV (c : UInt8) : Value := match unsign c with
  | some n => .tuple #[.int .u8 (n : Int), .bool true]
  | none => .tuple #[.int .u8 0, .bool false]
theorem digitV_1 {c : UInt8} (h : 48 ≤ c.toNat ∧ c.toNat ≤ 57) : digitV c = .tuple #[.int .u8 ((c.toNat : Int) - 48), .bool true] := by
  unfold digitV unsign
  rw [if_pos h]
  have e : ((c.toNat - 48 : Nat) : Int) = (c.toNat : Int) - 48 := by omega
  simp only [e]
theorem digitV_2 {c : UInt8} (h : 97 ≤ c.toNat ∧ c.toNat ≤ 102) : digitV c = .tuple #[.int .u8 ((c.toNat : Int) - 97 + 10), .bool true] := by
  unfold digitV unsign
  rw [if_neg (by omega), if_pos h]
  have e : ((c.toNat - 87 : Nat) : Int) = (c.toNat : Int) - 97 + 10 := by omega
  simp only [e]
theorem digitV_0 {c : UInt8} (h : ¬ (48 ≤ c.toNat ∧ c.toNat ≤ 57)) (h2 : ¬ (97 ≤ c.toNat ∧ c.toNat ≤ 102)) : digitV c = .tuple #[.int .u8 0, .bool false] := by
  unfold digitV unsign
  rw [if_neg h, if_neg h2]
theorem ret_val {a b : Value} (h : a = b) : Ending.returned a = .returned b := by rw [h]
set_option maxHeartbeats 4000000 in
theorem digit_any (c : UInt8) (w : World) : Calls Tryz.prog 89 #[.int .u8 (c.toNat : Int)] w fun e w' => e = .returned (digitV c) ∧ w = w' := by
  have hc := c.toNat_lt
  have hc2 : (c.toNat : Int) < 256 := by omega
  have hcases : c.toNat < 48 ∨ (48 ≤ c.toNat ∧ c.toNat ≤ 57) ∨ (57 < c.toNat ∧ c.toNat < 97) ∨ (97 ≤ c.toNat ∧ c.toNat ≤ 102) ∨ 102 < c.toNat := by omega
  rcases hcases with h | h | h | h | h
  · have H := Lib.hid (digitV_0 (c := c) (by omega) (by omega))
    have g1 : decide ((48 : Int) ≤ (c.toNat : Int)) = false := by simp; omega
    have g3 : decide ((97 : Int) ≤ (c.toNat : Int)) = false := by simp; omega
    clear h hc
    go_enter Tryz.func89, Tryz.ntmps89
    go_wp2
    go_ret2
    exact ⟨ret_val H.out.symm, rfl⟩
  · have H := Lib.hid (digitV_1 h)
    have g1 : decide ((48 : Int) ≤ (c.toNat : Int)) = true := by simp; omega
    have g2 : decide ((c.toNat : Int) ≤ 57) = true := by simp; omega
    have b1 : (48 : Int) ≤ (c.toNat : Int) := by omega
    clear h hc
    go_enter Tryz.func89, Tryz.ntmps89
    go_wp2
    go_ret2
    exact ⟨ret_val H.out.symm, rfl⟩
  · have H := Lib.hid (digitV_0 (c := c) (by omega) (by omega))
    have g1 : decide ((48 : Int) ≤ (c.toNat : Int)) = true := by simp; omega
    have g2 : decide ((c.toNat : Int) ≤ 57) = false := by simp; omega
    have g3 : decide ((97 : Int) ≤ (c.toNat : Int)) = false := by simp; omega
    clear h hc
    go_enter Tryz.func89, Tryz.ntmps89
    go_wp2
    go_ret2
    exact ⟨ret_val H.out.symm, rfl⟩
  · have H := Lib.hid (digitV_2 h)
    have g1 : decide ((48 : Int) ≤ (c.toNat : Int)) = true := by simp; omega
    have g2 : decide ((c.toNat : Int) ≤ 57) = false := by simp; omega
    have g3 : decide ((97 : Int) ≤ (c.toNat : Int)) = true := by simp; omega
    have g4 : decide ((c.toNat : Int) ≤ 102) = true := by simp; omega
    have b1 : (97 : Int) ≤ (c.toNat : Int) := by omega
    clear h hc
    go_enter Tryz.func89, Tryz.ntmps89
    go_wp2
    go_ret2
    exact ⟨ret_val H.out.symm, rfl⟩
  · have H := Lib.hid (digitV_0 (c := c) (by omega) (by omega))
    have g1 : decide ((48 : Int) ≤ (c.toNat : Int)) = true := by simp; omega
    have g2 : decide ((c.toNat : Int) ≤ 57) = false := by simp; omega
    have g3 : decide ((97 : Int) ≤ (c.toNat : Int)) = true := by simp; omega
    have g4 : decide ((c.toNat : Int) ≤ 102) = false := by simp; omega
    clear h hc
    go_enter Tryz.func89, Tryz.ntmps89
    go_wp2
    go_ret2
    exact ⟨ret_val H.out.symm, rfl⟩
theorem digit_ways (c : UInt8) : (∃ b : Nat, digitV c = .tuple #[.int .u8 (b : Int), .bool true]) ∨ digitV c = .tuple #[.int .u8 0, .bool false] := by
  unfold digitV
  cases unsign c with
  | none => exact .inr rfl
  | some n => exact .inl ⟨n, rfl⟩
theorem unhex_cons (c d : UInt8) (l : List UInt8) : unhex (c :: d :: l) = match unsign c, unsign d, unhex l with
    | some a, some b, some m => some (UInt8.ofNat (16 * a + b) :: m)
    | _, _, _ => none := by
  rw [unhex]
  cases unsign c <;> cases unsign d <;> cases unhex l <;> rfl
theorem unhex_odd : ∀ (n : Nat) (l : List UInt8), l.length = 2 * n + 1 → unhex l = none
  | 0, [c], _ => rfl
  | 0, c :: d :: l, h => by simp at h
  | 0, [], h => by simp at h
  | n + 1, [], h => by simp at h
  | n + 1, [c], h => by simp at h
  | n + 1, c :: d :: l, h => by
    rw [unhex_cons, unhex_odd n l (by simp at h; omega)]
    cases unsign c <;> cases unsign d <;> rfl
theorem unsign_lt {c : UInt8} {n : Nat} (h : unsign c = some n) : n < 16 := by
  unfold unsign at h
  split at h
  · injection h; omega
  · split at h
    · injection h; omega
    · cases h
theorem drop_two (s : ByteArray) (i : Nat) (h : i + 1 < s.size) : s.data.toList.drop i = s[i] :: s[i + 1] :: s.data.toList.drop (i + 2) := by
  rw [List.drop_eq_getElem_cons (by simp; omega), List.drop_eq_getElem_cons (by simp; omega)]
  rfl
theorem join8 (a b : Nat) (ha : a < 16) (hb : b < 16) : bits BinOp.or IntKind.u8 ((a : Int) * 16) (b : Int) = ((UInt8.ofNat (16 * a + b)).toNat : Int) := by
  have h : ∀ a b : Fin 16, bits BinOp.or IntKind.u8 ((a.1 : Int) * 16) (b.1 : Int) = ((UInt8.ofNat (16 * a.1 + b.1)).toNat : Int) := by decide +kernel
  exact h ⟨a, ha⟩ ⟨b, hb⟩
set_option maxRecDepth 100000 in
set_option maxHeartbeats 4000000 in
theorem unhex_any (s : ByteArray) (w : World) (hs : s.size ≤ 1099511627776) :
    Calls Tryz.prog 53 #[.string s] w fun e w' => e = .returned (unhexV s.data.toList) ∧ Ext w w' := by
  have hs1 : (s.size : Int) ≤ 1099511627776 := by omega
  by_cases hodd : s.size % 2 = 0
  · have ht : ((s.size : Int) % 2 == 0) = true := by simp; omega
    have ht2 : ((s.size : Int) % 2 != 0) = false := by unfold bne; rw [ht]; rfl
    have HEV := Lib.hid hodd
    clear hodd
    go_enter Tryz.func53, Tryz.ntmps53
    go_wp2_with fail
    go_loopw [4, 5] (fun x y wr => ∃ (i j : Nat) (A : Option Addr) (c : Nat) (o : List UInt8), i ≤ s.size ∧ Hid (i = 2 * j ∧ o.length = j) ∧ x = .slice A j c ∧ y = .int .i64 (i : Int) ∧ Hid (Acc w wr (.slice A j c) o) ∧ Hid (unhex s.data.toList = (unhex (s.data.toList.drop i)).map (o ++ ·))) (fun _ y _ => s.size - (intOf y).toNat)
    case atStart => exact ⟨0, 0, none, 0, [], by omega, ⟨rfl, rfl⟩, rfl, rfl, Acc.nil (Below.refl _ _), by unfold Hid; simp⟩
    case round =>
      obtain ⟨i, j, A, c, o, hi, HIJ, rfl, rfl, hacc, HU⟩ := hrel
      by_cases hlt : i < s.size
      · have hlt1 : i + 1 < s.size := by have := HIJ.out.1; have := HEV.out; omega
        have p0 : (0 : Int) ≤ (i : Int) := by omega
        have p1 : (i : Int) + 1 < (s.size : Int) := by omega
        have hd := drop_two s i hlt1
        have hcons := unhex_cons s[i] s[i + 1] (s.data.toList.drop (i + 2))
        rw [← hd] at hcons
        cases ha : unsign s[i] with
        | none =>
          have da : digitV s[i] = .tuple #[.int .u8 0, .bool false] := by unfold digitV; rw [ha]
          have hnone : unhex (s.data.toList.drop i) = none := by rw [hcons, ha]
          have HN : Hid (unhexV s.data.toList = .tuple #[.string ⟨#[]⟩, .int .i64 16]) := by unfold Hid unhexV; rw [HU.out, hnone]; rfl
          clear hnone hcons hd ha
          have DA := Lib.hid da
          clear da
          rcases digit_ways s[i + 1] with ⟨b, hb⟩ | hb
          all_goals
            have DB := Lib.hid hb
            clear hb
            go_wp2_with (first | (go_at_call 89; (with_reducible refine (digit_any s[i] _).mono ?_); rintro e w' ⟨he, rfl⟩; rw [DA.out] at he; subst he) | (go_at_call 89; (with_reducible refine (digit_any s[i + 1] _).mono ?_); rintro e w' ⟨he, rfl⟩; rw [DB.out] at he; subst he))
            go_ret2
            exact ⟨ret_val HN.out.symm, hacc.out.2⟩
        | some a =>
          cases hb : unsign s[i + 1] with
          | none =>
            have da : digitV s[i] = .tuple #[.int .u8 (a : Int), .bool true] := by unfold digitV; rw [ha]
            have db : digitV s[i + 1] = .tuple #[.int .u8 0, .bool false] := by unfold digitV; rw [hb]
            have hnone : unhex (s.data.toList.drop i) = none := by rw [hcons, ha, hb]
            have HN : Hid (unhexV s.data.toList = .tuple #[.string ⟨#[]⟩, .int .i64 16]) := by unfold Hid unhexV; rw [HU.out, hnone]; rfl
            clear hnone hcons hd ha hb
            have DA := Lib.hid da
            have DB := Lib.hid db
            clear da db
            go_wp2_with (first | (go_at_call 89; (with_reducible refine (digit_any s[i] _).mono ?_); rintro e w' ⟨he, rfl⟩; rw [DA.out] at he; subst he) | (go_at_call 89; (with_reducible refine (digit_any s[i + 1] _).mono ?_); rintro e w' ⟨he, rfl⟩; rw [DB.out] at he; subst he))
            go_ret2
            exact ⟨ret_val HN.out.symm, hacc.out.2⟩
          | some b =>
            have ha1 := unsign_lt ha
            have hb1 := unsign_lt hb
            have da : digitV s[i] = .tuple #[.int .u8 (a : Int), .bool true] := by unfold digitV; rw [ha]
            have db : digitV s[i + 1] = .tuple #[.int .u8 (b : Int), .bool true] := by unfold digitV; rw [hb]
            have hnext : unhex (s.data.toList.drop i) = (unhex (s.data.toList.drop (i + 2))).map ([UInt8.ofNat (16 * a + b)] ++ ·) := by
              rw [hcons, ha, hb]
              cases unhex (s.data.toList.drop (i + 2)) <;> rfl
            have HU2 : Hid (unhex s.data.toList = (unhex (s.data.toList.drop (i + 2))).map (o ++ [UInt8.ofNat (16 * a + b)] ++ ·)) := by
              unfold Hid
              rw [HU.out, hnext, Option.map_map]
              congr 1
              funext x
              simp
            have HJ := Lib.hid (join8 a b ha1 hb1)
            have hj : j + 1 ≤ 140737488355328 := by have := HIJ.out.1; omega
            clear ha hb hd hcons hnext
            have DA := Lib.hid da
            have DB := Lib.hid db
            clear da db
            go_wp2_with (first | (go_at_call 89; (with_reducible refine (digit_any s[i] _).mono ?_); rintro e w' ⟨he, rfl⟩; rw [DA.out] at he; subst he) | (go_at_call 89; (with_reducible refine (digit_any s[i + 1] _).mono ?_); rintro e w' ⟨he, rfl⟩; rw [DB.out] at he; subst he) | (at_builtin; refine append_acc rfl _ _ (by rfl) j 1 w _ _ _ o [UInt8.ofNat (16 * a + b)] (by rfl) (by rfl) (hacc.out.alloc _) (SrcB.of_one (heap_new rfl) HJ.out) HIJ.out.2 rfl hj ?_; intro A7 c7 w7 h7; have H7 := Lib.hid h7; clear h7))
            go_roundw
            case rel => exact ⟨i + 2, j + 1, A7, c7, o ++ [UInt8.ofNat (16 * a + b)], by omega, ⟨by have := HIJ.out.1; omega, by rw [List.length_append, HIJ.out.2]; rfl⟩, rfl, by go_num, H7.out, HU2⟩
            case measure => simp [intOf]; omega
      · obtain rfl : i = s.size := by omega
        have hcv := run_string hacc.out.src
        have HN : Hid (unhexV s.data.toList = .tuple #[.string ⟨o.toArray⟩, .int .i64 0]) := by
          have h := HU.out
          rw [List.drop_of_length_le (by simp)] at h
          unfold Hid unhexV
          rw [h]
          simp [unhex]
        go_wp2_with fail
        go_ret2
        exact ⟨ret_val HN.out.symm, hacc.out.2⟩
  · have ht : ((s.size : Int) % 2 == 0) = false := by simp; omega
    have HN : Hid (unhexV s.data.toList = .tuple #[.string ⟨#[]⟩, .int .i64 16]) := by
      unfold Hid unhexV
      rw [unhex_odd (s.size / 2) s.data.toList (by simp; omega)]
    clear hodd
    go_enter Tryz.func53, Tryz.ntmps53
    go_wp2_with fail
    go_ret2
    exact ⟨ret_val HN.out.symm, Below.refl _ _⟩
end Go.Proofs.YtplfimoeggecjaaGreatDoor.Sx
