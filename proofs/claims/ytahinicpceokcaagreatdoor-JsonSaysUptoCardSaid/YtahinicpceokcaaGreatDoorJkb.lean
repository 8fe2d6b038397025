/-
  Quote of a text: the program's and the reference's (printed by gen/jk5.py).
  Kind, Size and Same of documents: the program's.
-/
import Derived.Test.YtahinicpceokcaaGreatDoorJta
import Derived.Test.YtahinicpceokcaaGreatDoorJt3
import Derived.Test.YtahinicpceokcaaGreatDoorJka
import Derived.OwnWalk
namespace Go.Proofs.YtahinicpceokcaaGreatDoor.Jm
open Go Go.RowKit Go.Proofs.YtahinicpceokcaaGreatDoor.Sx Go.Proofs.YtahinicpceokcaaGreatDoor.Js Go.Proofs.YtahinicpceokcaaGreatDoor.Gr

def okC (c : UInt8) : Bool := decide (c.toNat = 10 ∨ c.toNat = 9 ∨ (32 ≤ c.toNat ∧ c.toNat ≤ 126))
def quoteR (t : Tx) : Tx × Int := if t.all okC = true then (if (quoteS t).length ≤ 2000 then (quoteS t, 0) else ([], 2)) else ([], 16)
theorem quoteR_odd {t : Tx} (h : t.all okC = false) : quoteR t = ([], 16) := by unfold quoteR; rw [h]; rfl
theorem quoteR_ok {t : Tx} (h : t.all okC = true) (h2 : (quoteS t).length ≤ 2000) : quoteR t = (quoteS t, 0) := by unfold quoteR; rw [if_pos h, if_pos h2]
theorem quoteR_long {t : Tx} (h : t.all okC = true) (h2 : ¬ (quoteS t).length ≤ 2000) : quoteR t = ([], 2) := by unfold quoteR; rw [if_pos h, if_neg h2]
theorem byte_ways (c : UInt8) : (c.toNat = 10 ∧ okC c = true) ∨ (c.toNat = 9 ∧ okC c = true) ∨ (32 ≤ c.toNat ∧ c.toNat ≤ 126 ∧ okC c = true) ∨ (c.toNat < 32 ∧ c.toNat ≠ 10 ∧ c.toNat ≠ 9 ∧ okC c = false) ∨ (126 < c.toNat ∧ okC c = false) := by
  unfold okC
  simp only [decide_eq_true_eq, decide_eq_false_iff_not]
  omega
theorem ret_q {a b : ByteArray} {m n : Int} (h : a = b) (h2 : m = n) : Ending.returned (.tuple #[.string a, .int .i64 m]) = .returned (.tuple #[.string b, .int .i64 n]) := by rw [h, h2]
set_option maxRecDepth 100000 in
set_option maxHeartbeats 4000000 in
theorem jquote_any (t : Tx) (w : World) (hs : t.length ≤ 1048576) : Calls Tryz.prog 13 #[.string (bx t)] w fun e w' => e = .returned (.tuple #[.string (bx (quoteR t).1), .int .i64 (quoteR t).2]) ∧ Ext w w' := by
  have CQ := Lib.hid (quote_any t w hs)
  obtain ⟨s, hs0⟩ : ∃ s, s = bx t := ⟨_, rfl⟩
  have hsz : s.size ≤ 1048576 := by rw [hs0, bx_size]; exact hs
  have HS : Hid (sfx s 0 = t) := by unfold Hid; rw [hs0]; simp [sfx, bx]
  rw [← hs0] at CQ ⊢
  clear hs hs0
  have hql := quote_len t
  obtain ⟨qx, hqx⟩ : ∃ qx, qx = bx (quoteS t) := ⟨_, rfl⟩
  have HQX := Lib.hid hqx
  have hqz : qx.size = (quoteS t).length := by rw [hqx, bx_size]
  rw [← hqx] at CQ
  clear hqx
  go_enter Tryz.func13, Tryz.ntmps13
  go_wp2_with fail
  go_loopw [9] (fun ix wr => ∃ q : Nat, q ≤ s.size ∧ ix = .int .i64 (q : Int) ∧ Hid (((sfx s 0).take q).all okC = true) ∧ w = wr) (fun ix _ => s.size - (intOf ix).toNat)
  case atStart => exact ⟨0, Nat.zero_le _, rfl, rfl, rfl⟩
  case round =>
    obtain ⟨q, hq, rfl, hR, rfl⟩ := hrel
    have hq0 : (0 : Int) ≤ (q : Int) := by omega
    by_cases hlt : q < s.size
    · have hby := run_byte s q hlt
      obtain ⟨c, hcc⟩ : ∃ c, c = byteAt s q := ⟨_, rfl⟩
      have HSX : Hid (sfx s q = c :: sfx s (q + 1)) := by rw [hcc]; exact sfx_cons hlt
      have HTK : Hid ((sfx s 0).take (q + 1) = (sfx s 0).take q ++ [c]) := by
        have h := take_next (a := 0) HSX.out (Nat.zero_le _)
        exact h
      have HAL : Hid (sfx s 0 = (sfx s 0).take q ++ sfx s q) := by
        unfold Hid sfx
        rw [List.drop_zero, List.take_append_drop]
      rw [← hcc] at hby
      have hltI : (q : Int) < (s.size : Int) := by omega
      clear hcc
      have hw := byte_ways c
      obtain ⟨m, hm⟩ : ∃ m, m = c.toNat := ⟨_, rfl⟩
      have hm8 : m < 256 := by rw [hm]; exact c.toNat_lt
      rw [← hm] at hby hw
      clear hm
      rcases hw with ⟨hc, hk⟩ | ⟨hc, hk⟩ | ⟨hc, hc2, hk⟩ | ⟨hc, hc2, hc3, hk⟩ | ⟨hc, hk⟩
      · subst hc
        have HG : Hid (((sfx s 0).take (q + 1)).all okC = true) := by unfold Hid; rw [HTK.out, List.all_append, hR.out]; simp [hk]
        clear hk
        go_wp2_with fail
        go_roundw
        case rel => exact ⟨q + 1, hlt, by go_num, HG, trivial⟩
        case measure => simp [intOf]; omega
      · subst hc
        have HG : Hid (((sfx s 0).take (q + 1)).all okC = true) := by unfold Hid; rw [HTK.out, List.all_append, hR.out]; simp [hk]
        clear hk
        go_wp2_with fail
        go_roundw
        case rel => exact ⟨q + 1, hlt, by go_num, HG, trivial⟩
        case measure => simp [intOf]; omega
      · have x1 : decide ((m : Int) < 32) = false := by simp; omega
        have x2 : decide (m < 32) = false := by simp; omega
        have x3 : decide (126 < (m : Int)) = false := by simp; omega
        have x4 : decide (126 < m) = false := by simp; omega
        have HG : Hid (((sfx s 0).take (q + 1)).all okC = true) := by unfold Hid; rw [HTK.out, List.all_append, hR.out]; simp [hk]
        clear hk
        go_wp2_with fail
        go_roundw
        case rel => exact ⟨q + 1, hlt, by go_num, HG, trivial⟩
        case measure => simp [intOf]; omega
      · have x1 : decide ((m : Int) < 32) = true := by simp; omega
        have x2 : decide (m < 32) = true := by simp; omega
        have x3 : decide (126 < (m : Int)) = false := by simp; omega
        have x4 : decide (126 < m) = false := by simp; omega
        have y1 : ((m : Int) != 10) = true := by rw [bne_iff_ne]; omega
        have y2 : ((m : Int) == 10) = false := by rw [beq_eq_false_iff_ne]; omega
        have y3 : (m == 10) = false := by rw [beq_eq_false_iff_ne]; omega
        have z1 : ((m : Int) != 9) = true := by rw [bne_iff_ne]; omega
        have z2 : ((m : Int) == 9) = false := by rw [beq_eq_false_iff_ne]; omega
        have z3 : (m == 9) = false := by rw [beq_eq_false_iff_ne]; omega
        have HB : Hid (t.all okC = false) := by unfold Hid; rw [← HS.out, HAL.out, HSX.out, List.all_append]; simp [hk]
        clear hk
        go_wp2_with fail
        go_ret2
        exact ⟨ret_q (by rw [quoteR_odd HB.out]; rfl) (by rw [quoteR_odd HB.out]), Below.refl _ _⟩
      · have x1 : decide ((m : Int) < 32) = false := by simp; omega
        have x2 : decide (m < 32) = false := by simp; omega
        have x3 : decide (126 < (m : Int)) = true := by simp; omega
        have x4 : decide (126 < m) = true := by simp; omega
        have y1 : ((m : Int) != 10) = true := by rw [bne_iff_ne]; omega
        have y2 : ((m : Int) == 10) = false := by rw [beq_eq_false_iff_ne]; omega
        have y3 : (m == 10) = false := by rw [beq_eq_false_iff_ne]; omega
        have z1 : ((m : Int) != 9) = true := by rw [bne_iff_ne]; omega
        have z2 : ((m : Int) == 9) = false := by rw [beq_eq_false_iff_ne]; omega
        have z3 : (m == 9) = false := by rw [beq_eq_false_iff_ne]; omega
        have HB : Hid (t.all okC = false) := by unfold Hid; rw [← HS.out, HAL.out, HSX.out, List.all_append]; simp [hk]
        clear hk
        go_wp2_with fail
        go_ret2
        exact ⟨ret_q (by rw [quoteR_odd HB.out]; rfl) (by rw [quoteR_odd HB.out]), Below.refl _ _⟩
    · have HA : Hid (t.all okC = true) := by
        have h := hR.out
        rw [HS.out, List.take_of_length_le (by rw [← HS.out, sfx_len]; omega)] at h
        exact h
      have bl : decide ((q : Int) < (s.size : Int)) = false := decide_eq_false (by omega)
      have bl2 : decide (q < s.size) = false := decide_eq_false hlt
      clear hlt
      go_wp2_with fail
      refine Calls.mono CQ.out ?_
      rintro e w2 ⟨rfl, x2⟩
      have X2 := Lib.hid x2
      clear x2
      by_cases hz : qx.size ≤ 2000
      · have z1 : decide (2000 < (qx.size : Int)) = false := by simp; omega
        have z2 : decide (2000 < qx.size) = false := by simp; omega
        have z3 : decide ((qx.size : Int) ≤ 2000) = true := by simp; omega
        have z4 : decide (qx.size ≤ 2000) = true := by simp; omega
        have HF : Hid (quoteR t = (quoteS t, 0)) := quoteR_ok HA.out (by omega)
        clear hz hqz
        go_wp2_with fail
        go_ret2
        exact ⟨ret_q (by rw [HF.out, HQX.out]) (by rw [HF.out]), X2.out⟩
      · have z1 : decide (2000 < (qx.size : Int)) = true := by simp; omega
        have z2 : decide (2000 < qx.size) = true := by simp; omega
        have z3 : decide ((qx.size : Int) ≤ 2000) = false := by simp; omega
        have z4 : decide (qx.size ≤ 2000) = false := by simp; omega
        have HF : Hid (quoteR t = ([], 2)) := quoteR_long HA.out (by omega)
        clear hz hqz
        go_wp2_with fail
        go_ret2
        exact ⟨ret_q (by rw [HF.out]; rfl) (by rw [HF.out]), X2.out⟩
set_option maxRecDepth 100000 in
set_option maxHeartbeats 4000000 in
theorem rjquote_any (t : Tx) (w : World) (hm : MaxC w) (hs : t.length ≤ 1048576) : Calls Tryz.prog 14 #[.string (bx t)] w fun e w' => e = .returned (.tuple #[.string (bx (quoteR t).1), .int .i64 (quoteR t).2]) ∧ Ext w w' := by
  have CQ := Lib.hid (rquoted_any t w hm hs)
  obtain ⟨s, hs0⟩ : ∃ s, s = bx t := ⟨_, rfl⟩
  have hsz : s.size ≤ 1048576 := by rw [hs0, bx_size]; exact hs
  have HS : Hid (sfx s 0 = t) := by unfold Hid; rw [hs0]; simp [sfx, bx]
  rw [← hs0] at CQ ⊢
  clear hs hs0
  have hql := quote_len t
  obtain ⟨qx, hqx⟩ : ∃ qx, qx = bx (quoteS t) := ⟨_, rfl⟩
  have HQX := Lib.hid hqx
  have hqz : qx.size = (quoteS t).length := by rw [hqx, bx_size]
  rw [← hqx] at CQ
  clear hqx
  go_enter Tryz.func14, Tryz.ntmps14
  go_wp2_with fail
  go_loopw [8] (fun ix wr => ∃ q : Nat, q ≤ s.size ∧ ix = .int .i64 (q : Int) ∧ Hid (((sfx s 0).take q).all okC = true) ∧ w = wr) (fun ix _ => s.size - (intOf ix).toNat)
  case atStart => exact ⟨0, Nat.zero_le _, rfl, rfl, rfl⟩
  case round =>
    obtain ⟨q, hq, rfl, hR, rfl⟩ := hrel
    have hq0 : (0 : Int) ≤ (q : Int) := by omega
    by_cases hlt : q < s.size
    · have hby := run_byte s q hlt
      obtain ⟨c, hcc⟩ : ∃ c, c = byteAt s q := ⟨_, rfl⟩
      have HSX : Hid (sfx s q = c :: sfx s (q + 1)) := by rw [hcc]; exact sfx_cons hlt
      have HTK : Hid ((sfx s 0).take (q + 1) = (sfx s 0).take q ++ [c]) := by
        have h := take_next (a := 0) HSX.out (Nat.zero_le _)
        exact h
      have HAL : Hid (sfx s 0 = (sfx s 0).take q ++ sfx s q) := by
        unfold Hid sfx
        rw [List.drop_zero, List.take_append_drop]
      rw [← hcc] at hby
      have hltI : (q : Int) < (s.size : Int) := by omega
      clear hcc
      have hw := byte_ways c
      obtain ⟨m, hm⟩ : ∃ m, m = c.toNat := ⟨_, rfl⟩
      have hm8 : m < 256 := by rw [hm]; exact c.toNat_lt
      rw [← hm] at hby hw
      clear hm
      rcases hw with ⟨hc, hk⟩ | ⟨hc, hk⟩ | ⟨hc, hc2, hk⟩ | ⟨hc, hc2, hc3, hk⟩ | ⟨hc, hk⟩
      · subst hc
        have HG : Hid (((sfx s 0).take (q + 1)).all okC = true) := by unfold Hid; rw [HTK.out, List.all_append, hR.out]; simp [hk]
        clear hk
        go_wp2_with fail
        go_roundw
        case rel => exact ⟨q + 1, hlt, by go_num, HG, trivial⟩
        case measure => simp [intOf]; omega
      · subst hc
        have HG : Hid (((sfx s 0).take (q + 1)).all okC = true) := by unfold Hid; rw [HTK.out, List.all_append, hR.out]; simp [hk]
        clear hk
        go_wp2_with fail
        go_roundw
        case rel => exact ⟨q + 1, hlt, by go_num, HG, trivial⟩
        case measure => simp [intOf]; omega
      · have x1 : decide ((m : Int) < 32) = false := by simp; omega
        have x2 : decide (m < 32) = false := by simp; omega
        have x3 : decide (126 < (m : Int)) = false := by simp; omega
        have x4 : decide (126 < m) = false := by simp; omega
        have HG : Hid (((sfx s 0).take (q + 1)).all okC = true) := by unfold Hid; rw [HTK.out, List.all_append, hR.out]; simp [hk]
        clear hk
        go_wp2_with fail
        go_roundw
        case rel => exact ⟨q + 1, hlt, by go_num, HG, trivial⟩
        case measure => simp [intOf]; omega
      · have x1 : decide ((m : Int) < 32) = true := by simp; omega
        have x2 : decide (m < 32) = true := by simp; omega
        have x3 : decide (126 < (m : Int)) = false := by simp; omega
        have x4 : decide (126 < m) = false := by simp; omega
        have y1 : ((m : Int) != 10) = true := by rw [bne_iff_ne]; omega
        have y2 : ((m : Int) == 10) = false := by rw [beq_eq_false_iff_ne]; omega
        have y3 : (m == 10) = false := by rw [beq_eq_false_iff_ne]; omega
        have z1 : ((m : Int) != 9) = true := by rw [bne_iff_ne]; omega
        have z2 : ((m : Int) == 9) = false := by rw [beq_eq_false_iff_ne]; omega
        have z3 : (m == 9) = false := by rw [beq_eq_false_iff_ne]; omega
        have HB : Hid (t.all okC = false) := by unfold Hid; rw [← HS.out, HAL.out, HSX.out, List.all_append]; simp [hk]
        clear hk
        go_wp2_with fail
        go_ret2
        exact ⟨ret_q (by rw [quoteR_odd HB.out]; rfl) (by rw [quoteR_odd HB.out]), Below.refl _ _⟩
      · have x1 : decide ((m : Int) < 32) = false := by simp; omega
        have x2 : decide (m < 32) = false := by simp; omega
        have x3 : decide (126 < (m : Int)) = true := by simp; omega
        have x4 : decide (126 < m) = true := by simp; omega
        have y1 : ((m : Int) != 10) = true := by rw [bne_iff_ne]; omega
        have y2 : ((m : Int) == 10) = false := by rw [beq_eq_false_iff_ne]; omega
        have y3 : (m == 10) = false := by rw [beq_eq_false_iff_ne]; omega
        have z1 : ((m : Int) != 9) = true := by rw [bne_iff_ne]; omega
        have z2 : ((m : Int) == 9) = false := by rw [beq_eq_false_iff_ne]; omega
        have z3 : (m == 9) = false := by rw [beq_eq_false_iff_ne]; omega
        have HB : Hid (t.all okC = false) := by unfold Hid; rw [← HS.out, HAL.out, HSX.out, List.all_append]; simp [hk]
        clear hk
        go_wp2_with fail
        go_ret2
        exact ⟨ret_q (by rw [quoteR_odd HB.out]; rfl) (by rw [quoteR_odd HB.out]), Below.refl _ _⟩
    · have HA : Hid (t.all okC = true) := by
        have h := hR.out
        rw [HS.out, List.take_of_length_le (by rw [← HS.out, sfx_len]; omega)] at h
        exact h
      have bl : decide ((q : Int) < (s.size : Int)) = false := decide_eq_false (by omega)
      have bl2 : decide (q < s.size) = false := decide_eq_false hlt
      clear hlt
      go_wp2_with fail
      refine Calls.mono CQ.out ?_
      rintro e w2 ⟨rfl, x2⟩
      have X2 := Lib.hid x2
      clear x2
      by_cases hz : qx.size ≤ 2000
      · have z1 : decide (2000 < (qx.size : Int)) = false := by simp; omega
        have z2 : decide (2000 < qx.size) = false := by simp; omega
        have z3 : decide ((qx.size : Int) ≤ 2000) = true := by simp; omega
        have z4 : decide (qx.size ≤ 2000) = true := by simp; omega
        have HF : Hid (quoteR t = (quoteS t, 0)) := quoteR_ok HA.out (by omega)
        clear hz hqz
        go_wp2_with fail
        go_ret2
        exact ⟨ret_q (by rw [HF.out, HQX.out]) (by rw [HF.out]), X2.out⟩
      · have z1 : decide (2000 < (qx.size : Int)) = true := by simp; omega
        have z2 : decide (2000 < qx.size) = true := by simp; omega
        have z3 : decide ((qx.size : Int) ≤ 2000) = false := by simp; omega
        have z4 : decide (qx.size ≤ 2000) = false := by simp; omega
        have HF : Hid (quoteR t = ([], 2)) := quoteR_long HA.out (by omega)
        clear hz hqz
        go_wp2_with fail
        go_ret2
        exact ⟨ret_q (by rw [HF.out]; rfl) (by rw [HF.out]), X2.out⟩
end Go.Proofs.YtahinicpceokcaaGreatDoor.Jm
namespace Go.Proofs.YtahinicpceokcaaGreatDoor.Jm
open Go Go.RowKit Go.Proofs.YtahinicpceokcaaGreatDoor.Sx Go.Proofs.YtahinicpceokcaaGreatDoor.Js Go.Proofs.YtahinicpceokcaaGreatDoor.Gr

def eR : Res J → Int
  | .ok _ => 0
  | .error e => e
def kR : Res J → Int
  | .ok j => kindJ j
  | .error _ => 0
def manyR : Res J → Nat
  | .ok j => manyJ j
  | .error _ => 0
def deepR : Res J → Nat
  | .ok j => deepJ j
  | .error _ => 0
set_option maxRecDepth 100000 in
set_option maxHeartbeats 2000000 in
theorem jkind_any (s : ByteArray) (w : World) : Calls Tryz.prog 10 #[.string s] w fun e w' => e = .returned (.tuple #[.int .i64 (kR (readS s.data.toList)), .int .i64 (eR (readS s.data.toList))]) ∧ Ext w w' := by
  have CR := Lib.hid (read_any s w)
  obtain ⟨R, hR⟩ : ∃ R, R = readS s.data.toList := ⟨_, rfl⟩
  rw [← hR] at CR ⊢
  clear hR
  go_enter Tryz.func10, Tryz.ntmps10
  go_wp2_with fail
  refine Calls.mono CR.out ?_
  rintro e w2 ⟨x2, ⟨j, u, hj, hp, rfl⟩ | ⟨er, her, hj, rfl⟩⟩
  · have X2 := Lib.hid x2
    have HJ := Lib.hid hj
    have CT := Lib.hid (kind_val _ u w2 j hp)
    clear x2 hj hp
    go_wp2_with fail
    refine Calls.mono CT.out ?_
    rintro e w3 ⟨rfl, rfl⟩
    go_wp2_with fail
    go_ret2
    exact ⟨by rw [HJ.out]; rfl, X2.out⟩
  · have X2 := Lib.hid x2
    have HJ := Lib.hid hj
    have b1 : (er != 0) = true := by rw [bne_iff_ne]; exact her
    clear x2 hj her
    go_wp2_with fail
    go_ret2
    exact ⟨by rw [HJ.out]; rfl, X2.out⟩
set_option maxRecDepth 100000 in
set_option maxHeartbeats 2000000 in
theorem jsize_any (s : ByteArray) (w : World) : Calls Tryz.prog 11 #[.string s] w fun e w' => e = .returned (.tuple #[.int .i64 (manyR (readS s.data.toList)), .int .i64 (deepR (readS s.data.toList)), .int .i64 (eR (readS s.data.toList))]) ∧ Ext w w' := by
  have CR := Lib.hid (read_any s w)
  have HG : Hid (∀ j, readS s.data.toList = .ok j → WJ j ∧ bulkJ j ≤ 128000) := fun j h => readS_good h
  obtain ⟨R, hR⟩ : ∃ R, R = readS s.data.toList := ⟨_, rfl⟩
  rw [← hR] at CR HG ⊢
  clear hR
  go_enter Tryz.func11, Tryz.ntmps11
  go_wp2_with fail
  refine Calls.mono CR.out ?_
  rintro e w2 ⟨x2, ⟨j, u, hj, hp, rfl⟩ | ⟨er, her, hj, rfl⟩⟩
  · have X2 := Lib.hid x2
    have HJ := Lib.hid hj
    have hg := HG.out j hj
    have CT := Lib.hid (size_val j _ u w2 hp (by omega))
    clear x2 hj hp hg
    go_wp2_with fail
    refine Calls.mono CT.out ?_
    rintro e w3 ⟨rfl, rfl⟩
    go_wp2_with fail
    go_ret3
    exact ⟨by rw [HJ.out]; rfl, X2.out⟩
  · have X2 := Lib.hid x2
    have HJ := Lib.hid hj
    have b1 : (er != 0) = true := by rw [bne_iff_ne]; exact her
    clear x2 hj her
    go_wp2_with fail
    go_ret3
    exact ⟨by rw [HJ.out]; rfl, X2.out⟩
/-- Of two answers the first error. -/
def eR2 (a b : Res J) : Int := if eR a = 0 then eR b else eR a
def sameR : Res J → Res J → Bool
  | .ok a, .ok b => (textJ a == textJ b)
  | _, _ => false
set_option maxRecDepth 100000 in
set_option maxHeartbeats 2000000 in
theorem tsame_val (F F' : Nat → Prop) (u v : Value) (w : World) (a b : J) (h : PV F w a u) (h' : PV F' w b v) (ha : IJ a) (hb : IJ b) (ht : Tab10 w) (sa : bulkJ a ≤ 1048576) (sb : bulkJ b ≤ 1048576) :
    Calls Tryz.prog 38 #[u, v] w fun e w' => e = .returned (.bool (textJ a == textJ b)) ∧ Ext w w' := by
  have C1 := Lib.hid (text_val a F u w h ha ht sa)
  have C2 : Hid (∀ W, Ext w W → Calls Tryz.prog 30 #[v] W fun e w' => e = .returned (.string (bx (textJ b))) ∧ Ext W w') := fun W hx => text_val b F' v W (h'.ext hx) hb (ht.ext hx) sb
  have HE : Hid (((bx (textJ a)).toList == (bx (textJ b)).toList) = (textJ a == textJ b)) := by unfold Hid; rw [bx_list, bx_list]
  obtain ⟨r, hr⟩ : ∃ r, r = (textJ a == textJ b) := ⟨_, rfl⟩
  rw [← hr] at HE ⊢
  obtain ⟨x, hx⟩ : ∃ x, x = bx (textJ a) := ⟨_, rfl⟩
  obtain ⟨y, hy⟩ : ∃ y, y = bx (textJ b) := ⟨_, rfl⟩
  rw [← hx, ← hy] at HE
  rw [← hx] at C1
  rw [← hy] at C2
  have hxx : Ext w w := Below.refl _ _
  clear h h' ha hb ht sa sb hr hx hy
  go_enter Tryz.func38, Tryz.ntmps38
  go_wp2_with fail
  refine Calls.mono C1.out ?_
  rintro e w2 ⟨rfl, x2⟩
  have X2 := Lib.hid x2
  clear x2
  go_wp2_with fail
  refine Calls.mono (C2.out w2 X2.out) ?_
  rintro e w3 ⟨rfl, x3⟩
  have X3 := Lib.hid (X2.out.trans x3)
  clear x3
  have he := HE.out
  go_wp2_with fail
  go_ret
  exact ⟨rfl, X3.out⟩
set_option maxRecDepth 100000 in
set_option maxHeartbeats 2000000 in
theorem jsame_any (s t : ByteArray) (w : World) (ht : Tab10 w) : Calls Tryz.prog 15 #[.string s, .string t] w fun e w' => e = .returned (.tuple #[.bool (sameR (readS s.data.toList) (readS t.data.toList)), .int .i64 (eR2 (readS s.data.toList) (readS t.data.toList))]) ∧ Ext w w' := by
  have CR := Lib.hid (read_any s w)
  have CR2 := Lib.hid (fun W => read_any t W)
  have HT := Lib.hid ht
  have HG : Hid (∀ j, readS s.data.toList = .ok j → WJ j ∧ bulkJ j ≤ 128000) := fun j h => readS_good h
  have HG2 : Hid (∀ j, readS t.data.toList = .ok j → WJ j ∧ bulkJ j ≤ 128000) := fun j h => readS_good h
  obtain ⟨R, hR⟩ : ∃ R, R = readS s.data.toList := ⟨_, rfl⟩
  obtain ⟨Q, hQ⟩ : ∃ R, R = readS t.data.toList := ⟨_, rfl⟩
  rw [← hR] at CR HG ⊢
  rw [← hQ] at CR2 HG2 ⊢
  clear hR hQ ht
  go_enter Tryz.func15, Tryz.ntmps15
  go_wp2_with fail
  refine Calls.mono CR.out ?_
  rintro e w2 ⟨x2, ⟨j, u, hj, hp, rfl⟩ | ⟨er, her, hj, rfl⟩⟩
  · have X2 := Lib.hid x2
    have HJ := Lib.hid hj
    have HP := Lib.hid hp
    clear x2 hj hp
    go_wp2_with fail
    refine Calls.mono (CR2.out w2) ?_
    rintro e w3 ⟨x3, ⟨k, v, hk, hq, rfl⟩ | ⟨er, her, hk, rfl⟩⟩
    · have X3 := Lib.hid (X2.out.trans x3)
      have HK := Lib.hid hk
      have g1 := HG.out j HJ.out
      have g2 := HG2.out k hk
      have CS := Lib.hid (tsame_val _ _ u v w3 j k (HP.out.ext x3) hq (HP.out.ij j u g1.1) (hq.ij k v g2.1) (HT.out.ext X3.out) (by omega) (by omega))
      clear x3 hk hq g1 g2
      go_wp2_with fail
      refine Calls.mono CS.out ?_
      rintro e w4 ⟨rfl, x4⟩
      have X4 := Lib.hid (X3.out.trans x4)
      clear x4
      go_wp2_with fail
      go_ret2
      exact ⟨by rw [HJ.out, HK.out]; rfl, X4.out⟩
    · have X3 := Lib.hid (X2.out.trans x3)
      have HK := Lib.hid hk
      have b1 : (er != 0) = true := by rw [bne_iff_ne]; exact her
      clear x3 hk her
      go_wp2_with fail
      go_ret2
      exact ⟨by rw [HJ.out, HK.out]; rfl, X3.out⟩
  · have X2 := Lib.hid x2
    have HJ := Lib.hid hj
    have b0 : (er == 0) = false := by rw [beq_eq_false_iff_ne]; exact her
    have b1 : (er != 0) = true := by rw [bne_iff_ne]; exact her
    have HE2 : Hid (∀ x : Res J, eR2 (.error er) x = er ∧ sameR (.error er) x = false) := fun x => ⟨by unfold eR2; rw [if_neg (show ¬ eR (.error er : Res J) = 0 from her)]; rfl, rfl⟩
    clear x2 hj her
    go_wp2_with fail
    refine Calls.mono (CR2.out w2) ?_
    rintro e w3 ⟨x3, ⟨k, v, hk, hq, rfl⟩ | ⟨er2, her2, hk, rfl⟩⟩
    · have X3 := Lib.hid (X2.out.trans x3)
      clear x3 hk hq
      go_wp2_with fail
      go_ret2
      exact ⟨by rw [HJ.out, (HE2.out _).1, (HE2.out _).2]; rfl, X3.out⟩
    · have X3 := Lib.hid (X2.out.trans x3)
      clear x3 hk her2
      go_wp2_with fail
      go_ret2
      exact ⟨by rw [HJ.out, (HE2.out _).1, (HE2.out _).2]; rfl, X3.out⟩
end Go.Proofs.YtahinicpceokcaaGreatDoor.Jm
