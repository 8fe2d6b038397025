/-
  The program's reader: word, number (printed by gen/jr3.py).
  The program's reader: a number without a sign; plain (printed by gen/jr3.py).
  The program's reader: plain (printed by gen/jr5.py).
-/
import Derived.Test.YtnccefeehkcneaaGreatDoorJra
import Derived.Test.YtnccefeehkcneaaGreatDoorShelf
import Derived.Deep.DeepCutAuto
import Derived.Deep.RegionLaw
import Derived.Deep.RegionHeld3
import Derived.Lib.SmallJoins
import Derived.Lib.Walk
namespace Go.Proofs.YtnccefeehkcneaaGreatDoor.Jm
open Go Go.RowKit Go.Proofs.YtnccefeehkcneaaGreatDoor.Sx Go.Proofs.YtnccefeehkcneaaGreatDoor.Js Go.Proofs.YtnccefeehkcneaaGreatDoor.Gr
theorem extract_sfx (s : ByteArray) (i : Nat) : (s.extract i s.size).data.toList = sfx s i := Lib.extract_to_end s i
def WordPost (w : World) (k : Nat) (s : ByteArray) (i many : Nat) (v : Value) (p : Tx) (e : Ending) (w' : World) : Prop :=
  ∃ j bad, e = .returned (.tuple #[]) ∧ w.grownBy w' (some k) ∧ RIn w' k s j many v bad ∧ j ≤ 3000 ∧ ((p.isPrefixOf (sfx s i) = true ∧ bad = 0 ∧ j ≤ s.size ∧ sfx s j = (sfx s i).drop p.length) ∨ (p.isPrefixOf (sfx s i) = false ∧ bad = 3))
set_option maxRecDepth 100000 in
set_option maxHeartbeats 2000000 in
theorem word_any (k : Nat) (s : ByteArray) (i many : Nat) (v : Value) (p : ByteArray) (w : World) (h : RIn w k s i many v 0) (hs : s.size ≤ 2000) (hi : i ≤ s.size) (hp : p.size ≤ 5) :
    Calls Tryz.prog 172 #[.pointer (some ⟨k, 0, none⟩), .string p] w (WordPost w k s i many v p.data.toList) := by
  obtain ⟨z0, z1, _⟩ := h.cells
  have H := Lib.hid h
  have hsl : ∀ W, (Instr.slice 9 (.string s) (some (.int .i64 (i : Int))) none none).run Tryz.prog W = .ok (.string (s.extract i s.size)) W := fun W => by
    rw [run_slice_string_l W _ _ Tryz.underlying9 .i64 (i : Int) (by omega) (by omega)]
    rfl
  have f1 := h.free 1
  clear h
  obtain ⟨x, hx⟩ : ∃ x, x = s.extract i s.size := ⟨_, rfl⟩
  obtain ⟨b, hb⟩ : ∃ b, b = p.data.toList.isPrefixOf (sfx s i) := ⟨_, rfl⟩
  have C : Hid (∀ wk, Calls Tryz.prog 177 #[.string x, .string p] wk fun e w' => e = .returned (.bool b) ∧ w' = wk) := fun wk => by
    have h := Tryz.strings_HasPrefix x p wk
    rw [hx, extract_sfx] at h
    rw [hx, hb]
    exact h
  have HP : Hid (p.data.toList.isPrefixOf (sfx s i) = b ∧ (b = true → i + p.size ≤ s.size ∧ sfx s (i + p.size) = (sfx s i).drop p.data.toList.length)) := by
    refine ⟨hb.symm, fun h => ?_⟩
    rw [hb, List.isPrefixOf_iff_prefix] at h
    obtain ⟨r, hr⟩ := h
    have hl : p.data.toList.length = p.size := size_list p
    have h2 := congrArg List.length hr
    rw [List.length_append, sfx_len, hl] at h2
    refine ⟨by omega, ?_⟩
    rw [hl]
    unfold sfx
    rw [List.drop_drop]
  rw [← hx] at hsl
  have hpI : (p.size : Int) ≤ 5 := by omega
  have hiI : (i : Int) ≤ 2000 := by omega
  have hwr : IntKind.i64.wrap ((i : Int) + (p.size : Int)) = (i : Int) + (p.size : Int) := IntWalk.i64_in _ (by omega)
  clear hx hb
  cases b with
  | true =>
    go_enter Tryz.func172, Tryz.ntmps172
    go_wp2_with fail
    go_quiet (exact Calls.quiet_of_same (C.out _))
    go_wp2_with fail
    go_end0
    exact ⟨i + p.size, 0, rfl, grown_trans (grown_ext (ext_drewN' w _)) (grown_set _ k 1 _), RIn.setAt (w := World.drewN w _) (H.out.ext (ext_drewN' _ _)) (i + p.size) _ (by omega), by omega, .inl ⟨HP.out.1, rfl, (HP.out.2 (by first | rfl | trivial)).1, (HP.out.2 (by first | rfl | trivial)).2⟩⟩
  | false =>
    have CF : Hid (∀ m, Calls Tryz.prog 66 #[.pointer (some ⟨k, 0, none⟩), .int .i64 3] (w.drewN m) fun en w' => en = .returned (.tuple #[]) ∧ RIn w' k s i many v 3 ∧ w.grownBy w' (some k)) := fun m =>
      (fail_any k s i many v 0 3 (w.drewN m) (H.out.ext (ext_drewN' _ _))).mono fun e w' ⟨h1, h2, h3⟩ => ⟨h1, h2, grown_trans (grown_ext (ext_drewN' _ _)) h3⟩
    go_enter Tryz.func172, Tryz.ntmps172
    go_wp2_with fail
    go_quiet (exact Calls.quiet_of_same (C.out _))
    go_wp2_with fail
    refine Calls.mono (CF.out _) ?_
    rintro e w2 ⟨rfl, h2, g2⟩
    go_wp2_with fail
    refine bodyPost_ret (results_none rfl _ _ _) rfl ?_
    exact ⟨i, 3, rfl, g2, h2, by omega, .inr ⟨HP.out.1, rfl⟩⟩
theorem dg_nat {c : UInt8} (h : isDg c = true) : 48 ≤ c.toNat ∧ c.toNat ≤ 57 := by
  unfold isDg at h
  simp only [Bool.and_eq_true, decide_eq_true_eq, UInt8.le_iff_toNat_le] at h
  exact h
theorem dg_not {c : UInt8} (h : isDg c = false) : c.toNat < 48 ∨ 57 < c.toNat := by
  by_cases h1 : 48 ≤ c.toNat ∧ c.toNat ≤ 57
  · have : isDg c = true := by
      unfold isDg
      simp only [Bool.and_eq_true, decide_eq_true_eq, UInt8.le_iff_toNat_le]
      exact h1
    rw [this] at h
    cases h
  · omega
theorem parse_dig : ∀ (l : Tx) (a : Nat), (∀ c ∈ l, isDg c = true) → (a + 1) * 10 ^ l.length ≤ 18446744073709551616 → Lib.parseUint10 a l = .ok (valR a l)
  | [], a, _, _ => rfl
  | c :: r, a, h, hb => by
    have hc := dg_nat (h c (List.mem_cons_self ..))
    have hp : 1 ≤ 10 ^ r.length := Nat.pow_pos (by omega)
    have hb2 : (a + 1) * 10 * 10 ^ r.length ≤ 18446744073709551616 := by
      rw [List.length_cons, Nat.pow_succ] at hb
      rw [Nat.mul_assoc, Nat.mul_comm 10]
      exact hb
    have hb3 : (a + 1) * 10 ≤ 18446744073709551616 := Nat.le_trans (Nat.le_mul_of_pos_right _ hp) hb2
    unfold Lib.parseUint10
    rw [if_pos hc, if_neg (by omega), if_neg (by omega), parse_dig r _ (fun x hx => h x (List.mem_cons_of_mem _ hx)) (Nat.le_trans (Nat.mul_le_mul_right _ (by omega)) hb2)]
    unfold valR
    rw [List.foldl_cons, Nat.mul_comm a 10]
theorem valR_lt : ∀ (l : Tx) (a : Nat), (∀ c ∈ l, isDg c = true) → valR a l < (a + 1) * 10 ^ l.length
  | [], a, _ => by unfold valR; simp
  | c :: r, a, h => by
    have hc := dg_nat (h c (List.mem_cons_self ..))
    have ih := valR_lt r (10 * a + (c.toNat - 48)) (fun x hx => h x (List.mem_cons_of_mem _ hx))
    have e : valR a (c :: r) = valR (10 * a + (c.toNat - 48)) r := rfl
    rw [e, List.length_cons, Nat.pow_succ]
    refine Nat.lt_of_lt_of_le ih ?_
    rw [Nat.mul_comm (10 ^ r.length) 10, ← Nat.mul_assoc]
    exact Nat.mul_le_mul_right _ (by omega)
theorem val_small {l : Tx} (h : ∀ c ∈ l, isDg c = true) (hl : l.length ≤ 18) : valR 0 l < 1000000000000000000 := by
  have h1 := valR_lt l 0 h
  have h2 : 10 ^ l.length ≤ 10 ^ 18 := Nat.pow_le_pow_right (by omega) hl
  omega
theorem parse_num {l : Tx} (hne : l ≠ []) (h : ∀ c ∈ l, isDg c = true) (hl : l.length ≤ 18) : Lib.parseIntB 64 l = .ok (valR 0 l : Int) ∧ Lib.parseIntB 64 (45 :: l) = .ok (-(valR 0 l : Int)) := by
  have hv := val_small h hl
  have hp : Lib.parseUintB 64 l = .ok (valR 0 l) := by
    rw [Lib.parseUintB_64]
    unfold Lib.parseMag
    rw [if_neg hne, parse_dig l 0 h]
    have h2 : 10 ^ l.length ≤ 10 ^ 18 := Nat.pow_le_pow_right (by omega) hl
    omega
  have e63 : (2 : Nat) ^ (64 - 1) = 9223372036854775808 := by decide
  constructor
  · cases l with
    | nil => exact absurd rfl hne
    | cons c r =>
      have hc := dg_nat (h c (List.mem_cons_self ..))
      unfold Lib.parseIntB
      simp only
      rw [if_neg (by omega), hp]
      simp only
      rw [if_neg (by rw [e63]; omega), if_neg (by rw [e63]; omega), if_neg (by omega)]
  · unfold Lib.parseIntB
    simp only
    rw [if_pos (.inr (by decide)), hp]
    simp only
    rw [if_neg (fun h => h.1 (by decide)), if_neg (by rw [e63]; omega), if_pos (by decide)]
theorem digs_all : ∀ (s : Tx), ∀ c ∈ digs s, isDg c = true
  | [], c, hc => by cases hc
  | x :: r, c, hc => by
    unfold digs at hc
    rw [List.takeWhile_cons] at hc
    split at hc
    · rename_i hx
      rcases List.mem_cons.1 hc with rfl | hc
      · exact hx
      · exact digs_all r c hc
    · cases hc
def NumPost (w : World) (k : Nat) (s : ByteArray) (i many : Nat) (v : Value) (e : Ending) (w' : World) : Prop :=
  ∃ j bad, w.grownBy w' (some k) ∧ RIn w' k s j many v bad ∧ j ≤ 3000 ∧ ((∃ n, numS (sfx s i) = .ok (n, sfx s j) ∧ I64 n ∧ e = .returned (.iface 2 (.int .i64 n)) ∧ bad = 0 ∧ j ≤ s.size) ∨ (∃ er, numS (sfx s i) = .error er ∧ er ≠ 0 ∧ e = .returned .nilIface ∧ bad = er))
theorem numS_plus {s : Tx} (h : ∀ r, s ≠ 45 :: r) : numS s = numD false s := by
  unfold numS
  split
  · rename_i r; exact absurd rfl (h r)
  · rfl
theorem bytes_ext (w : World) (t : TypeId) (x : ByteArray) : Ext w (Lib.bytesWorld w t x) := Joins.below_bytesWorld _ _ _ _ (Nat.le_refl _)
set_option maxRecDepth 100000 in
set_option maxHeartbeats 8000000 in
theorem number_minus (k : Nat) (s : ByteArray) (i many : Nat) (v : Value) (w : World) (h : RIn w k s i many v 0) (hs : s.size ≤ 2000) (hi : i < s.size) (h45' : byteAt s i = 45) :
    Calls Tryz.prog 173 #[.pointer (some ⟨k, 0, none⟩)] w (NumPost w k s i many v) := by
  obtain ⟨z0, z1, _⟩ := h.cells
  have f1 := h.free 1
  have H := Lib.hid h
  clear h
  have FL : Hid (∀ (W : World) (j : Nat) (er : Int), RIn W k s j many v 0 → w.grownBy W (some k) → Calls Tryz.prog 66 #[.pointer (some ⟨k, 0, none⟩), .int .i64 er] W fun en w' => en = .returned (.tuple #[]) ∧ RIn w' k s j many v er ∧ w.grownBy w' (some k)) := fun W j er h hg =>
    (fail_any k s j many v 0 er W h).mono fun e w' ⟨h1, h2, h3⟩ => ⟨h1, h2, grown_trans hg h3⟩
  have hby := run_byte s i hi
  obtain ⟨c, hcc⟩ : ∃ c, c = byteAt s i := ⟨_, rfl⟩
  have HSX : Hid (sfx s i = c :: sfx s (i + 1)) := by rw [hcc]; exact sfx_cons hi
  rw [← hcc] at hby
  have hltI : (i : Int) < (s.size : Int) := by omega
  have hi0 : (0 : Int) ≤ (i : Int) := by omega
  have h45 : c = 45 := by rw [hcc]; exact h45'
  clear hcc h45'
  have HC45 : Hid (c = 45) := h45
  have b45 : ((c.toNat : Int) == 45) = true := by rw [h45]; rfl
  have HNV : Hid (numS (sfx s i) = numD true (sfx s (i + 1))) := by
    unfold Hid
    rw [HSX.out, h45]; rfl
  clear h45
  go_enter Tryz.func173, Tryz.ntmps173
  go_wp2_with fail
  go_quiet (fail)
  go_upto_block 0 with fail
  have H2 : Hid (∀ m, RIn ((w.drewN m).setCell ⟨k, 1, none⟩ (.int .i64 ((i : Int) + 1))) k s (i + 1) many v 0 ∧ w.grownBy ((w.drewN m).setCell ⟨k, 1, none⟩ (.int .i64 ((i : Int) + 1))) (some k)) := fun m =>
    ⟨RIn.setAt (w := World.drewN w m) (H.out.ext (ext_drewN' _ _)) (i + 1) _ (by omega), grown_trans (grown_ext (ext_drewN' w _)) (grown_set _ k 1 _)⟩
  obtain ⟨f, hf⟩ : ∃ f, f = (i + 1) := ⟨_, rfl⟩
  have hfI : ((i : Int) + 1) = (f : Int) := by omega
  have hfs : f ≤ s.size := by omega
  have HNU : Hid (numS (sfx s i) = numD true (sfx s f)) := by rw [hf]; exact HNV.out
  have H3 : Hid (∀ m, RIn ((w.drewN m).setCell ⟨k, 1, none⟩ (.int .i64 (f : Int))) k s f many v 0 ∧ w.grownBy ((w.drewN m).setCell ⟨k, 1, none⟩ (.int .i64 (f : Int))) (some k)) := by have h := H2.out; rw [hfI, ← hf] at h; exact h
  try rw [hfI]
  have HF := Lib.hid hf
  have hif : (i : Int) < (f : Int) := by omega
  clear hf HNV H2 z0 z1 f1 hby hltI hi0 b45
  go_cut [3, 4] (fun a b wx => a = .int .i64 (i : Int) ∧ b = .int .i64 (f : Int) ∧ ∃ j : Nat, f ≤ j ∧ j ≤ s.size ∧ Hid (RIn wx k s j many v 0 ∧ digs (sfx s f) = (sfx s f).take (j - f) ∧ offD (sfx s f) = sfx s j ∧ w.grownBy wx (some k)))
  case first =>
    clear hfI
    go_wp2_with fail
    go_loopw [66] (fun _ wr => ∃ j : Nat, f ≤ j ∧ j ≤ s.size ∧ Hid (RIn wr k s j many v 0 ∧ digs (sfx s f) = (sfx s f).take (j - f) ++ digs (sfx s j) ∧ offD (sfx s f) = offD (sfx s j) ∧ w.grownBy wr (some k))) (fun _ wr => s.size - atOf wr k)
    case atStart => exact ⟨f, Nat.le_refl _, hfs, (H3.out _).1, by simp, rfl, (H3.out _).2⟩
    case round =>
      obtain ⟨j, hfj, hjs, hR⟩ := hrel
      obtain ⟨z0, z1, _⟩ := hR.out.1.cells
      have f1 := hR.out.1.free 1
      by_cases hlt : j < s.size
      · have hby := run_byte s j hlt
        obtain ⟨d, hdd⟩ : ∃ d, d = byteAt s j := ⟨_, rfl⟩
        have HSJ : Hid (sfx s j = d :: sfx s (j + 1)) := by rw [hdd]; exact sfx_cons hlt
        rw [← hdd] at hby
        have hltI : (j : Int) < (s.size : Int) := by omega
        have hj0 : (0 : Int) ≤ (j : Int) := by omega
        clear hdd
        cases hd : isDg d with
        | true =>
          obtain ⟨d1, d2⟩ := dg_nat hd
          have b48 : decide ((48 : Int) ≤ (d.toNat : Int)) = true := decide_eq_true (by omega)
          have b57 : decide ((d.toNat : Int) ≤ 57) = true := decide_eq_true (by omega)
          have HN : Hid (digs (sfx s f) = (sfx s f).take (j + 1 - f) ++ digs (sfx s (j + 1)) ∧ offD (sfx s f) = offD (sfx s (j + 1))) := by
            refine ⟨?_, ?_⟩
            · rw [hR.out.2.1, take_next HSJ.out hfj, List.append_assoc, HSJ.out]
              unfold digs
              rw [List.takeWhile_cons, if_pos hd]
              rfl
            · rw [hR.out.2.2.1, HSJ.out]
              unfold offD
              rw [List.dropWhile_cons, if_pos hd]
          clear hd d1 d2
          go_wp2_with fail
          go_quiet (fail)
          go_wp2_with fail
          go_roundw
          case rel => exact ⟨j + 1, by omega, hlt, RIn.setAt (w := World.drewN _ _) (hR.out.1.ext (ext_drewN' _ _)) (j + 1) _ (by omega), HN.out.1, HN.out.2, grown_trans hR.out.2.2.2 (grown_trans (grown_ext (ext_drewN' _ _)) (grown_set _ k 1 _))⟩
          case measure =>
            rw [hR.out.1.atOf, (RIn.setAt (w := World.drewN _ _) (hR.out.1.ext (ext_drewN' _ _)) (j + 1) _ (by omega)).atOf]
            omega
        | false =>
          have HN : Hid (digs (sfx s f) = (sfx s f).take (j - f) ∧ offD (sfx s f) = sfx s j) := by
            refine ⟨?_, ?_⟩
            · rw [hR.out.2.1, HSJ.out]
              unfold digs
              rw [List.takeWhile_cons, if_neg (by rw [hd]; simp), List.append_nil]
            · rw [hR.out.2.2.1, HSJ.out]
              unfold offD
              rw [List.dropWhile_cons, if_neg (by rw [hd]; simp)]
          rcases dg_not hd with h1 | h1
          · have b48 : decide ((48 : Int) ≤ (d.toNat : Int)) = false := decide_eq_false (by omega)
            clear hd h1
            go_wp2_with fail
            go_quiet (fail)
            go_wp2_with fail
            go_meet
            exact ⟨rfl, rfl, j, hfj, hjs, hR.out.1.ext (ext_drewN' _ _), HN.out.1, HN.out.2, grown_trans hR.out.2.2.2 (grown_ext (ext_drewN' _ _))⟩
          · have b48 : decide ((48 : Int) ≤ (d.toNat : Int)) = true := decide_eq_true (by omega)
            have b57 : decide ((d.toNat : Int) ≤ 57) = false := decide_eq_false (by omega)
            clear hd h1
            go_wp2_with fail
            go_quiet (fail)
            go_wp2_with fail
            go_meet
            exact ⟨rfl, rfl, j, hfj, hjs, hR.out.1.ext (ext_drewN' _ _), HN.out.1, HN.out.2, grown_trans hR.out.2.2.2 (grown_ext (ext_drewN' _ _))⟩
      · have HN : Hid (digs (sfx s f) = (sfx s f).take (j - f) ∧ offD (sfx s f) = sfx s j) := by
          have e : sfx s j = [] := sfx_end (by omega)
          refine ⟨?_, ?_⟩
          · rw [hR.out.2.1, e]; simp [digs]
          · rw [hR.out.2.2.1, e]; simp [offD]
        have bl : decide ((j : Int) < (s.size : Int)) = false := decide_eq_false (by omega)
        have bl2 : decide (j < s.size) = false := decide_eq_false hlt
        clear hlt
        go_wp2_with fail
        go_quiet (fail)
        go_wp2_with fail
        go_meet
        exact ⟨rfl, rfl, j, hfj, hjs, hR.out.1.ext (ext_drewN' _ _), HN.out.1, HN.out.2, grown_trans hR.out.2.2.2 (grown_ext (ext_drewN' _ _))⟩
  case rest =>
    obtain ⟨rfl, rfl, j, hfj, hjs, hR⟩ := hcut
    have hl : (digs (sfx s f)).length = j - f := by rw [hR.out.2.1, List.length_take, sfx_len]; omega
    have HD : Hid (digs (sfx s f) = (sfx s f).take (j - f) ∧ offD (sfx s f) = sfx s j) := ⟨hR.out.2.1, hR.out.2.2.1⟩
    obtain ⟨z0, z1, _⟩ := hR.out.1.cells
    have hj0 : (0 : Int) ≤ (j : Int) := by omega
    have hjI : (j : Int) ≤ 2000 := by omega
    have hf0 : (0 : Int) ≤ (f : Int) := by omega
    have hfj2 : (f : Int) ≤ (j : Int) := by omega
    have hwr : IntKind.i64.wrap ((j : Int) - (f : Int)) = (j : Int) - (f : Int) := IntWalk.i64_in _ (by omega)
    by_cases h0 : j = f
    · have HE : Hid (numS (sfx s i) = .error 3) := by
        unfold Hid
        rw [HNU.out]
        unfold numD
        rw [if_pos (.inl (List.length_eq_zero_iff.1 (by omega)))]
      have t0 : ((j : Int) - (f : Int) == 0) = true := by rw [beq_iff_eq]; omega
      clear h0 hl
      have CF := Lib.hid (FL.out wc j 3 hR.out.1 hR.out.2.2.2)
      go_wp2_with fail
      refine Calls.mono CF.out ?_
      rintro e w2 ⟨rfl, h2, g2⟩
      go_wp2_with fail
      go_ret
      exact ⟨j, 3, g2, h2, by omega, .inr ⟨3, HE.out, by decide, rfl, rfl⟩⟩
    · have t0 : ((j : Int) - (f : Int) == 0) = false := by rw [beq_eq_false_iff_ne]; omega
      have hfl : f < s.size := by omega
      have hb0 := run_byte s f hfl
      obtain ⟨d0, hd0⟩ : ∃ d0, d0 = byteAt s f := ⟨_, rfl⟩
      have hhead : (digs (sfx s f)).head? = some d0 := by
        rw [hR.out.2.1, sfx_cons hfl, ← hd0, show j - f = (j - f - 1) + 1 by omega]
        rfl
      rw [← hd0] at hb0
      have hfI : (f : Int) < (s.size : Int) := by omega
      clear hd0
      by_cases h48 : d0 = 48
      · have b48 : ((d0.toNat : Int) == 48) = true := by rw [h48]; rfl
        by_cases h1 : 1 < j - f
        · have t1 : decide ((1 : Int) < (j : Int) - (f : Int)) = true := decide_eq_true (by omega)
          have HE : Hid (numS (sfx s i) = .error 3) := by
            unfold Hid
            rw [HNU.out]
            unfold numD
            rw [if_pos (.inr ⟨by rw [hhead, h48], .inl (by omega)⟩)]
          clear h48 h1 h0 hl hhead
          have CF := Lib.hid (FL.out wc j 3 hR.out.1 hR.out.2.2.2)
          go_wp2_with fail
          refine Calls.mono CF.out ?_
          rintro e w2 ⟨rfl, h2, g2⟩
          go_wp2_with fail
          go_ret
          exact ⟨j, 3, g2, h2, by omega, .inr ⟨3, HE.out, by decide, rfl, rfl⟩⟩
        · have t1 : decide ((1 : Int) < (j : Int) - (f : Int)) = false := decide_eq_false (by omega)
          have HE : Hid (numS (sfx s i) = .error 3) := by
            unfold Hid
            rw [HNU.out]
            unfold numD
            rw [if_pos (.inr ⟨by rw [hhead, h48], .inr rfl⟩)]
          have tfr : decide ((i : Int) < (f : Int)) = true := decide_eq_true hif
          have tfr2 : decide (i < f) = true := decide_eq_true (by omega)
          clear h48 h1 h0 hl hhead
          have CF := Lib.hid (FL.out wc j 3 hR.out.1 hR.out.2.2.2)
          go_wp2_with fail
          refine Calls.mono CF.out ?_
          rintro e w2 ⟨rfl, h2, g2⟩
          go_wp2_with fail
          go_ret
          exact ⟨j, 3, g2, h2, by omega, .inr ⟨3, HE.out, by decide, rfl, rfl⟩⟩
      · have b48 : ((d0.toNat : Int) == 48) = false := by rw [show (48 : Int) = ((48 : Nat) : Int) from rfl, byte_lit d0 48 (by omega)]; simp [h48]
        have hnz : ¬ (digs (sfx s f) = [] ∨ (digs (sfx s f)).head? = some 48 ∧ (1 < (digs (sfx s f)).length ∨ true = true)) := by
          rintro (e | e)
          · rw [e] at hl; simp at hl; omega
          · rw [hhead] at e; injection e.1 with e; exact h48 e
        clear h48 hhead
        by_cases h18 : 18 < j - f
        · have t18 : decide ((18 : Int) < (j : Int) - (f : Int)) = true := decide_eq_true (by omega)
          have HE : Hid (numS (sfx s i) = .error 2) := by
            unfold Hid
            rw [HNU.out]
            unfold numD
            rw [if_neg hnz, if_pos (by omega)]
          clear h18 hnz h0 hl
          have CF := Lib.hid (FL.out wc j 2 hR.out.1 hR.out.2.2.2)
          go_wp2_with fail
          refine Calls.mono CF.out ?_
          rintro e w2 ⟨rfl, h2, g2⟩
          go_wp2_with fail
          go_ret
          exact ⟨j, 2, g2, h2, by omega, .inr ⟨2, HE.out, by decide, rfl, rfl⟩⟩
        · have t18 : decide ((18 : Int) < (j : Int) - (f : Int)) = false := decide_eq_false (by omega)
          obtain ⟨n, hn⟩ : ∃ n : Int, n = -(valR 0 (digs (sfx s f)) : Int) := ⟨_, rfl⟩
          have hval := val_small (digs_all (sfx s f)) (by omega)
          have HE : Hid (numS (sfx s i) = .ok (n, sfx s j) ∧ I64 n) := by
            refine ⟨?_, by rw [hn]; unfold I64; omega⟩
            rw [HNU.out]
            unfold numD
            rw [if_neg hnz, if_neg (by omega), HD.out.2, hn]
            rfl
          have hpn := parse_num (l := digs (sfx s f)) (fun e => hnz (.inl e)) (digs_all _) (by omega)
          obtain ⟨x, hx⟩ : ∃ x, x = s.extract i j := ⟨_, rfl⟩
          have hxl : x.data.toList = 45 :: digs (sfx s f) := by
            rw [hx, extract_piece, HD.out.1]
            rw [HSX.out, show j - i = (j - f) + 1 by have := HF.out; omega, List.take_succ_cons, show i + 1 = f from HF.out.symm, HC45.out]
          have hsl := run_piece s i j (by have := HF.out; omega) hjs
          rw [← hx] at hsl
          have CP : Hid (∀ wk, Ext wc wk → Calls Tryz.prog 203 #[.string x, .int .i64 10, .int .i64 64] wk fun e w' => e = .returned (.tuple #[.int .i64 n, .nilIface]) ∧ Ext wc w' ∧ w'.cell? ⟨k, 0, none⟩ = some (.string s) ∧ w'.cell? ⟨k, 1, none⟩ = some (.int .i64 (j : Int))) := fun wk hk => by
            have hsz : x.size ≤ 2000 := by
              have h1 := size_list x
              rw [hx, extract_piece] at h1
              rw [hx, ← h1, List.length_take, sfx_len]
              omega
            refine (Tryz.strconv_ParseInt_10_at64_ok x (by omega) n (by rw [hxl, hn]; exact hpn.2) wk).mono fun e w' ⟨he, hw⟩ => ?_
            have hx2 : Ext wc w' := by
              rcases hw with rfl | ⟨t, rfl⟩
              · exact hk
              · exact hk.trans (bytes_ext _ _ _)
            have c := (hR.out.1.ext hx2).cells
            exact ⟨he, hx2, c.1, c.2.1⟩
          have hxx : Ext wc wc := Below.refl _ _
          have hi0 : (0 : Int) ≤ (i : Int) := by omega
          clear h18 hnz h0 hl hval hpn hxl hn hx
          go_wp2_with fail
          go_region_held3 (fun w' => w'.cell? ⟨k, 0, none⟩ = some (.string s) ∧ w'.cell? ⟨k, 1, none⟩ = some (.int .i64 (j : Int)))
            (first | exact ⟨by assumption, by assumption⟩ | go_keep)
            (first | (go_at_call 203; refine (CP.out _ (by first | assumption | exact hxx.drew)).mono ?_; rintro e w' ⟨rfl, r0, r1, r2⟩))
          go_wp2_with fail
          go_ret
          exact ⟨j, 0, grown_trans hR.out.2.2.2 (grown_ext r0), hR.out.1.ext r0, by omega, .inl ⟨n, HE.out.1, HE.out.2, rfl, rfl, hjs⟩⟩
end Go.Proofs.YtnccefeehkcneaaGreatDoor.Jm
namespace Go.Proofs.YtnccefeehkcneaaGreatDoor.Jm
open Go Go.RowKit Go.Proofs.YtnccefeehkcneaaGreatDoor.Sx Go.Proofs.YtnccefeehkcneaaGreatDoor.Js Go.Proofs.YtnccefeehkcneaaGreatDoor.Gr
set_option maxRecDepth 100000 in
set_option maxHeartbeats 8000000 in
theorem number_plus (k : Nat) (s : ByteArray) (i many : Nat) (v : Value) (w : World) (h : RIn w k s i many v 0) (hs : s.size ≤ 2000) (hi : i < s.size) (h45' : byteAt s i ≠ 45) :
    Calls Tryz.prog 173 #[.pointer (some ⟨k, 0, none⟩)] w (NumPost w k s i many v) := by
  obtain ⟨z0, z1, _⟩ := h.cells
  have f1 := h.free 1
  have H := Lib.hid h
  clear h
  have FL : Hid (∀ (W : World) (j : Nat) (er : Int), RIn W k s j many v 0 → w.grownBy W (some k) → Calls Tryz.prog 66 #[.pointer (some ⟨k, 0, none⟩), .int .i64 er] W fun en w' => en = .returned (.tuple #[]) ∧ RIn w' k s j many v er ∧ w.grownBy w' (some k)) := fun W j er h hg =>
    (fail_any k s j many v 0 er W h).mono fun e w' ⟨h1, h2, h3⟩ => ⟨h1, h2, grown_trans hg h3⟩
  have hby := run_byte s i hi
  obtain ⟨c, hcc⟩ : ∃ c, c = byteAt s i := ⟨_, rfl⟩
  have HSX : Hid (sfx s i = c :: sfx s (i + 1)) := by rw [hcc]; exact sfx_cons hi
  rw [← hcc] at hby
  have hltI : (i : Int) < (s.size : Int) := by omega
  have hi0 : (0 : Int) ≤ (i : Int) := by omega
  have h45 : c ≠ 45 := by rw [hcc]; exact h45'
  clear hcc h45'
  have b45 : ((c.toNat : Int) == 45) = false := by rw [show (45 : Int) = ((45 : Nat) : Int) from rfl, byte_lit c 45 (by omega)]; simp [h45]
  have HNV : Hid (numS (sfx s i) = numD false (sfx s i)) := by
    unfold Hid
    exact numS_plus (fun r e => by rw [HSX.out] at e; injection e with e _; exact h45 e)
  clear h45
  go_enter Tryz.func173, Tryz.ntmps173
  go_wp2_with fail
  go_quiet (fail)
  go_upto_block 0 with fail
  have H2 : Hid (∀ m, RIn (w.drewN m) k s i many v 0 ∧ w.grownBy (w.drewN m) (some k)) := fun m => ⟨H.out.ext (ext_drewN' _ _), grown_ext (ext_drewN' _ _)⟩
  obtain ⟨f, hf⟩ : ∃ f, f = i := ⟨_, rfl⟩
  have hfI : ((i : Int)) = (f : Int) := by omega
  have hfs : f ≤ s.size := by omega
  have HNU : Hid (numS (sfx s i) = numD false (sfx s f)) := by rw [hf]; exact HNV.out
  have H3 : Hid (∀ m, RIn (w.drewN m) k s f many v 0 ∧ w.grownBy (w.drewN m) (some k)) := by have h := H2.out; rw [← hf] at h; exact h
  clear hfI
  have HF := Lib.hid hf

  clear hf HNV H2 z0 z1 f1 hby hltI hi0 b45
  go_cut [3, 4] (fun a b wx => a = .int .i64 (i : Int) ∧ b = .int .i64 (f : Int) ∧ ∃ j : Nat, f ≤ j ∧ j ≤ s.size ∧ Hid (RIn wx k s j many v 0 ∧ digs (sfx s f) = (sfx s f).take (j - f) ∧ offD (sfx s f) = sfx s j ∧ w.grownBy wx (some k)))
  case first =>
    skip
    go_wp2_with fail
    go_loopw [66] (fun _ wr => ∃ j : Nat, f ≤ j ∧ j ≤ s.size ∧ Hid (RIn wr k s j many v 0 ∧ digs (sfx s f) = (sfx s f).take (j - f) ++ digs (sfx s j) ∧ offD (sfx s f) = offD (sfx s j) ∧ w.grownBy wr (some k))) (fun _ wr => s.size - atOf wr k)
    case atStart => exact ⟨f, Nat.le_refl _, hfs, (H3.out _).1, by simp, rfl, (H3.out _).2⟩
    case round =>
      obtain ⟨j, hfj, hjs, hR⟩ := hrel
      obtain ⟨z0, z1, _⟩ := hR.out.1.cells
      have f1 := hR.out.1.free 1
      by_cases hlt : j < s.size
      · have hby := run_byte s j hlt
        obtain ⟨d, hdd⟩ : ∃ d, d = byteAt s j := ⟨_, rfl⟩
        have HSJ : Hid (sfx s j = d :: sfx s (j + 1)) := by rw [hdd]; exact sfx_cons hlt
        rw [← hdd] at hby
        have hltI : (j : Int) < (s.size : Int) := by omega
        have hj0 : (0 : Int) ≤ (j : Int) := by omega
        clear hdd
        cases hd : isDg d with
        | true =>
          obtain ⟨d1, d2⟩ := dg_nat hd
          have b48 : decide ((48 : Int) ≤ (d.toNat : Int)) = true := decide_eq_true (by omega)
          have b57 : decide ((d.toNat : Int) ≤ 57) = true := decide_eq_true (by omega)
          have HN : Hid (digs (sfx s f) = (sfx s f).take (j + 1 - f) ++ digs (sfx s (j + 1)) ∧ offD (sfx s f) = offD (sfx s (j + 1))) := by
            refine ⟨?_, ?_⟩
            · rw [hR.out.2.1, take_next HSJ.out hfj, List.append_assoc, HSJ.out]
              unfold digs
              rw [List.takeWhile_cons, if_pos hd]
              rfl
            · rw [hR.out.2.2.1, HSJ.out]
              unfold offD
              rw [List.dropWhile_cons, if_pos hd]
          clear hd d1 d2
          go_wp2_with fail
          go_quiet (fail)
          go_wp2_with fail
          go_roundw
          case rel => exact ⟨j + 1, by omega, hlt, RIn.setAt (w := World.drewN _ _) (hR.out.1.ext (ext_drewN' _ _)) (j + 1) _ (by omega), HN.out.1, HN.out.2, grown_trans hR.out.2.2.2 (grown_trans (grown_ext (ext_drewN' _ _)) (grown_set _ k 1 _))⟩
          case measure =>
            rw [hR.out.1.atOf, (RIn.setAt (w := World.drewN _ _) (hR.out.1.ext (ext_drewN' _ _)) (j + 1) _ (by omega)).atOf]
            omega
        | false =>
          have HN : Hid (digs (sfx s f) = (sfx s f).take (j - f) ∧ offD (sfx s f) = sfx s j) := by
            refine ⟨?_, ?_⟩
            · rw [hR.out.2.1, HSJ.out]
              unfold digs
              rw [List.takeWhile_cons, if_neg (by rw [hd]; simp), List.append_nil]
            · rw [hR.out.2.2.1, HSJ.out]
              unfold offD
              rw [List.dropWhile_cons, if_neg (by rw [hd]; simp)]
          rcases dg_not hd with h1 | h1
          · have b48 : decide ((48 : Int) ≤ (d.toNat : Int)) = false := decide_eq_false (by omega)
            clear hd h1
            go_wp2_with fail
            go_quiet (fail)
            go_wp2_with fail
            go_meet
            exact ⟨rfl, (by rw [HF.out]), j, hfj, hjs, hR.out.1.ext (ext_drewN' _ _), HN.out.1, HN.out.2, grown_trans hR.out.2.2.2 (grown_ext (ext_drewN' _ _))⟩
          · have b48 : decide ((48 : Int) ≤ (d.toNat : Int)) = true := decide_eq_true (by omega)
            have b57 : decide ((d.toNat : Int) ≤ 57) = false := decide_eq_false (by omega)
            clear hd h1
            go_wp2_with fail
            go_quiet (fail)
            go_wp2_with fail
            go_meet
            exact ⟨rfl, (by rw [HF.out]), j, hfj, hjs, hR.out.1.ext (ext_drewN' _ _), HN.out.1, HN.out.2, grown_trans hR.out.2.2.2 (grown_ext (ext_drewN' _ _))⟩
      · have HN : Hid (digs (sfx s f) = (sfx s f).take (j - f) ∧ offD (sfx s f) = sfx s j) := by
          have e : sfx s j = [] := sfx_end (by omega)
          refine ⟨?_, ?_⟩
          · rw [hR.out.2.1, e]; simp [digs]
          · rw [hR.out.2.2.1, e]; simp [offD]
        have bl : decide ((j : Int) < (s.size : Int)) = false := decide_eq_false (by omega)
        have bl2 : decide (j < s.size) = false := decide_eq_false hlt
        clear hlt
        go_wp2_with fail
        go_quiet (fail)
        go_wp2_with fail
        go_meet
        exact ⟨rfl, (by rw [HF.out]), j, hfj, hjs, hR.out.1.ext (ext_drewN' _ _), HN.out.1, HN.out.2, grown_trans hR.out.2.2.2 (grown_ext (ext_drewN' _ _))⟩
  case rest =>
    obtain ⟨rfl, rfl, j, hfj, hjs, hR⟩ := hcut
    have hl : (digs (sfx s f)).length = j - f := by rw [hR.out.2.1, List.length_take, sfx_len]; omega
    have HD : Hid (digs (sfx s f) = (sfx s f).take (j - f) ∧ offD (sfx s f) = sfx s j) := ⟨hR.out.2.1, hR.out.2.2.1⟩
    obtain ⟨z0, z1, _⟩ := hR.out.1.cells
    have hj0 : (0 : Int) ≤ (j : Int) := by omega
    have hjI : (j : Int) ≤ 2000 := by omega
    have hf0 : (0 : Int) ≤ (f : Int) := by omega
    have hfj2 : (f : Int) ≤ (j : Int) := by omega
    have hwr : IntKind.i64.wrap ((j : Int) - (f : Int)) = (j : Int) - (f : Int) := IntWalk.i64_in _ (by omega)
    by_cases h0 : j = f
    · have HE : Hid (numS (sfx s i) = .error 3) := by
        unfold Hid
        rw [HNU.out]
        unfold numD
        rw [if_pos (.inl (List.length_eq_zero_iff.1 (by omega)))]
      have t0 : ((j : Int) - (f : Int) == 0) = true := by rw [beq_iff_eq]; omega
      clear h0 hl
      have CF := Lib.hid (FL.out wc j 3 hR.out.1 hR.out.2.2.2)
      go_wp2_with fail
      refine Calls.mono CF.out ?_
      rintro e w2 ⟨rfl, h2, g2⟩
      go_wp2_with fail
      go_ret
      exact ⟨j, 3, g2, h2, by omega, .inr ⟨3, HE.out, by decide, rfl, rfl⟩⟩
    · have t0 : ((j : Int) - (f : Int) == 0) = false := by rw [beq_eq_false_iff_ne]; omega
      have hfl : f < s.size := by omega
      have hb0 := run_byte s f hfl
      obtain ⟨d0, hd0⟩ : ∃ d0, d0 = byteAt s f := ⟨_, rfl⟩
      have hhead : (digs (sfx s f)).head? = some d0 := by
        rw [hR.out.2.1, sfx_cons hfl, ← hd0, show j - f = (j - f - 1) + 1 by omega]
        rfl
      rw [← hd0] at hb0
      have hfI : (f : Int) < (s.size : Int) := by omega
      clear hd0
      by_cases h48 : d0 = 48
      · have b48 : ((d0.toNat : Int) == 48) = true := by rw [h48]; rfl
        by_cases h1 : 1 < j - f
        · have t1 : decide ((1 : Int) < (j : Int) - (f : Int)) = true := decide_eq_true (by omega)
          have HE : Hid (numS (sfx s i) = .error 3) := by
            unfold Hid
            rw [HNU.out]
            unfold numD
            rw [if_pos (.inr ⟨by rw [hhead, h48], .inl (by omega)⟩)]
          clear h48 h1 h0 hl hhead
          have CF := Lib.hid (FL.out wc j 3 hR.out.1 hR.out.2.2.2)
          go_wp2_with fail
          refine Calls.mono CF.out ?_
          rintro e w2 ⟨rfl, h2, g2⟩
          go_wp2_with fail
          go_ret
          exact ⟨j, 3, g2, h2, by omega, .inr ⟨3, HE.out, by decide, rfl, rfl⟩⟩
        · have t1 : decide ((1 : Int) < (j : Int) - (f : Int)) = false := decide_eq_false (by omega)
          have tfr : decide ((i : Int) < (f : Int)) = false := decide_eq_false (by have := HF.out; omega)
          have tfr2 : decide (i < f) = false := decide_eq_false (by have := HF.out; omega)
          have hnz : ¬ (digs (sfx s f) = [] ∨ (digs (sfx s f)).head? = some 48 ∧ (1 < (digs (sfx s f)).length ∨ false = true)) := by
            rintro (e | e)
            · rw [e] at hl; simp at hl; omega
            · rcases e.2 with e | e
              · omega
              · cases e
          clear h48 hhead h1
          by_cases h18 : 18 < j - f
          · have t18 : decide ((18 : Int) < (j : Int) - (f : Int)) = true := decide_eq_true (by omega)
            have HE : Hid (numS (sfx s i) = .error 2) := by
              unfold Hid
              rw [HNU.out]
              unfold numD
              rw [if_neg hnz, if_pos (by omega)]
            clear h18 hnz h0 hl
            have CF := Lib.hid (FL.out wc j 2 hR.out.1 hR.out.2.2.2)
            go_wp2_with fail
            refine Calls.mono CF.out ?_
            rintro e w2 ⟨rfl, h2, g2⟩
            go_wp2_with fail
            go_ret
            exact ⟨j, 2, g2, h2, by omega, .inr ⟨2, HE.out, by decide, rfl, rfl⟩⟩
          · have t18 : decide ((18 : Int) < (j : Int) - (f : Int)) = false := decide_eq_false (by omega)
            obtain ⟨n, hn⟩ : ∃ n : Int, n = (valR 0 (digs (sfx s f)) : Int) := ⟨_, rfl⟩
            have hval := val_small (digs_all (sfx s f)) (by omega)
            have HE : Hid (numS (sfx s i) = .ok (n, sfx s j) ∧ I64 n) := by
              refine ⟨?_, by rw [hn]; unfold I64; omega⟩
              rw [HNU.out]
              unfold numD
              rw [if_neg hnz, if_neg (by omega), HD.out.2, hn]
              rfl
            have hpn := parse_num (l := digs (sfx s f)) (fun e => hnz (.inl e)) (digs_all _) (by omega)
            obtain ⟨x, hx⟩ : ∃ x, x = s.extract i j := ⟨_, rfl⟩
            have hxl : x.data.toList = digs (sfx s f) := by
              rw [hx, extract_piece, HD.out.1]
              rw [show f = i from HF.out]
            have hsl := run_piece s i j (by have := HF.out; omega) hjs
            rw [← hx] at hsl
            have CP : Hid (∀ wk, Ext wc wk → Calls Tryz.prog 203 #[.string x, .int .i64 10, .int .i64 64] wk fun e w' => e = .returned (.tuple #[.int .i64 n, .nilIface]) ∧ Ext wc w' ∧ w'.cell? ⟨k, 0, none⟩ = some (.string s) ∧ w'.cell? ⟨k, 1, none⟩ = some (.int .i64 (j : Int))) := fun wk hk => by
              have hsz : x.size ≤ 2000 := by
                have h1 := size_list x
                rw [hx, extract_piece] at h1
                rw [hx, ← h1, List.length_take, sfx_len]
                omega
              refine (Tryz.strconv_ParseInt_10_at64_ok x (by omega) n (by rw [hxl, hn]; exact hpn.1) wk).mono fun e w' ⟨he, hw⟩ => ?_
              have hx2 : Ext wc w' := by
                rcases hw with rfl | ⟨t, rfl⟩
                · exact hk
                · exact hk.trans (bytes_ext _ _ _)
              have c := (hR.out.1.ext hx2).cells
              exact ⟨he, hx2, c.1, c.2.1⟩
            have hxx : Ext wc wc := Below.refl _ _
            have hi0 : (0 : Int) ≤ (i : Int) := by omega
            clear h18 hnz h0 hl hval hpn hxl hn hx
            go_wp2_with fail
            go_region_held3 (fun w' => w'.cell? ⟨k, 0, none⟩ = some (.string s) ∧ w'.cell? ⟨k, 1, none⟩ = some (.int .i64 (j : Int)))
              (first | exact ⟨by assumption, by assumption⟩ | go_keep)
              (first | (go_at_call 203; refine (CP.out _ (by first | assumption | exact hxx.drew)).mono ?_; rintro e w' ⟨rfl, r0, r1, r2⟩))
            go_wp2_with fail
            go_ret
            exact ⟨j, 0, grown_trans hR.out.2.2.2 (grown_ext r0), hR.out.1.ext r0, by omega, .inl ⟨n, HE.out.1, HE.out.2, rfl, rfl, hjs⟩⟩
      · have b48 : ((d0.toNat : Int) == 48) = false := by rw [show (48 : Int) = ((48 : Nat) : Int) from rfl, byte_lit d0 48 (by omega)]; simp [h48]
        have hnz : ¬ (digs (sfx s f) = [] ∨ (digs (sfx s f)).head? = some 48 ∧ (1 < (digs (sfx s f)).length ∨ false = true)) := by
          rintro (e | e)
          · rw [e] at hl; simp at hl; omega
          · rw [hhead] at e; injection e.1 with e; exact h48 e
        clear h48 hhead
        by_cases h18 : 18 < j - f
        · have t18 : decide ((18 : Int) < (j : Int) - (f : Int)) = true := decide_eq_true (by omega)
          have HE : Hid (numS (sfx s i) = .error 2) := by
            unfold Hid
            rw [HNU.out]
            unfold numD
            rw [if_neg hnz, if_pos (by omega)]
          clear h18 hnz h0 hl
          have CF := Lib.hid (FL.out wc j 2 hR.out.1 hR.out.2.2.2)
          go_wp2_with fail
          refine Calls.mono CF.out ?_
          rintro e w2 ⟨rfl, h2, g2⟩
          go_wp2_with fail
          go_ret
          exact ⟨j, 2, g2, h2, by omega, .inr ⟨2, HE.out, by decide, rfl, rfl⟩⟩
        · have t18 : decide ((18 : Int) < (j : Int) - (f : Int)) = false := decide_eq_false (by omega)
          obtain ⟨n, hn⟩ : ∃ n : Int, n = (valR 0 (digs (sfx s f)) : Int) := ⟨_, rfl⟩
          have hval := val_small (digs_all (sfx s f)) (by omega)
          have HE : Hid (numS (sfx s i) = .ok (n, sfx s j) ∧ I64 n) := by
            refine ⟨?_, by rw [hn]; unfold I64; omega⟩
            rw [HNU.out]
            unfold numD
            rw [if_neg hnz, if_neg (by omega), HD.out.2, hn]
            rfl
          have hpn := parse_num (l := digs (sfx s f)) (fun e => hnz (.inl e)) (digs_all _) (by omega)
          obtain ⟨x, hx⟩ : ∃ x, x = s.extract i j := ⟨_, rfl⟩
          have hxl : x.data.toList = digs (sfx s f) := by
            rw [hx, extract_piece, HD.out.1]
            rw [show f = i from HF.out]
          have hsl := run_piece s i j (by have := HF.out; omega) hjs
          rw [← hx] at hsl
          have CP : Hid (∀ wk, Ext wc wk → Calls Tryz.prog 203 #[.string x, .int .i64 10, .int .i64 64] wk fun e w' => e = .returned (.tuple #[.int .i64 n, .nilIface]) ∧ Ext wc w' ∧ w'.cell? ⟨k, 0, none⟩ = some (.string s) ∧ w'.cell? ⟨k, 1, none⟩ = some (.int .i64 (j : Int))) := fun wk hk => by
            have hsz : x.size ≤ 2000 := by
              have h1 := size_list x
              rw [hx, extract_piece] at h1
              rw [hx, ← h1, List.length_take, sfx_len]
              omega
            refine (Tryz.strconv_ParseInt_10_at64_ok x (by omega) n (by rw [hxl, hn]; exact hpn.1) wk).mono fun e w' ⟨he, hw⟩ => ?_
            have hx2 : Ext wc w' := by
              rcases hw with rfl | ⟨t, rfl⟩
              · exact hk
              · exact hk.trans (bytes_ext _ _ _)
            have c := (hR.out.1.ext hx2).cells
            exact ⟨he, hx2, c.1, c.2.1⟩
          have hxx : Ext wc wc := Below.refl _ _
          have hi0 : (0 : Int) ≤ (i : Int) := by omega
          clear h18 hnz h0 hl hval hpn hxl hn hx
          go_wp2_with fail
          go_region_held3 (fun w' => w'.cell? ⟨k, 0, none⟩ = some (.string s) ∧ w'.cell? ⟨k, 1, none⟩ = some (.int .i64 (j : Int)))
            (first | exact ⟨by assumption, by assumption⟩ | go_keep)
            (first | (go_at_call 203; refine (CP.out _ (by first | assumption | exact hxx.drew)).mono ?_; rintro e w' ⟨rfl, r0, r1, r2⟩))
          go_wp2_with fail
          go_ret
          exact ⟨j, 0, grown_trans hR.out.2.2.2 (grown_ext r0), hR.out.1.ext r0, by omega, .inl ⟨n, HE.out.1, HE.out.2, rfl, rfl, hjs⟩⟩
theorem number_any (k : Nat) (s : ByteArray) (i many : Nat) (v : Value) (w : World) (h : RIn w k s i many v 0) (hs : s.size ≤ 2000) (hi : i < s.size) :
    Calls Tryz.prog 173 #[.pointer (some ⟨k, 0, none⟩)] w (NumPost w k s i many v) := by
  by_cases h45 : byteAt s i = 45
  · exact number_minus k s i many v w h hs hi h45
  · exact number_plus k s i many v w h hs hi h45
end Go.Proofs.YtnccefeehkcneaaGreatDoor.Jm
namespace Go.Proofs.YtnccefeehkcneaaGreatDoor.Jm
open Go Go.RowKit Go.Proofs.YtnccefeehkcneaaGreatDoor.Sx Go.Proofs.YtnccefeehkcneaaGreatDoor.Js Go.Proofs.YtnccefeehkcneaaGreatDoor.Gr
def PlainPost (w : World) (k : Nat) (s : ByteArray) (i many : Nat) (v : Value) (e : Ending) (w' : World) : Prop :=
  ∃ p bad u, w.grownBy w' (some k) ∧ RIn w' k s p many v bad ∧ p ≤ 3000 ∧ e = .returned u ∧ ((∃ j, plainS (sfx s i) = .ok (j, sfx s p) ∧ (∀ F W, PV F W j u) ∧ bad = 0 ∧ p ≤ s.size) ∨ (∃ er, plainS (sfx s i) = .error er ∧ er ≠ 0 ∧ bad = er))
theorem plainS_eq (c : UInt8) (r : Tx) : plainS (c :: r) = (if c = 34 then match textS r with
      | none => .error 3
      | some (t, r2) => .ok (.text t, r2)
    else if c = 116 then wordS tT (.bool true) (c :: r)
    else if c = 102 then wordS tF (.bool false) (c :: r)
    else if c = 110 then wordS tN .null (c :: r)
    else (numS (c :: r)).map fun p => (.num p.1, p.2)) := rfl
set_option maxRecDepth 100000 in
set_option maxHeartbeats 4000000 in
theorem plain_any (k : Nat) (s : ByteArray) (i many : Nat) (v : Value) (w : World) (h : RIn w k s i many v 0) (hs : s.size ≤ 2000) (hi : i < s.size) :
    Calls Tryz.prog 122 #[.pointer (some ⟨k, 0, none⟩), .int .u8 ((byteAt s i).toNat : Int)] w (PlainPost w k s i many v) := by
  obtain ⟨c, hcc⟩ : ∃ c, c = byteAt s i := ⟨_, rfl⟩
  have HSX : Hid (sfx s i = c :: sfx s (i + 1)) := by rw [hcc]; exact sfx_cons hi
  have H := Lib.hid h
  rw [← hcc]
  clear hcc h
  by_cases h34 : c = 34
  · have C := Lib.hid (text_any k s i many v w H.out hs (by omega))
    have HPL : Hid (plainS (sfx s i) = match textS (sfx s (i + 1)) with | none => .error 3 | some (t, r2) => .ok (.text t, r2)) := by
      unfold Hid
      rw [HSX.out, plainS_eq, if_pos h34]
    have b34 : ((c.toNat : Int) == 34) = true := by rw [h34]; rfl
    clear h34
    go_enter Tryz.func122, Tryz.ntmps122
    go_wp2_with fail
    refine Calls.mono C.out ?_
    rintro e w2 ⟨j, bad, g2, h2, hj, ⟨t, ht, rfl, rfl, hjs⟩ | ⟨ht, rfl, rfl⟩⟩
    · have HX : Hid (plainS (sfx s i) = .ok (.text t, sfx s j)) := by unfold Hid; rw [HPL.out, ht]
      have H2 := Lib.hid (And.intro g2 h2)
      clear ht g2 h2
      go_wp2_with fail
      go_ret
      exact ⟨j, 0, _, H2.out.1, H2.out.2, hj, rfl, .inl ⟨.text t, HX.out, fun F W => PV_text.2 rfl, rfl, hjs⟩⟩
    · have HX : Hid (plainS (sfx s i) = .error 3) := by unfold Hid; rw [HPL.out, ht]
      have H2 := Lib.hid (And.intro g2 h2)
      clear ht g2 h2
      go_wp2_with fail
      go_ret
      exact ⟨j, 3, _, H2.out.1, H2.out.2, hj, rfl, .inr ⟨3, HX.out, by decide, rfl⟩⟩
  · by_cases h116 : c = 116
    · have C := Lib.hid (word_any k s i many v ⟨#[116, 114, 117, 101]⟩ w H.out hs (by omega) (by decide))
      have HPL : Hid (plainS (sfx s i) = wordS tT (.bool true) (sfx s i)) := by
        unfold Hid
        rw [HSX.out, plainS_eq, if_neg h34, if_pos h116]
      have b34 : ((c.toNat : Int) == 34) = false := by rw [show (34 : Int) = ((34 : Nat) : Int) from rfl, byte_lit c 34 (by omega)]; simp [h34]
      have b116 : ((c.toNat : Int) == 116) = true := by rw [h116]; rfl
      clear h116 h34
      go_enter Tryz.func122, Tryz.ntmps122
      go_wp2_with fail
      refine Calls.mono C.out ?_
      rintro e w2 ⟨j, bad, rfl, g2, h2, hj, ⟨hp, rfl, hjs, hd⟩ | ⟨hp, rfl⟩⟩
      · have HX : Hid (plainS (sfx s i) = .ok (.bool true, sfx s j)) := by
          unfold Hid
          rw [HPL.out]
          unfold wordS
          rw [if_pos (show (tT : Tx).isPrefixOf (sfx s i) = true from hp), hd]
          rfl
        have H2 := Lib.hid (And.intro g2 h2)
        clear hp hd g2 h2
        go_wp2_with fail
        go_ret
        exact ⟨j, 0, _, H2.out.1, H2.out.2, hj, rfl, .inl ⟨.bool true, HX.out, fun F W => PV_bool.2 rfl, rfl, hjs⟩⟩
      · have HX : Hid (plainS (sfx s i) = .error 3) := by
          unfold Hid
          rw [HPL.out]
          unfold wordS
          rw [if_neg (by intro e; have h : _ = false := hp; rw [show (tT : Tx).isPrefixOf (sfx s i) = false from hp] at e; cases e)]
        have H2 := Lib.hid (And.intro g2 h2)
        clear hp g2 h2
        go_wp2_with fail
        go_ret
        exact ⟨j, 3, _, H2.out.1, H2.out.2, hj, rfl, .inr ⟨3, HX.out, by decide, rfl⟩⟩
    · by_cases h102 : c = 102
      · have C := Lib.hid (word_any k s i many v ⟨#[102, 97, 108, 115, 101]⟩ w H.out hs (by omega) (by decide))
        have HPL : Hid (plainS (sfx s i) = wordS tF (.bool false) (sfx s i)) := by
          unfold Hid
          rw [HSX.out, plainS_eq, if_neg h34, if_neg h116, if_pos h102]
        have b34 : ((c.toNat : Int) == 34) = false := by rw [show (34 : Int) = ((34 : Nat) : Int) from rfl, byte_lit c 34 (by omega)]; simp [h34]
        have b116 : ((c.toNat : Int) == 116) = false := by rw [show (116 : Int) = ((116 : Nat) : Int) from rfl, byte_lit c 116 (by omega)]; simp [h116]
        have b102 : ((c.toNat : Int) == 102) = true := by rw [h102]; rfl
        clear h102 h34 h116
        go_enter Tryz.func122, Tryz.ntmps122
        go_wp2_with fail
        refine Calls.mono C.out ?_
        rintro e w2 ⟨j, bad, rfl, g2, h2, hj, ⟨hp, rfl, hjs, hd⟩ | ⟨hp, rfl⟩⟩
        · have HX : Hid (plainS (sfx s i) = .ok (.bool false, sfx s j)) := by
            unfold Hid
            rw [HPL.out]
            unfold wordS
            rw [if_pos (show (tF : Tx).isPrefixOf (sfx s i) = true from hp), hd]
            rfl
          have H2 := Lib.hid (And.intro g2 h2)
          clear hp hd g2 h2
          go_wp2_with fail
          go_ret
          exact ⟨j, 0, _, H2.out.1, H2.out.2, hj, rfl, .inl ⟨.bool false, HX.out, fun F W => PV_bool.2 rfl, rfl, hjs⟩⟩
        · have HX : Hid (plainS (sfx s i) = .error 3) := by
            unfold Hid
            rw [HPL.out]
            unfold wordS
            rw [if_neg (by intro e; have h : _ = false := hp; rw [show (tF : Tx).isPrefixOf (sfx s i) = false from hp] at e; cases e)]
          have H2 := Lib.hid (And.intro g2 h2)
          clear hp g2 h2
          go_wp2_with fail
          go_ret
          exact ⟨j, 3, _, H2.out.1, H2.out.2, hj, rfl, .inr ⟨3, HX.out, by decide, rfl⟩⟩
      · by_cases h110 : c = 110
        · have C := Lib.hid (word_any k s i many v ⟨#[110, 117, 108, 108]⟩ w H.out hs (by omega) (by decide))
          have HPL : Hid (plainS (sfx s i) = wordS tN (.null) (sfx s i)) := by
            unfold Hid
            rw [HSX.out, plainS_eq, if_neg h34, if_neg h116, if_neg h102, if_pos h110]
          have b34 : ((c.toNat : Int) == 34) = false := by rw [show (34 : Int) = ((34 : Nat) : Int) from rfl, byte_lit c 34 (by omega)]; simp [h34]
          have b116 : ((c.toNat : Int) == 116) = false := by rw [show (116 : Int) = ((116 : Nat) : Int) from rfl, byte_lit c 116 (by omega)]; simp [h116]
          have b102 : ((c.toNat : Int) == 102) = false := by rw [show (102 : Int) = ((102 : Nat) : Int) from rfl, byte_lit c 102 (by omega)]; simp [h102]
          have b110 : ((c.toNat : Int) == 110) = true := by rw [h110]; rfl
          clear h110 h34 h116 h102
          go_enter Tryz.func122, Tryz.ntmps122
          go_wp2_with fail
          refine Calls.mono C.out ?_
          rintro e w2 ⟨j, bad, rfl, g2, h2, hj, ⟨hp, rfl, hjs, hd⟩ | ⟨hp, rfl⟩⟩
          · have HX : Hid (plainS (sfx s i) = .ok (.null, sfx s j)) := by
              unfold Hid
              rw [HPL.out]
              unfold wordS
              rw [if_pos (show (tN : Tx).isPrefixOf (sfx s i) = true from hp), hd]
              rfl
            have H2 := Lib.hid (And.intro g2 h2)
            clear hp hd g2 h2
            go_wp2_with fail
            go_ret
            exact ⟨j, 0, _, H2.out.1, H2.out.2, hj, rfl, .inl ⟨.null, HX.out, fun F W => PV_null.2 rfl, rfl, hjs⟩⟩
          · have HX : Hid (plainS (sfx s i) = .error 3) := by
              unfold Hid
              rw [HPL.out]
              unfold wordS
              rw [if_neg (by intro e; have h : _ = false := hp; rw [show (tN : Tx).isPrefixOf (sfx s i) = false from hp] at e; cases e)]
            have H2 := Lib.hid (And.intro g2 h2)
            clear hp g2 h2
            go_wp2_with fail
            go_ret
            exact ⟨j, 3, _, H2.out.1, H2.out.2, hj, rfl, .inr ⟨3, HX.out, by decide, rfl⟩⟩
        · have C := Lib.hid (number_any k s i many v w H.out hs hi)
          have HPL : Hid (plainS (sfx s i) = (numS (sfx s i)).map fun p => (.num p.1, p.2)) := by
            unfold Hid
            rw [HSX.out, plainS_eq, if_neg h34, if_neg h116, if_neg h102, if_neg h110]
          have b34 : ((c.toNat : Int) == 34) = false := by rw [show (34 : Int) = ((34 : Nat) : Int) from rfl, byte_lit c 34 (by omega)]; simp [h34]
          have b116 : ((c.toNat : Int) == 116) = false := by rw [show (116 : Int) = ((116 : Nat) : Int) from rfl, byte_lit c 116 (by omega)]; simp [h116]
          have b102 : ((c.toNat : Int) == 102) = false := by rw [show (102 : Int) = ((102 : Nat) : Int) from rfl, byte_lit c 102 (by omega)]; simp [h102]
          have b110 : ((c.toNat : Int) == 110) = false := by rw [show (110 : Int) = ((110 : Nat) : Int) from rfl, byte_lit c 110 (by omega)]; simp [h110]
          clear h34 h116 h102 h110
          go_enter Tryz.func122, Tryz.ntmps122
          go_wp2_with fail
          refine Calls.mono C.out ?_
          rintro e w2 ⟨j, bad, g2, h2, hj, ⟨n, hn, hI, rfl, rfl, hjs⟩ | ⟨er, hn, he, rfl, rfl⟩⟩
          · have HX : Hid (plainS (sfx s i) = .ok (.num n, sfx s j)) := by unfold Hid; rw [HPL.out, hn]; rfl
            have H2 := Lib.hid (And.intro g2 (And.intro h2 hI))
            clear hn g2 h2 hI
            go_wp2_with fail
            go_ret
            exact ⟨j, 0, _, H2.out.1, H2.out.2.1, hj, rfl, .inl ⟨.num n, HX.out, fun F W => PV_num.2 ⟨rfl, H2.out.2.2⟩, rfl, hjs⟩⟩
          · have HX : Hid (plainS (sfx s i) = .error bad ∧ bad ≠ 0) := ⟨by rw [HPL.out, hn]; rfl, he⟩
            have H2 := Lib.hid (And.intro g2 h2)
            clear hn g2 h2 he
            go_wp2_with fail
            go_ret
            exact ⟨j, bad, _, H2.out.1, H2.out.2, hj, rfl, .inr ⟨bad, HX.out.1, HX.out.2, rfl⟩⟩
end Go.Proofs.YtnccefeehkcneaaGreatDoor.Jm
