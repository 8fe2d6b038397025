/- Thinned out of Mpa by thin.py. -/
import Derived.Test.YtnccefeehkcneaaGreatDoorOba
import Derived.Test.YtnccefeehkcneaaGreatDoorMga
import Derived.Test.YtnccefeehkcneaaGreatDoorJkc
import Derived.Test.YtnccefeehkcneaaGreatDoorJtb
/-
  The program's values: are all texts sound, and what may be told.
  The program's Tell; merge.told, merge.Into.
-/
namespace Go.Proofs.YtnccefeehkcneaaGreatDoor.Jm
open Go Go.RowKit Go.Proofs.YtnccefeehkcneaaGreatDoor.Sx Go.Proofs.YtnccefeehkcneaaGreatDoor.Js
theorem byte_cases (c : UInt8) : (c.toNat = 10 ∧ okT c = true) ∨ (c.toNat = 9 ∧ okT c = true) ∨ (32 ≤ c.toNat ∧ c.toNat ≤ 126 ∧ okT c = true) ∨ (c.toNat < 32 ∧ c.toNat ≠ 10 ∧ c.toNat ≠ 9 ∧ okT c = false) ∨ (126 < c.toNat ∧ okT c = false) := by
  unfold okT
  by_cases h1 : c.toNat = 10
  · exact .inl ⟨h1, by simp [h1]⟩
  · by_cases h2 : c.toNat = 9
    · exact .inr (.inl ⟨h2, by simp [h2]⟩)
    · by_cases h3 : c.toNat < 32
      · exact .inr (.inr (.inr (.inl ⟨h3, h1, h2, by simp; omega⟩)))
      · by_cases h4 : 126 < c.toNat
        · exact .inr (.inr (.inr (.inr ⟨h4, by simp; omega⟩)))
        · exact .inr (.inr (.inl ⟨by omega, by omega, by simp; omega⟩))
theorem ret_b {a b : Bool} (h : a = b) : Ending.returned (.bool a) = .returned (.bool b) := by rw [h]
set_option maxRecDepth 100000 in
set_option maxHeartbeats 4000000 in
theorem stands_any (t : Tx) (w : World) (hs : t.length ≤ 16777216) : Calls Tryz.prog 140 #[.string (bx t)] w fun e w' => e = .returned (.bool (t.all okT)) ∧ w = w' := by
  obtain ⟨s, hs0⟩ : ∃ s, s = bx t := ⟨_, rfl⟩
  have hsz : s.size ≤ 16777216 := by rw [hs0, bx_size]; exact hs
  have HS : Hid (sfx s 0 = t) := by unfold Hid; rw [hs0]; simp [sfx, bx]
  rw [← hs0]
  clear hs hs0
  go_enter Tryz.func140, Tryz.ntmps140
  go_wp2_with fail
  go_loopw [7] (fun ix wr => ∃ q : Nat, q ≤ s.size ∧ ix = .int .i64 (q : Int) ∧ Hid (((sfx s 0).take q).all okT = true) ∧ w = wr) (fun ix _ => s.size - (intOf ix).toNat)
  case atStart => exact ⟨0, Nat.zero_le _, rfl, rfl, rfl⟩
  case round =>
    obtain ⟨q, hq, rfl, hR, rfl⟩ := hrel
    have hq0 : (0 : Int) ≤ (q : Int) := by omega
    by_cases hlt : q < s.size
    · have hby := run_byte s q hlt
      obtain ⟨c, hcc⟩ : ∃ c, c = byteAt s q := ⟨_, rfl⟩
      have HSX : Hid (sfx s q = c :: sfx s (q + 1)) := by rw [hcc]; exact sfx_cons hlt
      have HTK : Hid ((sfx s 0).take (q + 1) = (sfx s 0).take q ++ [c]) := by
        have h := take_next (a := 0) HSX.out (Nat.zero_le _)
        exact h
      have HAL : Hid (sfx s 0 = (sfx s 0).take q ++ sfx s q) := by
        unfold Hid sfx
        rw [List.drop_zero, List.take_append_drop]
      rw [← hcc] at hby
      have hltI : (q : Int) < (s.size : Int) := by omega
      clear hcc
      have hw := byte_cases c
      obtain ⟨m, hm⟩ : ∃ m, m = c.toNat := ⟨_, rfl⟩
      have hm8 : m < 256 := by rw [hm]; exact c.toNat_lt
      rw [← hm] at hby hw
      clear hm
      rcases hw with ⟨hc, hk⟩ | ⟨hc, hk⟩ | ⟨hc, hc2, hk⟩ | ⟨hc, hc2, hc3, hk⟩ | ⟨hc, hk⟩
      · subst hc
        have HG : Hid (((sfx s 0).take (q + 1)).all okT = true) := by unfold Hid; rw [HTK.out, List.all_append, hR.out]; simp [hk]
        clear hk
        go_wp2_with fail
        go_roundw
        case rel => exact ⟨q + 1, hlt, by go_num, HG, trivial⟩
        case measure => simp [intOf]; omega
      · subst hc
        have HG : Hid (((sfx s 0).take (q + 1)).all okT = true) := by unfold Hid; rw [HTK.out, List.all_append, hR.out]; simp [hk]
        clear hk
        go_wp2_with fail
        go_roundw
        case rel => exact ⟨q + 1, hlt, by go_num, HG, trivial⟩
        case measure => simp [intOf]; omega
      · have x1 : decide ((m : Int) < 32) = false := by simp; omega
        have x2 : decide (m < 32) = false := by simp; omega
        have x3 : decide (126 < (m : Int)) = false := by simp; omega
        have x4 : decide (126 < m) = false := by simp; omega
        have HG : Hid (((sfx s 0).take (q + 1)).all okT = true) := by unfold Hid; rw [HTK.out, List.all_append, hR.out]; simp [hk]
        clear hk
        go_wp2_with fail
        go_roundw
        case rel => exact ⟨q + 1, hlt, by go_num, HG, trivial⟩
        case measure => simp [intOf]; omega
      · have x1 : decide ((m : Int) < 32) = true := by simp; omega
        have x2 : decide (m < 32) = true := by simp; omega
        have x3 : decide (126 < (m : Int)) = false := by simp; omega
        have x4 : decide (126 < m) = false := by simp; omega
        have y1 : ((m : Int) != 10) = true := by rw [bne_iff_ne]; omega
        have y2 : ((m : Int) == 10) = false := by rw [beq_eq_false_iff_ne]; omega
        have y3 : (m == 10) = false := by rw [beq_eq_false_iff_ne]; omega
        have z1 : ((m : Int) != 9) = true := by rw [bne_iff_ne]; omega
        have z2 : ((m : Int) == 9) = false := by rw [beq_eq_false_iff_ne]; omega
        have z3 : (m == 9) = false := by rw [beq_eq_false_iff_ne]; omega
        have HB : Hid (t.all okT = false) := by unfold Hid; rw [← HS.out, HAL.out, HSX.out, List.all_append]; simp [hk]
        clear hk
        go_wp2_with fail
        go_ret
        exact ⟨ret_b HB.out.symm, rfl⟩
      · have x1 : decide ((m : Int) < 32) = false := by simp; omega
        have x2 : decide (m < 32) = false := by simp; omega
        have x3 : decide (126 < (m : Int)) = true := by simp; omega
        have x4 : decide (126 < m) = true := by simp; omega
        have y1 : ((m : Int) != 10) = true := by rw [bne_iff_ne]; omega
        have y2 : ((m : Int) == 10) = false := by rw [beq_eq_false_iff_ne]; omega
        have y3 : (m == 10) = false := by rw [beq_eq_false_iff_ne]; omega
        have z1 : ((m : Int) != 9) = true := by rw [bne_iff_ne]; omega
        have z2 : ((m : Int) == 9) = false := by rw [beq_eq_false_iff_ne]; omega
        have z3 : (m == 9) = false := by rw [beq_eq_false_iff_ne]; omega
        have HB : Hid (t.all okT = false) := by unfold Hid; rw [← HS.out, HAL.out, HSX.out, List.all_append]; simp [hk]
        clear hk
        go_wp2_with fail
        go_ret
        exact ⟨ret_b HB.out.symm, rfl⟩
    · have HA : Hid (t.all okT = true) := by
        have h := hR.out
        rw [HS.out, List.take_of_length_le (by rw [← HS.out, sfx_len]; omega)] at h
        exact h
      have bl : decide ((q : Int) < (s.size : Int)) = false := decide_eq_false (by omega)
      have bl2 : decide (q < s.size) = false := decide_eq_false hlt
      clear hlt
      go_wp2_with fail
      go_ret
      exact ⟨ret_b HA.out.symm, rfl⟩
def SoundC (j : J) : Prop := ∀ (u : Value) (w : World), PJ w j u → bulkJ j ≤ 16777216 → Calls Tryz.prog 92 #[u] w fun e w' => e = .returned (.bool (soundJ j)) ∧ w = w'
abbrev soundF : Value := .func (.func 142) #[] #[]
set_option maxRecDepth 100000 in
set_option maxHeartbeats 2000000 in
theorem sound_fn (j : J) (hj : SoundC j) (u : Value) (w : World) (h : PJ w j u) (hb : bulkJ j ≤ 16777216) : Calls Tryz.prog 142 #[u] w fun e w' => e = .returned (.bool (!soundJ j)) ∧ w = w' := by
  have C := Lib.hid (hj u w h hb)
  obtain ⟨b, hbb⟩ : ∃ b, b = soundJ j := ⟨_, rfl⟩
  rw [← hbb] at C ⊢
  clear h hb hbb
  go_enter Tryz.func142, Tryz.ntmps142
  go_wp2_with fail
  refine Calls.mono C.out ?_
  rintro e w' ⟨rfl, rfl⟩
  go_wp2_with fail
  go_ret
  exact ⟨rfl, rfl⟩
set_option maxRecDepth 100000 in
set_option maxHeartbeats 4000000 in
theorem sound_idx (l : List J) (ih : ∀ x ∈ l, SoundC x) (A : Option Addr) (c : Nat) (w : World) (hv : ValsAt (fun _ => True) w A l) (hb : (l.map fun x => bulkJ x + 1).sum ≤ 16777216) :
    Calls Tryz.prog 181 #[.slice A l.length c, soundF] w fun e w' => ∃ m : Int, e = .returned (.int .i64 m) ∧ decide (0 ≤ m) = l.any (fun x => !soundJ x) ∧ w = w' := by
  obtain ⟨N, hN⟩ : ∃ N, N = l.length := ⟨_, rfl⟩
  have HN := Lib.hid hN
  have HV := Lib.hid hv
  have hcount := bulk_len l
  have hNs : N ≤ 16777216 := by omega
  have HIH : Hid (∀ q (hq : q < l.length) (u : Value), PJ w l[q] u → Calls Tryz.prog 142 #[u] w fun e w' => e = .returned (.bool (!soundJ l[q])) ∧ w = w') := fun q hq u hp =>
    sound_fn _ (ih _ (List.getElem_mem hq)) u w hp (by have := le_sum (f := fun x => bulkJ x + 1) (List.getElem_mem hq); omega)
  rw [← hN]
  clear hv hb hN ih hcount
  go_enter Tryz.func181, Tryz.ntmps181
  go_wp2_with fail
  go_loopw [8] (fun ix wr => ∃ q : Nat, q ≤ N ∧ ix = .int .i64 (q : Int) ∧ Hid ((l.take q).any (fun x => !soundJ x) = false) ∧ w = wr) (fun ix _ => N - (intOf ix).toNat)
  case atStart => exact ⟨0, Nat.zero_le _, rfl, rfl, rfl⟩
  case round =>
    obtain ⟨q, hq, rfl, hR, rfl⟩ := hrel
    have hq0 : (0 : Int) ≤ (q : Int) := by omega
    by_cases hlt : q < N
    · have hql : q < l.length := by rw [← HN.out]; exact hlt
      obtain ⟨g, off, u, rfl, _, hcell, hp⟩ := HV.out q hql
      have CT := Lib.hid (HIH.out q hql u hp)
      have HTK : Hid (l.take (q + 1) = l.take q ++ [l[q]]) := List.take_succ_eq_append_getElem hql
      have HIN : Hid (l[q] ∈ l) := List.getElem_mem hql
      have hltI : (q : Int) < (N : Int) := by omega
      generalize hx : l[q] = x at *
      obtain ⟨b, hbb⟩ : ∃ b, b = soundJ x := ⟨_, rfl⟩
      rw [← hbb] at CT
      have HBB := Lib.hid hbb
      clear hp hbb hx HIH
      go_wp2_with fail
      refine Calls.mono CT.out ?_
      rintro e w2 ⟨rfl, rfl⟩
      cases b with
      | true =>
        have HR2 : Hid ((l.take (q + 1)).any (fun x => !soundJ x) = false) := by unfold Hid; rw [HTK.out, List.any_append, hR.out]; simp [← HBB.out]
        go_wp2_with fail
        go_roundw
        case rel => exact ⟨q + 1, hlt, by go_num, HR2, trivial⟩
        case measure => simp [intOf]; omega
      | false =>
        have HF : Hid (l.any (fun x => !soundJ x) = true) := List.any_eq_true.2 ⟨x, HIN.out, by rw [← HBB.out]; rfl⟩
        go_wp2_with fail
        go_ret
        exact ⟨(q : Int), rfl, by rw [HF.out]; simp, rfl⟩
    · have HF : Hid (l.any (fun x => !soundJ x) = false) := by
        have h := hR.out
        have := HN.out
        rw [List.take_of_length_le (by omega)] at h
        exact h
      have bl : decide ((q : Int) < (N : Int)) = false := decide_eq_false (by omega)
      have bl2 : decide (q < N) = false := decide_eq_false hlt
      clear hlt HIH
      go_wp2_with fail
      go_ret
      exact ⟨-1, rfl, by rw [HF.out]; rfl, rfl⟩
set_option maxRecDepth 100000 in
set_option maxHeartbeats 4000000 in
theorem sound_contains (l : List J) (ih : ∀ x ∈ l, SoundC x) (A : Option Addr) (c : Nat) (w : World) (hv : ValsAt (fun _ => True) w A l) (hb : (l.map fun x => bulkJ x + 1).sum ≤ 16777216) :
    Calls Tryz.prog 141 #[.slice A l.length c, soundF] w fun e w' => e = .returned (.bool (l.any (fun x => !soundJ x))) ∧ w = w' := by
  have C := Lib.hid (sound_idx l ih A c w hv hb)
  obtain ⟨bb, hbb⟩ : ∃ b, b = l.any (fun x => !soundJ x) := ⟨_, rfl⟩
  rw [← hbb] at C ⊢
  obtain ⟨N, hN⟩ : ∃ N, N = l.length := ⟨_, rfl⟩
  rw [← hN] at C ⊢
  clear hv hb hN ih hbb
  go_enter Tryz.func141, Tryz.ntmps141
  go_wp2_with fail
  refine Calls.mono C.out ?_
  rintro e w' ⟨m, rfl, hm, rfl⟩
  have HM := Lib.hid hm
  clear hm
  go_wp2_with fail
  go_ret
  exact ⟨ret_b HM.out, rfl⟩
set_option maxRecDepth 100000 in
set_option maxHeartbeats 4000000 in
theorem sound_lst (l : List J) (ih : ∀ x ∈ l, SoundC x) : SoundC (.list l) := by
  intro u w h hb
  obtain ⟨A, c, rfl, hc, hv⟩ := PV_list.1 h
  rw [bulkJ] at hb
  have C := Lib.hid (sound_contains l ih A c w hv (by omega))
  have HE : Hid (soundJ (.list l) = !l.any (fun x => !soundJ x)) := by unfold Hid; rw [sound_list, List.not_any_eq_all_not]; simp only [Bool.not_not]
  obtain ⟨bb, hbb⟩ : ∃ b, b = l.any (fun x => !soundJ x) := ⟨_, rfl⟩
  rw [← hbb] at C HE
  obtain ⟨N, hN⟩ : ∃ N, N = l.length := ⟨_, rfl⟩
  rw [← hN] at C ⊢
  have a3 := ta_vals_str (.slice A N c)
  have a4 := ta_vals_vals (.slice A N c)
  clear hv hb hN ih hbb h hc
  go_enter Tryz.func92, Tryz.ntmps92
  go_wp2_with fail
  refine Calls.mono C.out ?_
  rintro e w' ⟨rfl, rfl⟩
  go_wp2_with fail
  go_ret
  exact ⟨ret_b HE.out.symm, rfl⟩
set_option maxRecDepth 100000 in
set_option maxHeartbeats 4000000 in
theorem sound_ob (ns : List Tx) (l : List J) (ih : ∀ x ∈ l, SoundC x) (hnl : ns.length = l.length) : SoundC (.obj ns l) := by
  intro u w h hb
  obtain ⟨b, rfl, -, A, c, B, d, hh, hc, hd, hN, hV⟩ := PV_obj.1 h
  rw [bulk_obj] at hb
  have hlb := len_bulkO (ns, l)
  simp only at hlb
  have hsB : (l.map fun x => bulkJ x + 1).sum + namesB ns ≤ 16777216 := by
    unfold bulkO sumB at hb
    simp only at hb
    omega
  obtain ⟨N, hNl⟩ : ∃ N, N = l.length := ⟨_, rfl⟩
  have hNn : ns.length = N := by omega
  rw [hNn, ← hNl] at hh
  have z0 : w.cell? ⟨b, 0, none⟩ = some (.slice A N c) := cell_of hh 0
  have z1 : w.cell? ⟨b, 1, none⟩ = some (.slice B N d) := cell_of hh 1
  have hNs : N ≤ 16777216 := by omega
  have HN : Hid (N = ns.length ∧ N = l.length) := ⟨hNn.symm, hNl⟩
  have HNA := Lib.hid hN
  have HVA := Lib.hid hV
  have HNM : Hid (∀ q (hq : q < ns.length), ns[q].length ≤ 16777216) := fun q hq => by
    have : ∀ (ns : List Tx) (n : Tx), n ∈ ns → 2 * n.length + 8 ≤ namesB ns := fun ns n => by
      unfold namesB
      induction ns with
      | nil => intro h; cases h
      | cons a r ih => intro h; rw [List.map_cons, List.sum_cons]; rcases List.mem_cons.1 h with rfl | h
                       · omega
                       · have := ih h; omega
    have := this ns ns[q] (List.getElem_mem hq)
    omega
  have HIH : Hid (∀ q (hq : q < l.length) (u : Value), PJ w l[q] u → Calls Tryz.prog 92 #[u] w fun e w' => e = .returned (.bool (soundJ l[q])) ∧ w = w') := fun q hq u hp =>
    ih _ (List.getElem_mem hq) u w hp (by have := le_sum (f := fun x => bulkJ x + 1) (List.getElem_mem hq); omega)
  have HSO := Lib.hid (sound_obj ns l)
  have a3 := ta_obj_str (.pointer (some ⟨b, 0, none⟩))
  have a4 := ta_obj_vals (.pointer (some ⟨b, 0, none⟩))
  have a5 := ta_obj_obj (.pointer (some ⟨b, 0, none⟩))
  clear h hh hc hd hN hV hb hlb hsB hNl hNn ih hnl
  go_enter Tryz.func92, Tryz.ntmps92
  go_wp2_with fail
  clear a3 a4 a5
  go_loopw [28] (fun ix wr => ∃ q : Nat, q ≤ N ∧ ix = .int .i64 (q : Int) ∧ Hid ((ns.take q).all (fun n => n.all okT) = true ∧ (l.take q).all soundJ = true) ∧ w = wr) (fun ix _ => N - (intOf ix).toNat)
  case atStart => exact ⟨0, Nat.zero_le _, rfl, ⟨rfl, rfl⟩, rfl⟩
  case round =>
    obtain ⟨q, hq, rfl, hR, rfl⟩ := hrel
    have hq0 : (0 : Int) ≤ (q : Int) := by omega
    by_cases hlt : q < N
    · have hqn : q < ns.length := by rw [← HN.out.1]; exact hlt
      have hql : q < l.length := by rw [← HN.out.2]; exact hlt
      obtain ⟨ga, oa, rfl, -, hca⟩ := HNA.out q hqn
      obtain ⟨gv, ov, uv, rfl, -, hcv, hp⟩ := HVA.out q hql
      have CS := Lib.hid (stands_any ns[q] w (HNM.out q hqn))
      have CT := Lib.hid (HIH.out q hql uv hp)
      have HTN : Hid (ns.take (q + 1) = ns.take q ++ [ns[q]]) := List.take_succ_eq_append_getElem hqn
      have HTL : Hid (l.take (q + 1) = l.take q ++ [l[q]]) := List.take_succ_eq_append_getElem hql
      have HIN : Hid (ns[q] ∈ ns ∧ l[q] ∈ l) := ⟨List.getElem_mem hqn, List.getElem_mem hql⟩
      have hltI : (q : Int) < (N : Int) := by omega
      generalize hn : ns[q] = n at *
      generalize hx : l[q] = x at *
      obtain ⟨b1, hb1⟩ : ∃ b, b = n.all okT := ⟨_, rfl⟩
      obtain ⟨b2, hb2⟩ : ∃ b, b = soundJ x := ⟨_, rfl⟩
      rw [← hb1] at CS
      rw [← hb2] at CT
      have HB1 := Lib.hid hb1
      have HB2 := Lib.hid hb2
      obtain ⟨sx, hsx⟩ : ∃ s, s = bx n := ⟨_, rfl⟩
      rw [← hsx] at hca CS
      clear hb1 hb2 hp hn hx hsx HIH HNM
      cases b1 with
      | false =>
        have HF : Hid (soundJ (.obj ns l) = false) := by
          unfold Hid
          rw [HSO.out, Bool.and_eq_false_iff]
          left
          rw [List.all_eq_false]
          exact ⟨n, HIN.out.1, by rw [← HB1.out]; simp⟩
        go_wp2_with (go_at_call 140; refine CS.out.mono ?_; rintro e w' ⟨rfl, rfl⟩)
        go_ret
        exact ⟨ret_b HF.out.symm, rfl⟩
      | true =>
        cases b2 with
        | false =>
          have HF : Hid (soundJ (.obj ns l) = false) := by
            unfold Hid
            rw [HSO.out, Bool.and_eq_false_iff]
            right
            rw [List.all_eq_false]
            exact ⟨x, HIN.out.2, by rw [← HB2.out]; simp⟩
          go_wp2_with (first | (go_at_call 140; refine CS.out.mono ?_; rintro e w' ⟨rfl, rfl⟩) | (go_at_call 92; refine CT.out.mono ?_; rintro e w' ⟨rfl, rfl⟩))
          go_ret
          exact ⟨ret_b HF.out.symm, rfl⟩
        | true =>
          have HR2 : Hid ((ns.take (q + 1)).all (fun n => n.all okT) = true ∧ (l.take (q + 1)).all soundJ = true) := by
            unfold Hid
            rw [HTN.out, HTL.out, List.all_append, List.all_append, hR.out.1, hR.out.2]
            simp only [List.all_cons, List.all_nil, ← HB1.out, ← HB2.out]
            exact ⟨rfl, rfl⟩
          go_wp2_with (first | (go_at_call 140; refine CS.out.mono ?_; rintro e w' ⟨rfl, rfl⟩) | (go_at_call 92; refine CT.out.mono ?_; rintro e w' ⟨rfl, rfl⟩))
          go_roundw
          case rel => exact ⟨q + 1, hlt, by go_num, HR2, trivial⟩
          case measure => simp [intOf]; omega
    · have HT : Hid (soundJ (.obj ns l) = true) := by
        have h := hR.out
        have h2 := HN.out
        rw [List.take_of_length_le (by omega), List.take_of_length_le (by omega)] at h
        unfold Hid
        rw [HSO.out, h.1, h.2]
        rfl
      have bl : decide ((q : Int) < (N : Int)) = false := decide_eq_false (by omega)
      have bl2 : decide (q < N) = false := decide_eq_false hlt
      clear hlt HIH
      go_wp2_with fail
      go_ret
      exact ⟨ret_b HT.out.symm, rfl⟩
theorem sound_flat : soundJ .null = true ∧ (∀ b, soundJ (.bool b) = true) ∧ (∀ n, soundJ (.num n) = true) ∧ ∀ s, soundJ (.text s) = s.all okT :=
  ⟨by rw [soundJ], fun _ => by rw [soundJ], fun _ => by rw [soundJ], fun _ => by rw [soundJ]⟩
set_option maxRecDepth 100000 in
set_option maxHeartbeats 2000000 in
theorem sound_val (j : J) : WJ j → SoundC j := by
  induction j using J.ind with
  | hn =>
    intro _ u w h _
    obtain rfl := PV_null.1 h
    have HE := Lib.hid sound_flat.1
    have a3 := ta_nil_str
    have a4 := ta_nil_vals
    have a5 := ta_nil_obj
    clear h
    go_enter Tryz.func92, Tryz.ntmps92
    go_wp2_with fail
    go_ret
    exact ⟨ret_b HE.out.symm, rfl⟩
  | hb b =>
    intro _ u w h _
    obtain rfl := PV_bool.1 h
    have HE := Lib.hid (sound_flat.2.1 b)
    have a3 := ta_bool_str (.bool b)
    have a4 := ta_bool_vals (.bool b)
    have a5 := ta_bool_obj (.bool b)
    clear h
    go_enter Tryz.func92, Tryz.ntmps92
    go_wp2_with fail
    go_ret
    exact ⟨ret_b HE.out.symm, rfl⟩
  | hi n =>
    intro _ u w h _
    obtain ⟨rfl, _⟩ := PV_num.1 h
    have HE := Lib.hid (sound_flat.2.2.1 n)
    have a3 := ta_int_str (.int .i64 n)
    have a4 := ta_int_vals (.int .i64 n)
    have a5 := ta_int_obj (.int .i64 n)
    clear h
    go_enter Tryz.func92, Tryz.ntmps92
    go_wp2_with fail
    go_ret
    exact ⟨ret_b HE.out.symm, rfl⟩
  | ht s =>
    intro _ u w h hb
    obtain rfl := PV_text.1 h
    have HE := Lib.hid (sound_flat.2.2.2 s)
    rw [bulkJ] at hb
    have C := Lib.hid (stands_any s w (by omega))
    obtain ⟨sx, hsx⟩ : ∃ sx, sx = bx s := ⟨_, rfl⟩
    rw [← hsx] at C ⊢
    have a3 := ta_str_str (.string sx)
    clear h hsx hb
    go_enter Tryz.func92, Tryz.ntmps92
    go_wp2_with fail
    refine Calls.mono C.out ?_
    rintro e w' ⟨rfl, rfl⟩
    go_wp2_with fail
    go_ret
    exact ⟨ret_b HE.out.symm, rfl⟩
  | hl l ih => exact fun hw => sound_lst l fun x hx => ih x hx (WJ_list.1 hw x hx)
  | ho ns l ih => exact fun hw => sound_ob ns l (fun x hx => ih x hx ((WJ_obj.1 hw).2 x hx)) (WJ_obj.1 hw).1.1
end Go.Proofs.YtnccefeehkcneaaGreatDoor.Jm
namespace Go.Proofs.YtnccefeehkcneaaGreatDoor.Jm
open Go Go.RowKit Go.Proofs.YtnccefeehkcneaaGreatDoor.Sx Go.Proofs.YtnccefeehkcneaaGreatDoor.Js
theorem ret_t {a b : ByteArray} {m n : Int} (h : a = b) (h2 : m = n) : Ending.returned (.tuple #[.string a, .int .i64 m]) = .returned (.tuple #[.string b, .int .i64 n]) := by rw [h, h2]
/-- What Tell returns. -/
def TellPost (j : J) (w : World) (e : Ending) (w' : World) : Prop := e = .returned (.tuple #[.string (bx (tellS j).1), .int .i64 (tellS j).2]) ∧ Ext w w'
set_option maxRecDepth 100000 in
set_option maxHeartbeats 4000000 in
theorem tell_val (j : J) (u : Value) (w : World) (h : PJ w j u) (hw : WJ j) (ht : Tab10 w) (hb : bulkJ j ≤ 16777216) : Calls Tryz.prog 36 #[u] w (TellPost j w) := by
  have C1 := Lib.hid (size_val j _ u w h hb)
  have C2 := Lib.hid (sound_val j hw u w h hb)
  have C3 := Lib.hid (text_val j _ u w h (PV.ij j u h hw) ht hb)
  have hmd := many_deep j
  obtain ⟨m, hm⟩ : ∃ m, m = manyJ j := ⟨_, rfl⟩
  obtain ⟨d, hd⟩ : ∃ d, d = deepJ j := ⟨_, rfl⟩
  obtain ⟨bb, hbb⟩ : ∃ b, b = soundJ j := ⟨_, rfl⟩
  obtain ⟨tx, htx⟩ : ∃ t, t = bx (textJ j) := ⟨_, rfl⟩
  have hts : tx.size = (textJ j).length := by rw [htx, bx_size]
  have HTX := Lib.hid htx
  have HTS := Lib.hid hts
  have HM := Lib.hid hm
  have HD := Lib.hid hd
  have HBB := Lib.hid hbb
  rw [← hm, ← hd] at C1 hmd
  rw [← hbb] at C2
  rw [← htx] at C3
  have hm2 : m ≤ 16777216 := by omega
  have hd2 : d ≤ 16777216 := by omega
  clear h hw ht hb hmd hm hd hbb htx hts
  go_enter Tryz.func36, Tryz.ntmps36
  go_wp2_with fail
  refine Calls.mono C1.out ?_
  rintro e w' ⟨rfl, rfl⟩
  go_wp2_with fail
  refine Calls.mono C2.out ?_
  rintro e w' ⟨rfl, rfl⟩
  cases bb with
  | false =>
    have HE : Hid (tellS j = ([], 16)) := tell_odd HBB.out.symm
    go_wp2_with fail
    go_ret2
    exact ⟨ret_t (by rw [HE.out]; rfl) (by rw [HE.out]), Below.refl _ _⟩
  | true =>
    by_cases hd10 : 10 < d
    · have HE : Hid (tellS j = ([], 4)) := tell_deep HBB.out.symm (by rw [← HD.out]; exact hd10)
      have z1 : decide (10 < (d : Int)) = true := by simp; omega
      have z2 : decide (10 < d) = true := by simp; omega
      clear hd10
      go_wp2_with fail
      go_ret2
      exact ⟨ret_t (by rw [HE.out]; rfl) (by rw [HE.out]), Below.refl _ _⟩
    · have z1 : decide (10 < (d : Int)) = false := by simp; omega
      have z2 : decide (10 < d) = false := by simp; omega
      by_cases hm10 : 200 < m
      · have HE : Hid (tellS j = ([], 2)) := tell_many HBB.out.symm (by rw [← HD.out]; exact hd10) (by rw [← HM.out]; exact hm10)
        have z3 : decide (200 < (m : Int)) = true := by simp; omega
        have z4 : decide (200 < m) = true := by simp; omega
        clear hd10 hm10
        go_wp2_with fail
        go_ret2
        exact ⟨ret_t (by rw [HE.out]; rfl) (by rw [HE.out]), Below.refl _ _⟩
      · have z3 : decide (200 < (m : Int)) = false := by simp; omega
        have z4 : decide (200 < m) = false := by simp; omega
        have HDM : Hid (¬ 10 < deepJ j ∧ ¬ 200 < manyJ j) := ⟨by rw [← HD.out]; exact hd10, by rw [← HM.out]; exact hm10⟩
        clear hd10 hm10
        go_wp2_with fail
        refine Calls.mono C3.out ?_
        rintro e w2 ⟨rfl, x2⟩
        have X2 := Lib.hid x2
        clear x2
        by_cases hz : 2000 < tx.size
        · have HE : Hid (tellS j = ([], 2)) := tell_long HBB.out.symm HDM.out.1 HDM.out.2 (by rw [← HTS.out]; exact hz)
          have z5 : decide (2000 < (tx.size : Int)) = true := by simp; omega
          have z6 : decide (2000 < tx.size) = true := by simp; omega
          clear hz
          go_wp2_with fail
          go_ret2
          exact ⟨ret_t (by rw [HE.out]; rfl) (by rw [HE.out]), X2.out⟩
        · have HE : Hid (tellS j = (textJ j, 0)) := tell_ok HBB.out.symm HDM.out.1 HDM.out.2 (by rw [← HTS.out]; exact hz)
          have z5 : decide (2000 < (tx.size : Int)) = false := by simp; omega
          have z6 : decide (2000 < tx.size) = false := by simp; omega
          clear hz
          go_wp2_with fail
          go_ret2
          exact ⟨ret_t (by rw [HE.out, HTX.out]) (by rw [HE.out]), X2.out⟩
theorem not_obj {w : World} {d : J} {x : Value} (h : PJ w d x) (ho : isObj d = false) : ∀ W : World, (Instr.typeAssert x valT objPT true).run Tryz.prog W = .ok (.tuple #[.pointer none, .bool false]) W := fun W => by
  cases d with
  | null => rw [PV_null.1 h]; exact ta_nil_obj W
  | bool b => rw [PV_bool.1 h]; exact ta_bool_obj _ W
  | num n => rw [(PV_num.1 h).1]; exact ta_int_obj _ W
  | text s => rw [PV_text.1 h]; exact ta_str_obj _ W
  | list l => obtain ⟨A, c, e, _⟩ := PV_list.1 h; rw [e]; exact ta_vals_obj _ W
  | obj ns l => cases ho
theorem PJ.some_ {w : World} {j : J} {u : Value} (h : PJ w j u) (hn : isNull j = false) : ∃ t x, u = .iface t x := by
  rcases PV.shape h with rfl | h2
  · cases j with
    | null => cases hn
    | bool b => have := PV_bool.1 h; cases this
    | num n => have := (PV_num.1 h).1; cases this
    | text s => have := PV_text.1 h; cases this
    | list l => obtain ⟨A, c, e, _⟩ := PV_list.1 h; cases e
    | obj ns l => obtain ⟨b, e, _⟩ := PV_obj.1 h; cases e
  · exact h2
end Go.Proofs.YtnccefeehkcneaaGreatDoor.Jm
