/- Thinned out of Jkb Mpb Rmc by thin.py. -/
import Derived.Test.YtnccefeehkcneaaGreatDoorJta
import Derived.Test.YtnccefeehkcneaaGreatDoorJtb
import Derived.Test.YtnccefeehkcneaaGreatDoorJkc
import Derived.OwnWalk
import Derived.Test.YtnccefeehkcneaaGreatDoorTmp
import Derived.Test.YtnccefeehkcneaaGreatDoorJpb
import Derived.Test.YtnccefeehkcneaaGreatDoorTmb
import Derived.Test.YtnccefeehkcneaaGreatDoorJqf
/-
  Quote of a text: the program's and the reference's (printed by gen/jk5.py).
  Kind, Size and Same of documents: the program's.
-/
namespace Go.Proofs.YtnccefeehkcneaaGreatDoor.Jm
open Go Go.RowKit Go.Proofs.YtnccefeehkcneaaGreatDoor.Sx Go.Proofs.YtnccefeehkcneaaGreatDoor.Js Go.Proofs.YtnccefeehkcneaaGreatDoor.Gr
theorem byte_five (c : UInt8) : (c.toNat = 10 ∧ okT c = true) ∨ (c.toNat = 9 ∧ okT c = true) ∨ (32 ≤ c.toNat ∧ c.toNat ≤ 126 ∧ okT c = true) ∨ (c.toNat < 32 ∧ c.toNat ≠ 10 ∧ c.toNat ≠ 9 ∧ okT c = false) ∨ (126 < c.toNat ∧ okT c = false) := by
  unfold okT
  by_cases h1 : c.toNat = 10
  · exact .inl ⟨h1, by simp [h1]⟩
  · by_cases h2 : c.toNat = 9
    · exact .inr (.inl ⟨h2, by simp [h2]⟩)
    · by_cases h3 : c.toNat < 32
      · exact .inr (.inr (.inr (.inl ⟨h3, h1, h2, by simp; omega⟩)))
      · by_cases h4 : 126 < c.toNat
        · exact .inr (.inr (.inr (.inr ⟨h4, by simp; omega⟩)))
        · exact .inr (.inr (.inl ⟨by omega, by omega, by simp; omega⟩))
set_option maxRecDepth 100000 in
set_option maxHeartbeats 4000000 in
theorem rodd_any (t : Tx) (w : World) (hs : t.length ≤ 16777216) : Calls Tryz.prog 143 #[.string (bx t)] w fun e w' => e = .returned (.bool (!t.all okT)) ∧ w = w' := by
  obtain ⟨s, hs0⟩ : ∃ s, s = bx t := ⟨_, rfl⟩
  have hsz : s.size ≤ 16777216 := by rw [hs0, bx_size]; exact hs
  have HS : Hid (sfx s 0 = t) := by unfold Hid; rw [hs0]; simp [sfx, bx]
  rw [← hs0]
  clear hs hs0
  go_enter Tryz.func143, Tryz.ntmps143
  go_wp2_with fail
  go_loopw [3] (fun ix wr => ∃ q : Nat, q ≤ s.size ∧ ix = .int .i64 (q : Int) ∧ Hid (((sfx s 0).take q).all okT = true) ∧ w = wr) (fun ix _ => s.size - (intOf ix).toNat)
  case atStart => exact ⟨0, Nat.zero_le _, rfl, rfl, rfl⟩
  case round =>
    obtain ⟨q, hq, rfl, hR, rfl⟩ := hrel
    have hq0 : (0 : Int) ≤ (q : Int) := by omega
    by_cases hlt : q < s.size
    · have hby := run_byte s q hlt
      obtain ⟨c, hcc⟩ : ∃ c, c = byteAt s q := ⟨_, rfl⟩
      have HSX : Hid (sfx s q = c :: sfx s (q + 1)) := by rw [hcc]; exact sfx_cons hlt
      have HTK : Hid ((sfx s 0).take (q + 1) = (sfx s 0).take q ++ [c]) := by
        have h := take_next (a := 0) HSX.out (Nat.zero_le _)
        exact h
      have HAL : Hid (sfx s 0 = (sfx s 0).take q ++ sfx s q) := by
        unfold Hid sfx
        rw [List.drop_zero, List.take_append_drop]
      rw [← hcc] at hby
      have hltI : (q : Int) < (s.size : Int) := by omega
      clear hcc
      have hw := byte_five c
      obtain ⟨m, hm⟩ : ∃ m, m = c.toNat := ⟨_, rfl⟩
      have hm8 : m < 256 := by rw [hm]; exact c.toNat_lt
      rw [← hm] at hby hw
      clear hm
      rcases hw with ⟨hc, hk⟩ | ⟨hc, hk⟩ | ⟨hc, hc2, hk⟩ | ⟨hc, hc2, hc3, hk⟩ | ⟨hc, hk⟩
      · subst hc
        have HG : Hid (((sfx s 0).take (q + 1)).all okT = true) := by unfold Hid; rw [HTK.out, List.all_append, hR.out]; simp [hk]
        clear hk
        go_wp2_with fail
        go_roundw
        case rel => exact ⟨q + 1, hlt, by go_num, HG, trivial⟩
        case measure => simp [intOf]; omega
      · subst hc
        have HG : Hid (((sfx s 0).take (q + 1)).all okT = true) := by unfold Hid; rw [HTK.out, List.all_append, hR.out]; simp [hk]
        clear hk
        go_wp2_with fail
        go_roundw
        case rel => exact ⟨q + 1, hlt, by go_num, HG, trivial⟩
        case measure => simp [intOf]; omega
      · have x1 : decide ((m : Int) < 32) = false := by simp; omega
        have x2 : decide (m < 32) = false := by simp; omega
        have x3 : decide (126 < (m : Int)) = false := by simp; omega
        have x4 : decide (126 < m) = false := by simp; omega
        by_cases hz : m = 10
        · omega
        · by_cases hz2 : m = 9
          · omega
          · have y1 : ((m : Int) != 10) = true := by rw [bne_iff_ne]; omega
            have y2 : ((m : Int) == 10) = false := by rw [beq_eq_false_iff_ne]; omega
            have y3 : (m == 10) = false := by rw [beq_eq_false_iff_ne]; omega
            have z1 : ((m : Int) != 9) = true := by rw [bne_iff_ne]; omega
            have z2 : ((m : Int) == 9) = false := by rw [beq_eq_false_iff_ne]; omega
            have z3 : (m == 9) = false := by rw [beq_eq_false_iff_ne]; omega
            have HG : Hid (((sfx s 0).take (q + 1)).all okT = true) := by unfold Hid; rw [HTK.out, List.all_append, hR.out]; simp [hk]
            clear hk
            go_wp2_with fail
            go_roundw
            case rel => exact ⟨q + 1, hlt, by go_num, HG, trivial⟩
            case measure => simp [intOf]; omega
      · have x1 : decide ((m : Int) < 32) = true := by simp; omega
        have x2 : decide (m < 32) = true := by simp; omega
        have x3 : decide (126 < (m : Int)) = false := by simp; omega
        have x4 : decide (126 < m) = false := by simp; omega
        have y1 : ((m : Int) != 10) = true := by rw [bne_iff_ne]; omega
        have y2 : ((m : Int) == 10) = false := by rw [beq_eq_false_iff_ne]; omega
        have y3 : (m == 10) = false := by rw [beq_eq_false_iff_ne]; omega
        have z1 : ((m : Int) != 9) = true := by rw [bne_iff_ne]; omega
        have z2 : ((m : Int) == 9) = false := by rw [beq_eq_false_iff_ne]; omega
        have z3 : (m == 9) = false := by rw [beq_eq_false_iff_ne]; omega
        have HB : Hid (t.all okT = false) := by unfold Hid; rw [← HS.out, HAL.out, HSX.out, List.all_append]; simp [hk]
        clear hk
        go_wp2_with fail
        go_ret
        exact ⟨rret_b (by rw [HB.out]; rfl), rfl⟩
      · have x1 : decide ((m : Int) < 32) = false := by simp; omega
        have x2 : decide (m < 32) = false := by simp; omega
        have x3 : decide (126 < (m : Int)) = true := by simp; omega
        have x4 : decide (126 < m) = true := by simp; omega
        have y1 : ((m : Int) != 10) = true := by rw [bne_iff_ne]; omega
        have y2 : ((m : Int) == 10) = false := by rw [beq_eq_false_iff_ne]; omega
        have y3 : (m == 10) = false := by rw [beq_eq_false_iff_ne]; omega
        have z1 : ((m : Int) != 9) = true := by rw [bne_iff_ne]; omega
        have z2 : ((m : Int) == 9) = false := by rw [beq_eq_false_iff_ne]; omega
        have z3 : (m == 9) = false := by rw [beq_eq_false_iff_ne]; omega
        have HB : Hid (t.all okT = false) := by unfold Hid; rw [← HS.out, HAL.out, HSX.out, List.all_append]; simp [hk]
        clear hk
        go_wp2_with fail
        go_ret
        exact ⟨rret_b (by rw [HB.out]; rfl), rfl⟩
    · have HA : Hid (t.all okT = true) := by
        have h := hR.out
        rw [HS.out, List.take_of_length_le (by rw [← HS.out, sfx_len]; omega)] at h
        exact h
      have bl : decide ((q : Int) < (s.size : Int)) = false := decide_eq_false (by omega)
      have bl2 : decide (q < s.size) = false := decide_eq_false hlt
      clear hlt
      go_wp2_with fail
      go_ret
      exact ⟨rret_b (by rw [HA.out]; rfl), rfl⟩
theorem sound_parts (j : J) : soundJ j = ((txtJ j).all okT && ((namesJ j).all (fun n => n.all okT) && (kidsJ j).all soundJ)) := by
  cases j with
  | null => rw [soundJ]; rfl
  | bool b => rw [soundJ]; rfl
  | num n => rw [soundJ]; rfl
  | text s => rw [soundJ]; simp [txtJ, namesJ, kidsJ]
  | list l => rw [sound_list]; simp [txtJ, namesJ, kidsJ]
  | obj ns l => rw [sound_obj]; simp [txtJ, namesJ, kidsJ]
theorem parts_long (j : J) : (txtJ j).length ≤ bulkJ j ∧ ∀ n ∈ namesJ j, n.length ≤ bulkJ j := by
  have : ∀ (ns : List Tx) (n : Tx), n ∈ ns → 2 * n.length + 8 ≤ namesB ns := fun ns n => by
    unfold namesB
    induction ns with
    | nil => intro h; cases h
    | cons a r ih =>
      intro h
      rw [List.map_cons, List.sum_cons]
      rcases List.mem_cons.1 h with rfl | h
      · omega
      · have := ih h; omega
  cases j with
  | text s => rw [bulkJ]; exact ⟨by show s.length ≤ _; omega, fun n h => by cases h⟩
  | obj ns l => rw [bulkJ]; exact ⟨by show (0 : Nat) ≤ _; omega, fun n h => by have := this ns n h; omega⟩
  | _ => exact ⟨by show (0 : Nat) ≤ _; omega, fun n h => by cases h⟩
theorem text_kind {j : J} (h : kindJ j ≠ 4) : txtJ j = [] := by cases j <;> first | rfl | exact absurd rfl h
def ROddC (j : J) : Prop := ∀ (F : Nat → Prop) (cs : List Value) (w : World), RV F w j cs → bulkJ j ≤ 16777216 → Calls Tryz.prog 95 #[.agg cs.toArray] w fun e w' => e = .returned (.bool (!soundJ j)) ∧ Ext w w'
set_option maxRecDepth 100000 in
set_option maxHeartbeats 8000000 in
theorem rodd_core (j : J) (ih : ∀ x ∈ kidsJ j, ROddC x) : ROddC j := by
  intro F cs w h hb
  obtain ⟨A, c, B, d, rfl, hn, hv⟩ := h.parts
  have hf := parts_few j
  have hlo := parts_long j
  have HP := Lib.hid (sound_parts j)
  have HIH : Hid (∀ q (h1 : q < (kidsJ j).length) (W : World) (u : List Value), Ext w W → RV F w (kidsJ j)[q] u → Calls Tryz.prog 95 #[.agg u.toArray] W fun e w' => e = .returned (.bool (!soundJ (kidsJ j)[q])) ∧ Ext W w') := fun q h1 W u hx p =>
    ih _ (List.getElem_mem h1) F u W (p.ext hx) (by have := kids_bulk (List.getElem_mem h1); omega)
  have HV := Lib.hid hv
  have HNA := Lib.hid hn
  have HNL : Hid (∀ q (h : q < (namesJ j).length), (namesJ j)[q].length ≤ 16777216) := fun q h => by have := hlo.2 _ (List.getElem_mem h); omega
  obtain ⟨K, hK⟩ : ∃ x, x = kindJ j := ⟨_, rfl⟩
  obtain ⟨o, ho⟩ : ∃ x, x = boolJ j := ⟨_, rfl⟩
  obtain ⟨n, hnu⟩ : ∃ x, x = numJ j := ⟨_, rfl⟩
  obtain ⟨x, hx⟩ : ∃ x, x = bx (txtJ j) := ⟨_, rfl⟩
  obtain ⟨M, hM⟩ : ∃ x, x = (namesJ j).length := ⟨_, rfl⟩
  obtain ⟨N, hN⟩ : ∃ x, x = (kidsJ j).length := ⟨_, rfl⟩
  have HM := Lib.hid hM
  have HN := Lib.hid hN
  have hNs : N ≤ 16777216 := by omega
  have hMs : M ≤ 16777216 := by omega
  have CO : Hid (∀ W, Calls Tryz.prog 143 #[.string x] W fun e w' => e = .returned (.bool (!(txtJ j).all okT)) ∧ W = w') := fun W => by rw [hx]; exact rodd_any (txtJ j) W (by omega)
  unfold v6
  rw [← hK, ← ho, ← hnu, ← hx, ← hM, ← hN]
  obtain ⟨g, hg⟩ : ∃ g, g = w.heap.size := ⟨_, rfl⟩
  obtain ⟨w1, hw1⟩ : ∃ w1, w1 = w.alloc (.cells #[.int .i64 K, .bool o, .int .i64 n, .string x, .slice A M c, .slice B N d] vT (0, 0)) := ⟨_, rfl⟩
  have HX1 : Hid (Ext w w1) := by rw [hw1]; exact new_ext _ _
  have HV1 : Hid (VIn w1 g K o n x (.slice A M c) (.slice B N d)) := by rw [hw1]; exact heap_new hg
  obtain ⟨tb, htb⟩ : ∃ b, b = (txtJ j).all okT := ⟨_, rfl⟩
  rw [← htb] at CO HP
  have HTX : Hid (K ≠ 4 → tb = true) := fun h => by rw [htb, text_kind (by rw [← hK]; exact h)]; rfl
  clear h hb hn hv hf hlo hK ho hnu hx hM hN ih htb
  go_enter Tryz.func95, Tryz.ntmps95
  go_upto_region 1 with (fail)
  rw [← hw1, ← hg]
  clear hw1 hg
  obtain ⟨a0, a1, a2, a3, a4, a5⟩ := HV1.out.cells
  cases tb with
  | false =>
    have HF : Hid (soundJ j = false) := by unfold Hid; rw [HP.out]; rfl
    by_cases hK4 : K = 4
    · subst hK4
      go_wp2_with (go_at_call 143; refine (CO.out _).mono ?_; rintro e w' ⟨rfl, rfl⟩)
      go_ret
      exact ⟨rret_b (by rw [HF.out]; rfl), HX1.out⟩
    · have := HTX.out hK4
      cases this
  | true =>
    have HP2 : Hid (soundJ j = ((namesJ j).all (fun n => n.all okT) && (kidsJ j).all soundJ)) := by unfold Hid; rw [HP.out]; rfl
    clear HTX HP
    by_cases hK4 : K = 4
    · subst hK4
      go_wp2_with (go_at_call 143; refine (CO.out _).mono ?_; rintro e w' ⟨rfl, rfl⟩)
      clear a0 a1 a2 a3 a4 a5
      go_loopw [18] (fun ix wr => ∃ q : Nat, q ≤ M ∧ ix = .int .i64 (q : Int) ∧ Hid (((namesJ j).take q).all (fun n => n.all okT) = true) ∧ w1 = wr) (fun ix _ => M - (intOf ix).toNat)
      case atStart => exact ⟨0, Nat.zero_le _, rfl, rfl, rfl⟩
      case round =>
        obtain ⟨q, hq, rfl, hR, rfl⟩ := hrel
        have hq0 : (0 : Int) ≤ (q : Int) := by omega
        by_cases hlt : q < M
        · have hqn : q < (namesJ j).length := by rw [← HM.out]; exact hlt
          obtain ⟨ga, oa, rfl, -, hca0⟩ := HNA.out q hqn
          have hca := (cell_keep (HX1.out.block ga (cell_lt hca0))).trans hca0
          have CS := Lib.hid (rodd_any (namesJ j)[q] w1 (HNL.out q hqn))
          have HTN : Hid ((namesJ j).take (q + 1) = (namesJ j).take q ++ [(namesJ j)[q]]) := List.take_succ_eq_append_getElem hqn
          have HIN : Hid ((namesJ j)[q] ∈ namesJ j) := List.getElem_mem hqn
          have hltI : (q : Int) < (M : Int) := by omega
          generalize hn : (namesJ j)[q] = nm at *
          obtain ⟨b1, hb1⟩ : ∃ b, b = nm.all okT := ⟨_, rfl⟩
          rw [← hb1] at CS
          have HB1 := Lib.hid hb1
          obtain ⟨sx, hsx⟩ : ∃ s, s = bx nm := ⟨_, rfl⟩
          rw [← hsx] at hca CS
          clear hb1 hn hsx hca0
          go_wp2_with fail
          refine Calls.mono CS.out ?_
          rintro e w' ⟨rfl, rfl⟩
          cases b1 with
          | false =>
            have HF : Hid (soundJ j = false) := by
              unfold Hid
              rw [HP2.out, Bool.and_eq_false_iff]
              left
              rw [List.all_eq_false]
              exact ⟨nm, HIN.out, by rw [← HB1.out]; simp⟩
            go_wp2_with fail
            go_ret
            exact ⟨rret_b (by rw [HF.out]; rfl), HX1.out⟩
          | true =>
            have HR2 : Hid (((namesJ j).take (q + 1)).all (fun n => n.all okT) = true) := by
              unfold Hid
              rw [HTN.out, List.all_append, hR.out]
              simp only [List.all_cons, List.all_nil, ← HB1.out]
              rfl
            go_wp2_with fail
            go_roundw
            case rel => exact ⟨q + 1, hlt, by go_num, HR2, trivial⟩
            case measure => simp [intOf]; omega
        · have HNT : Hid ((namesJ j).all (fun n => n.all okT) = true) := by
            have h := hR.out
            rw [List.take_of_length_le (by have := HM.out; omega)] at h
            exact h
          have bl : decide ((q : Int) < (M : Int)) = false := decide_eq_false (by omega)
          have bl2 : decide (q < M) = false := decide_eq_false hlt
          obtain ⟨a0, a1, a2, a3, a4, a5⟩ := HV1.out.cells
          clear hlt hR
          go_wp2_with fail
          clear a0 a1 a2 a3 a4 a5 bl bl2
          go_loopw [28] (fun ix wr => ∃ q : Nat, q ≤ N ∧ ix = .int .i64 (q : Int) ∧ Hid (((kidsJ j).take q).all soundJ = true ∧ Ext w1 wr)) (fun ix _ => N - (intOf ix).toNat)
          case atStart => exact ⟨0, Nat.zero_le _, rfl, rfl, Below.refl _ _⟩
          case round =>
            obtain ⟨q, hq, rfl, hR⟩ := hrel
            have hq0 : (0 : Int) ≤ (q : Int) := by omega
            by_cases hlt : q < N
            · have hql : q < (kidsJ j).length := by rw [← HN.out]; exact hlt
              obtain ⟨gb, ob, u, rfl, -, -, hu, hrv⟩ := HV.out q hql
              obtain ⟨K3, B3, z3, s3, A5, n5, c5, A6, n6, c6, rfl⟩ := RV.shape hrv
              have hxr := HX1.out.trans hR.out.2
              have hk : ∀ k x, (v6 K3 B3 z3 s3 (.slice A5 n5 c5) (.slice A6 n6 c6))[k]? = some x → wr.cell? ⟨gb, ob + q * 6 + k, none⟩ = some x := fun k x h => (cell_keep (hxr.block gb (cell_lt (hu k x h)))).trans (hu k x h)
              have k0 := hk 0 _ rfl
              have k1 := hk 1 _ rfl
              have k2 := hk 2 _ rfl
              have k3 := hk 3 _ rfl
              have k4 := hk 4 _ rfl
              have k5 := hk 5 _ rfl
              rw [Nat.add_zero] at k0
              have HXR := Lib.hid hxr
              have CT : Hid (∀ W, Ext w W → Calls Tryz.prog 95 #[.agg #[.int .i64 K3, .bool B3, .int .i64 z3, .string s3, .slice A5 n5 c5, .slice A6 n6 c6]] W fun e w' => e = .returned (.bool (!soundJ (kidsJ j)[q])) ∧ Ext W w') := fun W hW => HIH.out q hql W _ hW hrv
              have HTL : Hid ((kidsJ j).take (q + 1) = (kidsJ j).take q ++ [(kidsJ j)[q]]) := List.take_succ_eq_append_getElem hql
              have HIN : Hid ((kidsJ j)[q] ∈ kidsJ j) := List.getElem_mem hql
              have hltI : (q : Int) < (N : Int) := by omega
              generalize hx : (kidsJ j)[q] = y at *
              obtain ⟨b2, hb2⟩ : ∃ b, b = soundJ y := ⟨_, rfl⟩
              rw [← hb2] at CT
              have HB2 := Lib.hid hb2
              clear hu hrv hk hxr hx hb2 HIH
              go_upto_region 12 with (fail)
              obtain ⟨tb, htb⟩ : ∃ t, t = wr.heap.size := ⟨_, rfl⟩
              rw [← htb]
              generalize hW : World.alloc wr _ = w2
              have HX2 : Hid (Ext wr w2) := by rw [← hW]; exact new_ext _ _
              have HTB : Hid (VIn w2 tb K3 B3 z3 s3 (.slice A5 n5 c5) (.slice A6 n6 c6)) := by rw [← hW]; exact heap_new htb
              clear hW htb k0 k1 k2 k3 k4 k5
              obtain ⟨t0, t1, t2, t3, t4, t5⟩ := HTB.out.cells
              go_wp2_with fail
              refine Calls.mono (CT.out w2 (HXR.out.trans HX2.out)) ?_
              rintro e w3 ⟨rfl, x3⟩
              have X3 := Lib.hid (HX2.out.trans x3)
              clear x3
              cases b2 with
              | false =>
                have HF : Hid (soundJ j = false) := by
                  unfold Hid
                  rw [HP2.out, Bool.and_eq_false_iff]
                  right
                  rw [List.all_eq_false]
                  exact ⟨y, HIN.out, by rw [← HB2.out]; simp⟩
                go_wp2_with fail
                go_ret
                exact ⟨rret_b (by rw [HF.out]; rfl), HXR.out.trans X3.out⟩
              | true =>
                have HR2 : Hid (((kidsJ j).take (q + 1)).all soundJ = true) := by
                  unfold Hid
                  rw [HTL.out, List.all_append, hR.out.1]
                  simp only [List.all_cons, List.all_nil, ← HB2.out]
                  rfl
                go_wp2_with fail
                go_roundw
                case rel => exact ⟨q + 1, hlt, by go_num, HR2.out, hR.out.2.trans X3.out⟩
                case measure => simp [intOf]; omega
            · have HT : Hid (soundJ j = true) := by
                have h := hR.out.1
                rw [List.take_of_length_le (by have := HN.out; omega)] at h
                unfold Hid
                rw [HP2.out, HNT.out, h]
                rfl
              have HXR := Lib.hid (HX1.out.trans hR.out.2)
              have bl : decide ((q : Int) < (N : Int)) = false := decide_eq_false (by omega)
              have bl2 : decide (q < N) = false := decide_eq_false hlt
              clear hlt HIH
              go_wp2_with fail
              go_ret
              exact ⟨rret_b (by rw [HT.out]; rfl), HXR.out⟩
    · have b1 : (K == 4) = false := by rw [beq_eq_false_iff_ne]; exact hK4
      clear hK4
      go_wp2_with fail
      clear a0 a1 a2 a3 a4 a5
      go_loopw [18] (fun ix wr => ∃ q : Nat, q ≤ M ∧ ix = .int .i64 (q : Int) ∧ Hid (((namesJ j).take q).all (fun n => n.all okT) = true) ∧ w1 = wr) (fun ix _ => M - (intOf ix).toNat)
      case atStart => exact ⟨0, Nat.zero_le _, rfl, rfl, rfl⟩
      case round =>
        obtain ⟨q, hq, rfl, hR, rfl⟩ := hrel
        have hq0 : (0 : Int) ≤ (q : Int) := by omega
        by_cases hlt : q < M
        · have hqn : q < (namesJ j).length := by rw [← HM.out]; exact hlt
          obtain ⟨ga, oa, rfl, -, hca0⟩ := HNA.out q hqn
          have hca := (cell_keep (HX1.out.block ga (cell_lt hca0))).trans hca0
          have CS := Lib.hid (rodd_any (namesJ j)[q] w1 (HNL.out q hqn))
          have HTN : Hid ((namesJ j).take (q + 1) = (namesJ j).take q ++ [(namesJ j)[q]]) := List.take_succ_eq_append_getElem hqn
          have HIN : Hid ((namesJ j)[q] ∈ namesJ j) := List.getElem_mem hqn
          have hltI : (q : Int) < (M : Int) := by omega
          generalize hn : (namesJ j)[q] = nm at *
          obtain ⟨b1, hb1⟩ : ∃ b, b = nm.all okT := ⟨_, rfl⟩
          rw [← hb1] at CS
          have HB1 := Lib.hid hb1
          obtain ⟨sx, hsx⟩ : ∃ s, s = bx nm := ⟨_, rfl⟩
          rw [← hsx] at hca CS
          clear hb1 hn hsx hca0
          go_wp2_with fail
          refine Calls.mono CS.out ?_
          rintro e w' ⟨rfl, rfl⟩
          cases b1 with
          | false =>
            have HF : Hid (soundJ j = false) := by
              unfold Hid
              rw [HP2.out, Bool.and_eq_false_iff]
              left
              rw [List.all_eq_false]
              exact ⟨nm, HIN.out, by rw [← HB1.out]; simp⟩
            go_wp2_with fail
            go_ret
            exact ⟨rret_b (by rw [HF.out]; rfl), HX1.out⟩
          | true =>
            have HR2 : Hid (((namesJ j).take (q + 1)).all (fun n => n.all okT) = true) := by
              unfold Hid
              rw [HTN.out, List.all_append, hR.out]
              simp only [List.all_cons, List.all_nil, ← HB1.out]
              rfl
            go_wp2_with fail
            go_roundw
            case rel => exact ⟨q + 1, hlt, by go_num, HR2, trivial⟩
            case measure => simp [intOf]; omega
        · have HNT : Hid ((namesJ j).all (fun n => n.all okT) = true) := by
            have h := hR.out
            rw [List.take_of_length_le (by have := HM.out; omega)] at h
            exact h
          have bl : decide ((q : Int) < (M : Int)) = false := decide_eq_false (by omega)
          have bl2 : decide (q < M) = false := decide_eq_false hlt
          obtain ⟨a0, a1, a2, a3, a4, a5⟩ := HV1.out.cells
          clear hlt hR
          go_wp2_with fail
          clear a0 a1 a2 a3 a4 a5 bl bl2
          go_loopw [28] (fun ix wr => ∃ q : Nat, q ≤ N ∧ ix = .int .i64 (q : Int) ∧ Hid (((kidsJ j).take q).all soundJ = true ∧ Ext w1 wr)) (fun ix _ => N - (intOf ix).toNat)
          case atStart => exact ⟨0, Nat.zero_le _, rfl, rfl, Below.refl _ _⟩
          case round =>
            obtain ⟨q, hq, rfl, hR⟩ := hrel
            have hq0 : (0 : Int) ≤ (q : Int) := by omega
            by_cases hlt : q < N
            · have hql : q < (kidsJ j).length := by rw [← HN.out]; exact hlt
              obtain ⟨gb, ob, u, rfl, -, -, hu, hrv⟩ := HV.out q hql
              obtain ⟨K3, B3, z3, s3, A5, n5, c5, A6, n6, c6, rfl⟩ := RV.shape hrv
              have hxr := HX1.out.trans hR.out.2
              have hk : ∀ k x, (v6 K3 B3 z3 s3 (.slice A5 n5 c5) (.slice A6 n6 c6))[k]? = some x → wr.cell? ⟨gb, ob + q * 6 + k, none⟩ = some x := fun k x h => (cell_keep (hxr.block gb (cell_lt (hu k x h)))).trans (hu k x h)
              have k0 := hk 0 _ rfl
              have k1 := hk 1 _ rfl
              have k2 := hk 2 _ rfl
              have k3 := hk 3 _ rfl
              have k4 := hk 4 _ rfl
              have k5 := hk 5 _ rfl
              rw [Nat.add_zero] at k0
              have HXR := Lib.hid hxr
              have CT : Hid (∀ W, Ext w W → Calls Tryz.prog 95 #[.agg #[.int .i64 K3, .bool B3, .int .i64 z3, .string s3, .slice A5 n5 c5, .slice A6 n6 c6]] W fun e w' => e = .returned (.bool (!soundJ (kidsJ j)[q])) ∧ Ext W w') := fun W hW => HIH.out q hql W _ hW hrv
              have HTL : Hid ((kidsJ j).take (q + 1) = (kidsJ j).take q ++ [(kidsJ j)[q]]) := List.take_succ_eq_append_getElem hql
              have HIN : Hid ((kidsJ j)[q] ∈ kidsJ j) := List.getElem_mem hql
              have hltI : (q : Int) < (N : Int) := by omega
              generalize hx : (kidsJ j)[q] = y at *
              obtain ⟨b2, hb2⟩ : ∃ b, b = soundJ y := ⟨_, rfl⟩
              rw [← hb2] at CT
              have HB2 := Lib.hid hb2
              clear hu hrv hk hxr hx hb2 HIH
              go_upto_region 12 with (fail)
              obtain ⟨tb, htb⟩ : ∃ t, t = wr.heap.size := ⟨_, rfl⟩
              rw [← htb]
              generalize hW : World.alloc wr _ = w2
              have HX2 : Hid (Ext wr w2) := by rw [← hW]; exact new_ext _ _
              have HTB : Hid (VIn w2 tb K3 B3 z3 s3 (.slice A5 n5 c5) (.slice A6 n6 c6)) := by rw [← hW]; exact heap_new htb
              clear hW htb k0 k1 k2 k3 k4 k5
              obtain ⟨t0, t1, t2, t3, t4, t5⟩ := HTB.out.cells
              go_wp2_with fail
              refine Calls.mono (CT.out w2 (HXR.out.trans HX2.out)) ?_
              rintro e w3 ⟨rfl, x3⟩
              have X3 := Lib.hid (HX2.out.trans x3)
              clear x3
              cases b2 with
              | false =>
                have HF : Hid (soundJ j = false) := by
                  unfold Hid
                  rw [HP2.out, Bool.and_eq_false_iff]
                  right
                  rw [List.all_eq_false]
                  exact ⟨y, HIN.out, by rw [← HB2.out]; simp⟩
                go_wp2_with fail
                go_ret
                exact ⟨rret_b (by rw [HF.out]; rfl), HXR.out.trans X3.out⟩
              | true =>
                have HR2 : Hid (((kidsJ j).take (q + 1)).all soundJ = true) := by
                  unfold Hid
                  rw [HTL.out, List.all_append, hR.out.1]
                  simp only [List.all_cons, List.all_nil, ← HB2.out]
                  rfl
                go_wp2_with fail
                go_roundw
                case rel => exact ⟨q + 1, hlt, by go_num, HR2.out, hR.out.2.trans X3.out⟩
                case measure => simp [intOf]; omega
            · have HT : Hid (soundJ j = true) := by
                have h := hR.out.1
                rw [List.take_of_length_le (by have := HN.out; omega)] at h
                unfold Hid
                rw [HP2.out, HNT.out, h]
                rfl
              have HXR := Lib.hid (HX1.out.trans hR.out.2)
              have bl : decide ((q : Int) < (N : Int)) = false := decide_eq_false (by omega)
              have bl2 : decide (q < N) = false := decide_eq_false hlt
              clear hlt HIH
              go_wp2_with fail
              go_ret
              exact ⟨rret_b (by rw [HT.out]; rfl), HXR.out⟩
theorem rodd_val (j : J) : ROddC j := by
  induction h : SizeOf.sizeOf j using Nat.strongRecOn generalizing j with
  | ind n ih => exact rodd_core j fun x hx => ih _ (by rw [← h]; exact kids_size hx) x rfl
theorem rret_t {a b : ByteArray} {m n : Int} (h : a = b) (h2 : m = n) : Ending.returned (.tuple #[.string a, .int .i64 m]) = .returned (.tuple #[.string b, .int .i64 n]) := by rw [h, h2]
/-- What Tell returns. -/
def RTold (j : J) (w : World) (e : Ending) (w' : World) : Prop := e = .returned (.tuple #[.string (bx (tellS j).1), .int .i64 (tellS j).2]) ∧ Ext w w'
set_option maxRecDepth 100000 in
set_option maxHeartbeats 8000000 in
theorem rtell_val (j : J) (F : Nat → Prop) (K : Int) (B : Bool) (z : Int) (s : ByteArray) (A1 : Option Addr) (n1 c1 : Nat) (A2 : Option Addr) (n2 c2 : Nat) (w : World) (h : RV F w j (v6  K B  z s (.slice A1 n1 c1) (.slice A2 n2 c2))) (hij : IJ j) (hm : MaxC w) (hb : bulkJ j ≤ 16777216) :
    Calls Tryz.prog 38 #[.agg #[.int .i64 K, .bool B, .int .i64 z, .string s, .slice A1 n1 c1, .slice A2 n2 c2]] w (RTold j w) := by
  have C1 : Hid (∀ W, Ext w W → Calls Tryz.prog 94 #[.agg #[.int .i64 K, .bool B, .int .i64 z, .string s, .slice A1 n1 c1, .slice A2 n2 c2]] W fun e w' => e = .returned (.tuple #[.int .i64 (manyJ j), .int .i64 (deepJ j)]) ∧ Ext W w') := fun W hW => rsize_val j F _ W (h.ext hW) (by omega)
  have C2 : Hid (∀ W, Ext w W → Calls Tryz.prog 95 #[.agg #[.int .i64 K, .bool B, .int .i64 z, .string s, .slice A1 n1 c1, .slice A2 n2 c2]] W fun e w' => e = .returned (.bool (!soundJ j)) ∧ Ext W w') := fun W hW => rodd_val j F _ W (h.ext hW) (by omega)
  have C3 : Hid (∀ W, Ext w W → Calls Tryz.prog 57 #[.agg #[.int .i64 K, .bool B, .int .i64 z, .string s, .slice A1 n1 c1, .slice A2 n2 c2]] W fun e w' => e = .returned (.string (bx (textJ j))) ∧ Ext W w') := fun W hW => rtext_val j F _ W (h.ext hW) hij (hm.ext hW) hb
  have hmd := many_deep j
  obtain ⟨m, hmm⟩ : ∃ m, m = manyJ j := ⟨_, rfl⟩
  obtain ⟨d, hd⟩ : ∃ d, d = deepJ j := ⟨_, rfl⟩
  obtain ⟨bb, hbb⟩ : ∃ b, b = soundJ j := ⟨_, rfl⟩
  obtain ⟨tx, htx⟩ : ∃ t, t = bx (textJ j) := ⟨_, rfl⟩
  have hts : tx.size = (textJ j).length := by rw [htx, bx_size]
  have HTX := Lib.hid htx
  have HTS := Lib.hid hts
  have HM := Lib.hid hmm
  have HD := Lib.hid hd
  have HBB := Lib.hid hbb
  rw [← hmm, ← hd] at C1 hmd
  rw [← hbb] at C2
  rw [← htx] at C3
  have hm2 : m ≤ 16777216 := by omega
  have hd2 : d ≤ 16777216 := by omega
  obtain ⟨g, hg⟩ : ∃ g, g = w.heap.size := ⟨_, rfl⟩
  obtain ⟨w1, hw1⟩ : ∃ w1, w1 = w.alloc (.cells #[.int .i64 K, .bool B, .int .i64 z, .string s, .slice A1 n1 c1, .slice A2 n2 c2] vT (0, 0)) := ⟨_, rfl⟩
  have HX1 : Hid (Ext w w1) := by rw [hw1]; exact new_ext _ _
  have HV1 : Hid (VIn w1 g K B z s (.slice A1 n1 c1) (.slice A2 n2 c2)) := by rw [hw1]; exact heap_new hg
  clear h hij hm hb hmd hmm hd hbb htx hts
  go_enter Tryz.func38, Tryz.ntmps38
  go_upto_region 1 with (fail)
  rw [← hw1, ← hg]
  clear hw1 hg
  obtain ⟨a0, a1, a2, a3, a4, a5⟩ := HV1.out.cells
  go_wp2_with fail
  refine Calls.mono (C1.out w1 HX1.out) ?_
  rintro e w2 ⟨rfl, x2⟩
  have X2 := Lib.hid x2
  clear x2 a0 a1 a2 a3 a4 a5
  obtain ⟨a0, a1, a2, a3, a4, a5⟩ := (HV1.out.ext X2.out).cells
  go_wp2_with fail
  refine Calls.mono (C2.out w2 (HX1.out.trans X2.out)) ?_
  rintro e w3 ⟨rfl, x3⟩
  have X3 := Lib.hid (X2.out.trans x3)
  clear x3 a0 a1 a2 a3 a4 a5
  cases bb with
  | false =>
    have HE : Hid (tellS j = ([], 16)) := tell_odd HBB.out.symm
    go_wp2_with fail
    go_ret2
    exact ⟨rret_t (by rw [HE.out]; rfl) (by rw [HE.out]), HX1.out.trans X3.out⟩
  | true =>
    by_cases hd10 : 10 < d
    · have HE : Hid (tellS j = ([], 4)) := tell_deep HBB.out.symm (by rw [← HD.out]; exact hd10)
      have z1 : decide (10 < (d : Int)) = true := by simp; omega
      have z2 : decide (10 < d) = true := by simp; omega
      clear hd10
      go_wp2_with fail
      go_ret2
      exact ⟨rret_t (by rw [HE.out]; rfl) (by rw [HE.out]), HX1.out.trans X3.out⟩
    · have z1 : decide (10 < (d : Int)) = false := by simp; omega
      have z2 : decide (10 < d) = false := by simp; omega
      have HDM : Hid (¬ 10 < deepJ j) := by unfold Hid; rw [← HD.out]; exact hd10
      clear hd10
      obtain ⟨a0, a1, a2, a3, a4, a5⟩ := (HV1.out.ext X3.out).cells
      go_wp2_with fail
      refine Calls.mono (C3.out w3 (HX1.out.trans X3.out)) ?_
      rintro e w4 ⟨rfl, x4⟩
      have X4 := Lib.hid (X3.out.trans x4)
      clear x4 a0 a1 a2 a3 a4 a5
      by_cases hm10 : 200 < m
      · have HE : Hid (tellS j = ([], 2)) := tell_many HBB.out.symm HDM.out (by rw [← HM.out]; exact hm10)
        have z3 : decide ((m : Int) ≤ 200) = false := by simp; omega
        have z4 : decide (m ≤ 200) = false := by simp; omega
        clear hm10
        go_wp2_with fail
        go_ret2
        exact ⟨rret_t (by rw [HE.out]; rfl) (by rw [HE.out]), HX1.out.trans X4.out⟩
      · have z3 : decide ((m : Int) ≤ 200) = true := by simp; omega
        have z4 : decide (m ≤ 200) = true := by simp; omega
        have HMM : Hid (¬ 200 < manyJ j) := by unfold Hid; rw [← HM.out]; exact hm10
        clear hm10
        by_cases hz : 2000 < tx.size
        · have HE : Hid (tellS j = ([], 2)) := tell_long HBB.out.symm HDM.out HMM.out (by rw [← HTS.out]; exact hz)
          have z5 : decide ((tx.size : Int) ≤ 2000) = false := by simp; omega
          have z6 : decide (tx.size ≤ 2000) = false := by simp; omega
          clear hz
          go_wp2_with fail
          go_ret2
          exact ⟨rret_t (by rw [HE.out]; rfl) (by rw [HE.out]), HX1.out.trans X4.out⟩
        · have HE : Hid (tellS j = (textJ j, 0)) := tell_ok HBB.out.symm HDM.out HMM.out (by rw [← HTS.out]; exact hz)
          have z5 : decide ((tx.size : Int) ≤ 2000) = true := by simp; omega
          have z6 : decide (tx.size ≤ 2000) = true := by simp; omega
          clear hz
          go_wp2_with fail
          go_ret2
          exact ⟨rret_t (by rw [HE.out, HTX.out]) (by rw [HE.out]), HX1.out.trans X4.out⟩
def readsS : List ByteArray → Res (List J)
  | [] => .ok []
  | s :: r => match readS s.data.toList with
    | .error e => .error e
    | .ok j => match readsS r with
      | .error e => .error e
      | .ok l => .ok (j :: l)
theorem reads_snoc : ∀ (xs : List ByteArray) (acc : List J) (s : ByteArray) (j : J), readsS xs = .ok acc → readS s.data.toList = .ok j → readsS (xs ++ [s]) = .ok (acc ++ [j])
  | [], acc, s, j, h, hj => by
    injection h with h
    rw [← h]
    show readsS [s] = _
    rw [readsS, hj]
    rfl
  | x :: xs, acc, s, j, h, hj => by
    rw [readsS] at h
    rw [List.cons_append, readsS]
    cases hx : readS x.data.toList with
    | error e => rw [hx] at h; cases h
    | ok k =>
      rw [hx] at h
      simp only at h ⊢
      cases hr : readsS xs with
      | error e => rw [hr] at h; cases h
      | ok l =>
        rw [hr] at h
        injection h with h
        rw [reads_snoc xs l s j hr hj, ← h]
        rfl
theorem reads_bad : ∀ (xs : List ByteArray) (acc : List J) (s : ByteArray) (r : List ByteArray) (e : Int), readsS xs = .ok acc → readS s.data.toList = .error e → readsS (xs ++ s :: r) = .error e
  | [], acc, s, r, e, h, hj => by
    show readsS (s :: r) = _
    rw [readsS, hj]
  | x :: xs, acc, s, r, e, h, hj => by
    rw [readsS] at h
    rw [List.cons_append, readsS]
    cases hx : readS x.data.toList with
    | error e => rw [hx] at h; cases h
    | ok k =>
      rw [hx] at h
      simp only at h ⊢
      cases hr : readsS xs with
      | error e => rw [hr] at h; cases h
      | ok l =>
        rw [reads_bad xs l s r e hr hj]
/-- What reads gives where the plain law gives T. -/
def RReads (w : World) (T : Res (List J)) (e : Ending) (w' : World) : Prop := Ext w w' ∧ ((∃ js A c, T = .ok js ∧ e = .returned (.tuple #[.slice A js.length c, .int .i64 0]) ∧ RValsAt (fun b => w.heap.size ≤ b) w' A js) ∨ (∃ er A n c, er ≠ 0 ∧ T = .error er ∧ e = .returned (.tuple #[.slice A n c, .int .i64 er])))
theorem run_mkV (n : Nat) (h : n ≤ 1000) : ∃ Z : Array Value, ∀ W, (Instr.makeSlice vsT (.int .i64 (n : Int)) (.int .i64 (n : Int))).run Tryz.prog W = .ok (.slice (some ⟨W.heap.size, 0, none⟩) n n) (W.alloc (.cells Z vT)) := by
  obtain ⟨i0, hi, hz0, hz1, hz2⟩ := info_parts ty_V.info
  refine ⟨madeCells (Value.agg #[.int .i64 0, .bool false, .int .i64 0, .string ⟨#[]⟩, .slice none 0 0, .slice none 0 0]).cells (n * i0.size), fun W => ?_⟩
  have hr := run_makeSlice (P := Tryz.prog) (w := W) vsT vT i0 _ Tryz.underlying71 hi hz0 .i64 .i64 (n : Int) (n : Int) (by omega) (by omega) (by rw [hz1]; omega) (by rw [hz2]; omega) (by omega)
  rw [hr]
  simp only [Int.toNat_natCast]
set_option maxRecDepth 100000 in
set_option maxHeartbeats 8000000 in
theorem rreads_any (A : Option Addr) (c : Nat) (ss : List ByteArray) (w : World) (hc : ∀ i (hi : i < ss.length), ∃ g off, A = some ⟨g, off, none⟩ ∧ w.cell? ⟨g, off + i, none⟩ = some (.string ss[i])) (hl : ss.length ≤ 1000) :
    Calls Tryz.prog 50 #[.slice A ss.length c] w (RReads w (readsS ss)) := by
  obtain ⟨T, hT⟩ : ∃ T, T = readsS ss := ⟨_, rfl⟩
  have HT := Lib.hid hT
  rw [← hT]
  obtain ⟨Z, hmk⟩ := run_mkV ss.length hl
  obtain ⟨N, hN⟩ : ∃ N, N = ss.length := ⟨_, rfl⟩
  have HN := Lib.hid hN
  rw [← hN] at hmk ⊢
  have HC := Lib.hid hc
  have hNs : N ≤ 1000 := by omega
  have CR : Hid (∀ q (hq : q < ss.length) W, Calls Tryz.prog 29 #[.string ss[q]] W (RRead W (readS ss[q].data.toList))) := fun q hq W => rread_any ss[q] W
  have HMK := Lib.hid hmk
  clear hT hN hc hl hmk
  go_enter Tryz.func50, Tryz.ntmps50
  go_wp2_with fail
  go_loopw [4, 11] (fun o ix wr => ∃ (q : Nat) (acc : List J) (A' : Option Addr) (c' : Nat), q ≤ N ∧ ix = .int .i64 (q : Int) ∧ o = .slice A' q c' ∧ Hid (acc.length = q ∧ readsS (ss.take q) = .ok acc ∧ VRow w.heap.size wr (.slice A' q c') acc ∧ Ext w wr)) (fun _ ix _ => N - (intOf ix).toNat)
  case atStart => exact ⟨0, [], none, 0, Nat.zero_le _, rfl, rfl, rfl, rfl, VRow.nil _ _, Below.refl _ _⟩
  case round =>
    obtain ⟨q, acc, A', c', hq, rfl, rfl, hR⟩ := hrel
    have hq0 : (0 : Int) ≤ (q : Int) := by omega
    by_cases hlt : q < N
    · have hqs : q < ss.length := by rw [← HN.out]; exact hlt
      obtain ⟨ga, oa, rfl, hca0⟩ := HC.out q hqs
      have hca := (cell_keep (hR.out.2.2.2.block ga (cell_lt hca0))).trans hca0
      have CR1 := Lib.hid (CR.out q hqs wr)
      have HTK : Hid (ss.take (q + 1) = ss.take q ++ [ss[q]]) := List.take_succ_eq_append_getElem hqs
      have HSP : Hid (ss = ss.take q ++ ss[q] :: ss.drop (q + 1)) := by
        unfold Hid
        rw [← List.drop_eq_getElem_cons hqs, List.take_append_drop]
      generalize hx : ss[q] = x at *
      have hltI : (q : Int) < (N : Int) := by omega
      clear hca0 hx
      go_wp2_with fail
      refine Calls.mono CR1.out ?_
      rintro e w5 ⟨x5, K, B, n, sv, A1, n1, c1, A2, n2, c2, er, rfl, hres⟩
      have X5 := Lib.hid x5
      have HRES := Lib.hid hres
      unfold v6
      clear x5 hres
      go_upto_region 6 with (fail)
      obtain ⟨t7, ht7⟩ : ∃ t7, t7 = w5.heap.size := ⟨_, rfl⟩
      rw [← ht7]
      generalize hW : World.alloc w5 _ = w6
      have HX6 : Hid (Ext w5 w6) := by rw [← hW]; exact new_ext _ _
      have HU6 : Hid (VIn w6 t7 K B n sv (.slice A1 n1 c1) (.slice A2 n2 c2)) := by rw [← hW]; exact heap_new ht7
      clear hW ht7
      rcases Classical.em (er = 0) with her | her
      · subst her
        obtain ⟨j, hj, hrv⟩ : ∃ j, readS x.data.toList = .ok j ∧ RV (fun b => wr.heap.size ≤ b) w5 j (v6 K B n sv (.slice A1 n1 c1) (.slice A2 n2 c2)) := by
          rcases HRES.out with ⟨_, h⟩ | ⟨h1, _⟩
          · exact h
          · exact absurd rfl h1
        have HJ := Lib.hid hj
        have HRV := Lib.hid hrv
        obtain ⟨L, hL1, hL2, hL3⟩ := hR.out.2.2.1
        have HLL := Lib.hid (And.intro hL2 hL3)
        have HL1 := Lib.hid hL1
        have HROW := Lib.hid (hL1.ext (X5.out.trans HX6.out))
        have HQL : Hid (q = L.length ∧ q ≤ 1000) := ⟨by have := hR.out.1; omega, by omega⟩
        clear hj hrv hL1 hL2 hL3 HRES
        obtain ⟨a0, a1, a2, a3, a4, a5⟩ := HU6.out.cells
        go_upto_region 9 with (at_builtin; refine append_g ty_V rfl _ _ (by rfl) w.heap.size q 1 _ (.slice A' q c') (.slice (some ⟨w6.heap.size, 0, none⟩) 1 1) L [[.int .i64 K, .bool B, .int .i64 n, .string sv, .slice A1 n1 c1, .slice A2 n2 c2]] (by rfl) (by rfl) (HROW.out.ext (new_ext _ _)) (GSrc.one rfl (by simp [Value.oneCell']) (heap_new rfl)) HQL.out.1.symm rfl (by have := HQL.out.2; omega) (((hR.out.2.2.2.trans X5.out).trans HX6.out).trans (new_ext _ _)).size ?_; intro A9 c9 w9 h9 g9 o9; have H9 := Lib.hid (And.intro h9 (And.intro g9 o9)); clear h9 g9 o9)
        have HNEW : Hid ((acc ++ [j]).length = q + 1 ∧ readsS (ss.take (q + 1)) = .ok (acc ++ [j]) ∧ VRow w.heap.size w9 (.slice A9 (q + 1) c9) (acc ++ [j]) ∧ Ext w w9) := by
          obtain ⟨h9, g9, o9⟩ := H9.out
          have hx : Ext w5 (w6.alloc (.cells #[.int .i64 K, .bool B, .int .i64 n, .string sv, .slice A1 n1 c1, .slice A2 n2 c2] vT (0, 0))) := HX6.out.trans (new_ext _ _)
          have hb := HL1.out.block
          refine ⟨by rw [List.length_append, hR.out.1]; rfl, by rw [HTK.out]; exact reads_snoc _ _ _ _ hR.out.2.1 HJ.out, ?_, ?_⟩
          · refine VRow.snoc HLL.out.1 (fun p h1 h2 => RV.keep (fun b hb hlt => (X5.out.trans hx).block b hlt) (fun b hb _ => hb) _ _ (HLL.out.2 p h1 h2)) (RV.keep (fun b hb hlt => hx.block b hlt) (fun b hb1 _ => ⟨Nat.le_trans hR.out.2.2.2.size hb1, fun e => absurd (hb b e).2 (Nat.not_lt_of_le hb1)⟩) _ _ HRV.out) h9 g9 o9
          · exact ext_row ((hR.out.2.2.2.trans X5.out).trans hx) g9 (fun b e => (hb b e).1)
        clear a0 a1 a2 a3 a4 a5
        go_wp2_with fail
        go_roundw
        case rel => exact ⟨q + 1, acc ++ [j], A9, c9, hlt, by go_num, rfl, HNEW⟩
        case measure => simp [intOf]; omega
      · have HTE : Hid (T = .error er) := by
          have he : readS x.data.toList = .error er := by
            rcases HRES.out with ⟨h, _⟩ | ⟨_, h, _⟩
            · exact absurd h her
            · exact h
          unfold Hid
          rw [HT.out, HSP.out]
          exact reads_bad _ _ _ _ _ hR.out.2.1 he
        have HER := Lib.hid her
        have b1 : (er != 0) = true := by rw [bne_iff_ne]; exact her
        have hmk := HMK.out
        have XF : Hid (Ext w w6) := (hR.out.2.2.2.trans X5.out).trans HX6.out
        clear her HRES
        go_wp2_with fail
        go_ret2
        exact ⟨XF.out.trans (new_ext _ _), .inr ⟨er, _, _, _, HER.out, HTE.out, rfl⟩⟩
    · have bl : decide ((q : Int) < (N : Int)) = false := decide_eq_false (by omega)
      have bl2 : decide (q < N) = false := decide_eq_false hlt
      have HTE : Hid (T = .ok acc) := by
        have h := hR.out.2.1
        rw [List.take_of_length_le (by have := HN.out; omega)] at h
        unfold Hid
        rw [HT.out, h]
      clear hlt
      go_wp2_with fail
      go_ret2
      exact ⟨hR.out.2.2.2, .inl ⟨acc, A', c', HTE.out, by rw [hR.out.1]; rfl, VRow.vals (n := q) hR.out.2.2.1⟩⟩
end Go.Proofs.YtnccefeehkcneaaGreatDoor.Jm
