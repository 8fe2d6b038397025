/-
  The reference's reader: number (printed by gen/jq4.py).
-/
import Derived.Test.YtahinicpceokcaaGreatDoorJqa
import Derived.Test.YtahinicpceokcaaGreatDoorChr
namespace Go.Proofs.YtahinicpceokcaaGreatDoor.Jm
open Go Go.RowKit Go.Proofs.YtahinicpceokcaaGreatDoor.Sx Go.Proofs.YtahinicpceokcaaGreatDoor.Js Go.Proofs.YtahinicpceokcaaGreatDoor.Gr

def RNumPost (w : World) (k : Nat) (s : ByteArray) (i many : Nat) (e : Ending) (w' : World) : Prop :=
  ∃ j, w.grownBy w' (some k) ∧ QIn w' k s j many ∧ j ≤ s.size ∧ ((∃ n, numS (sfx s i) = .ok (n, sfx s j) ∧ I64 n ∧ e = .returned (.tuple #[.agg (v6 3 false n ⟨#[]⟩ nilS nilS).toArray, .int .i64 0])) ∨ (∃ er, numS (sfx s i) = .error er ∧ er ≠ 0 ∧ e = .returned (.tuple #[.agg noV.toArray, .int .i64 er])))
theorem ext_size {a : ByteArray} {x : ByteArray} : (a ++ x).size = a.size + x.size := ByteArray.size_append
theorem piece_one {s : ByteArray} {j : Nat} {c : UInt8} (h : sfx s j = c :: sfx s (j + 1)) : s.extract j (j + 1) = sgn c := by
  have h1 := extract_piece s j (j + 1)
  rw [h, show j + 1 - j = 1 by omega] at h1
  rw [← of_bx (s.extract j (j + 1)), h1]
  rfl

set_option maxRecDepth 100000 in
set_option maxHeartbeats 8000000 in
theorem rnumber_any (k : Nat) (s : ByteArray) (i many : Nat) (w : World) (h : QIn w k s i many) (hs : s.size ≤ 2000) (hi : i < s.size) :
    Calls Tryz.prog 74 #[.pointer (some ⟨k, 0, none⟩)] w (RNumPost w k s i many) := by
  have H := Lib.hid h
  clear h
  have hby := run_byte s i hi
  obtain ⟨c, hcc⟩ : ∃ c, c = byteAt s i := ⟨_, rfl⟩
  have HSX : Hid (sfx s i = c :: sfx s (i + 1)) := by rw [hcc]; exact sfx_cons hi
  rw [← hcc] at hby
  have hltI : (i : Int) < (s.size : Int) := by omega
  have hi0 : (0 : Int) ≤ (i : Int) := by omega
  clear hcc
  obtain ⟨g, hg⟩ : ∃ g, g = w.heap.size := ⟨_, rfl⟩
  obtain ⟨w1, hw1⟩ : ∃ w1, w1 = w.alloc (.cells #[.int .i64 0, .bool false, .int .i64 0, .string ⟨#[]⟩, nilS, nilS] vT (0, 0)) := ⟨_, rfl⟩
  have HX1 : Hid (Ext w w1) := by rw [hw1]; exact new_ext _ _
  have HR1 : Hid (VIn w1 g 0 false 0 ⟨#[]⟩ nilS nilS) := by rw [hw1]; exact heap_new hg
  have HGW : Hid (w.heap.size ≤ g) := by rw [hg]; exact Nat.le_refl _
  have H1 := Lib.hid (H.out.ext HX1.out)
  have HC : Hid (∀ W j, w1.grownBy W (some k) → QIn W k s j many → VIn W g 0 false 0 ⟨#[]⟩ nilS nilS ∧ ∀ K B n t a l, VIn (putV W g K B n t a l) g K B n t a l ∧ w.grownBy (putV W g K B n t a l) (some k) ∧ QIn (putV W g K B n t a l) k s j many) := fun W j hW hQ => by
    have hkg : k ≠ g := by have h1 := H.out.lt; have h2 := HGW.out; omega
    have hv := HR1.out.kept hW (fun e => hkg (by injection e))
    exact ⟨hv, fun K B n t a l => ⟨put_in K B n t a l hv, put_grown K B n t a l (grown_trans (grown_ext HX1.out) hW) HGW.out, (put_heap W K B n t a l k hkg).trans hQ⟩⟩
  obtain ⟨z0, z1, _⟩ := H1.out.cells
  have f1 := H1.out.free 1
  by_cases h45 : c = 45
  · have b45 : ((c.toNat : Int) == 45) = true := by rw [h45]; rfl
    have HNV : Hid (numS (sfx s i) = numD true (sfx s (i + 1))) := by
      unfold Hid
      rw [HSX.out, h45]; rfl
    clear h45
    go_enter Tryz.func74, Tryz.ntmps74
    go_wp2_with fail
    rw [← hw1, ← hg]
    clear hw1 hg
    go_quiet (fail)
    go_upto_region 4 with (fail)
    generalize hW : World.setCell _ _ _ = w2
    have HQ : Hid (QIn w2 k s (i + 1) many ∧ w1.grownBy w2 (some k)) := by
      rw [← hW]
      exact ⟨QIn.setAt (w := World.drewN w1 _) (H1.out.ext (ext_drewN' _ _)) (i + 1) _ (by omega), grown_trans (grown_ext (ext_drewN' w1 _)) (grown_set _ k 1 _)⟩
    clear hW
    obtain ⟨f, hf⟩ : ∃ f, f = (i + 1) := ⟨_, rfl⟩
    have HNU : Hid (numS (sfx s i) = numD true (sfx s f)) := by rw [hf]; exact HNV.out
    have HQF : Hid (QIn w2 k s f many ∧ w1.grownBy w2 (some k)) := by rw [hf]; exact HQ.out
    have hfs : f ≤ s.size := by omega
    clear hf z0 z1 f1 hby hltI hi0 b45 H1 HNV HQ
    go_upto_block 0 with fail
    go_cut [4, 5] (fun b o wx => b = .bool true ∧ ∃ (a : ByteArray) (j : Nat), f ≤ j ∧ j ≤ s.size ∧ a.size = j - f ∧ o = .string a ∧ Hid (QIn wx k s j many ∧ digs (sfx s f) = a.data.toList ∧ offD (sfx s f) = sfx s j ∧ w1.grownBy wx (some k)))
    case first =>
      go_wp2_with fail
      go_loopw [5] (fun o wr => ∃ (a : ByteArray) (j : Nat), f ≤ j ∧ j ≤ s.size ∧ a.size = j - f ∧ o = .string a ∧ Hid (QIn wr k s j many ∧ digs (sfx s f) = a.data.toList ++ digs (sfx s j) ∧ offD (sfx s f) = offD (sfx s j) ∧ w1.grownBy wr (some k))) (fun _ wr => s.size - atOf wr k)
      case atStart => exact ⟨⟨#[]⟩, f, Nat.le_refl _, hfs, by rw [Nat.sub_self]; rfl, rfl, HQF.out.1, rfl, rfl, HQF.out.2⟩
      case round =>
        obtain ⟨a, j, hfj, hjs, haj, rfl, hR⟩ := hrel
        obtain ⟨z0, z1, _⟩ := hR.out.1.cells
        have f1 := hR.out.1.free 1
        by_cases hlt : j < s.size
        · have hby := run_byte s j hlt
          have hpc := run_piece s j (j + 1) (by omega) hlt
          obtain ⟨d, hdd⟩ : ∃ d, d = byteAt s j := ⟨_, rfl⟩
          have HSJ : Hid (sfx s j = d :: sfx s (j + 1)) := by rw [hdd]; exact sfx_cons hlt
          rw [← hdd] at hby
          rw [piece_one HSJ.out, show ((j + 1 : Nat) : Int) = (j : Int) + 1 by omega] at hpc
          have hltI : (j : Int) < (s.size : Int) := by omega
          have hj0 : (0 : Int) ≤ (j : Int) := by omega
          have hjI : (j : Int) ≤ 2000 := by omega
          have hwr : IntKind.i64.wrap ((j : Int) + 1) = (j : Int) + 1 := IntWalk.i64_in _ (by omega)
          have hsum : (9223372036854775807 < a.size + (sgn d).size) = False := eq_false (by rw [show (sgn d).size = 1 from rfl]; omega)
          have HAJ := Lib.hid haj
          clear hdd haj
          cases hd : isDg d with
          | true =>
            obtain ⟨d1, d2⟩ := dg_nat hd
            have b48 : decide ((48 : Int) ≤ (d.toNat : Int)) = true := decide_eq_true (by omega)
            have b57 : decide ((d.toNat : Int) ≤ 57) = true := decide_eq_true (by omega)
            have HN : Hid (digs (sfx s f) = (a ++ sgn d).data.toList ++ digs (sfx s (j + 1)) ∧ offD (sfx s f) = offD (sfx s (j + 1))) := by
              refine ⟨?_, ?_⟩
              · rw [hR.out.2.1, HSJ.out]
                unfold digs
                rw [List.takeWhile_cons, if_pos hd]
                simp [sgn]
              · rw [hR.out.2.2.1, HSJ.out]
                unfold offD
                rw [List.dropWhile_cons, if_pos hd]
            clear hd d1 d2
            go_wp2_with fail
            go_quiet (fail)
            go_wp2_with fail
            generalize hW : World.drewN _ _ = w4
            have HQ4 : Hid (QIn w4 k s j many ∧ w1.grownBy w4 (some k)) := by rw [← hW]; exact ⟨hR.out.1.ext (ext_drewN' _ _), grown_trans hR.out.2.2.2 (grown_ext (ext_drewN' _ _))⟩
            clear hW z0 z1 f1
            obtain ⟨z0, z1, _⟩ := HQ4.out.1.cells
            have f1 := HQ4.out.1.free 1
            go_region_held3 (fun w' => w'.cell? ⟨k, 0, none⟩ = some (.string s) ∧ w'.cell? ⟨k, 1, none⟩ = some (.int .i64 (j : Int)))
              (first | exact ⟨by assumption, by assumption⟩ | go_keep)
              (fail)
            go_wp2_with fail
            have HQ5 : Hid (QIn (w4.setCell ⟨k, 1, none⟩ (.int .i64 ((j : Int) + 1))).drew k s (j + 1) many) := QIn.ext (HQ4.out.1.setAt (j + 1) _ (by omega)) (Below.refl _ _).drew
            have HG5 : Hid (w1.grownBy (w4.setCell ⟨k, 1, none⟩ (.int .i64 ((j : Int) + 1))).drew (some k)) := grown_trans HQ4.out.2 (grown_trans (grown_set _ k 1 _) (grown_ext (Below.refl _ _).drew))
            go_roundw
            case rel => exact ⟨a ++ sgn d, j + 1, by omega, hlt, by rw [ext_size, show (sgn d).size = 1 from rfl, HAJ.out]; omega, rfl, HQ5.out, HN.out.1, HN.out.2, HG5.out⟩
            case measure => rw [hR.out.1.atOf, HQ5.out.atOf]; omega
          | false =>
            have HN : Hid (digs (sfx s f) = a.data.toList ∧ offD (sfx s f) = sfx s j) := by
              refine ⟨?_, ?_⟩
              · rw [hR.out.2.1, HSJ.out]
                unfold digs
                rw [List.takeWhile_cons, if_neg (by rw [hd]; simp), List.append_nil]
              · rw [hR.out.2.2.1, HSJ.out]
                unfold offD
                rw [List.dropWhile_cons, if_neg (by rw [hd]; simp)]
            rcases dg_not hd with h1 | h1
            · have b48 : decide ((48 : Int) ≤ (d.toNat : Int)) = false := decide_eq_false (by omega)
              clear hd h1
              go_wp2_with fail
              go_quiet (fail)
              go_wp2_with fail
              go_meet
              exact ⟨rfl, a, j, hfj, hjs, HAJ.out, rfl, hR.out.1.ext (ext_drewN' _ _), HN.out.1, HN.out.2, grown_trans hR.out.2.2.2 (grown_ext (ext_drewN' _ _))⟩
            · have b48 : decide ((48 : Int) ≤ (d.toNat : Int)) = true := decide_eq_true (by omega)
              have b57 : decide ((d.toNat : Int) ≤ 57) = false := decide_eq_false (by omega)
              clear hd h1
              go_wp2_with fail
              go_quiet (fail)
              go_wp2_with fail
              go_meet
              exact ⟨rfl, a, j, hfj, hjs, HAJ.out, rfl, hR.out.1.ext (ext_drewN' _ _), HN.out.1, HN.out.2, grown_trans hR.out.2.2.2 (grown_ext (ext_drewN' _ _))⟩
        · have HN : Hid (digs (sfx s f) = a.data.toList ∧ offD (sfx s f) = sfx s j) := by
            have e : sfx s j = [] := sfx_end (by omega)
            refine ⟨?_, ?_⟩
            · rw [hR.out.2.1, e]; simp [digs]
            · rw [hR.out.2.2.1, e]; simp [offD]
          have bl : decide ((j : Int) < (s.size : Int)) = false := decide_eq_false (by omega)
          have bl2 : decide (j < s.size) = false := decide_eq_false hlt
          have HAJ := Lib.hid haj
          clear hlt haj
          go_wp2_with fail
          go_quiet (fail)
          go_wp2_with fail
          go_meet
          exact ⟨rfl, a, j, hfj, hjs, HAJ.out, rfl, hR.out.1.ext (ext_drewN' _ _), HN.out.1, HN.out.2, grown_trans hR.out.2.2.2 (grown_ext (ext_drewN' _ _))⟩
    case rest =>
      obtain ⟨rfl, a, j, hfj, hjs, haj, rfl, hR⟩ := hcut
      have HC2 := Lib.hid ((HC.out wc j hR.out.2.2.2 hR.out.1).2)
      have HV := Lib.hid (HC.out wc j hR.out.2.2.2 hR.out.1).1
      obtain ⟨d0, d1, d2, d3, d4, d5⟩ := HV.out.cells
      have e0 := HV.out.free 0
      have e1 := HV.out.free 1
      have e2 := HV.out.free 2
      have e3 := HV.out.free 3
      have e4 := HV.out.free 4
      have e5 := HV.out.free 5
      have HAJ := Lib.hid haj
      have HD : Hid ((digs (sfx s f)).length = a.size ∧ numS (sfx s i) = numD true (sfx s f)) := ⟨by rw [hR.out.2.1]; exact size_list a, HNU.out⟩
      clear haj
      by_cases h0 : a.size = 0
      · have ha : a = ⟨#[]⟩ := by
          rw [← of_bx a, List.length_eq_zero_iff.1 (show a.data.toList.length = 0 by rw [size_list]; exact h0)]
          rfl
        have HE : Hid (numS (sfx s i) = .error 3) := by
          unfold Hid
          rw [HD.out.2]
          unfold numD
          rw [if_pos (.inl (List.length_eq_zero_iff.1 (by rw [HD.out.1, h0])))]
        clear h0
        subst ha
        go_wp2_with fail
        refine bodyPost_ret (results_v rfl _ _ g rfl (HC2.out 0 false 0 ⟨#[]⟩ nilS nilS).1) rfl ?_
        exact ⟨j, (HC2.out _ _ _ _ _ _).2.1, (HC2.out _ _ _ _ _ _).2.2, hjs, .inr ⟨3, HE.out, by decide, rfl⟩⟩
      · have hby := run_byte a 0 (by omega)
        obtain ⟨x, hx⟩ : ∃ x, x = byteAt a 0 := ⟨_, rfl⟩
        have HSA : Hid (a.data.toList = x :: sfx a 1) := by rw [hx]; exact sfx_cons (s := a) (i := 0) (by omega)
        rw [← hx] at hby
        rw [show ((0 : Nat) : Int) = 0 from rfl] at hby
        have HA0 : Hid (¬ a.size = 0) := h0
        have hem : a.toList.isEmpty = false := by rw [ByteArray.toList_eq, HSA.out]; rfl
        clear hx h0
        by_cases hx48 : x = 48
        · have b48 : ((x.toNat : Int) == 48) = true := by rw [hx48]; rfl
          by_cases hone : a.toList = [48]
          · have hone1 : (a.toList == [48]) = true := by rw [hone]; rfl
            have hA1 : a.size = 1 := by rw [← size_list a, ← ByteArray.toList_eq, hone]; rfl
            have HE : Hid (numS (sfx s i) = .error 3) := by
              unfold Hid
              rw [HD.out.2]
              unfold numD
              exact if_pos (.inr ⟨by rw [hR.out.2.1, HSA.out, hx48]; rfl, .inr rfl⟩)
            clear hx48 hone hA1
            go_wp2_with fail
            refine bodyPost_ret (results_v rfl _ _ g rfl (HC2.out 0 false 0 ⟨#[]⟩ nilS nilS).1) rfl ?_
            exact ⟨j, (HC2.out _ _ _ _ _ _).2.1, (HC2.out _ _ _ _ _ _).2.2, hjs, .inr ⟨3, HE.out, by decide, rfl⟩⟩
          · have hone1 : (a.toList == [48]) = false := by rw [beq_eq_false_iff_ne]; exact hone
            have HE : Hid (numS (sfx s i) = .error 3) := by
              unfold Hid
              rw [HD.out.2]
              unfold numD
              refine if_pos (.inr ⟨by rw [hR.out.2.1, HSA.out, hx48]; rfl, .inl ?_⟩)
              rw [HD.out.1]
              have h1 := size_list a
              have h2 := HA0.out
              have h3 : a.size ≠ 1 := fun e => by
                rw [HSA.out, List.length_cons] at h1
                have h4 : sfx a 1 = [] := List.length_eq_zero_iff.1 (by omega)
                apply hone
                rw [ByteArray.toList_eq, HSA.out, h4, hx48]
              omega
            clear hx48 hone
            go_wp2_with fail
            refine bodyPost_ret (results_v rfl _ _ g rfl (HC2.out 0 false 0 ⟨#[]⟩ nilS nilS).1) rfl ?_
            exact ⟨j, (HC2.out _ _ _ _ _ _).2.1, (HC2.out _ _ _ _ _ _).2.2, hjs, .inr ⟨3, HE.out, by decide, rfl⟩⟩
        · have b48 : ((x.toNat : Int) == 48) = false := by rw [show (48 : Int) = ((48 : Nat) : Int) from rfl, byte_lit x 48 (by omega)]; simp [hx48]
          have hone1 : (a.toList == [48]) = false := by
            rw [beq_eq_false_iff_ne, ByteArray.toList_eq, HSA.out]
            intro e
            injection e with e _
            exact hx48 e
          have HNZ : Hid (¬ (digs (sfx s f) = [] ∨ (digs (sfx s f)).head? = some 48 ∧ (1 < (digs (sfx s f)).length ∨ true = true))) := by
            rintro (e | e)
            · have h2 := HA0.out
              have h3 := HD.out.1
              rw [e] at h3
              exact h2 h3.symm
            · have h3 := e.1
              rw [hR.out.2.1, HSA.out] at h3
              injection h3 with h3
              exact hx48 h3
          clear hx48
          by_cases h18 : 18 < a.size
          · have t18 : decide ((18 : Int) < (a.size : Int)) = true := decide_eq_true (by omega)
            have HE : Hid (numS (sfx s i) = .error 2) := by
              unfold Hid
              rw [HD.out.2]
              unfold numD
              rw [if_neg HNZ.out, if_pos (by rw [HD.out.1]; exact h18)]
            clear h18
            go_wp2_with fail
            refine bodyPost_ret (results_v rfl _ _ g rfl (HC2.out 0 false 0 ⟨#[]⟩ nilS nilS).1) rfl ?_
            exact ⟨j, (HC2.out _ _ _ _ _ _).2.1, (HC2.out _ _ _ _ _ _).2.2, hjs, .inr ⟨2, HE.out, by decide, rfl⟩⟩
          · have t18 : decide ((18 : Int) < (a.size : Int)) = false := decide_eq_false (by omega)
            have HE : Hid (numS (sfx s i) = .ok ((if true then -(valR 0 (digs (sfx s f)) : Int) else (valR 0 (digs (sfx s f)) : Int)), sfx s j)) := by
              unfold Hid
              rw [HD.out.2]
              unfold numD
              rw [if_neg HNZ.out, if_neg (by rw [HD.out.1]; exact h18), hR.out.2.2.1]
            have HS18 : Hid (a.size ≤ 18) := by unfold Hid; omega
            clear h18
            go_wp2_with fail
            have HDG : Hid (∀ q, ∀ c ∈ sfx a q, isDg c = true) := fun q c hc => digs_all (sfx s f) c (by rw [hR.out.2.1]; exact List.mem_of_mem_drop hc)
            clear b48 hone1 hem t18 d0 d1 d2 d3 d4 d5 e0 e1 e2 e3 e4 e5 hby
            have HM : Hid (10 ^ 0 = 1) := rfl
            go_loopw [6, 108] (fun n q wr => ∃ (m qn : Nat), qn ≤ a.size ∧ n = .int .i64 (m : Int) ∧ q = .int .i64 (qn : Int) ∧ wr = wc ∧ Hid (m < 10 ^ qn ∧ valR 0 a.data.toList = valR m (sfx a qn))) (fun _ q _ => a.size - (intOf q).toNat)
            case atStart => exact ⟨0, 0, Nat.zero_le _, by first | rfl | trivial, by first | rfl | trivial, by first | rfl | trivial, by decide, rfl⟩
            case round =>
              obtain ⟨m, q, hq, rfl, rfl, rfl, hQ⟩ := hrel
              have hq0 : (0 : Int) ≤ (q : Int) := by omega
              have hm0 : (0 : Int) ≤ (m : Int) := by omega
              have HM2 : Hid (m < 1000000000000000000) := by
                have h1 := hQ.out.1
                have h2 : 10 ^ q ≤ 10 ^ 18 := Nat.pow_le_pow_right (by omega) (by have := HS18.out; omega)
                unfold Hid
                omega
              by_cases hlt : q < a.size
              · have hby := run_byte a q hlt
                obtain ⟨y, hy⟩ : ∃ y, y = byteAt a q := ⟨_, rfl⟩
                have HSY : Hid (sfx a q = y :: sfx a (q + 1)) := by rw [hy]; exact sfx_cons hlt
                rw [← hy] at hby
                have hltI : (q : Int) < (a.size : Int) := by omega
                obtain ⟨y1, y2⟩ := dg_nat (HDG.out q y (by rw [HSY.out]; exact List.mem_cons_self ..))
                have hqI : (q : Int) < 18 := by have := HS18.out; omega
                have hmI : (m : Int) < 100000000000000000 := by
                  have h1 := hQ.out.1
                  have h2 : 10 ^ q ≤ 10 ^ 17 := Nat.pow_le_pow_right (by omega) (by omega)
                  omega
                have w1 : IntKind.u8.wrap ((y.toNat : Int) - 48) = (y.toNat : Int) - 48 := IntWalk.u8_in _ (by omega)
                have w2 : IntKind.i64.wrap ((y.toNat : Int) - 48) = (y.toNat : Int) - 48 := IntWalk.i64_in _ (by omega)
                have w3 : IntKind.i64.wrap (10 * (m : Int)) = 10 * (m : Int) := IntWalk.i64_in _ (by omega)
                have w4 : IntKind.i64.wrap (10 * (m : Int) + ((y.toNat : Int) - 48)) = 10 * (m : Int) + ((y.toNat : Int) - 48) := IntWalk.i64_in _ (by omega)
                have HY := Lib.hid (And.intro y1 y2)
                clear hy y1 y2
                go_wp2_with fail
                go_roundw
                case rel =>
                  refine ⟨10 * m + (y.toNat - 48), q + 1, hlt, ?_, ?_, by first | rfl | trivial, ?_, ?_⟩
                  · congr 1; have := HY.out; omega
                  · congr 1
                  · rw [Nat.pow_succ]; have h1 := hQ.out.1; have := HY.out; omega
                  · rw [hQ.out.2, HSY.out]; rfl
                case measure => simp [intOf]; omega
              · have bl : decide ((q : Int) < (a.size : Int)) = false := decide_eq_false (by omega)
                have bl2 : decide (q < a.size) = false := decide_eq_false hlt
                have HVL : Hid (valR 0 (digs (sfx s f)) = m) := by
                  unfold Hid
                  rw [hR.out.2.1, hQ.out.2, sfx_end (s := a) (i := q) (by omega)]
                  rfl
                have hneg : IntKind.i64.wrap (-(m : Int)) = -(m : Int) := IntWalk.i64_in _ (by have := HM2.out; omega)
                obtain ⟨d0, d1, d2, d3, d4, d5⟩ := HV.out.cells
                have e0 := HV.out.free 0
                have e1 := HV.out.free 1
                have e2 := HV.out.free 2
                have e3 := HV.out.free 3
                have e4 := HV.out.free 4
                have e5 := HV.out.free 5
                clear hlt
                go_wp2_with fail
                refine bodyPost_ret (results_v rfl _ _ g rfl (HC2.out 3 false (-(m : Int)) ⟨#[]⟩ nilS nilS).1) rfl ?_
                exact ⟨j, (HC2.out _ _ _ _ _ _).2.1, (HC2.out _ _ _ _ _ _).2.2, hjs, .inl ⟨_, by rw [HE.out, HVL.out]; rfl, by unfold I64; have := HM2.out; omega, rfl⟩⟩


  · have b45 : ((c.toNat : Int) == 45) = false := by rw [show (45 : Int) = ((45 : Nat) : Int) from rfl, byte_lit c 45 (by omega)]; simp [h45]
    have HNV : Hid (numS (sfx s i) = numD false (sfx s i)) := by
      unfold Hid
      exact numS_plus (fun r e => by rw [HSX.out] at e; injection e with e _; exact h45 e)
    clear h45
    go_enter Tryz.func74, Tryz.ntmps74
    go_wp2_with fail
    rw [← hw1, ← hg]
    clear hw1 hg
    go_quiet (fail)
    generalize hW : World.drewN w1 _ = w2
    have HQ : Hid (QIn w2 k s i many ∧ w1.grownBy w2 (some k)) := by
      rw [← hW]
      exact ⟨H1.out.ext (ext_drewN' _ _), grown_ext (ext_drewN' w1 _)⟩
    go_upto_region 4 with (fail)
    clear hW
    obtain ⟨f, hf⟩ : ∃ f, f = i := ⟨_, rfl⟩
    have HNU : Hid (numS (sfx s i) = numD false (sfx s f)) := by rw [hf]; exact HNV.out
    have HQF : Hid (QIn w2 k s f many ∧ w1.grownBy w2 (some k)) := by rw [hf]; exact HQ.out
    have hfs : f ≤ s.size := by omega
    clear hf z0 z1 f1 hby hltI hi0 b45 H1 HNV HQ
    go_upto_block 0 with fail
    go_cut [4, 5] (fun b o wx => b = .bool false ∧ ∃ (a : ByteArray) (j : Nat), f ≤ j ∧ j ≤ s.size ∧ a.size = j - f ∧ o = .string a ∧ Hid (QIn wx k s j many ∧ digs (sfx s f) = a.data.toList ∧ offD (sfx s f) = sfx s j ∧ w1.grownBy wx (some k)))
    case first =>
      go_wp2_with fail
      go_loopw [5] (fun o wr => ∃ (a : ByteArray) (j : Nat), f ≤ j ∧ j ≤ s.size ∧ a.size = j - f ∧ o = .string a ∧ Hid (QIn wr k s j many ∧ digs (sfx s f) = a.data.toList ++ digs (sfx s j) ∧ offD (sfx s f) = offD (sfx s j) ∧ w1.grownBy wr (some k))) (fun _ wr => s.size - atOf wr k)
      case atStart => exact ⟨⟨#[]⟩, f, Nat.le_refl _, hfs, by rw [Nat.sub_self]; rfl, rfl, HQF.out.1, rfl, rfl, HQF.out.2⟩
      case round =>
        obtain ⟨a, j, hfj, hjs, haj, rfl, hR⟩ := hrel
        obtain ⟨z0, z1, _⟩ := hR.out.1.cells
        have f1 := hR.out.1.free 1
        by_cases hlt : j < s.size
        · have hby := run_byte s j hlt
          have hpc := run_piece s j (j + 1) (by omega) hlt
          obtain ⟨d, hdd⟩ : ∃ d, d = byteAt s j := ⟨_, rfl⟩
          have HSJ : Hid (sfx s j = d :: sfx s (j + 1)) := by rw [hdd]; exact sfx_cons hlt
          rw [← hdd] at hby
          rw [piece_one HSJ.out, show ((j + 1 : Nat) : Int) = (j : Int) + 1 by omega] at hpc
          have hltI : (j : Int) < (s.size : Int) := by omega
          have hj0 : (0 : Int) ≤ (j : Int) := by omega
          have hjI : (j : Int) ≤ 2000 := by omega
          have hwr : IntKind.i64.wrap ((j : Int) + 1) = (j : Int) + 1 := IntWalk.i64_in _ (by omega)
          have hsum : (9223372036854775807 < a.size + (sgn d).size) = False := eq_false (by rw [show (sgn d).size = 1 from rfl]; omega)
          have HAJ := Lib.hid haj
          clear hdd haj
          cases hd : isDg d with
          | true =>
            obtain ⟨d1, d2⟩ := dg_nat hd
            have b48 : decide ((48 : Int) ≤ (d.toNat : Int)) = true := decide_eq_true (by omega)
            have b57 : decide ((d.toNat : Int) ≤ 57) = true := decide_eq_true (by omega)
            have HN : Hid (digs (sfx s f) = (a ++ sgn d).data.toList ++ digs (sfx s (j + 1)) ∧ offD (sfx s f) = offD (sfx s (j + 1))) := by
              refine ⟨?_, ?_⟩
              · rw [hR.out.2.1, HSJ.out]
                unfold digs
                rw [List.takeWhile_cons, if_pos hd]
                simp [sgn]
              · rw [hR.out.2.2.1, HSJ.out]
                unfold offD
                rw [List.dropWhile_cons, if_pos hd]
            clear hd d1 d2
            go_wp2_with fail
            go_quiet (fail)
            go_wp2_with fail
            generalize hW : World.drewN _ _ = w4
            have HQ4 : Hid (QIn w4 k s j many ∧ w1.grownBy w4 (some k)) := by rw [← hW]; exact ⟨hR.out.1.ext (ext_drewN' _ _), grown_trans hR.out.2.2.2 (grown_ext (ext_drewN' _ _))⟩
            clear hW z0 z1 f1
            obtain ⟨z0, z1, _⟩ := HQ4.out.1.cells
            have f1 := HQ4.out.1.free 1
            go_region_held3 (fun w' => w'.cell? ⟨k, 0, none⟩ = some (.string s) ∧ w'.cell? ⟨k, 1, none⟩ = some (.int .i64 (j : Int)))
              (first | exact ⟨by assumption, by assumption⟩ | go_keep)
              (fail)
            go_wp2_with fail
            have HQ5 : Hid (QIn (w4.setCell ⟨k, 1, none⟩ (.int .i64 ((j : Int) + 1))).drew k s (j + 1) many) := QIn.ext (HQ4.out.1.setAt (j + 1) _ (by omega)) (Below.refl _ _).drew
            have HG5 : Hid (w1.grownBy (w4.setCell ⟨k, 1, none⟩ (.int .i64 ((j : Int) + 1))).drew (some k)) := grown_trans HQ4.out.2 (grown_trans (grown_set _ k 1 _) (grown_ext (Below.refl _ _).drew))
            go_roundw
            case rel => exact ⟨a ++ sgn d, j + 1, by omega, hlt, by rw [ext_size, show (sgn d).size = 1 from rfl, HAJ.out]; omega, rfl, HQ5.out, HN.out.1, HN.out.2, HG5.out⟩
            case measure => rw [hR.out.1.atOf, HQ5.out.atOf]; omega
          | false =>
            have HN : Hid (digs (sfx s f) = a.data.toList ∧ offD (sfx s f) = sfx s j) := by
              refine ⟨?_, ?_⟩
              · rw [hR.out.2.1, HSJ.out]
                unfold digs
                rw [List.takeWhile_cons, if_neg (by rw [hd]; simp), List.append_nil]
              · rw [hR.out.2.2.1, HSJ.out]
                unfold offD
                rw [List.dropWhile_cons, if_neg (by rw [hd]; simp)]
            rcases dg_not hd with h1 | h1
            · have b48 : decide ((48 : Int) ≤ (d.toNat : Int)) = false := decide_eq_false (by omega)
              clear hd h1
              go_wp2_with fail
              go_quiet (fail)
              go_wp2_with fail
              go_meet
              exact ⟨rfl, a, j, hfj, hjs, HAJ.out, rfl, hR.out.1.ext (ext_drewN' _ _), HN.out.1, HN.out.2, grown_trans hR.out.2.2.2 (grown_ext (ext_drewN' _ _))⟩
            · have b48 : decide ((48 : Int) ≤ (d.toNat : Int)) = true := decide_eq_true (by omega)
              have b57 : decide ((d.toNat : Int) ≤ 57) = false := decide_eq_false (by omega)
              clear hd h1
              go_wp2_with fail
              go_quiet (fail)
              go_wp2_with fail
              go_meet
              exact ⟨rfl, a, j, hfj, hjs, HAJ.out, rfl, hR.out.1.ext (ext_drewN' _ _), HN.out.1, HN.out.2, grown_trans hR.out.2.2.2 (grown_ext (ext_drewN' _ _))⟩
        · have HN : Hid (digs (sfx s f) = a.data.toList ∧ offD (sfx s f) = sfx s j) := by
            have e : sfx s j = [] := sfx_end (by omega)
            refine ⟨?_, ?_⟩
            · rw [hR.out.2.1, e]; simp [digs]
            · rw [hR.out.2.2.1, e]; simp [offD]
          have bl : decide ((j : Int) < (s.size : Int)) = false := decide_eq_false (by omega)
          have bl2 : decide (j < s.size) = false := decide_eq_false hlt
          have HAJ := Lib.hid haj
          clear hlt haj
          go_wp2_with fail
          go_quiet (fail)
          go_wp2_with fail
          go_meet
          exact ⟨rfl, a, j, hfj, hjs, HAJ.out, rfl, hR.out.1.ext (ext_drewN' _ _), HN.out.1, HN.out.2, grown_trans hR.out.2.2.2 (grown_ext (ext_drewN' _ _))⟩
    case rest =>
      obtain ⟨rfl, a, j, hfj, hjs, haj, rfl, hR⟩ := hcut
      have HC2 := Lib.hid ((HC.out wc j hR.out.2.2.2 hR.out.1).2)
      have HV := Lib.hid (HC.out wc j hR.out.2.2.2 hR.out.1).1
      obtain ⟨d0, d1, d2, d3, d4, d5⟩ := HV.out.cells
      have e0 := HV.out.free 0
      have e1 := HV.out.free 1
      have e2 := HV.out.free 2
      have e3 := HV.out.free 3
      have e4 := HV.out.free 4
      have e5 := HV.out.free 5
      have HAJ := Lib.hid haj
      have HD : Hid ((digs (sfx s f)).length = a.size ∧ numS (sfx s i) = numD false (sfx s f)) := ⟨by rw [hR.out.2.1]; exact size_list a, HNU.out⟩
      clear haj
      by_cases h0 : a.size = 0
      · have ha : a = ⟨#[]⟩ := by
          rw [← of_bx a, List.length_eq_zero_iff.1 (show a.data.toList.length = 0 by rw [size_list]; exact h0)]
          rfl
        have HE : Hid (numS (sfx s i) = .error 3) := by
          unfold Hid
          rw [HD.out.2]
          unfold numD
          rw [if_pos (.inl (List.length_eq_zero_iff.1 (by rw [HD.out.1, h0])))]
        clear h0
        subst ha
        go_wp2_with fail
        refine bodyPost_ret (results_v rfl _ _ g rfl (HC2.out 0 false 0 ⟨#[]⟩ nilS nilS).1) rfl ?_
        exact ⟨j, (HC2.out _ _ _ _ _ _).2.1, (HC2.out _ _ _ _ _ _).2.2, hjs, .inr ⟨3, HE.out, by decide, rfl⟩⟩
      · have hby := run_byte a 0 (by omega)
        obtain ⟨x, hx⟩ : ∃ x, x = byteAt a 0 := ⟨_, rfl⟩
        have HSA : Hid (a.data.toList = x :: sfx a 1) := by rw [hx]; exact sfx_cons (s := a) (i := 0) (by omega)
        rw [← hx] at hby
        rw [show ((0 : Nat) : Int) = 0 from rfl] at hby
        have HA0 : Hid (¬ a.size = 0) := h0
        have hem : a.toList.isEmpty = false := by rw [ByteArray.toList_eq, HSA.out]; rfl
        clear hx h0
        by_cases hx48 : x = 48
        · have b48 : ((x.toNat : Int) == 48) = true := by rw [hx48]; rfl
          by_cases hone : a.toList = [48]
          · have hone1 : (a.toList == [48]) = true := by rw [hone]; rfl
            have hA1 : a.size = 1 := by rw [← size_list a, ← ByteArray.toList_eq, hone]; rfl
            have t18 : decide ((18 : Int) < (a.size : Int)) = false := decide_eq_false (by omega)
            have HE : Hid (numS (sfx s i) = .ok ((if false then -(valR 0 (digs (sfx s f)) : Int) else (valR 0 (digs (sfx s f)) : Int)), sfx s j)) := by
              unfold Hid
              rw [HD.out.2]
              unfold numD
              rw [if_neg ?_, if_neg (by rw [HD.out.1]; omega), hR.out.2.2.1]
              rintro (e | e)
              · rw [hR.out.2.1, HSA.out] at e; cases e
              · rcases e.2 with e | e
                · rw [HD.out.1] at e; omega
                · cases e
            have HS18 : Hid (a.size ≤ 18) := by unfold Hid; omega
            clear hx48 hone hA1
            go_wp2_with fail
            have HDG : Hid (∀ q, ∀ c ∈ sfx a q, isDg c = true) := fun q c hc => digs_all (sfx s f) c (by rw [hR.out.2.1]; exact List.mem_of_mem_drop hc)
            clear b48 hone1 hem t18 d0 d1 d2 d3 d4 d5 e0 e1 e2 e3 e4 e5 hby
            have HM : Hid (10 ^ 0 = 1) := rfl
            go_loopw [6, 108] (fun n q wr => ∃ (m qn : Nat), qn ≤ a.size ∧ n = .int .i64 (m : Int) ∧ q = .int .i64 (qn : Int) ∧ wr = wc ∧ Hid (m < 10 ^ qn ∧ valR 0 a.data.toList = valR m (sfx a qn))) (fun _ q _ => a.size - (intOf q).toNat)
            case atStart => exact ⟨0, 0, Nat.zero_le _, by first | rfl | trivial, by first | rfl | trivial, by first | rfl | trivial, by decide, rfl⟩
            case round =>
              obtain ⟨m, q, hq, rfl, rfl, rfl, hQ⟩ := hrel
              have hq0 : (0 : Int) ≤ (q : Int) := by omega
              have hm0 : (0 : Int) ≤ (m : Int) := by omega
              have HM2 : Hid (m < 1000000000000000000) := by
                have h1 := hQ.out.1
                have h2 : 10 ^ q ≤ 10 ^ 18 := Nat.pow_le_pow_right (by omega) (by have := HS18.out; omega)
                unfold Hid
                omega
              by_cases hlt : q < a.size
              · have hby := run_byte a q hlt
                obtain ⟨y, hy⟩ : ∃ y, y = byteAt a q := ⟨_, rfl⟩
                have HSY : Hid (sfx a q = y :: sfx a (q + 1)) := by rw [hy]; exact sfx_cons hlt
                rw [← hy] at hby
                have hltI : (q : Int) < (a.size : Int) := by omega
                obtain ⟨y1, y2⟩ := dg_nat (HDG.out q y (by rw [HSY.out]; exact List.mem_cons_self ..))
                have hqI : (q : Int) < 18 := by have := HS18.out; omega
                have hmI : (m : Int) < 100000000000000000 := by
                  have h1 := hQ.out.1
                  have h2 : 10 ^ q ≤ 10 ^ 17 := Nat.pow_le_pow_right (by omega) (by omega)
                  omega
                have w1 : IntKind.u8.wrap ((y.toNat : Int) - 48) = (y.toNat : Int) - 48 := IntWalk.u8_in _ (by omega)
                have w2 : IntKind.i64.wrap ((y.toNat : Int) - 48) = (y.toNat : Int) - 48 := IntWalk.i64_in _ (by omega)
                have w3 : IntKind.i64.wrap (10 * (m : Int)) = 10 * (m : Int) := IntWalk.i64_in _ (by omega)
                have w4 : IntKind.i64.wrap (10 * (m : Int) + ((y.toNat : Int) - 48)) = 10 * (m : Int) + ((y.toNat : Int) - 48) := IntWalk.i64_in _ (by omega)
                have HY := Lib.hid (And.intro y1 y2)
                clear hy y1 y2
                go_wp2_with fail
                go_roundw
                case rel =>
                  refine ⟨10 * m + (y.toNat - 48), q + 1, hlt, ?_, ?_, by first | rfl | trivial, ?_, ?_⟩
                  · congr 1; have := HY.out; omega
                  · congr 1
                  · rw [Nat.pow_succ]; have h1 := hQ.out.1; have := HY.out; omega
                  · rw [hQ.out.2, HSY.out]; rfl
                case measure => simp [intOf]; omega
              · have bl : decide ((q : Int) < (a.size : Int)) = false := decide_eq_false (by omega)
                have bl2 : decide (q < a.size) = false := decide_eq_false hlt
                have HVL : Hid (valR 0 (digs (sfx s f)) = m) := by
                  unfold Hid
                  rw [hR.out.2.1, hQ.out.2, sfx_end (s := a) (i := q) (by omega)]
                  rfl
                have hneg : IntKind.i64.wrap (-(m : Int)) = -(m : Int) := IntWalk.i64_in _ (by have := HM2.out; omega)
                obtain ⟨d0, d1, d2, d3, d4, d5⟩ := HV.out.cells
                have e0 := HV.out.free 0
                have e1 := HV.out.free 1
                have e2 := HV.out.free 2
                have e3 := HV.out.free 3
                have e4 := HV.out.free 4
                have e5 := HV.out.free 5
                clear hlt
                go_wp2_with fail
                refine bodyPost_ret (results_v rfl _ _ g rfl (HC2.out 3 false ((m : Int)) ⟨#[]⟩ nilS nilS).1) rfl ?_
                exact ⟨j, (HC2.out _ _ _ _ _ _).2.1, (HC2.out _ _ _ _ _ _).2.2, hjs, .inl ⟨_, by rw [HE.out, HVL.out]; rfl, by unfold I64; have := HM2.out; omega, rfl⟩⟩
          · have hone1 : (a.toList == [48]) = false := by rw [beq_eq_false_iff_ne]; exact hone
            have HE : Hid (numS (sfx s i) = .error 3) := by
              unfold Hid
              rw [HD.out.2]
              unfold numD
              refine if_pos (.inr ⟨by rw [hR.out.2.1, HSA.out, hx48]; rfl, .inl ?_⟩)
              rw [HD.out.1]
              have h1 := size_list a
              have h2 := HA0.out
              have h3 : a.size ≠ 1 := fun e => by
                rw [HSA.out, List.length_cons] at h1
                have h4 : sfx a 1 = [] := List.length_eq_zero_iff.1 (by omega)
                apply hone
                rw [ByteArray.toList_eq, HSA.out, h4, hx48]
              omega
            clear hx48 hone
            go_wp2_with fail
            refine bodyPost_ret (results_v rfl _ _ g rfl (HC2.out 0 false 0 ⟨#[]⟩ nilS nilS).1) rfl ?_
            exact ⟨j, (HC2.out _ _ _ _ _ _).2.1, (HC2.out _ _ _ _ _ _).2.2, hjs, .inr ⟨3, HE.out, by decide, rfl⟩⟩
        · have b48 : ((x.toNat : Int) == 48) = false := by rw [show (48 : Int) = ((48 : Nat) : Int) from rfl, byte_lit x 48 (by omega)]; simp [hx48]
          have hone1 : (a.toList == [48]) = false := by
            rw [beq_eq_false_iff_ne, ByteArray.toList_eq, HSA.out]
            intro e
            injection e with e _
            exact hx48 e
          have HNZ : Hid (¬ (digs (sfx s f) = [] ∨ (digs (sfx s f)).head? = some 48 ∧ (1 < (digs (sfx s f)).length ∨ false = true))) := by
            rintro (e | e)
            · have h2 := HA0.out
              have h3 := HD.out.1
              rw [e] at h3
              exact h2 h3.symm
            · have h3 := e.1
              rw [hR.out.2.1, HSA.out] at h3
              injection h3 with h3
              exact hx48 h3
          clear hx48
          by_cases h18 : 18 < a.size
          · have t18 : decide ((18 : Int) < (a.size : Int)) = true := decide_eq_true (by omega)
            have HE : Hid (numS (sfx s i) = .error 2) := by
              unfold Hid
              rw [HD.out.2]
              unfold numD
              rw [if_neg HNZ.out, if_pos (by rw [HD.out.1]; exact h18)]
            clear h18
            go_wp2_with fail
            refine bodyPost_ret (results_v rfl _ _ g rfl (HC2.out 0 false 0 ⟨#[]⟩ nilS nilS).1) rfl ?_
            exact ⟨j, (HC2.out _ _ _ _ _ _).2.1, (HC2.out _ _ _ _ _ _).2.2, hjs, .inr ⟨2, HE.out, by decide, rfl⟩⟩
          · have t18 : decide ((18 : Int) < (a.size : Int)) = false := decide_eq_false (by omega)
            have HE : Hid (numS (sfx s i) = .ok ((if false then -(valR 0 (digs (sfx s f)) : Int) else (valR 0 (digs (sfx s f)) : Int)), sfx s j)) := by
              unfold Hid
              rw [HD.out.2]
              unfold numD
              rw [if_neg HNZ.out, if_neg (by rw [HD.out.1]; exact h18), hR.out.2.2.1]
            have HS18 : Hid (a.size ≤ 18) := by unfold Hid; omega
            clear h18
            go_wp2_with fail
            have HDG : Hid (∀ q, ∀ c ∈ sfx a q, isDg c = true) := fun q c hc => digs_all (sfx s f) c (by rw [hR.out.2.1]; exact List.mem_of_mem_drop hc)
            clear b48 hone1 hem t18 d0 d1 d2 d3 d4 d5 e0 e1 e2 e3 e4 e5 hby
            have HM : Hid (10 ^ 0 = 1) := rfl
            go_loopw [6, 108] (fun n q wr => ∃ (m qn : Nat), qn ≤ a.size ∧ n = .int .i64 (m : Int) ∧ q = .int .i64 (qn : Int) ∧ wr = wc ∧ Hid (m < 10 ^ qn ∧ valR 0 a.data.toList = valR m (sfx a qn))) (fun _ q _ => a.size - (intOf q).toNat)
            case atStart => exact ⟨0, 0, Nat.zero_le _, by first | rfl | trivial, by first | rfl | trivial, by first | rfl | trivial, by decide, rfl⟩
            case round =>
              obtain ⟨m, q, hq, rfl, rfl, rfl, hQ⟩ := hrel
              have hq0 : (0 : Int) ≤ (q : Int) := by omega
              have hm0 : (0 : Int) ≤ (m : Int) := by omega
              have HM2 : Hid (m < 1000000000000000000) := by
                have h1 := hQ.out.1
                have h2 : 10 ^ q ≤ 10 ^ 18 := Nat.pow_le_pow_right (by omega) (by have := HS18.out; omega)
                unfold Hid
                omega
              by_cases hlt : q < a.size
              · have hby := run_byte a q hlt
                obtain ⟨y, hy⟩ : ∃ y, y = byteAt a q := ⟨_, rfl⟩
                have HSY : Hid (sfx a q = y :: sfx a (q + 1)) := by rw [hy]; exact sfx_cons hlt
                rw [← hy] at hby
                have hltI : (q : Int) < (a.size : Int) := by omega
                obtain ⟨y1, y2⟩ := dg_nat (HDG.out q y (by rw [HSY.out]; exact List.mem_cons_self ..))
                have hqI : (q : Int) < 18 := by have := HS18.out; omega
                have hmI : (m : Int) < 100000000000000000 := by
                  have h1 := hQ.out.1
                  have h2 : 10 ^ q ≤ 10 ^ 17 := Nat.pow_le_pow_right (by omega) (by omega)
                  omega
                have w1 : IntKind.u8.wrap ((y.toNat : Int) - 48) = (y.toNat : Int) - 48 := IntWalk.u8_in _ (by omega)
                have w2 : IntKind.i64.wrap ((y.toNat : Int) - 48) = (y.toNat : Int) - 48 := IntWalk.i64_in _ (by omega)
                have w3 : IntKind.i64.wrap (10 * (m : Int)) = 10 * (m : Int) := IntWalk.i64_in _ (by omega)
                have w4 : IntKind.i64.wrap (10 * (m : Int) + ((y.toNat : Int) - 48)) = 10 * (m : Int) + ((y.toNat : Int) - 48) := IntWalk.i64_in _ (by omega)
                have HY := Lib.hid (And.intro y1 y2)
                clear hy y1 y2
                go_wp2_with fail
                go_roundw
                case rel =>
                  refine ⟨10 * m + (y.toNat - 48), q + 1, hlt, ?_, ?_, by first | rfl | trivial, ?_, ?_⟩
                  · congr 1; have := HY.out; omega
                  · congr 1
                  · rw [Nat.pow_succ]; have h1 := hQ.out.1; have := HY.out; omega
                  · rw [hQ.out.2, HSY.out]; rfl
                case measure => simp [intOf]; omega
              · have bl : decide ((q : Int) < (a.size : Int)) = false := decide_eq_false (by omega)
                have bl2 : decide (q < a.size) = false := decide_eq_false hlt
                have HVL : Hid (valR 0 (digs (sfx s f)) = m) := by
                  unfold Hid
                  rw [hR.out.2.1, hQ.out.2, sfx_end (s := a) (i := q) (by omega)]
                  rfl
                have hneg : IntKind.i64.wrap (-(m : Int)) = -(m : Int) := IntWalk.i64_in _ (by have := HM2.out; omega)
                obtain ⟨d0, d1, d2, d3, d4, d5⟩ := HV.out.cells
                have e0 := HV.out.free 0
                have e1 := HV.out.free 1
                have e2 := HV.out.free 2
                have e3 := HV.out.free 3
                have e4 := HV.out.free 4
                have e5 := HV.out.free 5
                clear hlt
                go_wp2_with fail
                refine bodyPost_ret (results_v rfl _ _ g rfl (HC2.out 3 false ((m : Int)) ⟨#[]⟩ nilS nilS).1) rfl ?_
                exact ⟨j, (HC2.out _ _ _ _ _ _).2.1, (HC2.out _ _ _ _ _ _).2.2, hjs, .inl ⟨_, by rw [HE.out, HVL.out]; rfl, by unfold I64; have := HM2.out; omega, rfl⟩⟩


end Go.Proofs.YtahinicpceokcaaGreatDoor.Jm
