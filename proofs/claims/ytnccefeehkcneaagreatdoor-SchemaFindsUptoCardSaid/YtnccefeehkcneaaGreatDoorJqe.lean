/-
  The reference's reader: number (printed by gen/jq4.py).
  The reference's reader: value, its list and its object by hypothesis (printed by gen/jq6.py).
  The reference's rows of values: what append is told, what a row reads as.
  The reference's objects: Find (printed by gen/jq5.py).
-/
import Derived.Test.YtnccefeehkcneaaGreatDoorJqa
import Derived.Test.YtnccefeehkcneaaGreatDoorChr
import Derived.Test.YtnccefeehkcneaaGreatDoorJrd
namespace Go.Proofs.YtnccefeehkcneaaGreatDoor.Jm
open Go Go.RowKit Go.Proofs.YtnccefeehkcneaaGreatDoor.Sx Go.Proofs.YtnccefeehkcneaaGreatDoor.Js Go.Proofs.YtnccefeehkcneaaGreatDoor.Gr
def RNumPost (w : World) (k : Nat) (s : ByteArray) (i many : Nat) (e : Ending) (w' : World) : Prop :=
  ∃ j, w.grownBy w' (some k) ∧ QIn w' k s j many ∧ j ≤ s.size ∧ ((∃ n, numS (sfx s i) = .ok (n, sfx s j) ∧ I64 n ∧ e = .returned (.tuple #[.agg (v6 3 false n ⟨#[]⟩ nilS nilS).toArray, .int .i64 0])) ∨ (∃ er, numS (sfx s i) = .error er ∧ er ≠ 0 ∧ e = .returned (.tuple #[.agg noV.toArray, .int .i64 er])))
theorem ext_size {a : ByteArray} {x : ByteArray} : (a ++ x).size = a.size + x.size := ByteArray.size_append
theorem piece_one {s : ByteArray} {j : Nat} {c : UInt8} (h : sfx s j = c :: sfx s (j + 1)) : s.extract j (j + 1) = sgn c := by
  have h1 := extract_piece s j (j + 1)
  rw [h, show j + 1 - j = 1 by omega] at h1
  rw [← of_bx (s.extract j (j + 1)), h1]
  rfl
set_option maxRecDepth 100000 in
set_option maxHeartbeats 8000000 in
theorem rnumber_any (k : Nat) (s : ByteArray) (i many : Nat) (w : World) (h : QIn w k s i many) (hs : s.size ≤ 2000) (hi : i < s.size) :
    Calls Tryz.prog 131 #[.pointer (some ⟨k, 0, none⟩)] w (RNumPost w k s i many) := by
  have H := Lib.hid h
  clear h
  have hby := run_byte s i hi
  obtain ⟨c, hcc⟩ : ∃ c, c = byteAt s i := ⟨_, rfl⟩
  have HSX : Hid (sfx s i = c :: sfx s (i + 1)) := by rw [hcc]; exact sfx_cons hi
  rw [← hcc] at hby
  have hltI : (i : Int) < (s.size : Int) := by omega
  have hi0 : (0 : Int) ≤ (i : Int) := by omega
  clear hcc
  obtain ⟨g, hg⟩ : ∃ g, g = w.heap.size := ⟨_, rfl⟩
  obtain ⟨w1, hw1⟩ : ∃ w1, w1 = w.alloc (.cells #[.int .i64 0, .bool false, .int .i64 0, .string ⟨#[]⟩, nilS, nilS] vT (0, 0)) := ⟨_, rfl⟩
  have HX1 : Hid (Ext w w1) := by rw [hw1]; exact new_ext _ _
  have HR1 : Hid (VIn w1 g 0 false 0 ⟨#[]⟩ nilS nilS) := by rw [hw1]; exact heap_new hg
  have HGW : Hid (w.heap.size ≤ g) := by rw [hg]; exact Nat.le_refl _
  have H1 := Lib.hid (H.out.ext HX1.out)
  have HC : Hid (∀ W j, w1.grownBy W (some k) → QIn W k s j many → VIn W g 0 false 0 ⟨#[]⟩ nilS nilS ∧ ∀ K B n t a l, VIn (putV W g K B n t a l) g K B n t a l ∧ w.grownBy (putV W g K B n t a l) (some k) ∧ QIn (putV W g K B n t a l) k s j many) := fun W j hW hQ => by
    have hkg : k ≠ g := by have h1 := H.out.lt; have h2 := HGW.out; omega
    have hv := HR1.out.kept hW (fun e => hkg (by injection e))
    exact ⟨hv, fun K B n t a l => ⟨put_in K B n t a l hv, put_grown K B n t a l (grown_trans (grown_ext HX1.out) hW) HGW.out, (put_heap W K B n t a l k hkg).trans hQ⟩⟩
  obtain ⟨z0, z1, _⟩ := H1.out.cells
  have f1 := H1.out.free 1
  by_cases h45 : c = 45
  · have b45 : ((c.toNat : Int) == 45) = true := by rw [h45]; rfl
    have HNV : Hid (numS (sfx s i) = numD true (sfx s (i + 1))) := by
      unfold Hid
      rw [HSX.out, h45]; rfl
    clear h45
    go_enter Tryz.func131, Tryz.ntmps131
    go_wp2_with fail
    rw [← hw1, ← hg]
    clear hw1 hg
    go_quiet (fail)
    go_upto_region 4 with (fail)
    generalize hW : World.setCell _ _ _ = w2
    have HQ : Hid (QIn w2 k s (i + 1) many ∧ w1.grownBy w2 (some k)) := by
      rw [← hW]
      exact ⟨QIn.setAt (w := World.drewN w1 _) (H1.out.ext (ext_drewN' _ _)) (i + 1) _ (by omega), grown_trans (grown_ext (ext_drewN' w1 _)) (grown_set _ k 1 _)⟩
    clear hW
    obtain ⟨f, hf⟩ : ∃ f, f = (i + 1) := ⟨_, rfl⟩
    have HNU : Hid (numS (sfx s i) = numD true (sfx s f)) := by rw [hf]; exact HNV.out
    have HQF : Hid (QIn w2 k s f many ∧ w1.grownBy w2 (some k)) := by rw [hf]; exact HQ.out
    have hfs : f ≤ s.size := by omega
    clear hf z0 z1 f1 hby hltI hi0 b45 H1 HNV HQ
    go_upto_block 0 with fail
    go_cut [4, 5] (fun b o wx => b = .bool true ∧ ∃ (a : ByteArray) (j : Nat), f ≤ j ∧ j ≤ s.size ∧ a.size = j - f ∧ o = .string a ∧ Hid (QIn wx k s j many ∧ digs (sfx s f) = a.data.toList ∧ offD (sfx s f) = sfx s j ∧ w1.grownBy wx (some k)))
    case first =>
      go_wp2_with fail
      go_loopw [5] (fun o wr => ∃ (a : ByteArray) (j : Nat), f ≤ j ∧ j ≤ s.size ∧ a.size = j - f ∧ o = .string a ∧ Hid (QIn wr k s j many ∧ digs (sfx s f) = a.data.toList ++ digs (sfx s j) ∧ offD (sfx s f) = offD (sfx s j) ∧ w1.grownBy wr (some k))) (fun _ wr => s.size - atOf wr k)
      case atStart => exact ⟨⟨#[]⟩, f, Nat.le_refl _, hfs, by rw [Nat.sub_self]; rfl, rfl, HQF.out.1, rfl, rfl, HQF.out.2⟩
      case round =>
        obtain ⟨a, j, hfj, hjs, haj, rfl, hR⟩ := hrel
        obtain ⟨z0, z1, _⟩ := hR.out.1.cells
        have f1 := hR.out.1.free 1
        by_cases hlt : j < s.size
        · have hby := run_byte s j hlt
          have hpc := run_piece s j (j + 1) (by omega) hlt
          obtain ⟨d, hdd⟩ : ∃ d, d = byteAt s j := ⟨_, rfl⟩
          have HSJ : Hid (sfx s j = d :: sfx s (j + 1)) := by rw [hdd]; exact sfx_cons hlt
          rw [← hdd] at hby
          rw [piece_one HSJ.out, show ((j + 1 : Nat) : Int) = (j : Int) + 1 by omega] at hpc
          have hltI : (j : Int) < (s.size : Int) := by omega
          have hj0 : (0 : Int) ≤ (j : Int) := by omega
          have hjI : (j : Int) ≤ 2000 := by omega
          have hwr : IntKind.i64.wrap ((j : Int) + 1) = (j : Int) + 1 := IntWalk.i64_in _ (by omega)
          have hsum : (9223372036854775807 < a.size + (sgn d).size) = False := eq_false (by rw [show (sgn d).size = 1 from rfl]; omega)
          have HAJ := Lib.hid haj
          clear hdd haj
          cases hd : isDg d with
          | true =>
            obtain ⟨d1, d2⟩ := dg_nat hd
            have b48 : decide ((48 : Int) ≤ (d.toNat : Int)) = true := decide_eq_true (by omega)
            have b57 : decide ((d.toNat : Int) ≤ 57) = true := decide_eq_true (by omega)
            have HN : Hid (digs (sfx s f) = (a ++ sgn d).data.toList ++ digs (sfx s (j + 1)) ∧ offD (sfx s f) = offD (sfx s (j + 1))) := by
              refine ⟨?_, ?_⟩
              · rw [hR.out.2.1, HSJ.out]
                unfold digs
                rw [List.takeWhile_cons, if_pos hd]
                simp [sgn]
              · rw [hR.out.2.2.1, HSJ.out]
                unfold offD
                rw [List.dropWhile_cons, if_pos hd]
            clear hd d1 d2
            go_wp2_with fail
            go_quiet (fail)
            go_wp2_with fail
            generalize hW : World.drewN _ _ = w4
            have HQ4 : Hid (QIn w4 k s j many ∧ w1.grownBy w4 (some k)) := by rw [← hW]; exact ⟨hR.out.1.ext (ext_drewN' _ _), grown_trans hR.out.2.2.2 (grown_ext (ext_drewN' _ _))⟩
            clear hW z0 z1 f1
            obtain ⟨z0, z1, _⟩ := HQ4.out.1.cells
            have f1 := HQ4.out.1.free 1
            go_region_held3 (fun w' => w'.cell? ⟨k, 0, none⟩ = some (.string s) ∧ w'.cell? ⟨k, 1, none⟩ = some (.int .i64 (j : Int)))
              (first | exact ⟨by assumption, by assumption⟩ | go_keep)
              (fail)
            go_wp2_with fail
            have HQ5 : Hid (QIn (w4.setCell ⟨k, 1, none⟩ (.int .i64 ((j : Int) + 1))).drew k s (j + 1) many) := QIn.ext (HQ4.out.1.setAt (j + 1) _ (by omega)) (Below.refl _ _).drew
            have HG5 : Hid (w1.grownBy (w4.setCell ⟨k, 1, none⟩ (.int .i64 ((j : Int) + 1))).drew (some k)) := grown_trans HQ4.out.2 (grown_trans (grown_set _ k 1 _) (grown_ext (Below.refl _ _).drew))
            go_roundw
            case rel => exact ⟨a ++ sgn d, j + 1, by omega, hlt, by rw [ext_size, show (sgn d).size = 1 from rfl, HAJ.out]; omega, rfl, HQ5.out, HN.out.1, HN.out.2, HG5.out⟩
            case measure => rw [hR.out.1.atOf, HQ5.out.atOf]; omega
          | false =>
            have HN : Hid (digs (sfx s f) = a.data.toList ∧ offD (sfx s f) = sfx s j) := by
              refine ⟨?_, ?_⟩
              · rw [hR.out.2.1, HSJ.out]
                unfold digs
                rw [List.takeWhile_cons, if_neg (by rw [hd]; simp), List.append_nil]
              · rw [hR.out.2.2.1, HSJ.out]
                unfold offD
                rw [List.dropWhile_cons, if_neg (by rw [hd]; simp)]
            rcases dg_not hd with h1 | h1
            · have b48 : decide ((48 : Int) ≤ (d.toNat : Int)) = false := decide_eq_false (by omega)
              clear hd h1
              go_wp2_with fail
              go_quiet (fail)
              go_wp2_with fail
              go_meet
              exact ⟨rfl, a, j, hfj, hjs, HAJ.out, rfl, hR.out.1.ext (ext_drewN' _ _), HN.out.1, HN.out.2, grown_trans hR.out.2.2.2 (grown_ext (ext_drewN' _ _))⟩
            · have b48 : decide ((48 : Int) ≤ (d.toNat : Int)) = true := decide_eq_true (by omega)
              have b57 : decide ((d.toNat : Int) ≤ 57) = false := decide_eq_false (by omega)
              clear hd h1
              go_wp2_with fail
              go_quiet (fail)
              go_wp2_with fail
              go_meet
              exact ⟨rfl, a, j, hfj, hjs, HAJ.out, rfl, hR.out.1.ext (ext_drewN' _ _), HN.out.1, HN.out.2, grown_trans hR.out.2.2.2 (grown_ext (ext_drewN' _ _))⟩
        · have HN : Hid (digs (sfx s f) = a.data.toList ∧ offD (sfx s f) = sfx s j) := by
            have e : sfx s j = [] := sfx_end (by omega)
            refine ⟨?_, ?_⟩
            · rw [hR.out.2.1, e]; simp [digs]
            · rw [hR.out.2.2.1, e]; simp [offD]
          have bl : decide ((j : Int) < (s.size : Int)) = false := decide_eq_false (by omega)
          have bl2 : decide (j < s.size) = false := decide_eq_false hlt
          have HAJ := Lib.hid haj
          clear hlt haj
          go_wp2_with fail
          go_quiet (fail)
          go_wp2_with fail
          go_meet
          exact ⟨rfl, a, j, hfj, hjs, HAJ.out, rfl, hR.out.1.ext (ext_drewN' _ _), HN.out.1, HN.out.2, grown_trans hR.out.2.2.2 (grown_ext (ext_drewN' _ _))⟩
    case rest =>
      obtain ⟨rfl, a, j, hfj, hjs, haj, rfl, hR⟩ := hcut
      have HC2 := Lib.hid ((HC.out wc j hR.out.2.2.2 hR.out.1).2)
      have HV := Lib.hid (HC.out wc j hR.out.2.2.2 hR.out.1).1
      obtain ⟨d0, d1, d2, d3, d4, d5⟩ := HV.out.cells
      have e0 := HV.out.free 0
      have e1 := HV.out.free 1
      have e2 := HV.out.free 2
      have e3 := HV.out.free 3
      have e4 := HV.out.free 4
      have e5 := HV.out.free 5
      have HAJ := Lib.hid haj
      have HD : Hid ((digs (sfx s f)).length = a.size ∧ numS (sfx s i) = numD true (sfx s f)) := ⟨by rw [hR.out.2.1]; exact size_list a, HNU.out⟩
      clear haj
      by_cases h0 : a.size = 0
      · have ha : a = ⟨#[]⟩ := by
          rw [← of_bx a, List.length_eq_zero_iff.1 (show a.data.toList.length = 0 by rw [size_list]; exact h0)]
          rfl
        have HE : Hid (numS (sfx s i) = .error 3) := by
          unfold Hid
          rw [HD.out.2]
          unfold numD
          rw [if_pos (.inl (List.length_eq_zero_iff.1 (by rw [HD.out.1, h0])))]
        clear h0
        subst ha
        go_wp2_with fail
        refine bodyPost_ret (results_v rfl _ _ g rfl (HC2.out 0 false 0 ⟨#[]⟩ nilS nilS).1) rfl ?_
        exact ⟨j, (HC2.out _ _ _ _ _ _).2.1, (HC2.out _ _ _ _ _ _).2.2, hjs, .inr ⟨3, HE.out, by decide, rfl⟩⟩
      · have hby := run_byte a 0 (by omega)
        obtain ⟨x, hx⟩ : ∃ x, x = byteAt a 0 := ⟨_, rfl⟩
        have HSA : Hid (a.data.toList = x :: sfx a 1) := by rw [hx]; exact sfx_cons (s := a) (i := 0) (by omega)
        rw [← hx] at hby
        rw [show ((0 : Nat) : Int) = 0 from rfl] at hby
        have HA0 : Hid (¬ a.size = 0) := h0
        have hem : a.toList.isEmpty = false := by rw [ByteArray.toList_eq, HSA.out]; rfl
        clear hx h0
        by_cases hx48 : x = 48
        · have b48 : ((x.toNat : Int) == 48) = true := by rw [hx48]; rfl
          by_cases hone : a.toList = [48]
          · have hone1 : (a.toList == [48]) = true := by rw [hone]; rfl
            have hA1 : a.size = 1 := by rw [← size_list a, ← ByteArray.toList_eq, hone]; rfl
            have HE : Hid (numS (sfx s i) = .error 3) := by
              unfold Hid
              rw [HD.out.2]
              unfold numD
              exact if_pos (.inr ⟨by rw [hR.out.2.1, HSA.out, hx48]; rfl, .inr rfl⟩)
            clear hx48 hone hA1
            go_wp2_with fail
            refine bodyPost_ret (results_v rfl _ _ g rfl (HC2.out 0 false 0 ⟨#[]⟩ nilS nilS).1) rfl ?_
            exact ⟨j, (HC2.out _ _ _ _ _ _).2.1, (HC2.out _ _ _ _ _ _).2.2, hjs, .inr ⟨3, HE.out, by decide, rfl⟩⟩
          · have hone1 : (a.toList == [48]) = false := by rw [beq_eq_false_iff_ne]; exact hone
            have HE : Hid (numS (sfx s i) = .error 3) := by
              unfold Hid
              rw [HD.out.2]
              unfold numD
              refine if_pos (.inr ⟨by rw [hR.out.2.1, HSA.out, hx48]; rfl, .inl ?_⟩)
              rw [HD.out.1]
              have h1 := size_list a
              have h2 := HA0.out
              have h3 : a.size ≠ 1 := fun e => by
                rw [HSA.out, List.length_cons] at h1
                have h4 : sfx a 1 = [] := List.length_eq_zero_iff.1 (by omega)
                apply hone
                rw [ByteArray.toList_eq, HSA.out, h4, hx48]
              omega
            clear hx48 hone
            go_wp2_with fail
            refine bodyPost_ret (results_v rfl _ _ g rfl (HC2.out 0 false 0 ⟨#[]⟩ nilS nilS).1) rfl ?_
            exact ⟨j, (HC2.out _ _ _ _ _ _).2.1, (HC2.out _ _ _ _ _ _).2.2, hjs, .inr ⟨3, HE.out, by decide, rfl⟩⟩
        · have b48 : ((x.toNat : Int) == 48) = false := by rw [show (48 : Int) = ((48 : Nat) : Int) from rfl, byte_lit x 48 (by omega)]; simp [hx48]
          have hone1 : (a.toList == [48]) = false := by
            rw [beq_eq_false_iff_ne, ByteArray.toList_eq, HSA.out]
            intro e
            injection e with e _
            exact hx48 e
          have HNZ : Hid (¬ (digs (sfx s f) = [] ∨ (digs (sfx s f)).head? = some 48 ∧ (1 < (digs (sfx s f)).length ∨ true = true))) := by
            rintro (e | e)
            · have h2 := HA0.out
              have h3 := HD.out.1
              rw [e] at h3
              exact h2 h3.symm
            · have h3 := e.1
              rw [hR.out.2.1, HSA.out] at h3
              injection h3 with h3
              exact hx48 h3
          clear hx48
          by_cases h18 : 18 < a.size
          · have t18 : decide ((18 : Int) < (a.size : Int)) = true := decide_eq_true (by omega)
            have HE : Hid (numS (sfx s i) = .error 2) := by
              unfold Hid
              rw [HD.out.2]
              unfold numD
              rw [if_neg HNZ.out, if_pos (by rw [HD.out.1]; exact h18)]
            clear h18
            go_wp2_with fail
            refine bodyPost_ret (results_v rfl _ _ g rfl (HC2.out 0 false 0 ⟨#[]⟩ nilS nilS).1) rfl ?_
            exact ⟨j, (HC2.out _ _ _ _ _ _).2.1, (HC2.out _ _ _ _ _ _).2.2, hjs, .inr ⟨2, HE.out, by decide, rfl⟩⟩
          · have t18 : decide ((18 : Int) < (a.size : Int)) = false := decide_eq_false (by omega)
            have HE : Hid (numS (sfx s i) = .ok ((if true then -(valR 0 (digs (sfx s f)) : Int) else (valR 0 (digs (sfx s f)) : Int)), sfx s j)) := by
              unfold Hid
              rw [HD.out.2]
              unfold numD
              rw [if_neg HNZ.out, if_neg (by rw [HD.out.1]; exact h18), hR.out.2.2.1]
            have HS18 : Hid (a.size ≤ 18) := by unfold Hid; omega
            clear h18
            go_wp2_with fail
            have HDG : Hid (∀ q, ∀ c ∈ sfx a q, isDg c = true) := fun q c hc => digs_all (sfx s f) c (by rw [hR.out.2.1]; exact List.mem_of_mem_drop hc)
            clear b48 hone1 hem t18 d0 d1 d2 d3 d4 d5 e0 e1 e2 e3 e4 e5 hby
            have HM : Hid (10 ^ 0 = 1) := rfl
            go_loopw [6, 108] (fun n q wr => ∃ (m qn : Nat), qn ≤ a.size ∧ n = .int .i64 (m : Int) ∧ q = .int .i64 (qn : Int) ∧ wr = wc ∧ Hid (m < 10 ^ qn ∧ valR 0 a.data.toList = valR m (sfx a qn))) (fun _ q _ => a.size - (intOf q).toNat)
            case atStart => exact ⟨0, 0, Nat.zero_le _, by first | rfl | trivial, by first | rfl | trivial, by first | rfl | trivial, by decide, rfl⟩
            case round =>
              obtain ⟨m, q, hq, rfl, rfl, rfl, hQ⟩ := hrel
              have hq0 : (0 : Int) ≤ (q : Int) := by omega
              have hm0 : (0 : Int) ≤ (m : Int) := by omega
              have HM2 : Hid (m < 1000000000000000000) := by
                have h1 := hQ.out.1
                have h2 : 10 ^ q ≤ 10 ^ 18 := Nat.pow_le_pow_right (by omega) (by have := HS18.out; omega)
                unfold Hid
                omega
              by_cases hlt : q < a.size
              · have hby := run_byte a q hlt
                obtain ⟨y, hy⟩ : ∃ y, y = byteAt a q := ⟨_, rfl⟩
                have HSY : Hid (sfx a q = y :: sfx a (q + 1)) := by rw [hy]; exact sfx_cons hlt
                rw [← hy] at hby
                have hltI : (q : Int) < (a.size : Int) := by omega
                obtain ⟨y1, y2⟩ := dg_nat (HDG.out q y (by rw [HSY.out]; exact List.mem_cons_self ..))
                have hqI : (q : Int) < 18 := by have := HS18.out; omega
                have hmI : (m : Int) < 100000000000000000 := by
                  have h1 := hQ.out.1
                  have h2 : 10 ^ q ≤ 10 ^ 17 := Nat.pow_le_pow_right (by omega) (by omega)
                  omega
                have w1 : IntKind.u8.wrap ((y.toNat : Int) - 48) = (y.toNat : Int) - 48 := IntWalk.u8_in _ (by omega)
                have w2 : IntKind.i64.wrap ((y.toNat : Int) - 48) = (y.toNat : Int) - 48 := IntWalk.i64_in _ (by omega)
                have w3 : IntKind.i64.wrap (10 * (m : Int)) = 10 * (m : Int) := IntWalk.i64_in _ (by omega)
                have w4 : IntKind.i64.wrap (10 * (m : Int) + ((y.toNat : Int) - 48)) = 10 * (m : Int) + ((y.toNat : Int) - 48) := IntWalk.i64_in _ (by omega)
                have HY := Lib.hid (And.intro y1 y2)
                clear hy y1 y2
                go_wp2_with fail
                go_roundw
                case rel =>
                  refine ⟨10 * m + (y.toNat - 48), q + 1, hlt, ?_, ?_, by first | rfl | trivial, ?_, ?_⟩
                  · congr 1; have := HY.out; omega
                  · congr 1
                  · rw [Nat.pow_succ]; have h1 := hQ.out.1; have := HY.out; omega
                  · rw [hQ.out.2, HSY.out]; rfl
                case measure => simp [intOf]; omega
              · have bl : decide ((q : Int) < (a.size : Int)) = false := decide_eq_false (by omega)
                have bl2 : decide (q < a.size) = false := decide_eq_false hlt
                have HVL : Hid (valR 0 (digs (sfx s f)) = m) := by
                  unfold Hid
                  rw [hR.out.2.1, hQ.out.2, sfx_end (s := a) (i := q) (by omega)]
                  rfl
                have hneg : IntKind.i64.wrap (-(m : Int)) = -(m : Int) := IntWalk.i64_in _ (by have := HM2.out; omega)
                obtain ⟨d0, d1, d2, d3, d4, d5⟩ := HV.out.cells
                have e0 := HV.out.free 0
                have e1 := HV.out.free 1
                have e2 := HV.out.free 2
                have e3 := HV.out.free 3
                have e4 := HV.out.free 4
                have e5 := HV.out.free 5
                clear hlt
                go_wp2_with fail
                refine bodyPost_ret (results_v rfl _ _ g rfl (HC2.out 3 false (-(m : Int)) ⟨#[]⟩ nilS nilS).1) rfl ?_
                exact ⟨j, (HC2.out _ _ _ _ _ _).2.1, (HC2.out _ _ _ _ _ _).2.2, hjs, .inl ⟨_, by rw [HE.out, HVL.out]; rfl, by unfold I64; have := HM2.out; omega, rfl⟩⟩


  · have b45 : ((c.toNat : Int) == 45) = false := by rw [show (45 : Int) = ((45 : Nat) : Int) from rfl, byte_lit c 45 (by omega)]; simp [h45]
    have HNV : Hid (numS (sfx s i) = numD false (sfx s i)) := by
      unfold Hid
      exact numS_plus (fun r e => by rw [HSX.out] at e; injection e with e _; exact h45 e)
    clear h45
    go_enter Tryz.func131, Tryz.ntmps131
    go_wp2_with fail
    rw [← hw1, ← hg]
    clear hw1 hg
    go_quiet (fail)
    generalize hW : World.drewN w1 _ = w2
    have HQ : Hid (QIn w2 k s i many ∧ w1.grownBy w2 (some k)) := by
      rw [← hW]
      exact ⟨H1.out.ext (ext_drewN' _ _), grown_ext (ext_drewN' w1 _)⟩
    go_upto_region 4 with (fail)
    clear hW
    obtain ⟨f, hf⟩ : ∃ f, f = i := ⟨_, rfl⟩
    have HNU : Hid (numS (sfx s i) = numD false (sfx s f)) := by rw [hf]; exact HNV.out
    have HQF : Hid (QIn w2 k s f many ∧ w1.grownBy w2 (some k)) := by rw [hf]; exact HQ.out
    have hfs : f ≤ s.size := by omega
    clear hf z0 z1 f1 hby hltI hi0 b45 H1 HNV HQ
    go_upto_block 0 with fail
    go_cut [4, 5] (fun b o wx => b = .bool false ∧ ∃ (a : ByteArray) (j : Nat), f ≤ j ∧ j ≤ s.size ∧ a.size = j - f ∧ o = .string a ∧ Hid (QIn wx k s j many ∧ digs (sfx s f) = a.data.toList ∧ offD (sfx s f) = sfx s j ∧ w1.grownBy wx (some k)))
    case first =>
      go_wp2_with fail
      go_loopw [5] (fun o wr => ∃ (a : ByteArray) (j : Nat), f ≤ j ∧ j ≤ s.size ∧ a.size = j - f ∧ o = .string a ∧ Hid (QIn wr k s j many ∧ digs (sfx s f) = a.data.toList ++ digs (sfx s j) ∧ offD (sfx s f) = offD (sfx s j) ∧ w1.grownBy wr (some k))) (fun _ wr => s.size - atOf wr k)
      case atStart => exact ⟨⟨#[]⟩, f, Nat.le_refl _, hfs, by rw [Nat.sub_self]; rfl, rfl, HQF.out.1, rfl, rfl, HQF.out.2⟩
      case round =>
        obtain ⟨a, j, hfj, hjs, haj, rfl, hR⟩ := hrel
        obtain ⟨z0, z1, _⟩ := hR.out.1.cells
        have f1 := hR.out.1.free 1
        by_cases hlt : j < s.size
        · have hby := run_byte s j hlt
          have hpc := run_piece s j (j + 1) (by omega) hlt
          obtain ⟨d, hdd⟩ : ∃ d, d = byteAt s j := ⟨_, rfl⟩
          have HSJ : Hid (sfx s j = d :: sfx s (j + 1)) := by rw [hdd]; exact sfx_cons hlt
          rw [← hdd] at hby
          rw [piece_one HSJ.out, show ((j + 1 : Nat) : Int) = (j : Int) + 1 by omega] at hpc
          have hltI : (j : Int) < (s.size : Int) := by omega
          have hj0 : (0 : Int) ≤ (j : Int) := by omega
          have hjI : (j : Int) ≤ 2000 := by omega
          have hwr : IntKind.i64.wrap ((j : Int) + 1) = (j : Int) + 1 := IntWalk.i64_in _ (by omega)
          have hsum : (9223372036854775807 < a.size + (sgn d).size) = False := eq_false (by rw [show (sgn d).size = 1 from rfl]; omega)
          have HAJ := Lib.hid haj
          clear hdd haj
          cases hd : isDg d with
          | true =>
            obtain ⟨d1, d2⟩ := dg_nat hd
            have b48 : decide ((48 : Int) ≤ (d.toNat : Int)) = true := decide_eq_true (by omega)
            have b57 : decide ((d.toNat : Int) ≤ 57) = true := decide_eq_true (by omega)
            have HN : Hid (digs (sfx s f) = (a ++ sgn d).data.toList ++ digs (sfx s (j + 1)) ∧ offD (sfx s f) = offD (sfx s (j + 1))) := by
              refine ⟨?_, ?_⟩
              · rw [hR.out.2.1, HSJ.out]
                unfold digs
                rw [List.takeWhile_cons, if_pos hd]
                simp [sgn]
              · rw [hR.out.2.2.1, HSJ.out]
                unfold offD
                rw [List.dropWhile_cons, if_pos hd]
            clear hd d1 d2
            go_wp2_with fail
            go_quiet (fail)
            go_wp2_with fail
            generalize hW : World.drewN _ _ = w4
            have HQ4 : Hid (QIn w4 k s j many ∧ w1.grownBy w4 (some k)) := by rw [← hW]; exact ⟨hR.out.1.ext (ext_drewN' _ _), grown_trans hR.out.2.2.2 (grown_ext (ext_drewN' _ _))⟩
            clear hW z0 z1 f1
            obtain ⟨z0, z1, _⟩ := HQ4.out.1.cells
            have f1 := HQ4.out.1.free 1
            go_region_held3 (fun w' => w'.cell? ⟨k, 0, none⟩ = some (.string s) ∧ w'.cell? ⟨k, 1, none⟩ = some (.int .i64 (j : Int)))
              (first | exact ⟨by assumption, by assumption⟩ | go_keep)
              (fail)
            go_wp2_with fail
            have HQ5 : Hid (QIn (w4.setCell ⟨k, 1, none⟩ (.int .i64 ((j : Int) + 1))).drew k s (j + 1) many) := QIn.ext (HQ4.out.1.setAt (j + 1) _ (by omega)) (Below.refl _ _).drew
            have HG5 : Hid (w1.grownBy (w4.setCell ⟨k, 1, none⟩ (.int .i64 ((j : Int) + 1))).drew (some k)) := grown_trans HQ4.out.2 (grown_trans (grown_set _ k 1 _) (grown_ext (Below.refl _ _).drew))
            go_roundw
            case rel => exact ⟨a ++ sgn d, j + 1, by omega, hlt, by rw [ext_size, show (sgn d).size = 1 from rfl, HAJ.out]; omega, rfl, HQ5.out, HN.out.1, HN.out.2, HG5.out⟩
            case measure => rw [hR.out.1.atOf, HQ5.out.atOf]; omega
          | false =>
            have HN : Hid (digs (sfx s f) = a.data.toList ∧ offD (sfx s f) = sfx s j) := by
              refine ⟨?_, ?_⟩
              · rw [hR.out.2.1, HSJ.out]
                unfold digs
                rw [List.takeWhile_cons, if_neg (by rw [hd]; simp), List.append_nil]
              · rw [hR.out.2.2.1, HSJ.out]
                unfold offD
                rw [List.dropWhile_cons, if_neg (by rw [hd]; simp)]
            rcases dg_not hd with h1 | h1
            · have b48 : decide ((48 : Int) ≤ (d.toNat : Int)) = false := decide_eq_false (by omega)
              clear hd h1
              go_wp2_with fail
              go_quiet (fail)
              go_wp2_with fail
              go_meet
              exact ⟨rfl, a, j, hfj, hjs, HAJ.out, rfl, hR.out.1.ext (ext_drewN' _ _), HN.out.1, HN.out.2, grown_trans hR.out.2.2.2 (grown_ext (ext_drewN' _ _))⟩
            · have b48 : decide ((48 : Int) ≤ (d.toNat : Int)) = true := decide_eq_true (by omega)
              have b57 : decide ((d.toNat : Int) ≤ 57) = false := decide_eq_false (by omega)
              clear hd h1
              go_wp2_with fail
              go_quiet (fail)
              go_wp2_with fail
              go_meet
              exact ⟨rfl, a, j, hfj, hjs, HAJ.out, rfl, hR.out.1.ext (ext_drewN' _ _), HN.out.1, HN.out.2, grown_trans hR.out.2.2.2 (grown_ext (ext_drewN' _ _))⟩
        · have HN : Hid (digs (sfx s f) = a.data.toList ∧ offD (sfx s f) = sfx s j) := by
            have e : sfx s j = [] := sfx_end (by omega)
            refine ⟨?_, ?_⟩
            · rw [hR.out.2.1, e]; simp [digs]
            · rw [hR.out.2.2.1, e]; simp [offD]
          have bl : decide ((j : Int) < (s.size : Int)) = false := decide_eq_false (by omega)
          have bl2 : decide (j < s.size) = false := decide_eq_false hlt
          have HAJ := Lib.hid haj
          clear hlt haj
          go_wp2_with fail
          go_quiet (fail)
          go_wp2_with fail
          go_meet
          exact ⟨rfl, a, j, hfj, hjs, HAJ.out, rfl, hR.out.1.ext (ext_drewN' _ _), HN.out.1, HN.out.2, grown_trans hR.out.2.2.2 (grown_ext (ext_drewN' _ _))⟩
    case rest =>
      obtain ⟨rfl, a, j, hfj, hjs, haj, rfl, hR⟩ := hcut
      have HC2 := Lib.hid ((HC.out wc j hR.out.2.2.2 hR.out.1).2)
      have HV := Lib.hid (HC.out wc j hR.out.2.2.2 hR.out.1).1
      obtain ⟨d0, d1, d2, d3, d4, d5⟩ := HV.out.cells
      have e0 := HV.out.free 0
      have e1 := HV.out.free 1
      have e2 := HV.out.free 2
      have e3 := HV.out.free 3
      have e4 := HV.out.free 4
      have e5 := HV.out.free 5
      have HAJ := Lib.hid haj
      have HD : Hid ((digs (sfx s f)).length = a.size ∧ numS (sfx s i) = numD false (sfx s f)) := ⟨by rw [hR.out.2.1]; exact size_list a, HNU.out⟩
      clear haj
      by_cases h0 : a.size = 0
      · have ha : a = ⟨#[]⟩ := by
          rw [← of_bx a, List.length_eq_zero_iff.1 (show a.data.toList.length = 0 by rw [size_list]; exact h0)]
          rfl
        have HE : Hid (numS (sfx s i) = .error 3) := by
          unfold Hid
          rw [HD.out.2]
          unfold numD
          rw [if_pos (.inl (List.length_eq_zero_iff.1 (by rw [HD.out.1, h0])))]
        clear h0
        subst ha
        go_wp2_with fail
        refine bodyPost_ret (results_v rfl _ _ g rfl (HC2.out 0 false 0 ⟨#[]⟩ nilS nilS).1) rfl ?_
        exact ⟨j, (HC2.out _ _ _ _ _ _).2.1, (HC2.out _ _ _ _ _ _).2.2, hjs, .inr ⟨3, HE.out, by decide, rfl⟩⟩
      · have hby := run_byte a 0 (by omega)
        obtain ⟨x, hx⟩ : ∃ x, x = byteAt a 0 := ⟨_, rfl⟩
        have HSA : Hid (a.data.toList = x :: sfx a 1) := by rw [hx]; exact sfx_cons (s := a) (i := 0) (by omega)
        rw [← hx] at hby
        rw [show ((0 : Nat) : Int) = 0 from rfl] at hby
        have HA0 : Hid (¬ a.size = 0) := h0
        have hem : a.toList.isEmpty = false := by rw [ByteArray.toList_eq, HSA.out]; rfl
        clear hx h0
        by_cases hx48 : x = 48
        · have b48 : ((x.toNat : Int) == 48) = true := by rw [hx48]; rfl
          by_cases hone : a.toList = [48]
          · have hone1 : (a.toList == [48]) = true := by rw [hone]; rfl
            have hA1 : a.size = 1 := by rw [← size_list a, ← ByteArray.toList_eq, hone]; rfl
            have t18 : decide ((18 : Int) < (a.size : Int)) = false := decide_eq_false (by omega)
            have HE : Hid (numS (sfx s i) = .ok ((if false then -(valR 0 (digs (sfx s f)) : Int) else (valR 0 (digs (sfx s f)) : Int)), sfx s j)) := by
              unfold Hid
              rw [HD.out.2]
              unfold numD
              rw [if_neg ?_, if_neg (by rw [HD.out.1]; omega), hR.out.2.2.1]
              rintro (e | e)
              · rw [hR.out.2.1, HSA.out] at e; cases e
              · rcases e.2 with e | e
                · rw [HD.out.1] at e; omega
                · cases e
            have HS18 : Hid (a.size ≤ 18) := by unfold Hid; omega
            clear hx48 hone hA1
            go_wp2_with fail
            have HDG : Hid (∀ q, ∀ c ∈ sfx a q, isDg c = true) := fun q c hc => digs_all (sfx s f) c (by rw [hR.out.2.1]; exact List.mem_of_mem_drop hc)
            clear b48 hone1 hem t18 d0 d1 d2 d3 d4 d5 e0 e1 e2 e3 e4 e5 hby
            have HM : Hid (10 ^ 0 = 1) := rfl
            go_loopw [6, 108] (fun n q wr => ∃ (m qn : Nat), qn ≤ a.size ∧ n = .int .i64 (m : Int) ∧ q = .int .i64 (qn : Int) ∧ wr = wc ∧ Hid (m < 10 ^ qn ∧ valR 0 a.data.toList = valR m (sfx a qn))) (fun _ q _ => a.size - (intOf q).toNat)
            case atStart => exact ⟨0, 0, Nat.zero_le _, by first | rfl | trivial, by first | rfl | trivial, by first | rfl | trivial, by decide, rfl⟩
            case round =>
              obtain ⟨m, q, hq, rfl, rfl, rfl, hQ⟩ := hrel
              have hq0 : (0 : Int) ≤ (q : Int) := by omega
              have hm0 : (0 : Int) ≤ (m : Int) := by omega
              have HM2 : Hid (m < 1000000000000000000) := by
                have h1 := hQ.out.1
                have h2 : 10 ^ q ≤ 10 ^ 18 := Nat.pow_le_pow_right (by omega) (by have := HS18.out; omega)
                unfold Hid
                omega
              by_cases hlt : q < a.size
              · have hby := run_byte a q hlt
                obtain ⟨y, hy⟩ : ∃ y, y = byteAt a q := ⟨_, rfl⟩
                have HSY : Hid (sfx a q = y :: sfx a (q + 1)) := by rw [hy]; exact sfx_cons hlt
                rw [← hy] at hby
                have hltI : (q : Int) < (a.size : Int) := by omega
                obtain ⟨y1, y2⟩ := dg_nat (HDG.out q y (by rw [HSY.out]; exact List.mem_cons_self ..))
                have hqI : (q : Int) < 18 := by have := HS18.out; omega
                have hmI : (m : Int) < 100000000000000000 := by
                  have h1 := hQ.out.1
                  have h2 : 10 ^ q ≤ 10 ^ 17 := Nat.pow_le_pow_right (by omega) (by omega)
                  omega
                have w1 : IntKind.u8.wrap ((y.toNat : Int) - 48) = (y.toNat : Int) - 48 := IntWalk.u8_in _ (by omega)
                have w2 : IntKind.i64.wrap ((y.toNat : Int) - 48) = (y.toNat : Int) - 48 := IntWalk.i64_in _ (by omega)
                have w3 : IntKind.i64.wrap (10 * (m : Int)) = 10 * (m : Int) := IntWalk.i64_in _ (by omega)
                have w4 : IntKind.i64.wrap (10 * (m : Int) + ((y.toNat : Int) - 48)) = 10 * (m : Int) + ((y.toNat : Int) - 48) := IntWalk.i64_in _ (by omega)
                have HY := Lib.hid (And.intro y1 y2)
                clear hy y1 y2
                go_wp2_with fail
                go_roundw
                case rel =>
                  refine ⟨10 * m + (y.toNat - 48), q + 1, hlt, ?_, ?_, by first | rfl | trivial, ?_, ?_⟩
                  · congr 1; have := HY.out; omega
                  · congr 1
                  · rw [Nat.pow_succ]; have h1 := hQ.out.1; have := HY.out; omega
                  · rw [hQ.out.2, HSY.out]; rfl
                case measure => simp [intOf]; omega
              · have bl : decide ((q : Int) < (a.size : Int)) = false := decide_eq_false (by omega)
                have bl2 : decide (q < a.size) = false := decide_eq_false hlt
                have HVL : Hid (valR 0 (digs (sfx s f)) = m) := by
                  unfold Hid
                  rw [hR.out.2.1, hQ.out.2, sfx_end (s := a) (i := q) (by omega)]
                  rfl
                have hneg : IntKind.i64.wrap (-(m : Int)) = -(m : Int) := IntWalk.i64_in _ (by have := HM2.out; omega)
                obtain ⟨d0, d1, d2, d3, d4, d5⟩ := HV.out.cells
                have e0 := HV.out.free 0
                have e1 := HV.out.free 1
                have e2 := HV.out.free 2
                have e3 := HV.out.free 3
                have e4 := HV.out.free 4
                have e5 := HV.out.free 5
                clear hlt
                go_wp2_with fail
                refine bodyPost_ret (results_v rfl _ _ g rfl (HC2.out 3 false ((m : Int)) ⟨#[]⟩ nilS nilS).1) rfl ?_
                exact ⟨j, (HC2.out _ _ _ _ _ _).2.1, (HC2.out _ _ _ _ _ _).2.2, hjs, .inl ⟨_, by rw [HE.out, HVL.out]; rfl, by unfold I64; have := HM2.out; omega, rfl⟩⟩
          · have hone1 : (a.toList == [48]) = false := by rw [beq_eq_false_iff_ne]; exact hone
            have HE : Hid (numS (sfx s i) = .error 3) := by
              unfold Hid
              rw [HD.out.2]
              unfold numD
              refine if_pos (.inr ⟨by rw [hR.out.2.1, HSA.out, hx48]; rfl, .inl ?_⟩)
              rw [HD.out.1]
              have h1 := size_list a
              have h2 := HA0.out
              have h3 : a.size ≠ 1 := fun e => by
                rw [HSA.out, List.length_cons] at h1
                have h4 : sfx a 1 = [] := List.length_eq_zero_iff.1 (by omega)
                apply hone
                rw [ByteArray.toList_eq, HSA.out, h4, hx48]
              omega
            clear hx48 hone
            go_wp2_with fail
            refine bodyPost_ret (results_v rfl _ _ g rfl (HC2.out 0 false 0 ⟨#[]⟩ nilS nilS).1) rfl ?_
            exact ⟨j, (HC2.out _ _ _ _ _ _).2.1, (HC2.out _ _ _ _ _ _).2.2, hjs, .inr ⟨3, HE.out, by decide, rfl⟩⟩
        · have b48 : ((x.toNat : Int) == 48) = false := by rw [show (48 : Int) = ((48 : Nat) : Int) from rfl, byte_lit x 48 (by omega)]; simp [hx48]
          have hone1 : (a.toList == [48]) = false := by
            rw [beq_eq_false_iff_ne, ByteArray.toList_eq, HSA.out]
            intro e
            injection e with e _
            exact hx48 e
          have HNZ : Hid (¬ (digs (sfx s f) = [] ∨ (digs (sfx s f)).head? = some 48 ∧ (1 < (digs (sfx s f)).length ∨ false = true))) := by
            rintro (e | e)
            · have h2 := HA0.out
              have h3 := HD.out.1
              rw [e] at h3
              exact h2 h3.symm
            · have h3 := e.1
              rw [hR.out.2.1, HSA.out] at h3
              injection h3 with h3
              exact hx48 h3
          clear hx48
          by_cases h18 : 18 < a.size
          · have t18 : decide ((18 : Int) < (a.size : Int)) = true := decide_eq_true (by omega)
            have HE : Hid (numS (sfx s i) = .error 2) := by
              unfold Hid
              rw [HD.out.2]
              unfold numD
              rw [if_neg HNZ.out, if_pos (by rw [HD.out.1]; exact h18)]
            clear h18
            go_wp2_with fail
            refine bodyPost_ret (results_v rfl _ _ g rfl (HC2.out 0 false 0 ⟨#[]⟩ nilS nilS).1) rfl ?_
            exact ⟨j, (HC2.out _ _ _ _ _ _).2.1, (HC2.out _ _ _ _ _ _).2.2, hjs, .inr ⟨2, HE.out, by decide, rfl⟩⟩
          · have t18 : decide ((18 : Int) < (a.size : Int)) = false := decide_eq_false (by omega)
            have HE : Hid (numS (sfx s i) = .ok ((if false then -(valR 0 (digs (sfx s f)) : Int) else (valR 0 (digs (sfx s f)) : Int)), sfx s j)) := by
              unfold Hid
              rw [HD.out.2]
              unfold numD
              rw [if_neg HNZ.out, if_neg (by rw [HD.out.1]; exact h18), hR.out.2.2.1]
            have HS18 : Hid (a.size ≤ 18) := by unfold Hid; omega
            clear h18
            go_wp2_with fail
            have HDG : Hid (∀ q, ∀ c ∈ sfx a q, isDg c = true) := fun q c hc => digs_all (sfx s f) c (by rw [hR.out.2.1]; exact List.mem_of_mem_drop hc)
            clear b48 hone1 hem t18 d0 d1 d2 d3 d4 d5 e0 e1 e2 e3 e4 e5 hby
            have HM : Hid (10 ^ 0 = 1) := rfl
            go_loopw [6, 108] (fun n q wr => ∃ (m qn : Nat), qn ≤ a.size ∧ n = .int .i64 (m : Int) ∧ q = .int .i64 (qn : Int) ∧ wr = wc ∧ Hid (m < 10 ^ qn ∧ valR 0 a.data.toList = valR m (sfx a qn))) (fun _ q _ => a.size - (intOf q).toNat)
            case atStart => exact ⟨0, 0, Nat.zero_le _, by first | rfl | trivial, by first | rfl | trivial, by first | rfl | trivial, by decide, rfl⟩
            case round =>
              obtain ⟨m, q, hq, rfl, rfl, rfl, hQ⟩ := hrel
              have hq0 : (0 : Int) ≤ (q : Int) := by omega
              have hm0 : (0 : Int) ≤ (m : Int) := by omega
              have HM2 : Hid (m < 1000000000000000000) := by
                have h1 := hQ.out.1
                have h2 : 10 ^ q ≤ 10 ^ 18 := Nat.pow_le_pow_right (by omega) (by have := HS18.out; omega)
                unfold Hid
                omega
              by_cases hlt : q < a.size
              · have hby := run_byte a q hlt
                obtain ⟨y, hy⟩ : ∃ y, y = byteAt a q := ⟨_, rfl⟩
                have HSY : Hid (sfx a q = y :: sfx a (q + 1)) := by rw [hy]; exact sfx_cons hlt
                rw [← hy] at hby
                have hltI : (q : Int) < (a.size : Int) := by omega
                obtain ⟨y1, y2⟩ := dg_nat (HDG.out q y (by rw [HSY.out]; exact List.mem_cons_self ..))
                have hqI : (q : Int) < 18 := by have := HS18.out; omega
                have hmI : (m : Int) < 100000000000000000 := by
                  have h1 := hQ.out.1
                  have h2 : 10 ^ q ≤ 10 ^ 17 := Nat.pow_le_pow_right (by omega) (by omega)
                  omega
                have w1 : IntKind.u8.wrap ((y.toNat : Int) - 48) = (y.toNat : Int) - 48 := IntWalk.u8_in _ (by omega)
                have w2 : IntKind.i64.wrap ((y.toNat : Int) - 48) = (y.toNat : Int) - 48 := IntWalk.i64_in _ (by omega)
                have w3 : IntKind.i64.wrap (10 * (m : Int)) = 10 * (m : Int) := IntWalk.i64_in _ (by omega)
                have w4 : IntKind.i64.wrap (10 * (m : Int) + ((y.toNat : Int) - 48)) = 10 * (m : Int) + ((y.toNat : Int) - 48) := IntWalk.i64_in _ (by omega)
                have HY := Lib.hid (And.intro y1 y2)
                clear hy y1 y2
                go_wp2_with fail
                go_roundw
                case rel =>
                  refine ⟨10 * m + (y.toNat - 48), q + 1, hlt, ?_, ?_, by first | rfl | trivial, ?_, ?_⟩
                  · congr 1; have := HY.out; omega
                  · congr 1
                  · rw [Nat.pow_succ]; have h1 := hQ.out.1; have := HY.out; omega
                  · rw [hQ.out.2, HSY.out]; rfl
                case measure => simp [intOf]; omega
              · have bl : decide ((q : Int) < (a.size : Int)) = false := decide_eq_false (by omega)
                have bl2 : decide (q < a.size) = false := decide_eq_false hlt
                have HVL : Hid (valR 0 (digs (sfx s f)) = m) := by
                  unfold Hid
                  rw [hR.out.2.1, hQ.out.2, sfx_end (s := a) (i := q) (by omega)]
                  rfl
                have hneg : IntKind.i64.wrap (-(m : Int)) = -(m : Int) := IntWalk.i64_in _ (by have := HM2.out; omega)
                obtain ⟨d0, d1, d2, d3, d4, d5⟩ := HV.out.cells
                have e0 := HV.out.free 0
                have e1 := HV.out.free 1
                have e2 := HV.out.free 2
                have e3 := HV.out.free 3
                have e4 := HV.out.free 4
                have e5 := HV.out.free 5
                clear hlt
                go_wp2_with fail
                refine bodyPost_ret (results_v rfl _ _ g rfl (HC2.out 3 false ((m : Int)) ⟨#[]⟩ nilS nilS).1) rfl ?_
                exact ⟨j, (HC2.out _ _ _ _ _ _).2.1, (HC2.out _ _ _ _ _ _).2.2, hjs, .inl ⟨_, by rw [HE.out, HVL.out]; rfl, by unfold I64; have := HM2.out; omega, rfl⟩⟩
end Go.Proofs.YtnccefeehkcneaaGreatDoor.Jm
namespace Go.Proofs.YtnccefeehkcneaaGreatDoor.Jm
open Go Go.RowKit Go.Proofs.YtnccefeehkcneaaGreatDoor.Sx Go.Proofs.YtnccefeehkcneaaGreatDoor.Js Go.Proofs.YtnccefeehkcneaaGreatDoor.Gr
def startL : Tx := [91, 123, 34, 45, 116, 102, 110, 48, 49, 50, 51, 52, 53, 54, 55, 56, 57]
set_option maxRecDepth 100000 in
theorem starts_fin : ∀ x : Fin 256, decide (0 ≤ Lib.indexByte startL (UInt8.ofNat x.val)) = starts (UInt8.ofNat x.val) := by decide
theorem VIn.lt {w : World} {g : Nat} {K : Int} {B : Bool} {n : Int} {s : ByteArray} {a l : Value} (h : VIn w g K B n s a l) : g < w.heap.size := heap_lt h
theorem starts_idx (c : UInt8) : decide (0 ≤ Lib.indexByte startL c) = starts c := by
  have h := starts_fin ⟨c.toNat, c.toNat_lt⟩
  simpa using h
/-- What a reader of the reference gives where the plain law gives T. -/
def RRes (w : World) (k : Nat) (s : ByteArray) (T : Res (J × Nat × Tx)) (e : Ending) (w' : World) : Prop :=
  w.grownBy w' (some k) ∧ ∃ K B n sv A1 n1 c1 A2 n2 c2 er, e = .returned (.tuple #[.agg (v6 K B n sv (.slice A1 n1 c1) (.slice A2 n2 c2)).toArray, .int .i64 er]) ∧
    ((er = 0 ∧ ∃ j many p, T = .ok (j, many, sfx s p) ∧ QIn w' k s p many ∧ p ≤ s.size ∧ RV (fun b => w.heap.size ≤ b) w' j (v6 K B n sv (.slice A1 n1 c1) (.slice A2 n2 c2))) ∨ (er ≠ 0 ∧ T = .error er))
set_option maxRecDepth 100000 in
set_option maxHeartbeats 8000000 in
theorem rvalue_any (k : Nat) (s : ByteArray) (i many d : Nat) (deep : Int) (w : World) (h : QIn w k s i many) (hs : s.size ≤ 2000) (hi : i ≤ s.size) (hd : deep = 10 - (d : Int)) (hmI : many ≤ 200) (hdI : d ≤ 10)
    (hL : ∀ (d' : Nat) (W : World) (j : Nat) (r : Tx), d = d' + 1 → many + 1 ≤ 200 → QIn W k s j (many + 1) → j ≤ s.size → sfx s j = 91 :: r → skipW (sfx s i) = 91 :: r → Calls Tryz.prog 127 #[.pointer (some ⟨k, 0, none⟩), .int .i64 deep] W (RRes W k s (valueS d many (sfx s i))))
    (hO : ∀ (d' : Nat) (W : World) (j : Nat) (r : Tx), d = d' + 1 → many + 1 ≤ 200 → QIn W k s j (many + 1) → j ≤ s.size → sfx s j = 123 :: r → skipW (sfx s i) = 123 :: r → Calls Tryz.prog 128 #[.pointer (some ⟨k, 0, none⟩), .int .i64 deep] W (RRes W k s (valueS d many (sfx s i)))) :
    Calls Tryz.prog 78 #[.pointer (some ⟨k, 0, none⟩), .int .i64 deep] w (RRes w k s (valueS d many (sfx s i))) := by
  have H := Lib.hid h
  have HLO := Lib.hid (And.intro hL hO)
  have HDP := Lib.hid (And.intro hd hdI)
  clear h hL hO hd hdI
  obtain ⟨g, hg⟩ : ∃ g, g = w.heap.size := ⟨_, rfl⟩
  obtain ⟨w1, hw1⟩ : ∃ w1, w1 = w.alloc (.cells #[.int .i64 0, .bool false, .int .i64 0, .string ⟨#[]⟩, nilS, nilS] vT (0, 0)) := ⟨_, rfl⟩
  have HX1 : Hid (Ext w w1) := by rw [hw1]; exact new_ext _ _
  have HR1 : Hid (VIn w1 g 0 false 0 ⟨#[]⟩ nilS nilS) := by rw [hw1]; exact heap_new hg
  have HGW : Hid (w.heap.size ≤ g) := by rw [hg]; exact Nat.le_refl _
  have H1 := Lib.hid (H.out.ext HX1.out)
  have HC : Hid (∀ W, w1.grownBy W (some k) → VIn W g 0 false 0 ⟨#[]⟩ nilS nilS ∧ ∀ K B n t a l, VIn (putV W g K B n t a l) g K B n t a l ∧ w.grownBy (putV W g K B n t a l) (some k) ∧ ∀ j m, QIn W k s j m → QIn (putV W g K B n t a l) k s j m) := fun W hW => by
    have hkg : k ≠ g := by have h1 := H.out.lt; have h2 := HGW.out; omega
    have hv := HR1.out.kept hW (fun e => hkg (by injection e))
    exact ⟨hv, fun K B n t a l => ⟨put_in K B n t a l hv, put_grown K B n t a l (grown_trans (grown_ext HX1.out) hW) HGW.out, fun j m hQ => (put_heap W K B n t a l k hkg).trans hQ⟩⟩
  have CL : Hid (Calls Tryz.prog 79 #[.pointer (some ⟨k, 0, none⟩)] w1 (LookPost w1 k s i many)) := look_any k s i many w1 H1.out hs hi
  go_enter Tryz.func78, Tryz.ntmps78
  go_wp2_with fail
  rw [← hw1, ← hg]
  clear hw1 hg
  refine Calls.mono CL.out ?_
  rintro e w2 ⟨j, rfl, hq2, hij, hjs, hsx, hg2⟩
  have HQ2 := Lib.hid hq2
  have HG2 := Lib.hid hg2
  have HSX := Lib.hid hsx
  have HC2 := Lib.hid ((HC.out w2 hg2).2)
  have HV2 := Lib.hid ((HC.out w2 hg2).1)
  clear hq2 hg2 hsx
  cases hsk : skipW (sfx s i) with
  | nil =>
    have HE : Hid (valueS d many (sfx s i) = .error 3) := by
      unfold Hid
      rw [valueS, hsk]
    obtain ⟨d0, d1, d2, d3, d4, d5⟩ := HV2.out.cells
    have e0 := HV2.out.free 0
    have e1 := HV2.out.free 1
    have e2 := HV2.out.free 2
    have e3 := HV2.out.free 3
    have e4 := HV2.out.free 4
    have e5 := HV2.out.free 5
    have hh : headI ([] : Tx) = -1 := rfl
    rw [hh]
    clear hsk
    go_wp2_with fail
    refine bodyPost_ret (results_v rfl _ _ g rfl (HC2.out 0 false 0 ⟨#[]⟩ nilS nilS).1) rfl ?_
    exact ⟨(HC2.out 0 false 0 ⟨#[]⟩ nilS nilS).2.1, _, _, _, _, _, _, _, _, _, _, _, rfl, .inr ⟨by decide, HE.out⟩⟩
  | cons c r =>
    have hh : headI (c :: r) = (c.toNat : Int) := rfl
    rw [hh]
    have HSK := Lib.hid hsk
    have CC : Hid (∀ wk, Calls Tryz.prog 125 #[.string ⟨#[91, 123, 34, 45, 116, 102, 110, 48, 49, 50, 51, 52, 53, 54, 55, 56, 57]⟩, .string (sgn c)] wk fun e w' => e = .returned (.bool (starts c)) ∧ wk = w') := fun wk => by
      refine (Tryz.strings_Contains_one ⟨#[91, 123, 34, 45, 116, 102, 110, 48, 49, 50, 51, 52, 53, 54, 55, 56, 57]⟩ c wk).mono fun e w' ⟨h1, h2⟩ => ⟨?_, h2.symm⟩
      rw [h1, ← starts_idx]
      rfl
    have bneg : decide ((c.toNat : Int) < 0) = false := decide_eq_false (by omega)
    clear hsk
    cases hst : starts c with
    | false =>
      have HE : Hid (valueS d many (sfx s i) = .error 3) := by
        unfold Hid
        rw [value_eq d many _ HSK.out, if_pos hst]
      have CC2 : Hid (∀ wk, Calls Tryz.prog 125 #[.string ⟨#[91, 123, 34, 45, 116, 102, 110, 48, 49, 50, 51, 52, 53, 54, 55, 56, 57]⟩, .string (sgn c)] wk fun e w' => e = .returned (.bool false) ∧ wk = w') := by rw [← hst]; exact CC
      clear hst
      go_upto_region 3 with (first
        | (go_at_call 126; refine (chr_at _ c rfl _).mono ?_; rintro e w3 ⟨rfl, x3⟩)
        | (go_at_call 125; refine (CC2.out _).mono ?_; rintro e w4 ⟨rfl, rfl⟩))
      have HG3 := Lib.hid (grown_trans HG2.out (grown_ext (row := some k) x3))
      have HV3 := Lib.hid (HC.out w3 HG3.out)
      clear x3
      obtain ⟨d0, d1, d2, d3, d4, d5⟩ := HV3.out.1.cells
      have e0 := HV3.out.1.free 0
      have e1 := HV3.out.1.free 1
      have e2 := HV3.out.1.free 2
      have e3 := HV3.out.1.free 3
      have e4 := HV3.out.1.free 4
      have e5 := HV3.out.1.free 5
      go_wp2_with fail
      refine bodyPost_ret (results_v rfl _ _ g rfl (HV3.out.2 0 false 0 ⟨#[]⟩ nilS nilS).1) rfl ?_
      exact ⟨(HV3.out.2 0 false 0 ⟨#[]⟩ nilS nilS).2.1, _, _, _, _, _, _, _, _, _, _, _, rfl, .inr ⟨by decide, HE.out⟩⟩
    | true =>
      have CC2 : Hid (∀ wk, Calls Tryz.prog 125 #[.string ⟨#[91, 123, 34, 45, 116, 102, 110, 48, 49, 50, 51, 52, 53, 54, 55, 56, 57]⟩, .string (sgn c)] wk fun e w' => e = .returned (.bool true) ∧ wk = w') := by rw [← hst]; exact CC
      have HST := Lib.hid hst
      clear hst
      go_upto_region 4 with (first
        | (go_at_call 126; refine (chr_at _ c rfl _).mono ?_; rintro e w3 ⟨rfl, x3⟩)
        | (go_at_call 125; refine (CC2.out _).mono ?_; rintro e w4 ⟨rfl, rfl⟩))
      have HQ3 := Lib.hid (HQ2.out.ext x3)
      have HG3 := Lib.hid (grown_trans HG2.out (grown_ext (row := some k) x3))
      clear x3
      obtain ⟨z0, z1, z2⟩ := HQ3.out.cells
      have f2 := HQ3.out.free 2
      go_upto_region 5 with (fail)
      generalize hW : World.setCell w3 _ _ = w4
      have HQ4 : Hid (QIn w4 k s j (many + 1)) := by rw [← hW]; exact HQ3.out.setMany _ _ (by omega)
      have HG4 : Hid (w1.grownBy w4 (some k)) := by rw [← hW]; exact grown_trans HG3.out (grown_set _ k 2 _)
      have HV4 := Lib.hid (HC.out w4 HG4.out)
      clear hW z0 z1 z2 f2
      obtain ⟨z0, z1, z2⟩ := HQ4.out.cells
      rw [show ((many + 1 : Nat) : Int) = (many : Int) + 1 by omega] at z2
      by_cases hbig : 200 < many + 1
      · have HE : Hid (valueS d many (sfx s i) = .error 2) := by
          unfold Hid
          rw [value_eq d many _ HSK.out, if_neg (by rw [HST.out]; simp), if_pos hbig]
        have b200 : decide ((200 : Int) < (many : Int) + 1) = true := decide_eq_true (by omega)
        clear hbig
        obtain ⟨d0, d1, d2, d3, d4, d5⟩ := HV4.out.1.cells
        have e0 := HV4.out.1.free 0
        have e1 := HV4.out.1.free 1
        have e2 := HV4.out.1.free 2
        have e3 := HV4.out.1.free 3
        have e4 := HV4.out.1.free 4
        have e5 := HV4.out.1.free 5
        go_wp2_with fail
        refine bodyPost_ret (results_v rfl _ _ g rfl (HV4.out.2 0 false 0 ⟨#[]⟩ nilS nilS).1) rfl ?_
        exact ⟨(HV4.out.2 0 false 0 ⟨#[]⟩ nilS nilS).2.1, _, _, _, _, _, _, _, _, _, _, _, rfl, .inr ⟨by decide, HE.out⟩⟩
      · have b200 : decide ((200 : Int) < (many : Int) + 1) = false := decide_eq_false (by omega)
        have HMB : Hid (¬ 200 < many + 1) := hbig
        clear hbig
        go_upto_region 7 with (fail)
        clear b200 z0 z1 z2
        have HS4 : Hid (sfx s j = c :: r) := HSX.out.trans HSK.out
        by_cases h91 : c = 91
        · subst h91
          cases d with
          | zero =>
            have HE : Hid (valueS 0 many (sfx s i) = .error 4) := by
              unfold Hid
              rw [value_eq 0 many _ HSK.out, if_neg (by decide), if_neg HMB.out, if_pos rfl]
            obtain rfl : deep = 10 := by have := HDP.out; omega
            obtain ⟨d0, d1, d2, d3, d4, d5⟩ := HV4.out.1.cells
            have e0 := HV4.out.1.free 0
            have e1 := HV4.out.1.free 1
            have e2 := HV4.out.1.free 2
            have e3 := HV4.out.1.free 3
            have e4 := HV4.out.1.free 4
            have e5 := HV4.out.1.free 5
            go_wp2_with fail
            refine bodyPost_ret (results_v rfl _ _ g rfl (HV4.out.2 0 false 0 ⟨#[]⟩ nilS nilS).1) rfl ?_
            exact ⟨(HV4.out.2 0 false 0 ⟨#[]⟩ nilS nilS).2.1, _, _, _, _, _, _, _, _, _, _, _, rfl, .inr ⟨by decide, HE.out⟩⟩
          | succ d' =>
            have bd : (deep == 10) = false := by rw [beq_eq_false_iff_ne]; have := HDP.out; omega
            have CA := Lib.hid (HLO.out.1 d' w4 j r rfl (Nat.le_of_not_lt HMB.out) HQ4.out hjs HS4.out HSK.out)
            go_wp2_with fail
            refine Calls.mono CA.out ?_
            rintro e w5 ⟨hg5, K, B, n, sv, A1, n1, c1, A2, n2, c2, er, rfl, hres⟩
            have HG5 := Lib.hid (grown_trans HG4.out hg5)
            have HRES := Lib.hid hres
            have HV5 := Lib.hid (HC.out w5 HG5.out)
            clear hg5 hres bd
            obtain ⟨d0, d1, d2, d3, d4, d5⟩ := HV5.out.1.cells
            have e0 := HV5.out.1.free 0
            have e1 := HV5.out.1.free 1
            have e2 := HV5.out.1.free 2
            have e3 := HV5.out.1.free 3
            have e4 := HV5.out.1.free 4
            have e5 := HV5.out.1.free 5
            unfold v6
            go_wp2_with fail
            refine bodyPost_ret (results_v rfl _ _ g rfl (HV5.out.2 K B n sv (.slice A1 n1 c1) (.slice A2 n2 c2)).1) rfl ?_
            have HP := HV5.out.2 K B n sv (.slice A1 n1 c1) (.slice A2 n2 c2)
            refine ⟨HP.2.1, K, B, n, sv, A1, n1, c1, A2, n2, c2, er, rfl, ?_⟩
            rcases HRES.out with ⟨h1, jj, mm, p, h2, h3, h4, h5⟩ | h1
            · exact .inl ⟨h1, jj, mm, p, h2, HP.2.2 _ _ h3, h4, RV.keep (w := w5) (F := fun b => w4.heap.size ≤ b) (fun b hb _ => put_heap w5 K B n sv _ _ b (fun e => by have h6 := HV4.out.1.lt; omega)) (fun b hb _ => by have h6 := HG4.out.size; have h7 := HX1.out.size; omega) _ _ h5⟩
            · exact .inr h1
        · by_cases h123 : c = 123
          · subst h123
            cases d with
            | zero =>
              have HE : Hid (valueS 0 many (sfx s i) = .error 4) := by
                unfold Hid
                rw [value_eq 0 many _ HSK.out, if_neg (by decide), if_neg HMB.out, if_neg (by decide), if_pos rfl]
              obtain rfl : deep = 10 := by have := HDP.out; omega
              obtain ⟨d0, d1, d2, d3, d4, d5⟩ := HV4.out.1.cells
              have e0 := HV4.out.1.free 0
              have e1 := HV4.out.1.free 1
              have e2 := HV4.out.1.free 2
              have e3 := HV4.out.1.free 3
              have e4 := HV4.out.1.free 4
              have e5 := HV4.out.1.free 5
              go_wp2_with fail
              refine bodyPost_ret (results_v rfl _ _ g rfl (HV4.out.2 0 false 0 ⟨#[]⟩ nilS nilS).1) rfl ?_
              exact ⟨(HV4.out.2 0 false 0 ⟨#[]⟩ nilS nilS).2.1, _, _, _, _, _, _, _, _, _, _, _, rfl, .inr ⟨by decide, HE.out⟩⟩
            | succ d' =>
              have bd : (deep == 10) = false := by rw [beq_eq_false_iff_ne]; have := HDP.out; omega
              have CA := Lib.hid (HLO.out.2 d' w4 j r rfl (Nat.le_of_not_lt HMB.out) HQ4.out hjs HS4.out HSK.out)
              go_wp2_with fail
              refine Calls.mono CA.out ?_
              rintro e w5 ⟨hg5, K, B, n, sv, A1, n1, c1, A2, n2, c2, er, rfl, hres⟩
              have HG5 := Lib.hid (grown_trans HG4.out hg5)
              have HRES := Lib.hid hres
              have HV5 := Lib.hid (HC.out w5 HG5.out)
              clear hg5 hres bd
              obtain ⟨d0, d1, d2, d3, d4, d5⟩ := HV5.out.1.cells
              have e0 := HV5.out.1.free 0
              have e1 := HV5.out.1.free 1
              have e2 := HV5.out.1.free 2
              have e3 := HV5.out.1.free 3
              have e4 := HV5.out.1.free 4
              have e5 := HV5.out.1.free 5
              unfold v6
              go_wp2_with fail
              refine bodyPost_ret (results_v rfl _ _ g rfl (HV5.out.2 K B n sv (.slice A1 n1 c1) (.slice A2 n2 c2)).1) rfl ?_
              have HP := HV5.out.2 K B n sv (.slice A1 n1 c1) (.slice A2 n2 c2)
              refine ⟨HP.2.1, K, B, n, sv, A1, n1, c1, A2, n2, c2, er, rfl, ?_⟩
              rcases HRES.out with ⟨h1, jj, mm, p, h2, h3, h4, h5⟩ | h1
              · exact .inl ⟨h1, jj, mm, p, h2, HP.2.2 _ _ h3, h4, RV.keep (w := w5) (F := fun b => w4.heap.size ≤ b) (fun b hb _ => put_heap w5 K B n sv _ _ b (fun e => by have h6 := HV4.out.1.lt; omega)) (fun b hb _ => by have h6 := HG4.out.size; have h7 := HX1.out.size; omega) _ _ h5⟩
              · exact .inr h1
          · have HVS : Hid (valueS d many (sfx s i) = match plainS (c :: r) with | .error e => .error e | .ok (j, r2) => .ok (j, many + 1, r2)) := by
              unfold Hid
              rw [value_eq d many _ HSK.out, if_neg (by rw [HST.out]; simp), if_neg HMB.out, if_neg h91, if_neg h123]
              rfl
            have hst4 := sfx_step HS4.out
            have hjl : j < s.size := hst4.1
            have HR4 : Hid (sfx s (j + 1) = r) := hst4.2.1
            clear hst4
            by_cases h34 : c = 34
            · subst h34
              have CA := Lib.hid (rtext_any k s j (many + 1) w4 HQ4.out hs hjl)
              clear h91 h123
              go_wp2_with fail
              refine Calls.mono CA.out ?_
              rintro e w5 ⟨p, hg5, hq5, hp5, ⟨t, ht, rfl⟩ | ⟨ht, rfl⟩⟩
              · have HE : Hid (valueS d many (sfx s i) = .ok (.text t, many + 1, sfx s p)) := by
                  unfold Hid
                  rw [HVS.out, plainS_eq, if_pos rfl, ← HR4.out, ht]
                clear ht
                have HG5 := Lib.hid (grown_trans HG4.out hg5)
                have HQ5 := Lib.hid (And.intro hq5 hp5)
                have HV5 := Lib.hid (HC.out w5 HG5.out)
                clear hg5 hq5 hp5
                obtain ⟨d0, d1, d2, d3, d4, d5⟩ := HV5.out.1.cells
                have e0 := HV5.out.1.free 0
                have e1 := HV5.out.1.free 1
                have e2 := HV5.out.1.free 2
                have e3 := HV5.out.1.free 3
                have e4 := HV5.out.1.free 4
                have e5 := HV5.out.1.free 5
                try unfold noV
                try unfold v6
                go_wp2_with fail
                refine bodyPost_ret (results_v rfl _ _ g rfl (HV5.out.2 4 false 0 (bx t) nilS nilS).1) rfl ?_
                have HP := HV5.out.2 4 false 0 (bx t) nilS nilS
                exact ⟨HP.2.1, _, _, _, _, _, _, _, _, _, _, _, rfl, .inl ⟨rfl, _, _, p, HE.out, HP.2.2 _ _ HQ5.out.1, HQ5.out.2, RV_text.2 rfl⟩⟩
              · have HE : Hid (valueS d many (sfx s i) = .error 3) := by
                  unfold Hid
                  rw [HVS.out, plainS_eq, if_pos rfl, ← HR4.out, ht]
                clear ht
                have HG5 := Lib.hid (grown_trans HG4.out hg5)
                have HQ5 := Lib.hid (And.intro hq5 hp5)
                have HV5 := Lib.hid (HC.out w5 HG5.out)
                clear hg5 hq5 hp5
                obtain ⟨d0, d1, d2, d3, d4, d5⟩ := HV5.out.1.cells
                have e0 := HV5.out.1.free 0
                have e1 := HV5.out.1.free 1
                have e2 := HV5.out.1.free 2
                have e3 := HV5.out.1.free 3
                have e4 := HV5.out.1.free 4
                have e5 := HV5.out.1.free 5
                try unfold noV
                try unfold v6
                go_wp2_with fail
                refine bodyPost_ret (results_v rfl _ _ g rfl (HV5.out.2 4 false 0 ⟨#[]⟩ nilS nilS).1) rfl ?_
                have HP := HV5.out.2 4 false 0 ⟨#[]⟩ nilS nilS
                exact ⟨HP.2.1, _, _, _, _, _, _, _, _, _, _, _, rfl, .inr ⟨by decide, HE.out⟩⟩
            · by_cases h110 : c = 110
              · subst h110
                have CA : Hid (Calls Tryz.prog 130 #[.pointer (some ⟨k, 0, none⟩), .string ⟨#[110, 117, 108, 108]⟩, .agg #[.int .i64 1, .bool false, .int .i64 0, .string ⟨#[]⟩, .slice none 0 0, .slice none 0 0]] w4 (RWordPost w4 k s j (many + 1) 1 false tN)) := rword_any k s j (many + 1) 1 false ⟨#[110, 117, 108, 108]⟩ w4 HQ4.out hs hjs (by decide)
                have HPL : Hid (plainS (sfx s j) = wordS tN .null (sfx s j)) := by
                  unfold Hid
                  rw [HS4.out]
                  rfl
                clear h91 h123
                go_wp2_with fail
                refine Calls.mono CA.out ?_
                rintro e w5 ⟨p, hg5, hq5, hp5, ⟨h1, h2, rfl⟩ | ⟨h1, rfl⟩⟩
                · have HE : Hid (valueS d many (sfx s i) = .ok (.null, many + 1, sfx s p)) := by
                    unfold Hid
                    rw [HVS.out, ← HS4.out, HPL.out]
                    unfold wordS
                    rw [if_pos h1, ← h2]
                  clear h1 h2
                  have HG5 := Lib.hid (grown_trans HG4.out hg5)
                  have HQ5 := Lib.hid (And.intro hq5 hp5)
                  have HV5 := Lib.hid (HC.out w5 HG5.out)
                  clear hg5 hq5 hp5
                  obtain ⟨d0, d1, d2, d3, d4, d5⟩ := HV5.out.1.cells
                  have e0 := HV5.out.1.free 0
                  have e1 := HV5.out.1.free 1
                  have e2 := HV5.out.1.free 2
                  have e3 := HV5.out.1.free 3
                  have e4 := HV5.out.1.free 4
                  have e5 := HV5.out.1.free 5
                  try unfold noV
                  try unfold v6
                  go_wp2_with fail
                  refine bodyPost_ret (results_v rfl _ _ g rfl (HV5.out.2 1 false 0 ⟨#[]⟩ nilS nilS).1) rfl ?_
                  have HP := HV5.out.2 1 false 0 ⟨#[]⟩ nilS nilS
                  exact ⟨HP.2.1, _, _, _, _, _, _, _, _, _, _, _, rfl, .inl ⟨rfl, _, _, p, HE.out, HP.2.2 _ _ HQ5.out.1, HQ5.out.2, RV_null.2 rfl⟩⟩
                · have HE : Hid (valueS d many (sfx s i) = .error 3) := by
                    unfold Hid
                    rw [HVS.out, ← HS4.out, HPL.out]
                    unfold wordS
                    rw [if_neg (by rw [h1]; simp)]
                  clear h1
                  have HG5 := Lib.hid (grown_trans HG4.out hg5)
                  have HQ5 := Lib.hid (And.intro hq5 hp5)
                  have HV5 := Lib.hid (HC.out w5 HG5.out)
                  clear hg5 hq5 hp5
                  obtain ⟨d0, d1, d2, d3, d4, d5⟩ := HV5.out.1.cells
                  have e0 := HV5.out.1.free 0
                  have e1 := HV5.out.1.free 1
                  have e2 := HV5.out.1.free 2
                  have e3 := HV5.out.1.free 3
                  have e4 := HV5.out.1.free 4
                  have e5 := HV5.out.1.free 5
                  try unfold noV
                  try unfold v6
                  go_wp2_with fail
                  refine bodyPost_ret (results_v rfl _ _ g rfl (HV5.out.2 0 false 0 ⟨#[]⟩ nilS nilS).1) rfl ?_
                  have HP := HV5.out.2 0 false 0 ⟨#[]⟩ nilS nilS
                  exact ⟨HP.2.1, _, _, _, _, _, _, _, _, _, _, _, rfl, .inr ⟨by decide, HE.out⟩⟩
              · by_cases h116 : c = 116
                · subst h116
                  have CA : Hid (Calls Tryz.prog 130 #[.pointer (some ⟨k, 0, none⟩), .string ⟨#[116, 114, 117, 101]⟩, .agg #[.int .i64 2, .bool true, .int .i64 0, .string ⟨#[]⟩, .slice none 0 0, .slice none 0 0]] w4 (RWordPost w4 k s j (many + 1) 2 true tT)) := rword_any k s j (many + 1) 2 true ⟨#[116, 114, 117, 101]⟩ w4 HQ4.out hs hjs (by decide)
                  have HPL : Hid (plainS (sfx s j) = wordS tT (.bool true) (sfx s j)) := by
                    unfold Hid
                    rw [HS4.out]
                    rfl
                  clear h91 h123
                  go_wp2_with fail
                  refine Calls.mono CA.out ?_
                  rintro e w5 ⟨p, hg5, hq5, hp5, ⟨h1, h2, rfl⟩ | ⟨h1, rfl⟩⟩
                  · have HE : Hid (valueS d many (sfx s i) = .ok ((.bool true), many + 1, sfx s p)) := by
                      unfold Hid
                      rw [HVS.out, ← HS4.out, HPL.out]
                      unfold wordS
                      rw [if_pos h1, ← h2]
                    clear h1 h2
                    have HG5 := Lib.hid (grown_trans HG4.out hg5)
                    have HQ5 := Lib.hid (And.intro hq5 hp5)
                    have HV5 := Lib.hid (HC.out w5 HG5.out)
                    clear hg5 hq5 hp5
                    obtain ⟨d0, d1, d2, d3, d4, d5⟩ := HV5.out.1.cells
                    have e0 := HV5.out.1.free 0
                    have e1 := HV5.out.1.free 1
                    have e2 := HV5.out.1.free 2
                    have e3 := HV5.out.1.free 3
                    have e4 := HV5.out.1.free 4
                    have e5 := HV5.out.1.free 5
                    try unfold noV
                    try unfold v6
                    go_wp2_with fail
                    refine bodyPost_ret (results_v rfl _ _ g rfl (HV5.out.2 2 true 0 ⟨#[]⟩ nilS nilS).1) rfl ?_
                    have HP := HV5.out.2 2 true 0 ⟨#[]⟩ nilS nilS
                    exact ⟨HP.2.1, _, _, _, _, _, _, _, _, _, _, _, rfl, .inl ⟨rfl, _, _, p, HE.out, HP.2.2 _ _ HQ5.out.1, HQ5.out.2, RV_bool.2 rfl⟩⟩
                  · have HE : Hid (valueS d many (sfx s i) = .error 3) := by
                      unfold Hid
                      rw [HVS.out, ← HS4.out, HPL.out]
                      unfold wordS
                      rw [if_neg (by rw [h1]; simp)]
                    clear h1
                    have HG5 := Lib.hid (grown_trans HG4.out hg5)
                    have HQ5 := Lib.hid (And.intro hq5 hp5)
                    have HV5 := Lib.hid (HC.out w5 HG5.out)
                    clear hg5 hq5 hp5
                    obtain ⟨d0, d1, d2, d3, d4, d5⟩ := HV5.out.1.cells
                    have e0 := HV5.out.1.free 0
                    have e1 := HV5.out.1.free 1
                    have e2 := HV5.out.1.free 2
                    have e3 := HV5.out.1.free 3
                    have e4 := HV5.out.1.free 4
                    have e5 := HV5.out.1.free 5
                    try unfold noV
                    try unfold v6
                    go_wp2_with fail
                    refine bodyPost_ret (results_v rfl _ _ g rfl (HV5.out.2 0 false 0 ⟨#[]⟩ nilS nilS).1) rfl ?_
                    have HP := HV5.out.2 0 false 0 ⟨#[]⟩ nilS nilS
                    exact ⟨HP.2.1, _, _, _, _, _, _, _, _, _, _, _, rfl, .inr ⟨by decide, HE.out⟩⟩
                · by_cases h102 : c = 102
                  · subst h102
                    have CA : Hid (Calls Tryz.prog 130 #[.pointer (some ⟨k, 0, none⟩), .string ⟨#[102, 97, 108, 115, 101]⟩, .agg #[.int .i64 2, .bool false, .int .i64 0, .string ⟨#[]⟩, .slice none 0 0, .slice none 0 0]] w4 (RWordPost w4 k s j (many + 1) 2 false tF)) := rword_any k s j (many + 1) 2 false ⟨#[102, 97, 108, 115, 101]⟩ w4 HQ4.out hs hjs (by decide)
                    have HPL : Hid (plainS (sfx s j) = wordS tF (.bool false) (sfx s j)) := by
                      unfold Hid
                      rw [HS4.out]
                      rfl
                    clear h91 h123
                    go_wp2_with fail
                    refine Calls.mono CA.out ?_
                    rintro e w5 ⟨p, hg5, hq5, hp5, ⟨h1, h2, rfl⟩ | ⟨h1, rfl⟩⟩
                    · have HE : Hid (valueS d many (sfx s i) = .ok ((.bool false), many + 1, sfx s p)) := by
                        unfold Hid
                        rw [HVS.out, ← HS4.out, HPL.out]
                        unfold wordS
                        rw [if_pos h1, ← h2]
                      clear h1 h2
                      have HG5 := Lib.hid (grown_trans HG4.out hg5)
                      have HQ5 := Lib.hid (And.intro hq5 hp5)
                      have HV5 := Lib.hid (HC.out w5 HG5.out)
                      clear hg5 hq5 hp5
                      obtain ⟨d0, d1, d2, d3, d4, d5⟩ := HV5.out.1.cells
                      have e0 := HV5.out.1.free 0
                      have e1 := HV5.out.1.free 1
                      have e2 := HV5.out.1.free 2
                      have e3 := HV5.out.1.free 3
                      have e4 := HV5.out.1.free 4
                      have e5 := HV5.out.1.free 5
                      try unfold noV
                      try unfold v6
                      go_wp2_with fail
                      refine bodyPost_ret (results_v rfl _ _ g rfl (HV5.out.2 2 false 0 ⟨#[]⟩ nilS nilS).1) rfl ?_
                      have HP := HV5.out.2 2 false 0 ⟨#[]⟩ nilS nilS
                      exact ⟨HP.2.1, _, _, _, _, _, _, _, _, _, _, _, rfl, .inl ⟨rfl, _, _, p, HE.out, HP.2.2 _ _ HQ5.out.1, HQ5.out.2, RV_bool.2 rfl⟩⟩
                    · have HE : Hid (valueS d many (sfx s i) = .error 3) := by
                        unfold Hid
                        rw [HVS.out, ← HS4.out, HPL.out]
                        unfold wordS
                        rw [if_neg (by rw [h1]; simp)]
                      clear h1
                      have HG5 := Lib.hid (grown_trans HG4.out hg5)
                      have HQ5 := Lib.hid (And.intro hq5 hp5)
                      have HV5 := Lib.hid (HC.out w5 HG5.out)
                      clear hg5 hq5 hp5
                      obtain ⟨d0, d1, d2, d3, d4, d5⟩ := HV5.out.1.cells
                      have e0 := HV5.out.1.free 0
                      have e1 := HV5.out.1.free 1
                      have e2 := HV5.out.1.free 2
                      have e3 := HV5.out.1.free 3
                      have e4 := HV5.out.1.free 4
                      have e5 := HV5.out.1.free 5
                      try unfold noV
                      try unfold v6
                      go_wp2_with fail
                      refine bodyPost_ret (results_v rfl _ _ g rfl (HV5.out.2 0 false 0 ⟨#[]⟩ nilS nilS).1) rfl ?_
                      have HP := HV5.out.2 0 false 0 ⟨#[]⟩ nilS nilS
                      exact ⟨HP.2.1, _, _, _, _, _, _, _, _, _, _, _, rfl, .inr ⟨by decide, HE.out⟩⟩
                  · have hb : ∀ (m : Nat), m < 256 → c ≠ UInt8.ofNat m → ((c.toNat : Int) == (m : Int)) = false := fun m hm h => by rw [byte_lit c m hm]; simp [h]
                    have b91 : ((c.toNat : Int) == 91) = false := hb 91 (by omega) h91
                    have b123 : ((c.toNat : Int) == 123) = false := hb 123 (by omega) h123
                    have b34 : ((c.toNat : Int) == 34) = false := hb 34 (by omega) h34
                    have b110 : ((c.toNat : Int) == 110) = false := hb 110 (by omega) h110
                    have b116 : ((c.toNat : Int) == 116) = false := hb 116 (by omega) h116
                    have b102 : ((c.toNat : Int) == 102) = false := hb 102 (by omega) h102
                    have HPL : Hid (plainS (c :: r) = (numS (sfx s j)).map fun p => (.num p.1, p.2)) := by
                      unfold Hid
                      rw [plainS_eq, if_neg h34, if_neg h116, if_neg h102, if_neg h110, HS4.out]
                    have CA := Lib.hid (rnumber_any k s j (many + 1) w4 HQ4.out hs hjl)
                    clear hb h91 h123 h34 h110 h116 h102
                    go_wp2_with fail
                    refine Calls.mono CA.out ?_
                    rintro e w5 ⟨p, hg5, hq5, hp5, hways⟩
                    rcases hways with ⟨n, hn, hi64, rfl⟩ | ⟨er, hn, her, rfl⟩
                    · have HE : Hid (valueS d many (sfx s i) = .ok (.num n, many + 1, sfx s p) ∧ I64 n) := ⟨by rw [HVS.out, HPL.out, hn]; rfl, hi64⟩
                      clear hn hi64 b91 b123 b34 b110 b116 b102
                      have HG5 := Lib.hid (grown_trans HG4.out hg5)
                      have HQ5 := Lib.hid (And.intro hq5 hp5)
                      have HV5 := Lib.hid (HC.out w5 HG5.out)
                      clear hg5 hq5 hp5
                      obtain ⟨d0, d1, d2, d3, d4, d5⟩ := HV5.out.1.cells
                      have e0 := HV5.out.1.free 0
                      have e1 := HV5.out.1.free 1
                      have e2 := HV5.out.1.free 2
                      have e3 := HV5.out.1.free 3
                      have e4 := HV5.out.1.free 4
                      have e5 := HV5.out.1.free 5
                      try unfold noV
                      try unfold v6
                      go_wp2_with fail
                      refine bodyPost_ret (results_v rfl _ _ g rfl (HV5.out.2 3 false n ⟨#[]⟩ nilS nilS).1) rfl ?_
                      have HP := HV5.out.2 3 false n ⟨#[]⟩ nilS nilS
                      exact ⟨HP.2.1, _, _, _, _, _, _, _, _, _, _, _, rfl, .inl ⟨rfl, _, _, p, HE.out.1, HP.2.2 _ _ HQ5.out.1, HQ5.out.2, RV_num.2 ⟨rfl, HE.out.2⟩⟩⟩
                    · have HE : Hid (valueS d many (sfx s i) = .error er ∧ er ≠ 0) := ⟨by rw [HVS.out, HPL.out, hn]; rfl, her⟩
                      clear hn her b91 b123 b34 b110 b116 b102
                      have HG5 := Lib.hid (grown_trans HG4.out hg5)
                      have HQ5 := Lib.hid (And.intro hq5 hp5)
                      have HV5 := Lib.hid (HC.out w5 HG5.out)
                      clear hg5 hq5 hp5
                      obtain ⟨d0, d1, d2, d3, d4, d5⟩ := HV5.out.1.cells
                      have e0 := HV5.out.1.free 0
                      have e1 := HV5.out.1.free 1
                      have e2 := HV5.out.1.free 2
                      have e3 := HV5.out.1.free 3
                      have e4 := HV5.out.1.free 4
                      have e5 := HV5.out.1.free 5
                      try unfold noV
                      try unfold v6
                      go_wp2_with fail
                      refine bodyPost_ret (results_v rfl _ _ g rfl (HV5.out.2 0 false 0 ⟨#[]⟩ nilS nilS).1) rfl ?_
                      have HP := HV5.out.2 0 false 0 ⟨#[]⟩ nilS nilS
                      exact ⟨HP.2.1, _, _, _, _, _, _, _, _, _, _, er, rfl, .inr ⟨HE.out.2, HE.out.1⟩⟩
end Go.Proofs.YtnccefeehkcneaaGreatDoor.Jm
namespace Go.Proofs.YtnccefeehkcneaaGreatDoor.Jm
open Go Go.RowKit Go.Proofs.YtnccefeehkcneaaGreatDoor.Sx Go.Proofs.YtnccefeehkcneaaGreatDoor.Js Go.Proofs.YtnccefeehkcneaaGreatDoor.Gr
theorem ty_V : GTy vsT vT 6 88 (.agg #[.int .i64 0, .bool false, .int .i64 0, .string ⟨#[]⟩, .slice none 0 0, .slice none 0 0]) := ⟨Tryz.underlying71, by kernel_rfl, rfl, by omega, by omega⟩
/-- The blocks of a row's elements: new ones, and not the row's own. -/
def Off (base : Nat) (v : Value) (b : Nat) : Prop := base ≤ b ∧ v.ownBlock ≠ some b
/-- A row of one's own that reads as these values. -/
def VRow (base : Nat) (w : World) (v : Value) (acc : List J) : Prop :=
  ∃ L, GRow vT 6 base w v L ∧ L.length = acc.length ∧ ∀ q (h1 : q < L.length) (h2 : q < acc.length), RV (Off base v) w acc[q] L[q]
theorem VRow.nil (base : Nat) (w : World) : VRow base w (.slice none 0 0) [] := ⟨[], GRow.nil, rfl, fun q h1 _ => by cases h1⟩
theorem VRow.vals {base : Nat} {w : World} {A : Option Addr} {n c : Nat} {acc : List J} (h : VRow base w (.slice A n c) acc) : RValsAt (fun b => base ≤ b) w A acc := fun i hi => by
  obtain ⟨L, hg, hl, hr⟩ := h
  have h1 : i < L.length := by rw [hl]; exact hi
  obtain ⟨g, hA, _, hb, _, hc⟩ := hg.at_ h1
  have hv := RV.keep (w' := w) (F' := fun b => base ≤ b) (fun _ _ _ => rfl) (fun b hb _ => hb.1) _ _ (hr i h1 hi)
  exact ⟨g, 0, L[i], hA, hb, (RV.len hv).1, fun k x hk => by rw [Nat.zero_add]; exact hc k x hk, hv⟩
theorem VRow.kept {base k : Nat} {w w' : World} {v : Value} {acc : List J} (h : VRow base w v acc) (hg : w.grownBy w' (some k)) (hk : k < base) : VRow base w' v acc := by
  obtain ⟨L, h1, h2, h3⟩ := h
  refine ⟨L, h1.kept hg (fun g hv e => ?_), h2, fun q hq1 hq2 => RV.keep (fun b hb hlt => hg.block b hlt (fun e => ?_)) (fun _ hb _ => hb) _ _ (h3 q hq1 hq2)⟩
  · injection e with e
    have := (h1.block g hv).1
    omega
  · injection e with e
    have := hb.1
    omega
theorem VRow.ext {base : Nat} {w w' : World} {v : Value} {acc : List J} (h : VRow base w v acc) (hx : Ext w w') : VRow base w' v acc := by
  obtain ⟨L, h1, h2, h3⟩ := h
  exact ⟨L, h1.ext hx, h2, fun q hq1 hq2 => RV.ext (h3 q hq1 hq2) hx⟩
/-- Behind an append of one value. -/
theorem VRow.snoc {base : Nat} {w w' : World} {v v' : Value} {acc : List J} {L : List (List Value)} {u : List Value} {j : J} (hl : L.length = acc.length) (hr : ∀ q (h1 : q < L.length) (h2 : q < acc.length), RV (Off base v) w acc[q] L[q])
    (hu : RV (Off base v) w j u) (hg : GRow vT 6 base w' v' (L ++ [u])) (hw : w.grownBy w' v.ownBlock) (ho : v'.ownBlock = v.ownBlock ∨ v'.ownBlock = some w.heap.size) : VRow base w' v' (acc ++ [j]) := by
  have hkeep : ∀ b, Off base v b → b < w.heap.size → w'.heap[b]? = w.heap[b]? := fun b hb hlt => hw.block b hlt (fun e => hb.2 e.symm)
  have hoff : ∀ b, Off base v b → b < w.heap.size → Off base v' b := fun b hb hlt => ⟨hb.1, fun e => by
    rcases ho with h | h
    · exact hb.2 (h.symm.trans e)
    · rw [h] at e
      injection e with e
      omega⟩
  refine ⟨L ++ [u], hg, by simp [hl], fun q h1 h2 => ?_⟩
  by_cases hq : q < acc.length
  · rw [List.getElem_append_left hq, List.getElem_append_left (by omega)]
    exact RV.keep hkeep hoff _ _ (hr q (by omega) hq)
  · have hqe : q = acc.length := by simp at h2; omega
    subst hqe
    have e1 : (acc ++ [j])[acc.length] = j := by simp
    have e2 : (L ++ [u])[acc.length]'h1 = u := by
      rw [List.getElem_append_right (by omega)]
      simp [hl]
    rw [e1, e2]
    exact RV.keep hkeep hoff _ _ hu
end Go.Proofs.YtnccefeehkcneaaGreatDoor.Jm
namespace Go.Proofs.YtnccefeehkcneaaGreatDoor.Jm
open Go Go.RowKit Go.Proofs.YtnccefeehkcneaaGreatDoor.Sx Go.Proofs.YtnccefeehkcneaaGreatDoor.Js Go.Proofs.YtnccefeehkcneaaGreatDoor.Gr
theorem RV.shape {F : Nat → Prop} {w : World} {j : J} {cs : List Value} (h : RV F w j cs) : ∃ K B n s A1 n1 c1 A2 n2 c2, cs = v6 K B n s (.slice A1 n1 c1) (.slice A2 n2 c2) := by
  cases j with
  | null => exact ⟨_, _, _, _, _, _, _, _, _, _, RV_null.1 h⟩
  | bool b => exact ⟨_, _, _, _, _, _, _, _, _, _, RV_bool.1 h⟩
  | num n => exact ⟨_, _, _, _, _, _, _, _, _, _, (RV_num.1 h).1⟩
  | text s => exact ⟨_, _, _, _, _, _, _, _, _, _, RV_text.1 h⟩
  | list l => obtain ⟨A, c, e, _⟩ := RV_list.1 h; exact ⟨_, _, _, _, _, _, _, _, _, _, e⟩
  | obj ns l => obtain ⟨A, c, B, d, e, _⟩ := RV_obj.1 h; exact ⟨_, _, _, _, _, _, _, _, _, _, e⟩
def RFindPost (w : World) (F : Nat → Prop) (ns : List Tx) (l : List J) (t : ByteArray) (e : Ending) (w' : World) : Prop :=
  Ext w w' ∧ ((∃ (i : Nat) (hn : i < ns.length) (hl : i < l.length) (u : List Value), ns[i] = t.data.toList ∧ RV F w l[i] u ∧ e = .returned (.tuple #[.agg u.toArray, .bool true])) ∨ (t.data.toList ∉ ns ∧ e = .returned (.tuple #[.agg noV.toArray, .bool false])))
set_option maxRecDepth 100000 in
set_option maxHeartbeats 4000000 in
theorem rfind_any (F : Nat → Prop) (A B : Option Addr) (c d : Nat) (ns : List Tx) (l : List J) (t : ByteArray) (w : World) (hn : NamesAt F w A ns) (hl : RValsAt F w B l) (hlen : ns.length = l.length) (_hd : l.length ≤ d) (hsm : ns.length ≤ 500000) :
    Calls Tryz.prog 101 #[.agg (v6 6 false 0 ⟨#[]⟩ (.slice A ns.length c) (.slice B l.length d)).toArray, .string t] w (RFindPost w F ns l t) := by
  obtain ⟨g, hg⟩ : ∃ g, g = w.heap.size := ⟨_, rfl⟩
  obtain ⟨w1, hw1⟩ : ∃ w1, w1 = (w.alloc (.cells #[.int .i64 6, .bool false, .int .i64 0, .string ⟨#[]⟩, .slice A ns.length c, .slice B l.length d] vT (0, 0))).alloc (.cells #[.int .i64 0, .bool false, .int .i64 0, .string ⟨#[]⟩, nilS, nilS] vT (0, 0)) := ⟨_, rfl⟩
  have HX1 : Hid (Ext w w1) := by rw [hw1]; exact (new_ext _ _).trans (new_ext _ _)
  have HV1 : Hid (VIn w1 g 6 false 0 ⟨#[]⟩ (.slice A ns.length c) (.slice B l.length d)) := by rw [hw1]; exact heap_old (heap_new hg)
  have HR1 : Hid (VIn w1 (g + 1) 0 false 0 ⟨#[]⟩ nilS nilS) := by rw [hw1]; exact heap_new (by rw [hg]; simp)
  have HGW : Hid (w.heap.size ≤ g) := by rw [hg]; exact Nat.le_refl _
  have HC : Hid (∀ W, Ext w1 W → VIn W g 6 false 0 ⟨#[]⟩ (.slice A ns.length c) (.slice B l.length d) ∧ VIn W (g + 1) 0 false 0 ⟨#[]⟩ nilS nilS ∧ Ext w W ∧ ∀ K B n t a l, VIn (putV W (g + 1) K B n t a l) (g + 1) K B n t a l ∧ Ext w (putV W (g + 1) K B n t a l)) := fun W hW => by
    have hv := HR1.out.ext hW
    exact ⟨HV1.out.ext hW, hv, HX1.out.trans hW, fun K B n t a l => ⟨put_in K B n t a l hv, put_ext K B n t a l (HX1.out.trans hW) (by have := HGW.out; omega)⟩⟩
  have HN := Lib.hid hn
  have HL := Lib.hid hl
  have HLE := Lib.hid hlen
  obtain ⟨N, hN⟩ : ∃ N, N = ns.length := ⟨_, rfl⟩
  have HNN : Hid (N = ns.length) := hN
  unfold v6
  rw [← hN] at hsm HV1 HC hw1 ⊢
  rw [← hlen, ← hN] at HV1 HC hw1 ⊢
  clear hn hl hlen hN
  have hx1 : Ext w1 w1 := Below.refl _ _
  go_enter Tryz.func101, Tryz.ntmps101
  go_wp2_with fail
  rw [← hw1, ← hg]
  clear hw1 hg
  obtain ⟨c0, c1, c2, c3, c4, c5⟩ := HV1.out.cells
  go_wp2_with fail
  clear c0 c1 c2 c3 c4 c5 hx1
  go_loopw [11] (fun ix wr => ∃ q : Nat, q ≤ N ∧ ix = .int .i64 (q : Int) ∧ Hid (Ext w1 wr ∧ ∀ p (hp : p < ns.length), p < q → ns[p] ≠ t.data.toList)) (fun ix _ => N - (intOf ix).toNat)
  case atStart => exact ⟨0, Nat.zero_le _, rfl, Below.refl _ _, fun p _ hp => absurd hp (Nat.not_lt_zero _)⟩
  case round =>
    obtain ⟨q, hq, rfl, hQ⟩ := hrel
    obtain ⟨c0, -, -, -, c4, c5⟩ := (HC.out wr hQ.out.1).1.cells
    have hq0 : (0 : Int) ≤ (q : Int) := by omega
    have hqI : (q : Int) ≤ 500000 := by omega
    by_cases hlt : q < N
    · obtain ⟨ga, oa, rfl, -, hca⟩ := HN.out q (by rw [← HNN.out]; exact hlt)
      have hcell := (cell_keep ((HX1.out.trans hQ.out.1).block ga (cell_lt hca))).trans hca
      obtain ⟨x, hx⟩ : ∃ x, x = bx ns[q] := ⟨_, rfl⟩
      rw [← hx] at hcell
      have hltI : (q : Int) < (N : Int) := by omega
      have HX : Hid (x.data.toList = ns[q]'(by rw [← HNN.out]; exact hlt)) := by rw [hx]; exact (ByteArray.toList_eq _).symm.trans (bx_list _)
      clear hca hx
      by_cases heq : x.toList = t.toList
      · have b1 : (x.toList == t.toList) = true := by rw [heq]; exact beq_self_eq_true _
        have HEQ : Hid (ns[q]'(by rw [← HNN.out]; exact hlt) = t.data.toList) := by unfold Hid; rw [← HX.out, ← ByteArray.toList_eq, heq, ByteArray.toList_eq]
        obtain ⟨gb, ob, u, rfl, -, -, hu, hrv⟩ := HL.out q (by rw [← HLE.out, ← HNN.out]; exact hlt)
        obtain ⟨K, Bb, n, sv, A1, n1, k1, A2, n2, k2, rfl⟩ := RV.shape hrv
        have HRV := Lib.hid hrv
        have hk : ∀ k x, (v6 K Bb n sv (.slice A1 n1 k1) (.slice A2 n2 k2))[k]? = some x → wr.cell? ⟨gb, ob + q * 6 + k, none⟩ = some x := fun k x h => (cell_keep ((HX1.out.trans hQ.out.1).block gb (cell_lt (hu k x h)))).trans (hu k x h)
        have k0 := hk 0 _ rfl
        have k1' := hk 1 _ rfl
        have k2' := hk 2 _ rfl
        have k3 := hk 3 _ rfl
        have k4 := hk 4 _ rfl
        have k5 := hk 5 _ rfl
        rw [Nat.add_zero] at k0
        have HD := Lib.hid (HC.out wr hQ.out.1).2
        obtain ⟨d0, d1, d2, d3, d4, d5⟩ := HD.out.1.cells
        have e0 := HD.out.1.free 0
        have e1 := HD.out.1.free 1
        have e2 := HD.out.1.free 2
        have e3 := HD.out.1.free 3
        have e4 := HD.out.1.free 4
        have e5 := HD.out.1.free 5
        have HLT : Hid (q < N) := hlt
        clear hrv hu hk heq
        go_wp2_with fail
        refine bodyPost_ret (results_v rfl _ _ (g + 1) rfl (HD.out.2.2 K Bb n sv (.slice A1 n1 k1) (.slice A2 n2 k2)).1) rfl ?_
        have h1 : q < ns.length := by rw [← HNN.out]; exact HLT.out
        exact ⟨(HD.out.2.2 K Bb n sv (.slice A1 n1 k1) (.slice A2 n2 k2)).2, .inl ⟨q, h1, by rw [← HLE.out]; exact h1, _, HEQ.out, HRV.out, rfl⟩⟩
      · have b1 : (x.toList == t.toList) = false := by rw [beq_eq_false_iff_ne]; exact heq
        have HNE : Hid (∀ p (hp : p < ns.length), p < q + 1 → ns[p] ≠ t.data.toList) := fun p hp hpq => by
          by_cases e : p = q
          · subst e
            rw [← HX.out, ← ByteArray.toList_eq, ← ByteArray.toList_eq]
            exact heq
          · exact hQ.out.2 p hp (by omega)
        clear heq
        go_wp2_with fail
        go_roundw
        case rel => exact ⟨q + 1, hlt, by rw [show ((q + 1 : Nat) : Int) = (q : Int) + 1 by omega], hQ.out.1, HNE.out⟩
        case measure => simp [intOf]; omega
    · have bl : decide ((q : Int) < (N : Int)) = false := decide_eq_false (by omega)
      have bl2 : decide (q < N) = false := decide_eq_false hlt
      have HNO : Hid (t.data.toList ∉ ns) := fun hm => by
        obtain ⟨p, hp, e⟩ := List.mem_iff_getElem.1 hm
        exact hQ.out.2 p hp (by have := HNN.out; omega) e
      have HD := Lib.hid (HC.out wr hQ.out.1).2
      obtain ⟨d0, d1, d2, d3, d4, d5⟩ := HD.out.1.cells
      have e0 := HD.out.1.free 0
      have e1 := HD.out.1.free 1
      have e2 := HD.out.1.free 2
      have e3 := HD.out.1.free 3
      have e4 := HD.out.1.free 4
      have e5 := HD.out.1.free 5
      clear hlt
      go_wp2_with fail
      refine bodyPost_ret (results_v rfl _ _ (g + 1) rfl (HD.out.2.2 0 false 0 ⟨#[]⟩ nilS nilS).1) rfl ?_
      exact ⟨(HD.out.2.2 0 false 0 ⟨#[]⟩ nilS nilS).2, .inr ⟨HNO.out, rfl⟩⟩
end Go.Proofs.YtnccefeehkcneaaGreatDoor.Jm
