/-
  The program's reader: Read.
-/
import Derived.Test.YtahinicpceokcaaGreatDoorJp5
namespace Go.Proofs.YtahinicpceokcaaGreatDoor.Jm
open Go Go.RowKit Go.Proofs.YtahinicpceokcaaGreatDoor.Sx Go.Proofs.YtahinicpceokcaaGreatDoor.Js Go.Proofs.YtahinicpceokcaaGreatDoor.Gr

/-- What went wrong, as it stands in the reader's block. -/
def badOf (w : World) (k : Nat) : Int := intOf ((w.cell? ⟨k, 4, none⟩).getD (.int .i64 0))
theorem RIn.badOf {w : World} {k : Nat} {s : ByteArray} {i many : Nat} {v : Value} {bad : Int} (h : RIn w k s i many v bad) : Jm.badOf w k = bad := by
  unfold Jm.badOf
  rw [h.cells.2.2.2.2]
  rfl
def leftOf (s : ByteArray) (w : World) (k : Nat) : Nat := if badOf w k = 0 then s.size + 5 - atOf w k else 0
theorem RIn.left {w : World} {k : Nat} {s : ByteArray} {i many : Nat} {v : Value} {bad : Int} (h : RIn w k s i many v bad) : leftOf s w k = if bad = 0 then s.size + 5 - i else 0 := by
  unfold leftOf
  rw [h.badOf, h.atOf]
/-- Where the reader stands between two steps. -/
def StepAt (k : Nat) (w : World) (s : ByteArray) (T : Res J) (w' : World) (j many : Nat) (bad : Int) (v u : Value) (b : Bool) : Prop :=
  RIn w' k s j many v bad ∧ Below k w w' ∧
    ((bad ≠ 0 ∧ T = .error bad) ∨
     (bad = 0 ∧ j ≤ s.size ∧ many ≤ 200 ∧ ∃ st L d, StkAt (k + 1) w' v st L ∧ OKst s j st ∧ d + st.length = 10 ∧
      ((b = true ∧ ∃ jj, PV (FreeB (k + 1) v L) w' jj u ∧ T = goesOut st d jj many (sfx s j)) ∨ (b = false ∧ T = beginOut st d many (sfx s j)))))
theorem StepPost.at_ {k : Nat} {w w1 w' : World} {s : ByteArray} {i : Nat} {T : Res J} {e : Ending} (h : StepPost k (k + 1) k w s i T e w') (h1 : Below k w1 w) :
    ∃ j many bad v u b, e = .returned (.tuple #[u, .bool b]) ∧ StepAt k w1 s T w' j many bad v u b ∧ (bad = 0 → i < j) := by
  obtain ⟨j, many, bad, v, u, b, he, hr, hb, ⟨h2, h3⟩ | ⟨h2, h3, h4, h5, h6⟩⟩ := h
  · exact ⟨j, many, bad, v, u, b, he, ⟨hr, h1.trans hb, .inl ⟨h2, h3⟩⟩, fun e => absurd e h2⟩
  · exact ⟨j, many, bad, v, u, b, he, ⟨hr, h1.trans hb, .inr ⟨h2, h3, h5, h6⟩⟩, fun _ => h4⟩
theorem StepAt.off {k : Nat} {w w' : World} {s : ByteArray} {T : Res J} {j many : Nat} {bad : Int} {v u : Value} {b : Bool} (h : StepAt k w s T w' j many bad v u b) (hb : b = false ∨ bad ≠ 0) : StepAt k w s T w' j many bad v .nilIface false := by
  obtain ⟨h1, h2, ⟨h3, h4⟩ | ⟨h3, h4, h5, st, L, d, h6, h7, h8, h9⟩⟩ := h
  · exact ⟨h1, h2, .inl ⟨h3, h4⟩⟩
  · rcases hb with rfl | hb
    · rcases h9 with ⟨h9, _⟩ | ⟨_, h9⟩
      · cases h9
      · exact ⟨h1, h2, .inr ⟨h3, h4, h5, st, L, d, h6, h7, h8, .inr ⟨rfl, h9⟩⟩⟩
    · exact absurd h3 hb
theorem StepAt.less {k i : Nat} {w w' wr : World} {s : ByteArray} {T : Res J} {j many many2 : Nat} {bad : Int} {v v2 u : Value} {b : Bool} (h : StepAt k w s T w' j many bad v u b) (hij : bad = 0 → i < j) (hr : RIn wr k s i many2 v2 0) (hi : i ≤ s.size) : leftOf s w' k < leftOf s wr k := by
  rw [h.1.left, hr.left, if_pos rfl]
  split
  · have := hij ‹_›
    rcases h.2.2 with ⟨h3, _⟩ | ⟨_, h4, _⟩
    · exact absurd ‹bad = 0› h3
    · omega
  · omega
/-- What Read gives where the plain law gives T. -/
def PRead (w : World) (T : Res J) (e : Ending) (w' : World) : Prop :=
  Ext w w' ∧ ((∃ j u, T = .ok j ∧ PV (fun b => w.heap.size ≤ b) w' j u ∧ e = .returned (.tuple #[u, .int .i64 0])) ∨ (∃ er, er ≠ 0 ∧ T = .error er ∧ e = .returned (.tuple #[.nilIface, .int .i64 er])))
set_option maxRecDepth 100000 in
set_option maxHeartbeats 8000000 in
theorem read_any (s : ByteArray) (w : World) : Calls Tryz.prog 29 #[.string s] w (PRead w (readS s.data.toList)) := by
  obtain ⟨T, hT⟩ : ∃ T, T = readS s.data.toList := ⟨_, rfl⟩
  rw [← hT]
  have HT : Hid (T = if 2000 < s.size then .error 2 else beginOut [] 10 0 (sfx s 0)) := by
    unfold Hid
    rw [hT, readS_eq, size_list]
    rfl
  clear hT
  by_cases hbig : 2000 < s.size
  · have HTE : Hid (T = .error 2) := by unfold Hid; rw [HT.out, if_pos hbig]
    have b1 : decide (2000 < (s.size : Int)) = true := decide_eq_true (by omega)
    have b2 : decide (2000 < s.size) = true := decide_eq_true hbig
    clear hbig
    go_enter Tryz.func29, Tryz.ntmps29
    go_wp2_with fail
    go_ret2
    exact ⟨Below.refl _ _, .inr ⟨2, by decide, HTE.out, rfl⟩⟩
  · have HT2 : Hid (T = beginOut [] 10 0 (sfx s 0)) := by unfold Hid; rw [HT.out, if_neg hbig]
    have hs : s.size ≤ 2000 := by omega
    have b1 : decide (2000 < (s.size : Int)) = false := decide_eq_false (by omega)
    have b2 : decide (2000 < s.size) = false := decide_eq_false hbig
    obtain ⟨k, hk⟩ : ∃ k, k = w.heap.size := ⟨_, rfl⟩
    obtain ⟨w1, hw1⟩ : ∃ w1, w1 = w.alloc (.cells #[.string s, .int .i64 0, .int .i64 0, .slice none 0 0, .int .i64 0] rdT (0, 0)) := ⟨_, rfl⟩
    have HX1 : Hid (Ext w w1) := by rw [hw1]; exact new_ext _ _
    have HQ1 : Hid (RIn w1 k s 0 0 (.slice none 0 0) 0) := by rw [hw1]; exact heap_new hk
    have HKW : Hid (w.heap.size = k) := hk.symm
    have HKS : Hid (w1.heap.size = k + 1) := by
      unfold Hid
      rw [hw1, hk]
      show (w.heap.push _).size = _
      rw [Array.size_push]
    clear hbig HT
    go_enter Tryz.func29, Tryz.ntmps29
    go_upto_region 4 with (fail)
    rw [← hw1, ← hk]
    clear hw1 hk
    go_loopw [5, 6] (fun _ _ wr => ∃ (i many : Nat) (bad : Int) (v : Value), Hid (StepAt k w1 s T wr i many bad v .nilIface false)) (fun _ _ wr => leftOf s wr k)
    case atStart => exact ⟨0, 0, 0, _, HQ1.out, Below.refl _ _, .inr ⟨rfl, Nat.zero_le _, by omega, [], [], 10, StkAt.nil _ _, (fun f hf => by cases hf), rfl, .inr ⟨rfl, HT2.out⟩⟩⟩
    case round =>
      obtain ⟨i, many, bad, v, hI⟩ := hrel
      by_cases hbad : bad = 0
      · subst hbad
        have hJ : ∃ st L d, StkAt (k + 1) wr v st L ∧ OKst s i st ∧ d + st.length = 10 ∧ T = beginOut st d many (sfx s i) ∧ i ≤ s.size ∧ many ≤ 200 := by
          rcases hI.out.2.2 with ⟨h, _⟩ | ⟨_, h4, h5, st, L, d, h6, h7, h8, ⟨h9, _⟩ | ⟨_, h9⟩⟩
          · exact absurd rfl h
          · cases h9
          · exact ⟨st, L, d, h6, h7, h8, h9, h4, h5⟩
        obtain ⟨st, L, d, hst, hok, hd, hT, hi, hmany⟩ := hJ
        obtain ⟨A, cp, rfl, _⟩ := hst.slice
        have hsz : k + 1 ≤ wr.heap.size := by have := hI.out.1.lt; omega
        have CB := Lib.hid (begin_any k (k + 1) k s i many d A _ cp st L wr hI.out.1 hs hi hmany hst hok (Nat.lt_succ_self _) (Nat.le_refl _) hsz hd T hT)
        clear hst hok hd hT hsz
        obtain ⟨z0, z1, z2, z3, z4⟩ := hI.out.1.cells
        go_wp2_with fail
        refine Calls.mono CB.out ?_
        intro e w2 hres
        obtain ⟨j, many2, bad2, v2, u2, bb2, rfl, hstep, hij⟩ := hres.at_ hI.out.2.1
        have HS2 := Lib.hid (And.intro hstep hij)
        clear hres hstep hij CB z0 z1 z2 z3 z4
        go_wp2_with fail
        go_loopw [5, 6] (fun x b wi => ∃ (j many : Nat) (bad : Int) (v u : Value) (bb : Bool), x = u ∧ b = .bool bb ∧ Hid (StepAt k w1 s T wi j many bad v u bb ∧ (bad = 0 → i < j))) (fun _ _ wi => leftOf s wi k)
        case atStart => exact ⟨j, many2, bad2, v2, u2, bb2, rfl, rfl, HS2.out⟩
        case round =>
          obtain ⟨j3, many3, bad3, v3, u3, bb3, hx3, rfl, hJ⟩ := hrel
          obtain rfl : u3 = _ := hx3.symm
          cases bb3 with
          | false =>
            go_wp2_with fail
            go_roundw
            case rel => exact ⟨j3, many3, bad3, v3, hJ.out.1.off (.inl rfl)⟩
            case measure => exact hJ.out.1.less hJ.out.2 hI.out.1 hi
          | true =>
            by_cases hbad3 : bad3 = 0
            · subst hbad3
              have hV : ∃ st L d jj, StkAt (k + 1) wr v3 st L ∧ OKst s j3 st ∧ d + st.length = 10 ∧ PV (FreeB (k + 1) v3 L) wr jj u3 ∧ T = goesOut st d jj many3 (sfx s j3) ∧ j3 ≤ s.size ∧ many3 ≤ 200 := by
                rcases hJ.out.1.2.2 with ⟨h, _⟩ | ⟨_, h4, h5, st, L, d, h6, h7, h8, ⟨_, jj, h9, h10⟩ | ⟨h9, _⟩⟩
                · exact absurd rfl h
                · exact ⟨st, L, d, jj, h6, h7, h8, h9, h10, h4, h5⟩
                · cases h9
              obtain ⟨st, L, d, jj, hst, hok, hd, hpv, hT, hj3, hmany3⟩ := hV
              obtain ⟨A, cp, rfl, _⟩ := hst.slice
              have hij : i < j3 := hJ.out.2 rfl
              have hsz : k + 1 ≤ wr.heap.size := by have := hJ.out.1.1.lt; omega
              have HPV := Lib.hid hpv
              cases st with
              | nil =>
                have HTT : Hid (T = if skipW (sfx s j3) = [] then .ok jj else .error 3) := hT
                have CN := Lib.hid (next_any k s j3 many3 _ 0 wr hJ.out.1.1 hs (by omega))
                have hl0 : ([] : List Fr).length = 0 := rfl
                rw [hl0] at hJ hpv hst CN HPV
                have HJ := Lib.hid hJ.out.1
                clear hst hok hd hpv hT hsz hJ
                obtain ⟨z0, z1, z2, z3, z4⟩ := HJ.out.1.cells
                go_wp2_with fail
                refine Calls.mono CN.out ?_
                rintro e w4 ⟨j4, rfl, hq4, hij4, hjs, hsk, hg4⟩
                have HQ4 := Lib.hid hq4
                have HG4 := Lib.hid hg4
                have HSK := Lib.hid hsk
                have hj4 : j4 ≤ s.size := hjs hj3
                clear hq4 hg4 hsk hjs CN z0 z1 z2 z3 z4
                obtain ⟨z0, z1, z2, z3, z4⟩ := HQ4.out.cells
                by_cases hend : j4 < s.size
                · have HTE : Hid (T = .error 3) := by
                    unfold Hid
                    rw [HTT.out, if_neg]
                    intro h
                    have h1 := sfx_len s j4
                    rw [HSK.out, h] at h1
                    simp at h1
                    omega
                  have bl1 : decide ((j4 : Int) < (s.size : Int)) = true := decide_eq_true (by omega)
                  have bl2 : decide (j4 < s.size) = true := decide_eq_true hend
                  clear hend
                  go_wp2_with fail
                  go_quiet (fail)
                  generalize hW : World.drewN w4 _ = w5
                  have HX5 : Hid (Ext w4 w5) := by rw [← hW]; exact ext_drewN' _ _
                  clear hW bl1 bl2 z0 z1 z2 z3 z4
                  have HQ5 := Lib.hid (HQ4.out.ext HX5.out)
                  have CF := Lib.hid (fail_any k s j4 many3 _ 0 3 w5 HQ5.out)
                  go_wp2_with fail
                  refine Calls.mono CF.out ?_
                  rintro e w6 ⟨rfl, hq6, hg6⟩
                  have HQ6 : Hid (RIn w6 k s j4 many3 (.slice A 0 cp) 3) := hq6
                  have HB6 : Hid (Below k w1 w6) := by
                    have h1 := HJ.out.2.1
                    have h2 := HJ.out.1.lt
                    exact h1.trans (low_grown (grown_trans HG4.out (grown_trans (grown_ext HX5.out) hg6)) (Nat.le_refl _) (by omega))
                  clear hq6 hg6 CF
                  have HST6 : Hid (StepAt k w1 s T w6 j4 many3 3 (.slice A 0 cp) .nilIface false) := ⟨HQ6.out, HB6.out, .inl ⟨by decide, HTE.out⟩⟩
                  go_wp2_with fail
                  go_roundw
                  case rel => exact ⟨j4, many3, 3, _, HST6.out⟩
                  case measure => exact HST6.out.less (fun e => by cases e) hI.out.1 hi
                · have HTE : Hid (T = .ok jj) := by
                    unfold Hid
                    rw [HTT.out, if_pos]
                    rw [← HSK.out]
                    exact sfx_end (by omega)
                  have bl1 : decide ((j4 : Int) < (s.size : Int)) = false := decide_eq_false (by omega)
                  have bl2 : decide (j4 < s.size) = false := decide_eq_false hend
                  clear hend
                  go_wp2_with fail
                  go_quiet (fail)
                  go_wp2_with fail
                  go_ret2
                  have h1 := HJ.out.2.1
                  have h2 := HJ.out.1.lt
                  have h3 : Below k wr w4 := low_grown HG4.out (Nat.le_refl _) (by omega)
                  have h4 := ext_drewN' w4
                  have h5 := HKW.out
                  have h6 := HG4.out.size
                  refine ⟨Below.trans HX1.out (Below.mono (h1.trans (h3.trans (Below.mono (h4 _) (by omega)))) (by omega)), .inl ⟨jj, u3, HTE.out, ?_, rfl⟩⟩
                  refine PV.keep (fun b hb hlt => ?_) (fun b hb _ => by have := hb.1; omega) _ _ HPV.out
                  exact HG4.out.block b hlt (fun e => by injection e with e; have := hb.1; omega)
              | cons f st =>
                have CG : Hid (Calls Tryz.prog 63 #[.pointer (some ⟨k, 0, none⟩), u3] wr (StepPost k (k + 1) k wr s j3 T)) := by
                  have hd2 : d + (st.length + 1) = 10 := hd
                  cases hf : f.isObj with
                  | false => exact goes_list k (k + 1) k s j3 many3 d A _ cp f st L jj u3 wr hJ.out.1.1 hs hj3 hmany3 hst hok hf hpv (Nat.lt_succ_self _) (Nat.le_refl _) hsz hd2 T hT
                  | true => exact goes_obj k (k + 1) k s j3 many3 d A _ cp f st L jj u3 wr hJ.out.1.1 hs hj3 hmany3 hst hok hf hpv (Nat.lt_succ_self _) (Nat.le_refl _) hsz hd2 T hT
                have hl1 : (f :: st).length = st.length + 1 := rfl
                clear hst hok hd hpv hT hsz
                obtain ⟨z0, z1, z2, z3, z4⟩ := hJ.out.1.1.cells
                rw [hl1] at z3
                have bl0 : (((st.length + 1 : Nat) : Int) == 0) = false := by rw [beq_eq_false_iff_ne]; omega
                have bl1 : ((st.length : Int) + 1 == 0) = false := by rw [beq_eq_false_iff_ne]; omega
                clear hl1
                go_wp2_with fail
                refine Calls.mono CG.out ?_
                intro e w4 hres
                obtain ⟨j4, many4, bad4, v4, u4, bb4, rfl, hstep, hij4⟩ := hres.at_ hJ.out.1.2.1
                have HS4 := Lib.hid (And.intro hstep hij4)
                clear hres hstep hij4 CG z0 z1 z2 z3 z4 bl0 bl1
                go_wp2_with fail
                go_roundw
                case rel => exact ⟨j4, many4, bad4, v4, u4, bb4, rfl, rfl, HS4.out.1, fun e => Nat.lt_trans hij (HS4.out.2 e)⟩
                case measure => exact HS4.out.1.less HS4.out.2 hJ.out.1.1 hj3
            · have bb3 : (bad3 == 0) = false := by rw [beq_eq_false_iff_ne]; exact hbad3
              have HB3 := Lib.hid hbad3
              obtain ⟨z0, z1, z2, z3, z4⟩ := hJ.out.1.1.cells
              clear hbad3
              go_wp2_with fail
              go_roundw
              case rel => exact ⟨j3, many3, bad3, v3, hJ.out.1.off (.inr HB3.out)⟩
              case measure => exact hJ.out.1.less hJ.out.2 hI.out.1 hi
      · have bb : (bad == 0) = false := by rw [beq_eq_false_iff_ne]; exact hbad
        have HB := Lib.hid hbad
        obtain ⟨z0, z1, z2, z3, z4⟩ := hI.out.1.cells
        clear hbad
        go_wp2_with fail
        go_quiet (fail)
        go_wp2_with fail
        go_ret2
        have hTE : T = .error bad := by
          rcases hI.out.2.2 with ⟨_, h⟩ | ⟨h, _⟩
          · exact h
          · exact absurd h HB.out
        exact ⟨Below.trans HX1.out ((Below.mono hI.out.2.1 (Nat.le_of_eq HKW.out)).trans (Below.mono (ext_drewN' _ _) (by have h1 := HX1.out.size; have h2 := hI.out.2.1.size; omega))), .inr ⟨bad, HB.out, hTE, rfl⟩⟩
end Go.Proofs.YtahinicpceokcaaGreatDoor.Jm
