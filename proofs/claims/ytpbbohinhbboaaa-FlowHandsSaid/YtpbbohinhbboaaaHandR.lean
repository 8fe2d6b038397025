/-
  The reference's Hand: the walk.
-/
import Derived.Test.YtpbbohinhbboaaaSrc
import Derived.Deep.RegionHeld3
namespace Go.Proofs.Ytpbbohinhbboaaa.Sx
open Go Go.RowKit

set_option maxRecDepth 100000 in
theorem outside_f (n lo hi : Int) (w : World) (h1 : lo ≤ n) (h2 : n ≤ hi) : Calls Try.prog 59 #[.int .i64 n, .int .i64 lo, .int .i64 hi] w fun e w' => e = .returned (.bool false) ∧ w = w' := by
  go_enter Try.func59, Try.ntmps59
  go_wp2
  go_ret
  exact ⟨ret_bool (decide_eq_false (by omega)), rfl⟩
set_option maxRecDepth 100000 in
theorem outside_t (n lo hi : Int) (w : World) (h : n < lo ∨ hi < n) : Calls Try.prog 59 #[.int .i64 n, .int .i64 lo, .int .i64 hi] w fun e w' => e = .returned (.bool true) ∧ w = w' := by
  by_cases h1 : n < lo
  · clear h
    go_enter Try.func59, Try.ntmps59
    go_wp2
    go_ret
    exact ⟨rfl, rfl⟩
  · have h2 : hi < n := by omega
    clear h
    go_enter Try.func59, Try.ntmps59
    go_wp2
    go_ret
    exact ⟨rfl, rfl⟩

theorem step_append_src2 {ops : Array Oper} {o : Oper} {a : Act} {K : Act → World → Prop} {Q : Exit → Act → World → Prop} {E : Prop} (hgd : o.guard = none) (s x : Operand)
    (ho : o.op = .call { callee := .builtin .append, args := #[s, x], argTypes := #[24, 24] }) (base nm : Nat) (w : World) (v y : Value) (zs ys all : List Int)
    (hs : a.eval s = v) (hx : a.eval x = y) (hrow : IRow base w v zs) (hy : SrcI w y ys) (hall : zs ++ ys = all) (hn : all.length = nm) (hs1 : nm ≤ 1048576) (hbase : base ≤ w.heap.size)
    (h : ∀ A c w', IRow base w' (.slice A nm c) all → w.grownBy w' v.ownBlock → ((Value.slice A nm c).ownBlock = v.ownBlock ∨ (Value.slice A nm c).ownBlock = some w.heap.size) → K (a.put o.dst (.slice A nm c)) w') : if Region.wanted o (yielded ops a.tmps) = true then Oper.wp Try.prog o a w K Q else E := by
  subst hall hn
  rw [List.length_append] at h hs1
  exact step_append_src hgd s x ho base zs.length ys.length w v y zs ys hs hx hrow hy rfl rfl (by omega) (by omega) hbase h

theorem range_succ (n : Nat) : List.range' 0 (n + 1) = List.range' 0 n ++ [n] := by
  rw [List.range'_concat]
  simp

set_option maxRecDepth 100000 in
set_option maxHeartbeats 4000000 in
theorem rhand_good (s D S : Nat) (w : World) (hs : s < 18446744073709551616) (h1 : 1 ≤ D) (h64 : D ≤ 64) (hS : 1 ≤ S) (h6 : S ≤ 6) (hSD : S ≤ D) :
    Calls Try.prog 21 #[.int .u64 (s : Int), .int .i64 (D : Int), .int .i64 (S : Int)] w (HandPost w (handL s D S)) := by
  go_enter Try.func21, Try.ntmps21
  go_wp2_with (go_at_call 59; refine (outside_f _ _ _ _ (by omega) (by omega)).mono ?_; rintro e w' ⟨rfl, rfl⟩)
  go_loopw [8, 10, 22] (fun l _ k wr => ∃ (i : Nat) (A : Option Addr) (c : Nat), i ≤ D ∧ k = .int .i64 (i : Int) ∧ l = .slice A i c ∧ Hid (IRow w.heap.size wr (.slice A i c) (up (List.range' 0 i)) ∧ Ext w wr)) (fun _ _ k _ => D - (intOf k).toNat)
  case atStart => exact ⟨0, none, 0, Nat.zero_le _, rfl, rfl, IRow.nil, Below.refl _ _⟩
  case round =>
    obtain ⟨i, A, c, hi, rfl, rfl, hI⟩ := hrel
    by_cases hlt : i < D
    · have HE := Lib.hid (fun o => (Below.refl wr.heap.size wr).alloc (Nat.le_refl _) o)
      have HB : Hid (w.heap.size ≤ wr.heap.size) := hI.out.2.size
      have HI := hI
      clear hI
      go_wp2_with (at_builtin; refine append_int rfl _ _ (by rfl) w.heap.size wr.heap.size i (i : Int) _ _ (up (List.range' 0 i)) (by rfl) (by rfl) (HI.out.1.ext (HE.out _)) (heap_new rfl) (by rw [up_len, List.length_range']) (by omega) ?c1 ?_)
      case c1 => exact Nat.le_trans HB.out (HE.out _).size
      intro g1 k1 w1 ho1 hg1 hat1
      have hx1 : Ext w w1 := ((HI.out.2).trans (HE.out _)).grown hg1 (Nat.le_trans HB.out (HE.out _).size) (fun k e => (HI.out.1.block k e).1)
      have ho2 : IRow w.heap.size w1 (.slice (some ⟨g1, 0, none⟩) (i + 1) k1) (up (List.range' 0 (i + 1))) := by
        rw [range_succ]
        simpa [up] using ho1
      have H1 := Lib.hid (And.intro ho2 hx1)
      clear ho1 hg1 hat1 hx1 ho2
      go_wp2
      go_roundw
      case rel => exact ⟨i + 1, some ⟨g1, 0, none⟩, k1, by omega, by go_num, rfl, H1⟩
      case measure => simp [intOf]; omega
    · have H0 : Hid (IRow w.heap.size wr (.slice A D c) (up (comp D 0 (dealAt D s 0).ds)) ∧ Ext w wr) := by
        have e : i = D := by omega
        have h := hI.out
        rw [e] at h
        exact h
      have hiD : D = i := by omega
      subst hiD
      clear hI hi hlt
      go_wp2
      go_loopw [0, 8, 9, 31] (fun sd l o k wr => ∃ (r : Nat) (Al : Option Addr) (cl : Nat) (Ao : Option Addr) (co : Nat), r ≤ S ∧ k = .int .i64 (r : Int) ∧ sd = .int .u64 ((dealAt D s r).seed : Int) ∧ l = .slice Al (D - r) cl ∧ o = .slice Ao r co ∧
          Hid (IRow w.heap.size wr (.slice Al (D - r) cl) (up (comp D 0 (dealAt D s r).ds)) ∧ IRow w.heap.size wr (.slice Ao r co) (up (dealAt D s r).out) ∧ apart (.slice Ao r co) (.slice Al (D - r) cl) ∧ Ext w wr)) (fun _ _ _ k _ => S - (intOf k).toNat)
      case atStart => exact ⟨0, A, c, none, 0, Nat.zero_le _, rfl, rfl, rfl, rfl, ⟨H0.out.1, IRow.nil, fun g h => (by cases h), H0.out.2⟩⟩
      case round =>
        clear H0
        obtain ⟨r, Al, cl, Ao, co, hr, rfl, rfl, rfl, rfl, hI⟩ := hrel
        by_cases hlt : r < S
        · obtain ⟨q, hq⟩ : ∃ q, q = (dealAt D s r).seed := ⟨_, rfl⟩
          have hqs : q < 18446744073709551616 := by rw [hq]; have := (deal_good D s r (by omega)).2.2.2; omega
          obtain ⟨hcl, hget, hera⟩ := left_step D s r (by omega)
          obtain ⟨l0, hl0⟩ : ∃ l0, l0 = comp D 0 (dealAt D s r).ds := ⟨_, rfl⟩
          obtain ⟨m, hm⟩ : ∃ m, m = D - r := ⟨_, rfl⟩
          have hmp : 1 ≤ m := by omega
          have hm64 : m ≤ 64 := by omega
          have hmI : D - (r + 1) = m - 1 := by omega
          rw [← hq, ← hl0, ← hm] at hget hera
          rw [← hl0, ← hm] at hcl hI
          rw [← hq, ← hm]
          obtain ⟨k, hk⟩ : ∃ k, k = q % m := ⟨_, rfl⟩
          have hkm : k < m := by rw [hk]; exact Nat.mod_lt _ (by omega)
          obtain ⟨q1, hq1⟩ : ∃ q1, q1 = q / m := ⟨_, rfl⟩
          have hq1s : q1 < 18446744073709551616 := by rw [hq1]; exact Nat.lt_of_le_of_lt (Nat.div_le_self _ _) hqs
          rw [← hk] at hget hera
          have hmod : (q : Int) % (m : Int) = (k : Int) := by rw [hk, Int.natCast_emod]
          have hdiv : (q : Int) / (m : Int) = (q1 : Int) := by rw [hq1, Int.natCast_ediv]
          obtain ⟨x, hx⟩ : ∃ x, x = cardAt D s r := ⟨_, rfl⟩
          rw [← hx] at hget
          have hxb : x ≤ 200 := by have := card_lt D s r (by omega); omega
          have HSTEP : Hid (dealAt D s (r + 1) = ⟨q1, (dealAt D s (r + 1)).ds, (dealAt D s r).out ++ [x]⟩) := by
            unfold Hid
            rw [hq1, hq, hx, hm]
            rfl
          have HERA := Lib.hid hera
          have hup : k < (up l0).length := by rw [up_len, hcl]; exact hkm
          obtain ⟨gl, rfl, hcell⟩ := hI.out.1.at_ hup
          have hue : (up l0)[k] = (x : Int) := by
            have hkl : k < l0.length := by rw [hcl]; exact hkm
            rw [List.getElem?_eq_getElem hkl] at hget
            injection hget with hget
            simp [up, hget]
          rw [hue] at hcell
          have HMI := Lib.hid (And.intro hm hmI)
          have HCL : Hid ((up l0).length = m) := by unfold Hid; rw [up_len, hcl]
          have hol : (dealAt D s r).out.length = r := (deal_good D s r (by omega)).2.2.1
          obtain ⟨os, hos⟩ : ∃ os, os = (dealAt D s r).out := ⟨_, rfl⟩
          rw [← hos] at HSTEP hI hol
          have HOL : Hid ((up os).length = r) := by unfold Hid; rw [up_len, hol]
          have HI := hI
          have HE := Lib.hid (fun o => (Below.refl wr.heap.size wr).alloc (Nat.le_refl _) o)
          have HB : Hid (w.heap.size ≤ wr.heap.size) := hI.out.2.2.2.size
          have hkI0 : (0 : Int) ≤ (k : Int) := by omega
          have hkI : (k : Int) < (m : Int) := by omega
          clear hq hcl hget hera hl0 hm hmI hk hq1 hx hup hue hol hos hI
          go_wp2_with (at_builtin; refine append_int rfl _ _ (by rfl) w.heap.size wr.heap.size r (x : Int) _ _ (up os) (by rfl) (by rfl) (HI.out.2.1.ext (HE.out _)) (heap_new rfl) HOL.out (by omega) ?c1 ?_)
          case c1 => exact Nat.le_trans HB.out (HE.out _).size
          intro g1 k1 w1 ho1 hg1 hat1
          have hd0 := HI.out.1
          have hap := HI.out.2.2.1
          have hd1 : IRow w.heap.size w1 (.slice (some ⟨gl, 0, none⟩) m cl) (up l0) := (hd0.ext (HE.out _)).kept hg1 (fun g h1 h2 => hap g h2 h1)
          have hx1 : Ext w w1 := ((HI.out.2.2.2).trans (HE.out _)).grown hg1 (Nat.le_trans HB.out (HE.out _).size) (fun k e => (HI.out.2.1.block k e).1)
          have H1 := Lib.hid (And.intro ho1 (And.intro hd1 hx1))
          clear ho1 hg1 hat1 hd0 hap hd1 hx1 hcell HE HB
          go_wp2
          have hcl2 : ∃ R, cl = m + R := by
            rcases H1.out.2.1 with ⟨hv, _⟩ | ⟨g, rest, hv, _, _, _⟩
            · injection hv with e _ _
              cases e
            · injection hv with _ e2 e3
              exact ⟨rest.length, by rw [e3, ← e2]⟩
          obtain ⟨R, hR⟩ := hcl2
          have hkc : (k : Int) ≤ (cl : Int) := by omega
          have hk1w : IntKind.u64.wrap ((k : Int) + 1) = (k : Int) + 1 := IntWalk.u64_in _ (by omega)
          obtain ⟨ad, had, hadb, hsrc⟩ := H1.out.2.1.suffix HCL.out (k + 1) (by omega)
          have hsl : ∀ wx, (Instr.slice 24 (.slice (some ⟨gl, 0, none⟩) m cl) (some (.int .u64 ((k : Int) + 1))) none none).run Try.prog wx = .ok (.slice (some ad) (m - (k + 1)) (cl - (k + 1))) wx := fun wx => by
            have h := run_slice_l (P := Try.prog) (w := wx) 24 (some ⟨gl, 0, none⟩) m cl Try.underlying24 .u64 ((k : Int) + 1) (by omega) (by omega)
            rw [h]
            have e1 : (sizeOf (Try.prog.elem 24)).run Try.prog wx = .ok 1 wx := by kernel_rfl
            rw [e1]
            have e2 : ((k : Int) + 1).toNat = k + 1 := by omega
            simp only [Result.andThen, e2, had]
          have HSRC := Lib.hid (And.intro hsrc hadb)
          have CC : Hid (∀ wk, Ext w1 wk → Calls Try.prog 60 #[.slice (some ⟨gl, 0, none⟩) k cl] wk fun e w' => ∃ A c, e = .returned (.slice A k c) ∧ IRow w.heap.size w' (.slice A k c) ((up l0).take k) ∧ SrcI w' (.slice (some ad) (m - (k + 1)) (cl - (k + 1))) ((up l0).drop (k + 1)) ∧
              IRow w.heap.size w' (.slice (some ⟨g1, 0, none⟩) (r + 1) k1) (up os ++ [(x : Int)]) ∧ apart (.slice (some ⟨g1, 0, none⟩) (r + 1) k1) (.slice A k c) ∧ Ext w w') := fun wk hk => by
            have hl : ((up l0).take k).length = k := by rw [List.length_take, HCL.out]; omega
            have hpre := (H1.out.2.1.ext hk).prefix_ (k := k) (by rw [HCL.out]; omega)
            refine (copyI_any w.heap.size _ _ wk hpre (by rw [hl]; omega) (Nat.le_trans H1.out.2.2.size hk.size)).mono fun e w' ⟨A, c, he, hrow, hx, hb⟩ => ?_
            rw [hl] at he hrow hb
            refine ⟨A, c, he, hrow, (HSRC.out.1.ext hk).ext hx, (H1.out.1.ext hk).ext hx, ?_, H1.out.2.2.trans (hk.trans hx)⟩
            intro g e1 e2
            rcases hb with h | h
            · rw [h] at e2; cases e2
            · have h3 := ((H1.out.1.ext hk).block _ e1).2
              rw [h] at e2
              injection e2 with e2
              omega
          have HALL : Hid ((up l0).take k ++ (up l0).drop (k + 1) = up (comp D 0 (dealAt D s (r + 1)).ds)) := by
            unfold Hid
            rw [← HERA.out, List.eraseIdx_eq_take_drop_succ]
            simp [up, List.map_take, List.map_drop]
          have HLM : Hid ((up (comp D 0 (dealAt D s (r + 1)).ds)).length = m - 1) := by
            unfold Hid
            rw [← HALL.out, List.length_append, List.length_take, List.length_drop, HCL.out]
            omega
          have hxx : Ext w1 w1 := Below.refl _ _
          have htt : True := trivial
          clear had hadb hsrc hR
          go_region_held3 (fun _ => True) (exact trivial)
            (first
              | (go_at_call 60; refine (CC.out _ (by first | assumption | (apply Below.drew; assumption))).mono ?_; rintro e w5 ⟨A5, c5, rfl, u1, u2, u3, u4, u5⟩)
              | (refine step_append_src2 (by rfl) _ _ (by rfl) w.heap.size (m - 1) _ _ _ _ _ _ (by rfl) (by rfl) u1 u2 HALL.out HLM.out (by omega) u5.size ?_; intro A9 c9 w9 h91 h92 h93))
          have hap9 : apart (.slice (some ⟨g1, 0, none⟩) (r + 1) k1) (.slice A9 (m - 1) c9) := by
            intro g e1 e2
            rcases h93 with h | h
            · rw [h] at e2; exact u4 _ e1 e2
            · have h3 := (u3.block _ e1).2
              rw [h] at e2
              injection e2 with e2
              omega
          have hout9 := u3.kept h92 (fun g e1 e2 => u4 g e1 e2)
          have hx9 := u5.grown h92 u5.size (fun k e => (u1.block k e).1)
          have H9 : Hid (IRow w.heap.size w9 (.slice A9 (m - 1) c9) (up (comp D 0 (dealAt D s (r + 1)).ds)) ∧ IRow w.heap.size w9 (.slice (some ⟨g1, 0, none⟩) (r + 1) k1) (up (os ++ [x])) ∧ apart (.slice (some ⟨g1, 0, none⟩) (r + 1) k1) (.slice A9 (m - 1) c9) ∧ Ext w w9) :=
            ⟨h91, by simpa [up] using hout9, hap9, hx9⟩
          clear hap9 hout9 hx9 h91 h92 h93 u1 u2 u3 u4 u5 hsl hk1w hxx htt
          go_wp2
          go_roundw
          case rel => exact ⟨r + 1, A9, c9, some ⟨g1, 0, none⟩, k1, by omega, by go_num, by rw [HSTEP.out], by rw [HMI.out.2], rfl, by rw [HMI.out.2]; have h := H9; rw [HSTEP.out] at h ⊢; exact h⟩
          case measure => simp [intOf]; omega
        · have hl : (handL s D r).length = r := by unfold handL; rw [up_len]; exact (deal_good D s r (by omega)).2.2.1
          have HP : Hid (HandPost w (handL s D S) (.returned (.tuple #[.slice Ao r co, .int .i64 0])) wr) := by
            have e : S = r := by omega
            unfold Hid
            rw [e]
            exact ⟨Ao, co, by rw [hl], by rw [hl]; exact hI.out.2.1, hI.out.2.2.2⟩
          clear hl
          go_wp2
          go_ret2
          exact HP.out

set_option maxRecDepth 100000 in
theorem rhand_bad (s D S : Int) (w : World) (h : badHand D S) :
    Calls Try.prog 21 #[.int .u64 s, .int .i64 D, .int .i64 S] w fun e w' => e = .returned (.tuple #[.slice none 0 0, .int .i64 1]) ∧ w = w' := by
  unfold badHand at h
  by_cases a1 : D < 1 ∨ 64 < D
  · have A1 := Lib.hid a1
    clear h a1
    go_enter Try.func21, Try.ntmps21
    go_wp2_with (go_at_call 59; refine (outside_t _ _ _ _ A1.out).mono ?_; rintro e w' ⟨rfl, rfl⟩)
    go_ret2
    exact ⟨rfl, rfl⟩
  · have A1 : Hid (1 ≤ D ∧ D ≤ 64) := by unfold Hid; omega
    have A2 : Hid (S < 1 ∨ min 6 D < S) := by unfold Hid; omega
    clear h a1
    go_enter Try.func21, Try.ntmps21
    go_wp2_with (first | (go_at_call 59; with_reducible refine (outside_f D 1 64 _ A1.out.1 A1.out.2).mono ?_; rintro e w' ⟨rfl, rfl⟩) | (go_at_call 59; refine (outside_t _ _ _ _ A2.out).mono ?_; rintro e w' ⟨rfl, rfl⟩))
    go_ret2
    exact ⟨rfl, rfl⟩
end Go.Proofs.Ytpbbohinhbboaaa.Sx
