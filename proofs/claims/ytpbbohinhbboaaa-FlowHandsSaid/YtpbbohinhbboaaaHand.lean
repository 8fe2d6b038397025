/-
  The program's flow.Hand: the walk.
-/
import Derived.Test.YtpbbohinhbboaaaDeal
import Derived.Test.YtpbbohinhbboaaaChecked
import Derived.Test.YtpbbohinhbboaaaShelf
import Derived.Deep.AppendLies
import Derived.BigGuardPart
import Derived.Lib.Hide
import Derived.IntWalk
namespace Go.Proofs.Ytpbbohinhbboaaa.Sx
open Go Go.RowKit

def handL (s D S : Nat) : List Int := up (dealAt D s S).out
/-- What both Hands hand back where all is well. -/
def HandPost (w : World) (l : List Int) (e : Ending) (w' : World) : Prop := ∃ A c, e = .returned (.tuple #[.slice A l.length c, .int .i64 0]) ∧ IRow w.heap.size w' (.slice A l.length c) l ∧ Ext w w'
def apart (v u : Value) : Prop := ∀ g, v.ownBlock = some g → u.ownBlock ≠ some g

theorem IRow.at_ {base : Nat} {w : World} {A : Option Addr} {n c : Nat} {zs : List Int} (h : IRow base w (.slice A n c) zs) {i : Nat} (hi : i < zs.length) : ∃ g, A = some ⟨g, 0, none⟩ ∧ w.cell? ⟨g, i, none⟩ = some (.int .i64 zs[i]) := by
  rcases h with ⟨_, rfl⟩ | ⟨g, rest, hv, hb, hg, hm⟩
  · simp at hi
  · injection hv with h1 _ _
    refine ⟨g, h1, ?_⟩
    rw [cell_of hg]
    have : i < (ints zs).length := by rw [ints_len]; exact hi
    rw [List.getElem?_toArray, List.getElem?_append_left this]
    simp [ints, hi]
theorem IRow.cap {base : Nat} {w : World} {A : Option Addr} {n c : Nat} {zs : List Int} (h : IRow base w (.slice A n c) zs) (h0 : 0 < zs.length) : ∃ g, A = some ⟨g, 0, none⟩ := by
  obtain ⟨g, h1, _⟩ := h.at_ h0
  exact ⟨g, h1⟩
theorem bs_any (base : Nat) (A : Option Addr) (n c : Nat) (zs : List Int) (x : Int) (w : World) (h : IRow base w (.slice A n c) zs) (hn : zs.length = n) (hb : n ≤ 1048576) (hs : zs.Pairwise (· ≤ ·)) :
    Calls Try.prog 65 #[.slice A n c, .int .i64 x] w fun e w' => ∃ b, e = .returned (.tuple #[.int .i64 ((zs.countP (· < x) : Nat) : Int), .bool b]) ∧ Ext w w' := by
  by_cases h0 : 0 < zs.length
  · obtain ⟨g, rfl⟩ := h.cap h0
    have hc : ∀ j, j < zs.length → w.cell? ⟨g, 0 + j, none⟩ = some (.int .i64 (zs.getD j 0)) := fun j hj => by
      obtain ⟨g', e, hc⟩ := h.at_ hj
      injection e with e
      injection e with e1 _
      subst e1
      rw [Nat.zero_add, hc]
      simp [List.getD, hj]
    subst hn
    refine (Try.slices_BinarySearch_int g 0 zs.length c zs x w (Nat.le_refl _) (by omega) hc (by rw [List.take_length]; exact hs)).mono fun e w' ⟨he, q, hw⟩ => ⟨zs.contains x, by rw [he, List.take_length], by rw [hw]; exact ⟨rfl, rfl, rfl, Nat.le_refl _, fun _ _ => rfl⟩⟩
  · have hz : zs = [] := List.length_eq_zero_iff.1 (by omega)
    subst hz
    obtain rfl : n = 0 := hn.symm
    exact (Try.slices_BinarySearch_int_empty A c x w).mono fun e w' ⟨he, hw⟩ => ⟨_, he, by rw [hw]; exact Below.refl _ _⟩

theorem int_info : (Try.prog.info? iT).map (fun i => (i.zero, i.size, i.bytes)) = some (some (.int .i64 0), 1, 8) := by kernel_rfl
theorem append_int {ops : Array Oper} {rest : List Oper} {o : Oper} {a : Act} {Q : Exit → Act → World → Prop} (hgd : o.guard = none) (s x : Operand)
    (ho : o.op = .call { callee := .builtin .append, args := #[s, x], argTypes := #[24, 24] }) (base vb n : Nat) (y : Int) (w : World) (v : Value) (zs : List Int)
    (hs : a.eval s = v) (hx : a.eval x = .slice (some ⟨vb, 0, none⟩) 1 1) (hrow : IRow base w v zs) (hvb : w.heap[vb]? = some (.cells #[.int .i64 y] iT (0, 0))) (hn : zs.length = n) (hsm : n ≤ 1048576) (hbase : base ≤ w.heap.size)
    (h : ∀ g c w', IRow base w' (.slice (some ⟨g, 0, none⟩) (n + 1) c) (zs ++ [y]) → w.grownBy w' v.ownBlock → (v.ownBlock = some g ∨ g = w.heap.size) → wpList Try.prog ops Q rest (a.put o.dst (.slice (some ⟨g, 0, none⟩) (n + 1) c)) w') : wpList Try.prog ops Q (o :: rest) a w := by
  obtain ⟨i0, hi, hz0, hz1, hz2⟩ := info_parts int_info
  subst hn
  refine wpList_append_lies w hgd s x 24 ho base iT i0 _ 1 8 Try.underlying24 hi hz0 hz1 hz2 rfl (by omega) v zs.length (ints zs) hs hrow.owns ⟨vb, 0, none⟩ 1 1 [.int .i64 y] hx rfl (World.news_of_block hvb) (by simp [Value.oneCell']) (by omega) (by unfold maxLen; omega) (by omega) hbase _ rfl ?_
  intro g cap w' hown hgrow hat _
  refine h g cap w' (IRow.of_owns (zs := zs ++ [y]) (n := zs.length + 1) (by simp) ?_) hgrow hat
  simpa [ints] using hown

set_option maxRecDepth 100000 in
set_option maxHeartbeats 4000000 in
theorem hand_good (s D S : Nat) (w : World) (hs : s < 18446744073709551616) (h1 : 1 ≤ D) (h64 : D ≤ 64) (hS : 1 ≤ S) (h6 : S ≤ 6) (hSD : S ≤ D) :
    Calls Try.prog 20 #[.int .u64 (s : Int), .int .i64 (D : Int), .int .i64 (S : Int)] w (HandPost w (handL s D S)) := by
  go_enter Try.func20, Try.ntmps20
  go_wp2
  go_loopw [0, 8, 9, 36] (fun sd o d k wr => ∃ (r : Nat) (Ao : Option Addr) (co : Nat) (Ad : Option Addr) (cd : Nat), r ≤ S ∧ k = .int .i64 (r : Int) ∧ sd = .int .u64 ((dealAt D s r).seed : Int) ∧ o = .slice Ao r co ∧ d = .slice Ad r cd ∧
      Hid (IRow w.heap.size wr (.slice Ao r co) (up (dealAt D s r).out) ∧ IRow w.heap.size wr (.slice Ad r cd) (up (dealAt D s r).ds) ∧ apart (.slice Ao r co) (.slice Ad r cd) ∧ Ext w wr)) (fun _ _ _ k _ => S - (intOf k).toNat)
  case atStart => exact ⟨0, none, 0, none, 0, Nat.zero_le _, rfl, rfl, rfl, rfl, ⟨IRow.nil, IRow.nil, fun g h => (by cases h), Below.refl _ _⟩⟩
  case round =>
    obtain ⟨r, Ao, co, Ad, cd, hr, rfl, rfl, rfl, rfl, hI⟩ := hrel
    by_cases hlt : r < S
    · obtain ⟨q, hq⟩ : ∃ q, q = (dealAt D s r).seed := ⟨_, rfl⟩
      rw [← hq]
      have hqs : q < 18446744073709551616 := by rw [hq]; have := (deal_good D s r (by omega)).2.2.2; omega
      have HQ := Lib.hid hq
      clear hq
      obtain ⟨m, hm⟩ : ∃ m, m = D - r := ⟨_, rfl⟩
      have hmI : (D : Int) - (r : Int) = (m : Int) := by omega
      have hmod : wrap64 ((q : Int) % ((D : Int) - (r : Int))) = ((q % m : Nat) : Int) := by
        have hlt : q % m < m := Nat.mod_lt _ (by omega)
        rw [hmI, ← Int.natCast_emod, IntWalk.wrap64_in _ (by omega)]
      have hdiv : IntKind.u64.wrap ((q : Int) / ((D : Int) - (r : Int))) = ((q / m : Nat) : Int) := by
        have hle : q / m ≤ q := Nat.div_le_self _ _
        rw [hmI, ← Int.natCast_ediv]
        generalize q / m = z at hle
        exact IntWalk.u64_in _ (by omega)
      have HMD := Lib.hid (And.intro hmod (And.intro hdiv (And.intro hm hmI)))
      clear hmod hdiv hm hmI
      go_wp2
      rw [HMD.out.1, HMD.out.2.1]
      obtain ⟨c0, hc0⟩ : ∃ c0, c0 = q % m := ⟨_, rfl⟩
      obtain ⟨q1, hq1⟩ : ∃ q1, q1 = q / m := ⟨_, rfl⟩
      rw [← hc0, ← hq1]
      obtain ⟨ds, hds⟩ : ∃ ds, ds = (dealAt D s r).ds := ⟨_, rfl⟩
      obtain ⟨os, hos⟩ : ∃ os, os = (dealAt D s r).out := ⟨_, rfl⟩
      have hgood := deal_good D s r (by omega)
      rw [← hds, ← hos] at hgood hI
      have hdl : ds.length = r := hgood.2.1
      have hol : os.length = r := hgood.2.2.1
      have HG := Lib.hid hgood.1
      have hcm : c0 < 64 := by rw [hc0]; have := Nat.mod_lt q (show 0 < m by rw [HMD.out.2.2.1]; omega); have := HMD.out.2.2.1; omega
      have HX : Hid (pastAll c0 ds = cardAt D s r) := by unfold Hid cardAt; rw [← hds, ← HQ.out, ← HMD.out.2.2.1, hc0]
      have HSTEP : Hid (dealAt D s (r + 1) = ⟨q1, insN (cardAt D s r) ds, os ++ [cardAt D s r]⟩) := by
        unfold Hid
        rw [hq1, hds, hos, HQ.out, HMD.out.2.2.1]
        rfl
      have HL := Lib.hid (And.intro hdl hol)
      have HI := hI
      clear hgood hdl hol hI hds hos hc0 hq1
      go_loopw [11, 13, 52] (fun c _ j wq => ∃ i : Nat, i ≤ r ∧ j = .int .i64 (i : Int) ∧ c = .int .i64 ((pastAll c0 (ds.take i) : Nat) : Int) ∧ wq = wr) (fun _ _ j _ => r - (intOf j).toNat)
      case atStart => exact ⟨0, Nat.zero_le _, rfl, rfl, rfl⟩
      case round =>
        obtain ⟨i, hi, rfl, rfl, rfl⟩ := hrel
        by_cases hil : i < r
        · have hid : i < ds.length := by rw [HL.out.1]; exact hil
          have hiu : i < (up ds).length := by rw [up_len]; exact hid
          obtain ⟨gd, rfl, hcell⟩ := HI.out.2.1.at_ hiu
          have hue : (up ds)[i] = ((ds[i] : Nat) : Int) := by simp [up]
          rw [hue] at hcell
          have HN : Hid (pastAll c0 (ds.take (i + 1)) = past1 ds[i] (pastAll c0 (ds.take i))) := by unfold Hid; rw [List.take_succ_eq_append_getElem hid, pastAll_snoc]
          obtain ⟨d, hd⟩ : ∃ d, d = ds[i] := ⟨_, rfl⟩
          obtain ⟨c1, hc1⟩ : ∃ c1, c1 = pastAll c0 (ds.take i) := ⟨_, rfl⟩
          have hcb : c1 ≤ 200 := by rw [hc1]; have := pastAll_le c0 (ds.take i); have := List.length_take_le i ds; omega
          rw [← hd] at hcell HN
          rw [← hc1] at HN
          rw [← hc1]
          clear hd hc1 hue hid hiu
          by_cases hle : d ≤ c1
          · have HN2 : Hid (pastAll c0 (ds.take (i + 1)) = c1 + 1) := by unfold Hid; rw [HN.out, past1, if_pos hle]
            go_wp2
            go_roundw
            case rel => exact ⟨i + 1, by omega, by go_num, by rw [HN2.out]; go_num, (by first | rfl | trivial)⟩
            case measure => simp [intOf]; omega
          · have HN2 : Hid (pastAll c0 (ds.take (i + 1)) = c1) := by unfold Hid; rw [HN.out, past1, if_neg hle]
            go_wp2
            go_roundw
            case rel => exact ⟨i + 1, by omega, by go_num, by rw [HN2.out], (by first | rfl | trivial)⟩
            case measure => simp [intOf]; omega
        · obtain ⟨x, hx⟩ : ∃ x, x = cardAt D s r := ⟨_, rfl⟩
          have hcard : pastAll c0 (ds.take i) = x := by
            rw [hx, ← HX.out]
            have : ds.take i = ds := List.take_of_length_le (by rw [HL.out.1]; omega)
            rw [this]
          have hxb : x ≤ 200 := by rw [hx, ← HX.out]; have := pastAll_le c0 ds; have := HL.out.1; omega
          rw [hcard]
          rw [← hx] at HSTEP
          have HDN : Hid (up (insN x ds) = putAt (up ds) ((up ds).countP (· < (x : Int))) x) := up_ins x HG.out
          have hpos : (up ds).countP (· < (x : Int)) ≤ r := by have := List.countP_le_length (p := fun z => decide (z < (x : Int))) (l := up ds); rw [up_len, HL.out.1] at this; exact this
          obtain ⟨pos, hps⟩ : ∃ pos, pos = (up ds).countP (· < (x : Int)) := ⟨_, rfl⟩
          rw [← hps] at hpos HDN
          have HPS := Lib.hid hps
          have HSO : Hid ((up ds).Pairwise (· ≤ ·)) := (up_sorted HG.out).1
          have HE := Lib.hid (fun o => (Below.refl wr.heap.size wr).alloc (Nat.le_refl _) o)
          have hbase : w.heap.size ≤ wr.heap.size := HI.out.2.2.2.size
          have HB := Lib.hid hbase
          clear hcard hx hps hbase HX
          go_wp2_with (at_builtin; refine append_int rfl _ _ rfl w.heap.size wr.heap.size r (x : Int) _ _ (up os) rfl rfl (HI.out.1.ext (HE.out _)) (heap_new rfl) (by rw [up_len]; exact HL.out.2) (by omega) ?c1 ?_)
          case c1 => exact Nat.le_trans HB.out (HE.out _).size
          intro g1 k1 w1 ho1 hg1 hat1
          have hd0 := HI.out.2.1
          have hap := HI.out.2.2.1
          have hd1 : IRow w.heap.size w1 (.slice Ad r cd) (up ds) := (hd0.ext (HE.out _)).kept hg1 (fun g h1 h2 => hap g h2 h1)
          have hap1 : apart (.slice (some ⟨g1, 0, none⟩) (r + 1) k1) (.slice Ad r cd) := by
            intro g h1 h2
            have e : g1 = g := by simpa [Value.ownBlock] using h1
            subst e
            rcases hat1 with h | h
            · exact hap _ h h2
            · have := (hd0.block _ h2).2
              try simp at h
              omega
          have hx1 : Ext w w1 := ((HI.out.2.2.2).trans (HE.out _)).grown hg1 (Nat.le_trans HB.out (HE.out _).size) (fun k e => (HI.out.1.block k e).1)
          have H1 := Lib.hid (And.intro ho1 (And.intro hd1 (And.intro hap1 hx1)))
          clear ho1 hg1 hat1 hd0 hap hd1 hap1 hx1
          go_wp2_with fail
          refine Calls.mono (bs_any w.heap.size _ r _ (up ds) (x : Int) w1 H1.out.2.1 (by rw [up_len]; exact HL.out.1) (by omega) HSO.out) ?_
          rintro e w2 ⟨b2, rfl, hx2⟩
          rw [← HPS.out]
          have H2 := Lib.hid (And.intro (H1.out.1.ext hx2) (And.intro (H1.out.2.1.ext hx2) (H1.out.2.2.2.trans hx2)))
          have HE2 := Lib.hid (fun o => (Below.refl w2.heap.size w2).alloc (Nat.le_refl _) o)
          clear hx2
          go_wp2_with fail
          have hins : ∀ o, o = Obj.cells #[.int .i64 (x : Int)] iT → Calls Try.prog 66 #[.slice Ad r cd, .int .i64 (pos : Int), .slice (some ⟨w2.heap.size, 0, none⟩) 1 1] (w2.alloc o) fun e w' => ∃ g c, e = .returned (.slice (some ⟨g, 0, none⟩) (r + 1) c) ∧ IRow w.heap.size w' (.slice (some ⟨g, 0, none⟩) (r + 1) c) (up (insN x ds)) ∧
              IRow w.heap.size w' (.slice (some ⟨g1, 0, none⟩) (r + 1) k1) (up os ++ [(x : Int)]) ∧ apart (.slice (some ⟨g1, 0, none⟩) (r + 1) k1) (.slice (some ⟨g, 0, none⟩) (r + 1) c) ∧ Ext w w' := fun o ho => by
            subst ho
            have hrow := H2.out.2.1.ext (HE2.out (.cells #[.int .i64 (x : Int)] iT))
            have hout := H2.out.1.ext (HE2.out (.cells #[.int .i64 (x : Int)] iT))
            have hbs : w.heap.size ≤ (w2.alloc (.cells #[.int .i64 (x : Int)] iT)).heap.size := Nat.le_trans H2.out.2.2.size (HE2.out _).size
            refine (insert_any w.heap.size w2.heap.size pos (x : Int) (up ds) _ _ hrow (by rw [up_len, HL.out.1]; exact hpos) (by rw [up_len, HL.out.1]; omega) (heap_new rfl) (fun e => by have := (H2.out.2.1.block _ e).2; omega) hbs).mono fun e w' ⟨g, c, he, h1, h2, h3⟩ => ?_
            have hpl : (putAt (up ds) pos (x : Int)).length = r + 1 := by rw [putAt_len, up_len, HL.out.1]
            rw [hpl] at he h1
            refine ⟨g, c, he, by rw [HDN.out]; exact h1, hout.kept h2 (fun k e1 e2 => H1.out.2.2.1 k e1 e2), ?_, (H2.out.2.2.trans (HE2.out _)).grown h2 hbs (fun k e => (H2.out.2.1.block k e).1)⟩
            intro k e1 e2
            have ek : g = k := by simpa [Value.ownBlock] using e2
            subst ek
            rcases h3 with h | h
            · exact H1.out.2.2.1 _ e1 h
            · have := (H2.out.1.block _ e1).2
              simp at h
              omega
          refine Calls.mono (hins _ rfl) ?_
          rintro e w3 ⟨g3, k3, rfl, hI3⟩
          have H3 := Lib.hid hI3
          clear hins hI3
          go_wp2
          go_roundw
          case rel => exact ⟨r + 1, some ⟨g1, 0, none⟩, k1, some ⟨g3, 0, none⟩, k3, by omega, by go_num, by rw [HSTEP.out], rfl, rfl, by rw [HSTEP.out]; exact ⟨by simpa [up] using H3.out.2.1, H3.out.1, H3.out.2.2.1, H3.out.2.2.2⟩⟩
          case measure => simp [intOf]; omega
    · have hl : (handL s D r).length = r := by unfold handL; rw [up_len]; exact (deal_good D s r (by omega)).2.2.1
      have HP : Hid (HandPost w (handL s D S) (.returned (.tuple #[.slice Ao r co, .int .i64 0])) wr) := by
        have e : S = r := by omega
        unfold Hid
        rw [e]
        exact ⟨Ao, co, by rw [hl], by rw [hl]; exact hI.out.1, hI.out.2.2.2⟩
      clear hl
      go_wp2
      go_ret2
      exact HP.out

/-- There is nothing to be dealt so. -/
def badHand (D S : Int) : Prop := D < 1 ∨ 64 < D ∨ S < 1 ∨ 6 < S ∨ D < S

set_option maxRecDepth 100000 in
theorem hand_bad (s D S : Int) (w : World) (h : badHand D S) :
    Calls Try.prog 20 #[.int .u64 s, .int .i64 D, .int .i64 S] w fun e w' => e = .returned (.tuple #[.slice none 0 0, .int .i64 1]) ∧ w = w' := by
  unfold badHand at h
  by_cases a1 : D < 1
  · clear h
    go_enter Try.func20, Try.ntmps20
    go_wp2
    go_ret2
    exact ⟨rfl, rfl⟩
  by_cases a2 : 64 < D
  · clear h
    go_enter Try.func20, Try.ntmps20
    go_wp2
    go_ret2
    exact ⟨rfl, rfl⟩
  by_cases a3 : S < 1
  · clear h
    go_enter Try.func20, Try.ntmps20
    go_wp2
    go_ret2
    exact ⟨rfl, rfl⟩
  by_cases a4 : 6 < S
  · clear h
    go_enter Try.func20, Try.ntmps20
    go_wp2
    go_ret2
    exact ⟨rfl, rfl⟩
  have a5 : D < S := by omega
  clear h
  go_enter Try.func20, Try.ntmps20
  go_wp2
  go_ret2
  exact ⟨rfl, rfl⟩
end Go.Proofs.Ytpbbohinhbboaaa.Sx
