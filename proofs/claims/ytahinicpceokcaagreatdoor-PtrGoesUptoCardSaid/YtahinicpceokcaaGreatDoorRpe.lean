/-
  The reference's place, At (printed by gen/rp1.py).
  The reference's objects: Drop (printed by gen/rp3.py).
  The reference's lists: the rows that a list's values stand in, parts of them, Copy.
-/
import Derived.Test.YtahinicpceokcaaGreatDoorRmc
import Derived.Test.YtahinicpceokcaaGreatDoorPga
import Derived.Test.YtahinicpceokcaaGreatDoorRma
import Derived.Test.YtahinicpceokcaaGreatDoorJqe
import Derived.Test.YtahinicpceokcaaGreatDoorJca
import Derived.Laws.Slices
namespace Go.Proofs.YtahinicpceokcaaGreatDoor.Jm
open Go Go.RowKit Go.Proofs.YtahinicpceokcaaGreatDoor.Sx Go.Proofs.YtahinicpceokcaaGreatDoor.Js Go.Proofs.YtahinicpceokcaaGreatDoor.Gr Go.Proofs.YtahinicpceokcaaGreatDoor.Ur
/-- What place gives. -/
def RIdx (o : Option Nat) (w : World) (e : Ending) (w' : World) : Prop := (∃ n : Int, e = .returned (.int .i64 n) ∧ (∀ k, o = some k → n = (k : Int)) ∧ (o = none → n = -1)) ∧ Ext w w'
theorem num_dec (q : Nat) : numT ((q : Nat) : Int) = Lib.decDigits q := numT_nat q
set_option maxRecDepth 100000 in
set_option maxHeartbeats 4000000 in
theorem rplace_any (s : Tx) (m : Nat) (w : World) (hm : m ≤ 1000000) : Calls Tryz.prog 91 #[.string (bx s), .int .i64 (m : Int)] w (RIdx (idxS s m) w) := by
  have CD : Hid (∀ q : Nat, q < m → ∀ W, Calls Tryz.prog 67 #[.int .i64 (q : Int)] W fun e w' => e = .returned (.string (bx (Lib.decDigits q))) ∧ Ext W w') := fun q hq W => by
    have h := rnum_any (q : Int) W ⟨by omega, by omega⟩
    rw [num_dec] at h
    exact h
  obtain ⟨sx, hsx⟩ : ∃ x, x = bx s := ⟨_, rfl⟩
  have HSX := Lib.hid hsx
  rw [← hsx]
  have HOF : Hid (∀ k, k < m → Lib.decDigits k = s → idxS s m = some k) := fun k h1 h2 => idxS_of h1 h2
  have HNO : Hid ((∀ k, k < m → Lib.decDigits k ≠ s) → idxS s m = none) := fun h => by
    cases hi : idxS s m with
    | none => rfl
    | some k => exact absurd (idxS_some hi).2 (h k (idxS_some hi).1)
  obtain ⟨o, ho⟩ : ∃ o, o = idxS s m := ⟨_, rfl⟩
  rw [← ho] at HOF HNO ⊢
  clear hsx ho
  go_enter Tryz.func91, Tryz.ntmps91
  go_wp2_with fail
  go_loopw [7] (fun ix wr => ∃ q : Nat, q ≤ m ∧ ix = .int .i64 (q : Int) ∧ Hid ((∀ k, k < q → Lib.decDigits k ≠ s) ∧ Ext w wr)) (fun ix _ => m - (intOf ix).toNat)
  case atStart => exact ⟨0, Nat.zero_le _, rfl, fun k hk => absurd hk (Nat.not_lt_zero _), Below.refl _ _⟩
  case round =>
    obtain ⟨q, hq, rfl, hR⟩ := hrel
    have hq0 : (0 : Int) ≤ (q : Int) := by omega
    by_cases hlt : q < m
    · have CD1 := Lib.hid (CD.out q hlt wr)
      obtain ⟨y, hy⟩ : ∃ y, y = bx (Lib.decDigits q) := ⟨_, rfl⟩
      rw [← hy] at CD1
      have hltI : (q : Int) < (m : Int) := by omega
      by_cases he : Lib.decDigits q = s
      · have HO := Lib.hid (HOF.out q hlt he)
        have e1 : (y.toList == sx.toList) = true := by rw [hy, HSX.out, he]; exact beq_self_eq_true _
        clear hy he CD
        go_wp2_with fail
        refine Calls.mono CD1.out ?_
        rintro e w2 ⟨rfl, x2⟩
        have X2 := Lib.hid (hR.out.2.trans x2)
        clear x2
        go_wp2_with fail
        go_ret
        exact ⟨⟨(q : Int), rfl, fun k h => by rw [HO.out] at h; injection h with h; rw [h], fun h => by rw [HO.out] at h; cases h⟩, X2.out⟩
      · have HNE : Hid (∀ k, k < q + 1 → Lib.decDigits k ≠ s) := fun k hk => by
          by_cases h : k = q
          · rw [h]; exact he
          · exact hR.out.1 k (by omega)
        have e1 : (y.toList == sx.toList) = false := by rw [beq_eq_false_iff_ne, hy, HSX.out, bx_list, bx_list]; exact he
        clear hy he CD
        go_wp2_with fail
        refine Calls.mono CD1.out ?_
        rintro e w2 ⟨rfl, x2⟩
        have X2 := Lib.hid (hR.out.2.trans x2)
        clear x2
        go_wp2_with fail
        go_roundw
        case rel => exact ⟨q + 1, hlt, by go_num, HNE.out, X2.out⟩
        case measure => simp [intOf]; omega
    · have bl : decide ((q : Int) < (m : Int)) = false := decide_eq_false (by omega)
      have bl2 : decide (q < m) = false := decide_eq_false hlt
      have HO : Hid (o = none) := HNO.out fun k hk => hR.out.1 k (by omega)
      clear hlt CD
      go_wp2_with fail
      go_ret
      exact ⟨⟨-1, rfl, fun k h => (by rw [HO.out] at h; cases h), fun _ => rfl⟩, hR.out.2⟩
/-- What At gives. -/
def RAtPost (F : Nat → Prop) (o : Option J) (w : World) (e : Ending) (w' : World) : Prop := Ext w w' ∧ ∃ K B z s A1 n1 c1 A2 n2 c2, e = .returned (.tuple #[.agg #[.int .i64 K, .bool B, .int .i64 z, .string s, .slice A1 n1 c1, .slice A2 n2 c2], .bool o.isSome]) ∧ RZ F w' (o.getD .null) (v6  K B  z s (.slice A1 n1 c1) (.slice A2 n2 c2)) ∧ (o.isSome = true → RV F w' (o.getD .null) (v6  K B  z s (.slice A1 n1 c1) (.slice A2 n2 c2)))
def RAtC (steps : List Tx) : Prop := ∀ (F : Nat → Prop) (v : J) (cs : List Value) (A : Option Addr) (c : Nat) (w : World), (∀ b, w.heap.size ≤ b → F b) → RV F w v cs → WJ v → bulkJ v ≤ 16000000 → NamesAt (fun _ => True) w A steps → steps.length ≤ c → Calls Tryz.prog 55 #[.agg cs.toArray, .slice A steps.length c] w (RAtPost F (atJ v steps) w)
theorem kind_list (v : J) (h : kindJ v = 5) : ∃ l, v = .list l := by cases v <;> first | exact ⟨_, rfl⟩ | cases h
theorem child_nolist {v : J} (h : kindJ v ≠ 5) (s : Tx) : childJ v s = getO (objO v) s := by
  cases v with
  | list l => exact absurd rfl h
  | obj ns l => rfl
  | null => exact (get_nil s).symm
  | bool b => exact (get_nil s).symm
  | num n => exact (get_nil s).symm
  | text t => exact (get_nil s).symm
theorem two_cells {w w1 : World} {g : Nat} {c0 c1 : Array Value} (hg : g = w.heap.size) (h : w1 = (w.alloc (.cells c0 vT (0, 0))).alloc (.cells c1 vT (0, 0))) : Ext w w1 ∧ w1.heap[g]? = some (.cells c0 vT (0, 0)) ∧ w1.heap[g + 1]? = some (.cells c1 vT (0, 0)) ∧ w1.heap.size = g + 2 := by
  subst h
  exact ⟨(new_ext _ _).trans (new_ext _ _), heap_old (heap_new hg), heap_new (by rw [hg]; simp), by rw [hg]; simp⟩
set_option maxRecDepth 100000 in
set_option maxHeartbeats 4000000 in
theorem rat_nil : RAtC [] := by
  intro F v cs A c w hF hv hw hb hn hc
  obtain ⟨K, B, z, s, A1, n1, c1, A2, n2, c2, rfl⟩ := RV.shape hv
  have HV := Lib.hid hv
  obtain ⟨g, hg⟩ : ∃ g, g = w.heap.size := ⟨_, rfl⟩
  obtain ⟨w1, hw1⟩ : ∃ w1, w1 = (w.alloc (.cells #[.int .i64 K, .bool B, .int .i64 z, .string s, .slice A1 n1 c1, .slice A2 n2 c2] vT (0, 0))).alloc (.cells #[.int .i64 0, .bool false, .int .i64 0, .string ⟨#[]⟩, nilS, nilS] vT (0, 0)) := ⟨_, rfl⟩
  obtain ⟨x1, v1, r1, s1⟩ := two_cells hg hw1
  have HX1 := Lib.hid x1
  have HVV : Hid (VIn w1 g K B z s (.slice A1 n1 c1) (.slice A2 n2 c2)) := v1
  have HVR : Hid (VIn w1 (g + 1) 0 false 0 ⟨#[]⟩ nilS nilS) := r1
  have HGW : Hid (w.heap.size ≤ g + 1) := by rw [hg]; exact Nat.le_add_right _ _
  show Calls Tryz.prog 55 #[.agg (v6  K B  z s (.slice A1 n1 c1) (.slice A2 n2 c2)).toArray, .slice A 0 c] w _
  unfold v6
  clear hv hw hb hn hc hF x1 v1 r1 s1
  go_enter Tryz.func55, Tryz.ntmps55
  go_upto_region 1 with (fail)
  rw [← hw1, ← hg]
  clear hw1 hg
  obtain ⟨a0, a1, a2, a3, a4, a5⟩ := HVV.out.cells
  obtain ⟨r0, r1, r2, r3, r4, r5⟩ := (HVR.out).cells
  have f0 := (HVR.out).free 0
  have f1 := (HVR.out).free 1
  have f2 := (HVR.out).free 2
  have f3 := (HVR.out).free 3
  have f4 := (HVR.out).free 4
  have f5 := (HVR.out).free 5
  go_wp2_with fail
  refine bodyPost_ret (results_v rfl _ _ (g + 1) rfl (put_in K B z s (.slice A1 n1 c1) (.slice A2 n2 c2) HVR.out)) rfl ?_
  have hx := put_ext K B z s (.slice A1 n1 c1) (.slice A2 n2 c2) HX1.out HGW.out
  exact ⟨hx, _, _, _, _, _, _, _, _, _, _, rfl, .inl (HV.out.ext hx), fun _ => HV.out.ext hx⟩
end Go.Proofs.YtahinicpceokcaaGreatDoor.Jm
namespace Go.Proofs.YtahinicpceokcaaGreatDoor.Jm
open Go Go.RowKit Go.Proofs.YtahinicpceokcaaGreatDoor.Sx Go.Proofs.YtahinicpceokcaaGreatDoor.Js Go.Proofs.YtahinicpceokcaaGreatDoor.Gr Go.Proofs.YtahinicpceokcaaGreatDoor.Ur
def dropStep (t : Tx) (st : List Tx × List J) (p : Tx × J) : List Tx × List J := if p.1 = t then st else (st.1 ++ [p.1], st.2 ++ [p.2])
theorem drop_eq {t n : Tx} {st : List Tx × List J} {x : J} (h : n = t) : dropStep t st (n, x) = st := if_pos h
theorem drop_ne {t n : Tx} {A : List Tx} {B : List J} {x : J} (h : n ≠ t) : dropStep t (A, B) (n, x) = (A ++ [n], B ++ [x]) := if_neg h
theorem drop_fold (t : Tx) : ∀ (ns : List Tx) (l : List J) (A : List Tx) (B : List J), Rise ns → ns.length = l.length → (ns.zip l).foldl (dropStep t) (A, B) = (A ++ (dropJ ns l t).1, B ++ (dropJ ns l t).2)
  | [], [], A, B, _, _ => by
    rw [dropJ_none (by simp)]
    simp
  | n :: ns, x :: l, A, B, hr, hl => by
    have hl2 : ns.length = l.length := by simpa using hl
    rw [List.zip_cons_cons, List.foldl_cons]
    rcases tx_cases n t with h | h | h
    · rw [drop_ne (lt_ne h), drop_fold t ns l _ _ (rise_tail hr) hl2, dropJ_up h]
      simp
    · subst h
      rw [drop_eq rfl, drop_fold n ns l _ _ (rise_tail hr) hl2, dropJ_same, dropJ_none (rise_not hr)]
    · have hm : t ∉ ns := fun hm => lt_irr _ (lt_tr h (rise_head hr t hm))
      rw [drop_ne (fun e => lt_ne h e.symm), drop_fold t ns l _ _ (rise_tail hr) hl2, dropJ_low hr h, dropJ_none hm]
      simp
theorem drop_done {F : Nat → Prop} {w w1 W : World} {g n1 : Nat} {A'' : List Tx} {B'' : List J} {nv lv : Value} (hI : SInv F w w1 (g + 2) (g + 3) W n1 A'' B'' nv lv) (hx : Ext w w1) (hw : w.heap.size = g) (hF : ∀ b, w.heap.size ≤ b → F b) :
    Ext w (putV W (g + 1) 6 false 0 ⟨#[]⟩ nv lv) ∧ RV F (putV W (g + 1) 6 false 0 ⟨#[]⟩ nv lv) (.obj A'' B'') (v6 6 false 0 ⟨#[]⟩ nv lv) := by
  have hW := hx.trans hI.2.2.choose_spec.1.1.1
  refine ⟨put_ext 6 false 0 ⟨#[]⟩ nv lv hW (by omega), RV.keep (fun b hb _ => put_heap W 6 false 0 ⟨#[]⟩ nv lv b ?_) (fun b hb _ => ?_) _ _ (hI.obj hx)⟩
  · rcases hb with ⟨_, h⟩ | h <;> omega
  · rcases hb with ⟨h, _⟩ | h
    · exact h
    · exact hF b (by omega)
set_option maxRecDepth 100000 in
set_option maxHeartbeats 8000000 in
theorem rdrop_any (F : Nat → Prop) (A B : Option Addr) (c d : Nat) (ns : List Tx) (l : List J) (t : Tx) (w : World)
    (hn : NamesAt F w A ns) (hl : RValsAt F w B l) (hlen : ns.length = l.length) (hr : Rise ns) (hd : l.length ≤ d) (hsm : ns.length ≤ 500000) (hF : ∀ b, w.heap.size ≤ b → F b) :
    Calls Tryz.prog 97 #[.agg (v6 6 false 0 ⟨#[]⟩ (.slice A ns.length c) (.slice B l.length d)).toArray, .string (bx t)] w (RSetPost F w (dropJ ns l t).1 (dropJ ns l t).2) := by
  obtain ⟨g, hg⟩ : ∃ g, g = w.heap.size := ⟨_, rfl⟩
  obtain ⟨w1, hw1⟩ : ∃ w1, w1 = (w.alloc (.cells #[.int .i64 6, .bool false, .int .i64 0, .string ⟨#[]⟩, .slice A ns.length c, .slice B l.length d] vT (0, 0))).alloc (.cells #[.int .i64 0, .bool false, .int .i64 0, .string ⟨#[]⟩, nilS, nilS] vT (0, 0)) := ⟨_, rfl⟩
  have HX1 : Hid (Ext w w1) := by rw [hw1]; exact (new_ext _ _).trans (new_ext _ _)
  have HV1 : Hid (VIn w1 g 6 false 0 ⟨#[]⟩ (.slice A ns.length c) (.slice B l.length d)) := by rw [hw1]; exact heap_old (heap_new hg)
  have HR1 : Hid (VIn w1 (g + 1) 0 false 0 ⟨#[]⟩ nilS nilS) := by rw [hw1]; exact heap_new (by rw [hg]; simp)
  have HGW : Hid (w.heap.size = g) := hg.symm
  have HGS : Hid (w1.heap.size = g + 2) := by rw [hw1, hg]; simp [Hid]
  have HN := Lib.hid hn
  have HL := Lib.hid hl
  have HLE := Lib.hid hlen
  have HRI := Lib.hid hr
  have HF := Lib.hid hF
  have HD := Lib.hid hd
  obtain ⟨N, hN⟩ : ∃ N, N = ns.length := ⟨_, rfl⟩
  have HNN : Hid (N = ns.length) := hN
  unfold v6
  rw [← hlen, ← hN] at HV1 hw1 ⊢
  rw [← hN] at hsm
  clear hn hl hlen hr hF hd hN
  go_enter Tryz.func97, Tryz.ntmps97
  go_upto_region 1 with (fail)
  rw [← hw1, ← hg]
  clear hw1 hg
  go_upto_region 2 with (fail)
  have hsz : w1.heap.size = g + 2 := HGS.out
  obtain ⟨w2, hw2⟩ : ∃ w2, w2 = w1.alloc (.cells #[.int .i64 6, .bool false, .int .i64 0, .string ⟨#[]⟩, nilS, nilS] vT (0, 0)) := ⟨_, rfl⟩
  have HX2 : Hid (Ext w1 w2) := by rw [hw2]; exact new_ext _ _
  have HI0 : Hid (SInv F w w1 (g + 2) (g + 3) w2 0 [] [] nilS nilS) := by
    rw [hw2]
    exact SInv.nil (new_ext _ _) (heap_new hsz.symm) (by show _ ≤ (w1.heap.push _).size; rw [Array.size_push, hsz]; omega) (by omega) (by omega)
  rw [← hw2, hsz]
  clear hw2 hsz
  have hv2 := HV1.out.ext HX2.out
  obtain ⟨c0, c1, c2, c3, c4, c5⟩ := hv2.cells
  clear hv2
  go_wp2_with fail
  clear c0 c1 c2 c3 c4 c5
  go_loopw [12] (fun ix wr => ∃ (q n1 : Nat) (A' : List Tx) (B' : List J) (nA : Option Addr) (nc : Nat) (lA : Option Addr) (lc : Nat), q ≤ N ∧ n1 ≤ q ∧ ix = .int .i64 (q : Int) ∧ Hid (SInv F w w1 (g + 2) (g + 3) wr (n1) (A') (B') (.slice nA (n1) nc) (.slice lA (n1) lc) ∧ ((ns.zip l).take q).foldl (dropStep t) ([], []) = (A', B'))) (fun ix _ => N - (intOf ix).toNat)
  case atStart => exact ⟨0, 0, [], [], none, 0, none, 0, Nat.zero_le _, Nat.zero_le _, rfl, HI0.out, by simp⟩
  case round =>
    obtain ⟨q, n1, A', B', nA, nc, lA, lc, hq, hn1, rfl, hI⟩ := hrel
    have hq0 : (0 : Int) ≤ (q : Int) := by omega
    have hqI : (q : Int) ≤ 500000 := by omega
    by_cases hlt : q < N
    · have HQ : Hid (q < ns.length ∧ q < l.length) := ⟨by rw [← HNN.out]; exact hlt, by rw [← HLE.out, ← HNN.out]; exact hlt⟩
      obtain ⟨ga, oa, rfl, -, hca⟩ := HN.out q HQ.out.1
      obtain ⟨gb, ob, u, rfl, -, -, hu, hrv⟩ := HL.out q HQ.out.2
      obtain ⟨K', Bb', z', sv', A3, m3, k3, A4, m4, k4, rfl⟩ := RV.shape hrv
      have HRV := Lib.hid hrv
      have HST : Hid (((ns.zip l).take (q + 1)).foldl (dropStep t) ([], []) = dropStep t (A', B') (ns[q]'HQ.out.1, l[q]'HQ.out.2)) := by
        unfold Hid
        rw [take_fold _ _ _ _ (by rw [List.length_zip]; have := HQ.out; omega), hI.out.2, List.getElem_zip]
      have hltI : (q : Int) < (N : Int) := by omega
      have hcell : wr.cell? ⟨ga, oa + q, none⟩ = some (.string (bx (ns[q]'HQ.out.1))) := (cell_keep ((HX1.out.trans hI.out.1.2.2.choose_spec.1.1.1).block ga (cell_lt hca))).trans hca
      have HS9 : Hid (∀ (nA : Option Addr) (n1 nc : Nat) (lA : Option Addr) (lc : Nat) (W : World), GoodW w1 (g + 2) (g + 3) (objB (.slice nA n1 nc) (.slice lA n1 lc)) W → W.cell? ⟨g + 2, 4, none⟩ = some (.slice nA n1 nc) ∧ W.cell? ⟨g + 2, 5, none⟩ = some (.slice lA n1 lc) ∧ W.cell? ⟨g, 5, none⟩ = some (.slice (some ⟨gb, ob, none⟩) N d) ∧ W.cell? ⟨gb, ob + q * 6, none⟩ = some (.int .i64 K') ∧ W.cell? ⟨gb, ob + q * 6 + 1, none⟩ = some (.bool Bb') ∧ W.cell? ⟨gb, ob + q * 6 + 2, none⟩ = some (.int .i64 z') ∧ W.cell? ⟨gb, ob + q * 6 + 3, none⟩ = some (.string sv') ∧ W.cell? ⟨gb, ob + q * 6 + 4, none⟩ = some (.slice A3 m3 k3) ∧ W.cell? ⟨gb, ob + q * 6 + 5, none⟩ = some (.slice A4 m4 k4)) := fun nA n1 nc lA lc W hW =>
        have hx := HX1.out.trans hW.1
        have h := fun k x (hk : (v6 K' Bb' z' sv' (.slice A3 m3 k3) (.slice A4 m4 k4))[k]? = some x) => (cell_keep (hx.block gb (cell_lt (hu k x hk)))).trans (hu k x hk)
        ⟨cell_of hW.2.1 4, cell_of hW.2.1 5, (HV1.out.ext hW.1).cells.2.2.2.2.2, h 0 _ rfl, h 1 _ rfl, h 2 _ rfl, h 3 _ rfl, h 4 _ rfl, h 5 _ rfl⟩
      obtain ⟨n, hnn⟩ : ∃ n, n = ns[q]'HQ.out.1 := ⟨_, rfl⟩
      rw [← hnn] at hcell HST
      clear hnn hca hu hrv
      by_cases hne : n = t
      · have hbq : ((bx n).toList == (bx t).toList) = true := by rw [bx_beq]; exact decide_eq_true hne
        have HNE := Lib.hid hne
        clear hne
        go_wp2_with fail
        go_roundw
        case rel => exact ⟨q + 1, n1, A', B', nA, nc, lA, lc, hlt, by omega, by go_num, hI.out.1, by rw [HST.out, drop_eq HNE.out]⟩
        case measure => simp [intOf]; omega
      · have hbq : ((bx n).toList == (bx t).toList) = false := by rw [bx_beq]; exact decide_eq_false hne
        have HNE := Lib.hid hne
        clear hne
        obtain ⟨hl1, hl2, L, tw, hL, hrL⟩ := hI.out.1
        have HZ := Lib.hid (SInv.len ⟨hl1, hl2, L, tw, hL, hrL⟩)
        have HM : Hid ((∀ b, (Value.slice nA n1 nc).ownBlock = some b → b < wr.heap.size) ∧ ∀ b, (Value.slice lA n1 lc).ownBlock = some b → b < wr.heap.size) := ⟨fun b e => (tw.2.1.block b e).2, fun b e => (tw.2.2.1.block b e).2⟩
        have HLL := Lib.hid hL
        have HRL := Lib.hid (And.intro (And.intro hl1 hl2) hrL)
        have hgw := tw.1
        clear hl1 hl2 hL hrL
        go_upto_region 6 with (fail)
        refine wp_region_split (fun w' => w'.cell? ⟨g + 2, 4, none⟩ = some (.slice nA n1 nc) ∧ w'.cell? ⟨g + 2, 5, none⟩ = some (.slice lA n1 lc) ∧ w'.cell? ⟨g, 5, none⟩ = some (.slice (some ⟨gb, ob, none⟩) N d) ∧ w'.cell? ⟨gb, ob + q * 6, none⟩ = some (.int .i64 K') ∧ w'.cell? ⟨gb, ob + q * 6 + 1, none⟩ = some (.bool Bb') ∧ w'.cell? ⟨gb, ob + q * 6 + 2, none⟩ = some (.int .i64 z') ∧ w'.cell? ⟨gb, ob + q * 6 + 3, none⟩ = some (.string sv') ∧ w'.cell? ⟨gb, ob + q * 6 + 4, none⟩ = some (.slice A3 m3 k3) ∧ w'.cell? ⟨gb, ob + q * 6 + 5, none⟩ = some (.slice A4 m4 k4)) 15 (by kernel_rfl) (by kernel_rfl) (by exact HS9.out _ _ _ _ _ _ (by repeat (first | assumption | apply GoodW.alloc | apply GoodW.drew))) (fun hHeld => ?_)
        simp only [List.take_succ_cons, List.take_zero, List.drop_succ_cons, List.drop_zero]
        refine wpAnyH_take (i := 0) (v := ?_) rfl (by kernel_rfl) (by kernel_rfl) (by kernel_rfl) (fun _ _ _ h => h) (Or.inl ⟨by rfl, ?_⟩) (by assumption) ?_
        rotate_left
        · intro w hSw
          (try dsimp only at hSw)
          go_simp
          (try with_reducible rfl)
        (try simp only [Act.put, List.setIfInBounds_toArray])
        refine wpAnyH_take (i := 1) (v := ?_) rfl (by kernel_rfl) (by kernel_rfl) (by kernel_rfl) (fun _ _ _ h => h) (Or.inl ⟨by rfl, ?_⟩) (by assumption) ?_
        rotate_left
        · intro w hSw
          (try dsimp only at hSw)
          go_simp
          (try with_reducible rfl)
        (try simp only [Act.put])
        refine wpAnyH_take (i := 2) (v := ?_) rfl (by kernel_rfl) (by kernel_rfl) (by kernel_rfl) (fun _ _ _ h => h) (Or.inl ⟨by rfl, ?_⟩) (by assumption) ?_
        rotate_left
        · intro w hSw
          (try dsimp only at hSw)
          go_simp
          (try with_reducible rfl)
        (try simp only [Act.put])
        refine wpAnyH_take (i := 5) (v := ?_) rfl (by kernel_rfl) (by kernel_rfl) (by kernel_rfl) (fun _ _ _ h => h) (Or.inl ⟨by rfl, ?_⟩) (by assumption) ?_
        rotate_left
        · intro w hSw
          (try dsimp only at hSw)
          go_simp
          (try with_reducible rfl)
        (try simp only [Act.put])
        refine wpAnyH_take (i := 6) (v := ?_) rfl (by kernel_rfl) (by kernel_rfl) (by kernel_rfl) (fun _ _ _ h => h) (Or.inl ⟨by rfl, ?_⟩) (by assumption) ?_
        rotate_left
        · intro w hSw
          (try dsimp only at hSw)
          go_simp
          (try with_reducible rfl)
        (try simp only [Act.put])
        refine wpAnyH_take (i := 7) (v := ?_) rfl (by kernel_rfl) (by kernel_rfl) (by kernel_rfl) (fun _ _ _ h => h) (Or.inl ⟨by rfl, ?_⟩) (by assumption) ?_
        rotate_left
        · intro w hSw
          (try dsimp only at hSw)
          go_simp
          (try with_reducible rfl)
        (try simp only [Act.put])
        refine wpAnyH_take (i := 8) (v := ?_) rfl (by kernel_rfl) (by kernel_rfl) (by kernel_rfl) (fun _ _ _ h => h) (Or.inl ⟨by rfl, ?_⟩) (by assumption) ?_
        rotate_left
        · intro w hSw
          (try dsimp only at hSw)
          go_simp
          (try with_reducible rfl)
        (try simp only [Act.put])
        refine wpAnyH_take (i := 9) (v := ?_) rfl (by kernel_rfl) (by kernel_rfl) (by kernel_rfl) (fun _ _ _ h => h) (Or.inl ⟨by rfl, ?_⟩) (by assumption) ?_
        rotate_left
        · intro w hSw
          (try dsimp only at hSw)
          go_simp
          (try with_reducible rfl)
        (try simp only [Act.put])
        refine wpAnyH_take (i := 10) (v := ?_) rfl (by kernel_rfl) (by kernel_rfl) (by kernel_rfl) (fun _ _ _ h => h) (Or.inl ⟨by rfl, ?_⟩) (by assumption) ?_
        rotate_left
        · intro w hSw
          (try dsimp only at hSw)
          go_simp
          (try with_reducible rfl)
        (try simp only [Act.put])
        refine wpAnyH_take (i := 11) (v := ?_) rfl (by kernel_rfl) (by kernel_rfl) (by kernel_rfl) (fun _ _ _ h => h) (Or.inl ⟨by rfl, ?_⟩) (by assumption) ?_
        rotate_left
        · intro w hSw
          (try dsimp only at hSw)
          go_simp
          (try with_reducible rfl)
        (try simp only [Act.put])
        refine wpAnyH_ready (rs := [3, 12]) (by kernel_rfl) (by simp) ?_
        refine AllReadyH.cons rfl (fun KQ hKQ => ?_) ?_
        · skip
          go_simp
          refine hKQ.out _ _ (by exact HS9.out _ _ _ _ _ _ (by repeat (first | assumption | apply GoodW.alloc | apply GoodW.drew))) (fun hHeld => ?_)
          clear hKQ KQ
          (try simp only [Act.put, List.setIfInBounds_toArray, List.set_cons_zero, List.set_cons_succ])
          refine wpAnyH_ready (rs := [4, 12]) (by kernel_rfl) (by simp) ?_
          refine AllReadyH.cons rfl (fun KQ hKQ => ?_) ?_
          · skip
            (refine step_two1 (m := wr.heap.size) rfl (.tmp 21) (.tmp 23) (by rfl) n1 _ (strV n) (by rfl) (by rfl) (by repeat (first | assumption | apply Two.alloc | apply Two.drew)) (by first | exact heap_new (by simp) | exact heap_old (heap_new (by simp)) | exact kk.out _ _ (by first | omega | (simp; omega)) (by first | exact heap_new (by simp) | exact heap_old (heap_new (by simp)))) rfl HZ.out (by omega) HM.out.1 ?_; intro A1' c1' W1 t1 g1 kk s1)
            refine hKQ.out _ _ (by exact HS9.out _ _ _ _ _ _ (by repeat (first | assumption | apply GoodW.alloc | apply GoodW.drew))) (fun hHeld => ?_)
            clear hKQ KQ
            (try simp only [Act.put, List.setIfInBounds_toArray])
            refine wpAnyH_take (i := 14) (v := ?_) rfl (by kernel_rfl) (by kernel_rfl) (by kernel_rfl) (fun _ _ _ h => h) (Or.inl ⟨by rfl, ?_⟩) (by assumption) ?_
            rotate_left
            · intro w hSw
              (try dsimp only at hSw)
              go_simp
              (try with_reducible rfl)
            (try simp only [Act.put])
            refine wpAnyH_ready (rs := [12]) (by kernel_rfl) (by simp) ?_
            refine AllReadyH.cons rfl (fun KQ hKQ => ?_) AllReadyH.nil
            go_simp
            refine hKQ.out _ _ (by exact HS9.out _ _ _ _ _ _ (by repeat (first | assumption | apply GoodW.alloc | apply GoodW.drew))) (fun hHeld => ?_)
            clear hKQ KQ
            (try simp only [Act.put, List.setIfInBounds_toArray, List.set_cons_zero, List.set_cons_succ])
            refine wpAnyH_ready (rs := [13]) (by kernel_rfl) (by simp) ?_
            refine AllReadyH.cons rfl (fun KQ hKQ => ?_) AllReadyH.nil
            (refine step_two2 (m := wr.heap.size) rfl (.tmp 26) (.tmp 32) (by rfl) n1 _ (v6 K' Bb' z' sv' (.slice A3 m3 k3) (.slice A4 m4 k4)) (by rfl) (by rfl) (by repeat (first | assumption | apply Two.alloc | apply Two.drew)) (by first | exact heap_new (by simp) | exact heap_old (heap_new (by simp)) | exact kk.out _ _ (by first | omega | (simp; omega)) (by first | exact heap_new (by simp) | exact heap_old (heap_new (by simp)))) rfl (by unfold v6; simp [Value.oneCell']) HLL.out (by omega) HM.out.2 ?_; intro A2' c2' W2 t2 g2 kk s2)
            refine hKQ.out _ _ (by exact HS9.out _ _ _ _ _ _ (by repeat (first | assumption | apply GoodW.alloc | apply GoodW.drew))) (fun hHeld => ?_)
            clear hKQ KQ
            (try simp only [Act.put, List.setIfInBounds_toArray])
            refine wpAnyH_done (by kernel_rfl) ?_ _
            refine TailQ.normal ?_
            have q42 : W2.cell? ⟨g + 2, 4, none⟩ = some (.slice nA n1 nc) := cell_of g2.2.1 4; have q52 : W2.cell? ⟨g + 2, 5, none⟩ = some (.slice lA n1 lc) := cell_of g2.2.1 5; have fz4 : W2.frozen? ⟨g + 2, 4, none⟩ = false := frozen_of g2.2.1; have fz5 : W2.frozen? ⟨g + 2, 5, none⟩ = false := frozen_of g2.2.1
            go_wp2_with fail
            go_roundw
            case rel => exact ⟨q + 1, n1 + 1, A' ++ [n], B' ++ [l[q]'HQ.out.2], _, _, _, _, hlt, by omega, by go_num, SInv.app HRL.out.1 HLL.out HRL.out.2 HRV.out (by assumption), by rw [HST.out, drop_ne HNE.out]⟩
            case measure => simp [intOf]; omega
          refine AllReadyH.cons rfl (fun KQ hKQ => ?_) ?_
          · skip
            go_simp
            refine hKQ.out _ _ (by exact HS9.out _ _ _ _ _ _ (by repeat (first | assumption | apply GoodW.alloc | apply GoodW.drew))) (fun hHeld => ?_)
            clear hKQ KQ
            (try simp only [Act.put, List.setIfInBounds_toArray, List.set_cons_zero, List.set_cons_succ])
            refine wpAnyH_ready (rs := [4]) (by kernel_rfl) (by simp) ?_
            refine AllReadyH.cons rfl (fun KQ hKQ => ?_) AllReadyH.nil
            (refine step_two1 (m := wr.heap.size) rfl (.tmp 21) (.tmp 23) (by rfl) n1 _ (strV n) (by rfl) (by rfl) (by repeat (first | assumption | apply Two.alloc | apply Two.drew)) (by first | exact heap_new (by simp) | exact heap_old (heap_new (by simp)) | exact kk.out _ _ (by first | omega | (simp; omega)) (by first | exact heap_new (by simp) | exact heap_old (heap_new (by simp)))) rfl HZ.out (by omega) HM.out.1 ?_; intro A1' c1' W1 t1 g1 kk s1)
            refine hKQ.out _ _ (by exact HS9.out _ _ _ _ _ _ (by repeat (first | assumption | apply GoodW.alloc | apply GoodW.drew))) (fun hHeld => ?_)
            clear hKQ KQ
            (try simp only [Act.put, List.setIfInBounds_toArray])
            refine wpAnyH_take (i := 14) (v := ?_) rfl (by kernel_rfl) (by kernel_rfl) (by kernel_rfl) (fun _ _ _ h => h) (Or.inl ⟨by rfl, ?_⟩) (by assumption) ?_
            rotate_left
            · intro w hSw
              (try dsimp only at hSw)
              go_simp
              (try with_reducible rfl)
            (try simp only [Act.put])
            refine wpAnyH_ready (rs := [13]) (by kernel_rfl) (by simp) ?_
            refine AllReadyH.cons rfl (fun KQ hKQ => ?_) AllReadyH.nil
            (refine step_two2 (m := wr.heap.size) rfl (.tmp 26) (.tmp 32) (by rfl) n1 _ (v6 K' Bb' z' sv' (.slice A3 m3 k3) (.slice A4 m4 k4)) (by rfl) (by rfl) (by repeat (first | assumption | apply Two.alloc | apply Two.drew)) (by first | exact heap_new (by simp) | exact heap_old (heap_new (by simp)) | exact kk.out _ _ (by first | omega | (simp; omega)) (by first | exact heap_new (by simp) | exact heap_old (heap_new (by simp)))) rfl (by unfold v6; simp [Value.oneCell']) HLL.out (by omega) HM.out.2 ?_; intro A2' c2' W2 t2 g2 kk s2)
            refine hKQ.out _ _ (by exact HS9.out _ _ _ _ _ _ (by repeat (first | assumption | apply GoodW.alloc | apply GoodW.drew))) (fun hHeld => ?_)
            clear hKQ KQ
            (try simp only [Act.put])
            refine wpAnyH_done (by kernel_rfl) ?_ _
            refine TailQ.normal ?_
            have q42 : W2.cell? ⟨g + 2, 4, none⟩ = some (.slice nA n1 nc) := cell_of g2.2.1 4; have q52 : W2.cell? ⟨g + 2, 5, none⟩ = some (.slice lA n1 lc) := cell_of g2.2.1 5; have fz4 : W2.frozen? ⟨g + 2, 4, none⟩ = false := frozen_of g2.2.1; have fz5 : W2.frozen? ⟨g + 2, 5, none⟩ = false := frozen_of g2.2.1
            go_wp2_with fail
            go_roundw
            case rel => exact ⟨q + 1, n1 + 1, A' ++ [n], B' ++ [l[q]'HQ.out.2], _, _, _, _, hlt, by omega, by go_num, SInv.app HRL.out.1 HLL.out HRL.out.2 HRV.out (by assumption), by rw [HST.out, drop_ne HNE.out]⟩
            case measure => simp [intOf]; omega
          exact AllReadyH.nil
        refine AllReadyH.cons rfl (fun KQ hKQ => ?_) ?_
        · skip
          go_simp
          refine hKQ.out _ _ (by exact HS9.out _ _ _ _ _ _ (by repeat (first | assumption | apply GoodW.alloc | apply GoodW.drew))) (fun hHeld => ?_)
          clear hKQ KQ
          (try simp only [Act.put, List.setIfInBounds_toArray, List.set_cons_zero, List.set_cons_succ])
          refine wpAnyH_ready (rs := [3]) (by kernel_rfl) (by simp) ?_
          refine AllReadyH.cons rfl (fun KQ hKQ => ?_) AllReadyH.nil
          go_simp
          refine hKQ.out _ _ (by exact HS9.out _ _ _ _ _ _ (by repeat (first | assumption | apply GoodW.alloc | apply GoodW.drew))) (fun hHeld => ?_)
          clear hKQ KQ
          (try simp only [Act.put, List.setIfInBounds_toArray, List.set_cons_zero, List.set_cons_succ])
          refine wpAnyH_ready (rs := [4]) (by kernel_rfl) (by simp) ?_
          refine AllReadyH.cons rfl (fun KQ hKQ => ?_) AllReadyH.nil
          (refine step_two1 (m := wr.heap.size) rfl (.tmp 21) (.tmp 23) (by rfl) n1 _ (strV n) (by rfl) (by rfl) (by repeat (first | assumption | apply Two.alloc | apply Two.drew)) (by first | exact heap_new (by simp) | exact heap_old (heap_new (by simp)) | exact kk.out _ _ (by first | omega | (simp; omega)) (by first | exact heap_new (by simp) | exact heap_old (heap_new (by simp)))) rfl HZ.out (by omega) HM.out.1 ?_; intro A1' c1' W1 t1 g1 kk s1)
          refine hKQ.out _ _ (by exact HS9.out _ _ _ _ _ _ (by repeat (first | assumption | apply GoodW.alloc | apply GoodW.drew))) (fun hHeld => ?_)
          clear hKQ KQ
          (try simp only [Act.put, List.setIfInBounds_toArray])
          refine wpAnyH_take (i := 14) (v := ?_) rfl (by kernel_rfl) (by kernel_rfl) (by kernel_rfl) (fun _ _ _ h => h) (Or.inl ⟨by rfl, ?_⟩) (by assumption) ?_
          rotate_left
          · intro w hSw
            (try dsimp only at hSw)
            go_simp
            (try with_reducible rfl)
          (try simp only [Act.put])
          refine wpAnyH_ready (rs := [13]) (by kernel_rfl) (by simp) ?_
          refine AllReadyH.cons rfl (fun KQ hKQ => ?_) AllReadyH.nil
          (refine step_two2 (m := wr.heap.size) rfl (.tmp 26) (.tmp 32) (by rfl) n1 _ (v6 K' Bb' z' sv' (.slice A3 m3 k3) (.slice A4 m4 k4)) (by rfl) (by rfl) (by repeat (first | assumption | apply Two.alloc | apply Two.drew)) (by first | exact heap_new (by simp) | exact heap_old (heap_new (by simp)) | exact kk.out _ _ (by first | omega | (simp; omega)) (by first | exact heap_new (by simp) | exact heap_old (heap_new (by simp)))) rfl (by unfold v6; simp [Value.oneCell']) HLL.out (by omega) HM.out.2 ?_; intro A2' c2' W2 t2 g2 kk s2)
          refine hKQ.out _ _ (by exact HS9.out _ _ _ _ _ _ (by repeat (first | assumption | apply GoodW.alloc | apply GoodW.drew))) (fun hHeld => ?_)
          clear hKQ KQ
          (try simp only [Act.put])
          refine wpAnyH_done (by kernel_rfl) ?_ _
          refine TailQ.normal ?_
          have q42 : W2.cell? ⟨g + 2, 4, none⟩ = some (.slice nA n1 nc) := cell_of g2.2.1 4; have q52 : W2.cell? ⟨g + 2, 5, none⟩ = some (.slice lA n1 lc) := cell_of g2.2.1 5; have fz4 : W2.frozen? ⟨g + 2, 4, none⟩ = false := frozen_of g2.2.1; have fz5 : W2.frozen? ⟨g + 2, 5, none⟩ = false := frozen_of g2.2.1
          go_wp2_with fail
          go_roundw
          case rel => exact ⟨q + 1, n1 + 1, A' ++ [n], B' ++ [l[q]'HQ.out.2], _, _, _, _, hlt, by omega, by go_num, SInv.app HRL.out.1 HLL.out HRL.out.2 HRV.out (by assumption), by rw [HST.out, drop_ne HNE.out]⟩
          case measure => simp [intOf]; omega
        exact AllReadyH.nil
    · have hqN : q = N := by omega
      have hbl : decide ((q : Int) < (N : Int)) = false := decide_eq_false (by omega)
      have hbl2 : decide (q < N) = false := decide_eq_false hlt
      have HEND : Hid ((A', B') = dropJ ns l t) := by
        unfold Hid
        rw [← hI.out.2, List.take_of_length_le (by rw [List.length_zip, ← HLE.out, ← HNN.out]; omega), drop_fold t ns l [] [] HRI.out HLE.out]
        rfl
      clear hlt hqN
      have HI3 := Lib.hid hI.out.1
      have HEQ : Hid ((dropJ ns l t).1 = A' ∧ (dropJ ns l t).2 = B') := by unfold Hid; rw [← HEND.out]; exact ⟨rfl, rfl⟩
      have HVO : Hid (VIn wr (g + 2) 6 false 0 ⟨#[]⟩ (.slice nA n1 nc) (.slice lA n1 lc)) := HI3.out.2.2.choose_spec.1.1.2.1
      have HVR := Lib.hid (HR1.out.ext HI3.out.2.2.choose_spec.1.1.1)
      obtain ⟨c0, c1, c2, c3, c4, c5⟩ := HVO.out.cells
      obtain ⟨d0, d1, d2, d3, d4, d5⟩ := HVR.out.cells
      have e0 := HVR.out.free 0
      have e1 := HVR.out.free 1
      have e2 := HVR.out.free 2
      have e3 := HVR.out.free 3
      have e4 := HVR.out.free 4
      have e5 := HVR.out.free 5
      go_wp2_with fail
      refine bodyPost_ret (results_v1 rfl _ _ (g + 1) rfl (put_in 6 false 0 ⟨#[]⟩ (.slice nA n1 nc) (.slice lA n1 lc) HVR.out)) rfl ?_
      have hP := drop_done HI3.out HX1.out HGW.out HF.out
      have hl1 := HI3.out.1
      have hl2 := HI3.out.2.1
      refine ⟨hP.1, nA, nc, lA, lc, ?_, ?_⟩
      · rw [HEQ.out.1, HEQ.out.2, hl1, hl2]
      · have hR := hP.2
        rw [HEQ.out.1, HEQ.out.2, hl1, hl2]
        exact hR
theorem rdropO_any (F : Nat → Prop) (A : Option Addr) (c : Nat) (B : Option Addr) (d : Nat) (a : Ob) (t : Tx) (w : World) (h : RO F w A c B d a) (hw : WO a) (hb : bulkO a ≤ 16000000) (hF : ∀ b, w.heap.size ≤ b → F b) :
    Calls Tryz.prog 97 #[.agg #[.int .i64 6, .bool false, .int .i64 0, .string ⟨#[]⟩, .slice A a.1.length c, .slice B a.2.length d], .string (bx t)] w (RMadeO F w (dropO a t)) :=
  (rdrop_any F A B c d a.1 a.2 t w h.2.2.1 h.2.2.2 hw.len hw.rise h.2.1 (by have := len_bulkO a; have := hw.len; omega) hF).mono fun e w' ⟨hx, A', c', B', d', he, hr⟩ =>
    ⟨hx, A', c', B', d', he, (RO.of (a := dropO a t) hr).2.2⟩
end Go.Proofs.YtahinicpceokcaaGreatDoor.Jm
namespace Go.Proofs.YtahinicpceokcaaGreatDoor.Jm
open Go Go.RowKit Go.Proofs.YtahinicpceokcaaGreatDoor.Sx Go.Proofs.YtahinicpceokcaaGreatDoor.Js Go.Proofs.YtahinicpceokcaaGreatDoor.Gr
/-- The rows that a list's values stand in; each part of them reads as a slice. -/
theorem rv_rows {F : Nat → Prop} {w : World} {A : Option Addr} {l : List J} (h : RValsAt F w A l) : ∃ L : List (List Value), L.length = l.length ∧ Sized 6 L ∧ (∀ q (h1 : q < L.length) (h2 : q < l.length), RV F w l[q] L[q]) ∧
    ∀ (W : World) (a b c : Nat) (X : Option Addr), Ext w W → a + b ≤ l.length → (0 < b → X = A.map (·.add (a * 6))) → GSrc 6 W (.slice X b c) ((L.drop a).take b) := by
  obtain ⟨f, hf⟩ : ∃ f : Fin l.length → List Value, ∀ i : Fin l.length, ∃ g off, A = some ⟨g, off, none⟩ ∧ (f i).length = 6 ∧ (∀ k x, (f i)[k]? = some x → w.cell? ⟨g, off + i.1 * 6 + k, none⟩ = some x) ∧ RV F w l[i.1] (f i) := by
    have h1 : ∀ i : Fin l.length, ∃ u : List Value, ∃ g off, A = some ⟨g, off, none⟩ ∧ u.length = 6 ∧ (∀ k x, u[k]? = some x → w.cell? ⟨g, off + i.1 * 6 + k, none⟩ = some x) ∧ RV F w l[i.1] u := fun i => by
      obtain ⟨g, off, u, e, _, hu, hc, hr⟩ := h i.1 i.2
      exact ⟨u, g, off, e, hu, hc, hr⟩
    exact ⟨fun i => (h1 i).choose, fun i => (h1 i).choose_spec⟩
  have hlen : (List.ofFn f).length = l.length := List.length_ofFn
  have hS : Sized 6 (List.ofFn f) := fun t ht => by
    obtain ⟨i, rfl⟩ := List.mem_ofFn.1 ht
    obtain ⟨_, _, _, _, _, hr⟩ := hf i
    exact RV.len hr
  refine ⟨List.ofFn f, hlen, hS, fun q h1 h2 => ?_, fun W a b c X hX hab hXA => ?_⟩
  · rw [List.getElem_ofFn]
    obtain ⟨_, _, _, _, _, hr⟩ := hf ⟨q, h2⟩
    exact hr
  · have hS2 : Sized 6 (((List.ofFn f).drop a).take b) := fun t ht => hS t (List.mem_of_mem_drop (List.mem_of_mem_take ht))
    have hl2 : (((List.ofFn f).drop a).take b).length = b := by rw [List.length_take, List.length_drop, hlen]; omega
    refine ⟨hS2, ?_⟩
    by_cases hb : b = 0
    · subst hb
      cases X with
      | none => exact .inl ⟨c, rfl, by simp⟩
      | some ad => exact .inr ⟨ad, c, by rw [hl2], fun j u hj => by simp at hj⟩
    · obtain ⟨g, off, hA, _⟩ := hf ⟨a, by omega⟩
      have hX2 := hXA (by omega)
      rw [hA] at hX2
      refine .inr ⟨_, c, by rw [hl2, hX2]; rfl, fun j u hj => ?_⟩
      have hjl := (List.getElem?_eq_some_iff.1 hj).1
      rw [flat_len hS2, hl2] at hjl
      have hk : j / 6 < b := by omega
      have e : j = (j / 6) * 6 + j % 6 := by omega
      have hm : j % 6 < 6 := Nat.mod_lt _ (by decide)
      rw [e, flat_at hS2 (by rw [hl2]; exact hk) hm] at hj
      have e2 : (((List.ofFn f).drop a).take b)[j / 6]'(by rw [hl2]; exact hk) = f ⟨a + j / 6, by omega⟩ := by
        rw [List.getElem_take, List.getElem_drop, List.getElem_ofFn]
      rw [e2] at hj
      obtain ⟨g', off', hA', _, hc, _⟩ := hf ⟨a + j / 6, by omega⟩
      rw [hA] at hA'
      injection hA' with hA'
      injection hA' with e3 e4
      subst e3 e4
      have h2 := hc _ _ hj
      have h3 := (cell_keep (hX.block g (cell_lt h2))).trans h2
      show W.cell? (((⟨g, off, none⟩ : Addr).add (a * 6)).add j) = _
      rw [Addr.add_lit, Addr.add_lit]
      simp only at h3
      rw [show off + a * 6 + j = off + (a + j / 6) * 6 + j % 6 by omega]
      exact h3
set_option maxRecDepth 100000 in
/-- The first k of a slice. -/
theorem vals_to (A : Option Addr) (n c k : Nat) (hk : k ≤ c) : ∃ X : Option Addr, (∀ W : World, (Instr.slice vsT (.slice A n c) none (some (.int .i64 (k : Int))) none).run Tryz.prog W = .ok (.slice X k c) W) ∧ (0 < k → X = A.map (·.add (0 * 6))) := by
  refine ⟨if c = 0 then A else A.map (·.add (0 * 6)), fun W => ?_, fun h0 => if_neg (by omega)⟩
  have h := run_slice_h (P := Tryz.prog) (w := W) vsT A n c Tryz.underlying27 .i64 (k : Int) (by omega) (by omega)
  rw [h]
  have e1 : (sizeOf (Tryz.prog.elem vsT)).run Tryz.prog W = .ok 6 W := by kernel_rfl
  rw [e1]
  simp only [Result.andThen, sliced, Int.toNat_natCast, Nat.sub_zero]
set_option maxRecDepth 100000 in
/-- What is left of a slice behind f. -/
theorem vals_from (A : Option Addr) (n c f : Nat) (hf : f ≤ n) (hc : n ≤ c) : ∃ X : Option Addr, (∀ W : World, (Instr.slice vsT (.slice A n c) (some (.int .i64 (f : Int))) none none).run Tryz.prog W = .ok (.slice X (n - f) (c - f)) W) ∧ (0 < n - f → X = A.map (·.add (f * 6))) := by
  refine ⟨if c = f then A else A.map (·.add (f * 6)), fun W => ?_, fun h0 => if_neg (by omega)⟩
  have h := run_slice_l (P := Tryz.prog) (w := W) vsT A n c Tryz.underlying27 .i64 (f : Int) (by omega) (by omega)
  rw [h]
  have e1 : (sizeOf (Tryz.prog.elem vsT)).run Tryz.prog W = .ok 6 W := by kernel_rfl
  rw [e1]
  simp only [Result.andThen, sliced, Int.toNat_natCast]
set_option maxRecDepth 100000 in
set_option maxHeartbeats 4000000 in
/-- Copy of a list of values. -/
theorem rcopyV_any (X : Option Addr) (n c : Nat) (ys : List (List Value)) (w : World) (hy : GSrc 6 w (.slice X n c) ys) (hn : ys.length = n) (hsm : n ≤ 1000000) :
    Calls Tryz.prog 98 #[.slice X n c] w fun e w' => ∃ A c2, e = .returned (.slice A n c2) ∧ GRow vT 6 w.heap.size w' (.slice A n c2) ys ∧ Ext w w' := by
  have HY := Lib.hid (And.intro hy hn)
  clear hy hn
  go_enter Tryz.func98, Tryz.ntmps98
  go_upto_region 1 with (fail)
  go_wp2_with (at_builtin; refine append_g ty_V rfl _ _ (by rfl) w.heap.size 0 n _ (.slice none 0 0) (.slice X n c) [] ys (by rfl) (by rfl) GRow.nil HY.out.1 rfl HY.out.2 (by omega) (Nat.le_refl _) ?_; intro A9 c9 w9 h9 g9 o9; rw [Nat.zero_add] at h9 ⊢; have H9 := Lib.hid (And.intro h9 g9); clear h9 g9 o9)
  go_ret
  exact ⟨A9, c9, rfl, H9.out.1, ext_row (Below.refl _ _) H9.out.2 (fun g e => by cases e)⟩
/-- These rows read as these values. -/
def RowsOf (F : Nat → Prop) (w : World) (l : List J) (L : List (List Value)) : Prop := L.length = l.length ∧ ∀ q (h1 : q < L.length) (h2 : q < l.length), RV F w l[q] L[q]
section
variable {F F' : Nat → Prop} {w w' : World} {l l' : List J} {L L' : List (List Value)}
theorem RowsOf.keep (h : RowsOf F w l L) (hk : ∀ b, F b → b < w.heap.size → w'.heap[b]? = w.heap[b]?) (hF : ∀ b, F b → b < w.heap.size → F' b) : RowsOf F' w' l L := ⟨h.1, fun q h1 h2 => RV.keep hk hF _ _ (h.2 q h1 h2)⟩
theorem RowsOf.take (h : RowsOf F w l L) (k : Nat) : RowsOf F w (l.take k) (L.take k) := ⟨by rw [List.length_take, List.length_take, h.1], fun q h1 h2 => by
  rw [List.getElem_take, List.getElem_take]
  exact h.2 q _ _⟩
theorem RowsOf.drop (h : RowsOf F w l L) (k : Nat) : RowsOf F w (l.drop k) (L.drop k) := ⟨by rw [List.length_drop, List.length_drop, h.1], fun q h1 h2 => by
  rw [List.getElem_drop, List.getElem_drop]
  exact h.2 _ _ _⟩
theorem RowsOf.app (h : RowsOf F w l L) (h' : RowsOf F w l' L') : RowsOf F w (l ++ l') (L ++ L') := ⟨by rw [List.length_append, List.length_append, h.1, h'.1], fun q h1 h2 => by
  by_cases hq : q < l.length
  · rw [List.getElem_append_left hq, List.getElem_append_left (by rw [h.1]; exact hq)]
    exact h.2 q _ _
  · have e := h.1
    rw [List.getElem_append_right (by omega), List.getElem_append_right (by omega)]
    have h3 := h'.2 (q - l.length) (by rw [List.length_append] at h1; omega) (by rw [List.length_append] at h2; omega)
    simp only [e]
    exact h3⟩
theorem RowsOf.one {j : J} {u : List Value} (h : RV F w j u) : RowsOf F w [j] [u] := ⟨rfl, fun q h1 h2 => by
  have : q = 0 := by simpa using h1
  subst this
  exact h⟩
theorem RowsOf.nil : RowsOf F w [] [] := ⟨rfl, fun q h1 _ => by cases h1⟩
/-- A list whose rows are one's own. -/
theorem list_out {base : Nat} {A : Option Addr} {n c : Nat} (hg : GRow vT 6 base w' (.slice A n c) L) (hr : RowsOf F w l L) (hx : Ext w w') : n = l.length ∧ RV (fun b => (F b ∧ b < w.heap.size) ∨ base ≤ b) w' (.list l) (v6 5 false 0 ⟨#[]⟩ nilS (.slice A n c)) := by
  obtain ⟨A', c', e, hc⟩ := hg.slice
  injection e with e1 e2 e3
  subst e3
  have hn : n = l.length := e2.trans hr.1
  refine ⟨hn, RV_list.2 ⟨A, c, by rw [hn]; rfl, by have := hr.1; omega, fun i hi => ?_⟩⟩
  have h1 : i < L.length := by rw [hr.1]; exact hi
  obtain ⟨g, hA, _, hb, _, hcell⟩ := hg.at_ h1
  have hv := RV.keep (w' := w') (F' := fun b => (F b ∧ b < w.heap.size) ∨ base ≤ b) (fun b _ hlt => hx.block b hlt) (fun b hb hlt => .inl ⟨hb, hlt⟩) _ _ (hr.2 i h1 hi)
  exact ⟨g, 0, L[i], hA, .inr hb, (RV.len hv).1, fun k x hk => by rw [Nat.zero_add]; exact hcell k x hk, hv⟩
end
set_option maxRecDepth 100000 in
/-- The first name, as a slice. -/
theorem names_head {F : Nat → Prop} {w : World} {g off c : Nat} {s : Tx} {r : List Tx} (h : NamesAt F w (some ⟨g, off, none⟩) (s :: r)) (hc : r.length + 1 ≤ c) :
    ∃ A', (∀ W : World, (Instr.slice 26 (.slice (some ⟨g, off, none⟩) (r.length + 1) c) none (some (.int .i64 1)) none).run Tryz.prog W = .ok (.slice A' 1 c) W) ∧ NamesAt F w A' [s] ∧ 1 ≤ c := by
  refine ⟨(if c = 0 then some ⟨g, off, none⟩ else (some (⟨g, off, none⟩ : Addr)).map (·.add (0 * 1))), fun W => ?_, fun i hi => ?_, by omega⟩
  · have h := run_slice_h (P := Tryz.prog) (w := W) 26 (some ⟨g, off, none⟩) (r.length + 1) c Tryz.underlying26 .i64 1 (by omega) (by omega)
    rw [h]
    have e1 : (sizeOf (Tryz.prog.elem 26)).run Tryz.prog W = .ok 1 W := by kernel_rfl
    rw [e1]
    rfl
  · have hi0 : i = 0 := by simpa using hi
    subst hi0
    obtain ⟨g', off', e, hg, hcell⟩ := h 0 (by simp)
    injection e with e
    injection e with e1 e2
    subst e1 e2
    exact ⟨g, off, by rw [if_neg (by omega)]; simp [Addr.add_lit], hg, hcell⟩
theorem three_cells {w w1 : World} {g : Nat} {c0 c1 c2 : Array Value} (hg : g = w.heap.size) (h : w1 = ((w.alloc (.cells c0 vT (0, 0))).alloc (.cells c1 vT (0, 0))).alloc (.cells c2 vT (0, 0))) : Ext w w1 ∧ w1.heap[g]? = some (.cells c0 vT (0, 0)) ∧ w1.heap[g + 1]? = some (.cells c1 vT (0, 0)) ∧ w1.heap[g + 2]? = some (.cells c2 vT (0, 0)) ∧ w1.heap.size = g + 3 := by
  subst h
  exact ⟨((new_ext _ _).trans (new_ext _ _)).trans (new_ext _ _), heap_old (heap_old (heap_new hg)), heap_old (heap_new (by rw [hg]; simp)), heap_new (by rw [hg]; simp), by rw [hg]; simp⟩
end Go.Proofs.YtahinicpceokcaaGreatDoor.Jm
