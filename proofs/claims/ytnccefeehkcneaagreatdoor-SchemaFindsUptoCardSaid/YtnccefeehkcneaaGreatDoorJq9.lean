/-
  The reference's objects: Set (printed by gen/jq9.py).
-/
import Derived.Test.YtnccefeehkcneaaGreatDoorJqe
import Derived.Test.YtnccefeehkcneaaGreatDoorJst
import Derived.Test.YtnccefeehkcneaaGreatDoorJca
import Derived.Test.YtnccefeehkcneaaGreatDoorJba
import Derived.Test.YtnccefeehkcneaaGreatDoorUreg
import Derived.Laws.Cover1
namespace Go.Proofs.YtnccefeehkcneaaGreatDoor.Jm
open Go Go.RowKit Go.Proofs.YtnccefeehkcneaaGreatDoor.Sx Go.Proofs.YtnccefeehkcneaaGreatDoor.Js Go.Proofs.YtnccefeehkcneaaGreatDoor.Gr Go.Proofs.YtnccefeehkcneaaGreatDoor.Ur
abbrev strT : Nat := 9
abbrev strsT : Nat := 37
def strV (n : Tx) : Value := .string (bx n)
/-- A world in which nothing old has turned and the box gout holds ob. -/
def GoodW (w1 : World) (gout base : Nat) (ob : Obj) (W : World) : Prop := Ext w1 W ∧ W.heap[gout]? = some ob ∧ base ≤ W.heap.size ∧ gout < base ∧ w1.heap.size ≤ gout
section
variable {w1 W V : World} {gout base : Nat} {ob : Obj} {nv lv : Value} {zs L : List (List Value)}
theorem GoodW.ext (h : GoodW w1 gout base ob W) (hx : Ext W V) : GoodW w1 gout base ob V := ⟨h.1.trans hx, (hx.block _ (heap_lt h.2.1)).trans h.2.1, Nat.le_trans h.2.2.1 hx.size, h.2.2.2⟩
theorem GoodW.alloc (h : GoodW w1 gout base ob W) {o : Obj} : GoodW w1 gout base ob (W.alloc o) := h.ext (new_ext _ _)
theorem GoodW.drew (h : GoodW w1 gout base ob W) : GoodW w1 gout base ob W.drew := h.ext (Below.refl _ _).drew
theorem GoodW.grown (h : GoodW w1 gout base ob W) {row : Option Nat} (hg : W.grownBy V row) (hr : ∀ g, row = some g → base ≤ g) : GoodW w1 gout base ob V :=
  ⟨ext_row h.1 hg (fun g e => by have h1 := hr g e; have h2 := h.2.2.2; omega), (hg.block _ (heap_lt h.2.1) (fun e => by have h1 := hr _ e.symm; have h2 := h.2.2.2; omega)).trans h.2.1, Nat.le_trans h.2.2.1 hg.size, h.2.2.2⟩
/-- Two rows of one's own, names and values, their blocks apart. -/
def Two (w1 : World) (gout base : Nat) (ob : Obj) (W : World) (nv lv : Value) (zs L : List (List Value)) : Prop :=
  GoodW w1 gout base ob W ∧ GRow strT 1 base W nv zs ∧ GRow vT 6 base W lv L ∧ ∀ g, nv.ownBlock = some g → lv.ownBlock ≠ some g
theorem Two.ext (h : Two w1 gout base ob W nv lv zs L) (hx : Ext W V) : Two w1 gout base ob V nv lv zs L := ⟨h.1.ext hx, h.2.1.ext hx, h.2.2.1.ext hx, h.2.2.2⟩
theorem Two.alloc (h : Two w1 gout base ob W nv lv zs L) {o : Obj} : Two w1 gout base ob (W.alloc o) nv lv zs L := h.ext (new_ext _ _)
theorem Two.drew (h : Two w1 gout base ob W nv lv zs L) : Two w1 gout base ob W.drew nv lv zs L := h.ext (Below.refl _ _).drew
theorem Two.app1 (h : Two w1 gout base ob W nv lv zs L) {nv' : Value} {ys : List (List Value)} (hr : GRow strT 1 base V nv' ys) (hg : W.grownBy V nv.ownBlock) (ho : nv'.ownBlock = nv.ownBlock ∨ nv'.ownBlock = some W.heap.size) : Two w1 gout base ob V nv' lv ys L := by
  refine ⟨h.1.grown hg (fun g e => (h.2.1.block g e).1), hr, h.2.2.1.kept hg (fun g e e2 => h.2.2.2 g e2 e), fun g e e2 => ?_⟩
  rcases ho with ho | ho
  · exact h.2.2.2 g (ho.symm.trans e) e2
  · rw [ho] at e
    injection e with e
    have := (h.2.2.1.block g e2).2
    omega
theorem Two.app2 (h : Two w1 gout base ob W nv lv zs L) {lv' : Value} {ys : List (List Value)} (hr : GRow vT 6 base V lv' ys) (hg : W.grownBy V lv.ownBlock) (ho : lv'.ownBlock = lv.ownBlock ∨ lv'.ownBlock = some W.heap.size) : Two w1 gout base ob V nv lv' zs ys := by
  refine ⟨h.1.grown hg (fun g e => (h.2.2.1.block g e).1), h.2.1.kept hg (fun g e e2 => h.2.2.2 g e e2), hr, fun g e e2 => ?_⟩
  rcases ho with ho | ho
  · exact h.2.2.2 g e (ho.symm.trans e2)
  · rw [ho] at e2
    injection e2 with e2
    have := (h.2.1.block g e).2
    omega
theorem grown_kept {row : Option Nat} {m : Nat} (hg : W.grownBy V row) (hm : ∀ g, row = some g → g < m) : ∀ b o, m ≤ b → W.heap[b]? = some o → V.heap[b]? = some o := fun b o hb h => (hg.block b (heap_lt h) (fun e => by have := hm b e.symm; omega)).trans h
theorem step_two1 {m : Nat} {ops : Array Oper} {o : Oper} {a : Act} {K : Act → World → Prop} {Q : Exit → Act → World → Prop} {E : Prop} (hgd : o.guard = none) (s x : Operand)
    (ho : o.op = .call { callee := .builtin .append, args := #[s, x], argTypes := #[strsT, strsT] }) (n vb : Nat) (y : Value) (hs : a.eval s = nv) (hx : a.eval x = .slice (some ⟨vb, 0, none⟩) 1 1)
    (tw : Two w1 gout base ob W nv lv zs L) (hvb : W.heap[vb]? = some (.cells #[y] strT (0, 0))) (hy : y.oneCell' = true) (hn : zs.length = n) (hsm : n + 1 ≤ 1048576) (hm : ∀ g, nv.ownBlock = some g → g < m)
    (h : ∀ A c W', Two w1 gout base ob W' (.slice A (n + 1) c) lv (zs ++ [[y]]) L → GoodW w1 gout base ob W' → Hid (∀ b o, m ≤ b → W.heap[b]? = some o → W'.heap[b]? = some o) → W.heap.size ≤ W'.heap.size → K (a.put o.dst (.slice A (n + 1) c)) W') : if Region.wanted o (yielded ops a.tmps) = true then Oper.wp Tryz.prog o a W K Q else E :=
  step_append_g ty_strs hgd s x ho base n 1 W nv _ zs [[y]] hs hx tw.2.1 (GSrc.one rfl (fun u hu => by rw [List.mem_singleton] at hu; rw [hu]; exact hy) hvb) hn rfl (by omega) tw.1.2.2.1
    (fun A c W' h1 h2 h3 => h A c W' (tw.app1 h1 h2 h3) (tw.app1 h1 h2 h3).1 (Lib.hid (grown_kept h2 hm)) h2.size)
theorem step_two2 {m : Nat} {ops : Array Oper} {o : Oper} {a : Act} {K : Act → World → Prop} {Q : Exit → Act → World → Prop} {E : Prop} (hgd : o.guard = none) (s x : Operand)
    (ho : o.op = .call { callee := .builtin .append, args := #[s, x], argTypes := #[vsT, vsT] }) (n vb : Nat) (cs : List Value) (hs : a.eval s = lv) (hx : a.eval x = .slice (some ⟨vb, 0, none⟩) 1 1)
    (tw : Two w1 gout base ob W nv lv zs L) (hvb : W.heap[vb]? = some (.cells cs.toArray vT (0, 0))) (hc : cs.length = 6) (h1c : ∀ u ∈ cs, u.oneCell' = true) (hn : L.length = n) (hsm : n + 1 ≤ 1048576) (hm : ∀ g, lv.ownBlock = some g → g < m)
    (h : ∀ A c W', Two w1 gout base ob W' nv (.slice A (n + 1) c) zs (L ++ [cs]) → GoodW w1 gout base ob W' → Hid (∀ b o, m ≤ b → W.heap[b]? = some o → W'.heap[b]? = some o) → W.heap.size ≤ W'.heap.size → K (a.put o.dst (.slice A (n + 1) c)) W') : if Region.wanted o (yielded ops a.tmps) = true then Oper.wp Tryz.prog o a W K Q else E :=
  step_append_g ty_V hgd s x ho base n 1 W lv _ L [cs] hs hx tw.2.2.1 (GSrc.one hc h1c hvb) hn rfl (by omega) tw.1.2.2.1
    (fun A c W' h1 h2 h3 => h A c W' (tw.app2 h1 h2 h3) (tw.app2 h1 h2 h3).1 (Lib.hid (grown_kept h2 hm)) h2.size)
end
abbrev objB (nv lv : Value) : Obj := .cells #[.int .i64 6, .bool false, .int .i64 0, .string ⟨#[]⟩, nv, lv] vT (0, 0)
/-- An object in the making, in the box gout: n1 names and values; the values lay in the world w. -/
def SInv (F : Nat → Prop) (w w1 : World) (gout base : Nat) (W : World) (n1 : Nat) (A' : List Tx) (B' : List J) (nv lv : Value) : Prop :=
  A'.length = n1 ∧ B'.length = n1 ∧ ∃ L, Two w1 gout base (objB nv lv) W nv lv (one (A'.map strV)) L ∧ L.length = n1 ∧ ∀ q (h1 : q < L.length) (h2 : q < B'.length), RV F w B'[q] L[q]
section
variable {F : Nat → Prop} {w w1 W V : World} {gout base n1 : Nat} {A' : List Tx} {B' : List J} {nv lv : Value}
theorem SInv.nil (hw : Ext w1 W) (hb : W.heap[gout]? = some (objB nilS nilS)) (h1 : base ≤ W.heap.size) (h2 : gout < base) (h3 : w1.heap.size ≤ gout) : SInv F w w1 gout base W 0 [] [] nilS nilS :=
  ⟨rfl, rfl, [], ⟨⟨hw, hb, h1, h2, h3⟩, GRow.nil, GRow.nil, fun g e => by cases e⟩, rfl, fun q h _ => by cases h⟩
theorem SInv.len (h : SInv F w w1 gout base W n1 A' B' nv lv) : (one (A'.map strV)).length = n1 := by rw [one_len, List.length_map]; exact h.1
theorem set_heap (W : World) (g o : Nat) (v : Value) (k : Nat) (hk : k ≠ g) : (W.setCell ⟨g, o, none⟩ v).heap[k]? = W.heap[k]? := Below.heap_setCell _ _ _ _ hk
/-- Behind two appends and the two stores. -/
theorem SInv.app (hl : A'.length = n1 ∧ B'.length = n1) {L : List (List Value)} (hL : L.length = n1) (hr : ∀ q (h1 : q < L.length) (h2 : q < B'.length), RV F w B'[q] L[q]) {n : Tx} {j : J} {u : List Value} (hu : RV F w j u) {nv' lv' : Value}
    (tw : Two w1 gout base (objB nv lv) W nv' lv' (one (A'.map strV) ++ [[strV n]]) (L ++ [u])) : SInv F w w1 gout base ((W.setCell ⟨gout, 4, none⟩ nv').setCell ⟨gout, 5, none⟩ lv') (n1 + 1) (A' ++ [n]) (B' ++ [j]) nv' lv' := by
  obtain ⟨⟨g1, g2, g3, g4, g5⟩, r1, r2, ap⟩ := tw
  have hk : ∀ b, base ≤ b → ((W.setCell ⟨gout, 4, none⟩ nv').setCell ⟨gout, 5, none⟩ lv').heap[b]? = W.heap[b]? := fun b hb => (set_heap _ _ _ _ _ (by omega)).trans (set_heap _ _ _ _ _ (by omega))
  refine ⟨by rw [List.length_append, hl.1]; rfl, by rw [List.length_append, hl.2]; rfl, L ++ [u], ⟨⟨?_, ?_, ?_, g4, g5⟩, ?_, ?_, ap⟩, by rw [List.length_append, hL]; rfl, ?_⟩
  · exact Below.setCell (Below.setCell g1 (by exact g5) _) (by exact g5) _
  · exact heap_setCell_same _ gout 5 _ vT _ (heap_setCell_same W gout 4 _ vT _ g2)
  · simpa [World.setCell] using g3
  · have e : one ((A' ++ [n]).map strV) = one (A'.map strV) ++ [[strV n]] := by rw [List.map_append, one_app]; rfl
    rw [e]
    exact r1.keep (fun g e => hk g (r1.block g e).1)
  · exact r2.keep (fun g e => hk g (r2.block g e).1)
  · intro q h1 h2
    by_cases hq : q < B'.length
    · rw [List.getElem_append_left hq, List.getElem_append_left (by omega)]
      exact hr q (by omega) hq
    · have hqe : q = B'.length := by rw [List.length_append] at h2; simp at h2; omega
      subst hqe
      have e1 : (B' ++ [j])[B'.length] = j := by simp
      have e2 : (L ++ [u])[B'.length]'h1 = u := by
        rw [List.getElem_append_right (by omega)]
        simp [hl.2, hL]
      rw [e1, e2]
      exact hu
theorem SInv.obj (h : SInv F w w1 gout base W n1 A' B' nv lv) (hx : Ext w w1) : RV (fun b => (F b ∧ b < w.heap.size) ∨ base ≤ b) W (.obj A' B') (v6 6 false 0 ⟨#[]⟩ nv lv) := by
  obtain ⟨h1, h2, L, ⟨⟨g1, g2, g3, g4, g5⟩, r1, r2, ap⟩, hL, hr⟩ := h
  obtain ⟨A, c, e1, hc⟩ := r1.slice
  obtain ⟨B, d, e2, hd⟩ := r2.slice
  subst e1 e2
  have l1 : (one (A'.map strV)).length = A'.length := by rw [one_len, List.length_map]
  rw [l1] at hc
  refine RV_obj.2 ⟨A, c, B, d, by rw [l1, hL, h2]; rfl, hc, by omega, fun i hi => ?_, fun i hi => ?_⟩
  · obtain ⟨g, hA, _, hb, _, hcell⟩ := r1.at_ (k := i) (by rw [l1]; exact hi)
    refine ⟨g, 0, hA, .inr hb, ?_⟩
    have := hcell 0 (strV A'[i]) (by simp [one])
    rw [Nat.mul_one, Nat.add_zero] at this
    rw [Nat.zero_add]
    exact this
  · obtain ⟨g, hB, _, hb, _, hcell⟩ := r2.at_ (k := i) (by omega)
    have hv := hr i (by omega) hi
    exact ⟨g, 0, L[i]'(by omega), hB, .inr hb, (RV.len hv).1, fun k x hk => by rw [Nat.zero_add]; exact hcell k x hk, RV.keep (fun b _ hlt => (hx.trans g1).block b hlt) (fun b hb hlt => .inl ⟨hb, hlt⟩) _ _ hv⟩
end
theorem results_v1 {fn : Func} {p : Tmp} (h : fn.results = #[.cell p vT]) (tmps : Array Value) (w : World) (g : Nat) {K : Int} {B : Bool} {n : Int} {s : ByteArray} {a l : Value} (hp : tmps.getD p undef = .pointer (some ⟨g, 0, none⟩)) (hg : VIn w g K B n s a l) :
    (results fn tmps).run Tryz.prog w = .ok (.agg (v6 K B n s a l).toArray) w := by
  have hp' : tmps[p]?.getD undef = .pointer (some ⟨g, 0, none⟩) := by simpa using hp
  have hr := run_loadVar_row (P := Tryz.prog) w g vT _ _ _ _ hg Tryz.underlying73 rfl (by kernel_rfl)
  simp [results, h, hp', asAddr, hr, v6]
def setMid (t : Tx) (j : J) (st : Bool × List Tx × List J) (n : Tx) : Bool × List Tx × List J := if st.1 = false ∧ ¬ n < t then (true, st.2.1 ++ [t], st.2.2 ++ [j]) else st
theorem set_mid (t : Tx) (j : J) (st : Bool × List Tx × List J) (p : Tx × J) : setStep t j st p = if p.1 = t then setMid t j st p.1 else ((setMid t j st p.1).1, (setMid t j st p.1).2.1 ++ [p.1], (setMid t j st p.1).2.2 ++ [p.2]) := by
  unfold setStep setMid
  split <;> split <;> rfl
theorem take_fold {α β : Type} (f : β → α → β) (b : β) (l : List α) (q : Nat) (h : q < l.length) : (l.take (q + 1)).foldl f b = f ((l.take q).foldl f b) l[q] := by
  rw [List.take_succ_eq_append_getElem h, List.foldl_append]
  rfl
theorem set_done {F : Nat → Prop} {w w1 W : World} {g n1 : Nat} {A'' : List Tx} {B'' : List J} {nv lv : Value} (hI : SInv F w w1 (g + 3) (g + 4) W n1 A'' B'' nv lv) (hx : Ext w w1) (hw : w.heap.size = g) (hF : ∀ b, w.heap.size ≤ b → F b) :
    Ext w (putV W (g + 2) 6 false 0 ⟨#[]⟩ nv lv) ∧ RV F (putV W (g + 2) 6 false 0 ⟨#[]⟩ nv lv) (.obj A'' B'') (v6 6 false 0 ⟨#[]⟩ nv lv) := by
  have hW := hx.trans hI.2.2.choose_spec.1.1.1
  refine ⟨put_ext 6 false 0 ⟨#[]⟩ nv lv hW (by omega), RV.keep (fun b hb _ => put_heap W 6 false 0 ⟨#[]⟩ nv lv b ?_) (fun b hb _ => ?_) _ _ (hI.obj hx)⟩
  · rcases hb with ⟨_, h⟩ | h <;> omega
  · rcases hb with ⟨h, _⟩ | h
    · exact h
    · exact hF b (by omega)
def RSetPost (F : Nat → Prop) (w : World) (ns : List Tx) (l : List J) (e : Ending) (w' : World) : Prop :=
  Ext w w' ∧ ∃ A c B d, e = .returned (.agg (v6 6 false 0 ⟨#[]⟩ (.slice A ns.length c) (.slice B l.length d)).toArray) ∧ RV F w' (.obj ns l) (v6 6 false 0 ⟨#[]⟩ (.slice A ns.length c) (.slice B l.length d))
set_option maxRecDepth 100000 in
set_option maxHeartbeats 8000000 in
theorem rset_any (F : Nat → Prop) (A B : Option Addr) (c d : Nat) (ns : List Tx) (l : List J) (t : Tx) (j : J) (K : Int) (Bb : Bool) (z : Int) (sv : ByteArray) (A1 : Option Addr) (m1 k1 : Nat) (A2 : Option Addr) (m2 k2 : Nat) (w : World)
    (hn : NamesAt F w A ns) (hl : RValsAt F w B l) (hlen : ns.length = l.length) (hr : Rise ns) (hd : l.length ≤ d) (hsm : ns.length ≤ 500000) (hj : RV F w j (v6 K Bb z sv (.slice A1 m1 k1) (.slice A2 m2 k2))) (hF : ∀ b, w.heap.size ≤ b → F b) :
    Calls Tryz.prog 93 #[.agg (v6 6 false 0 ⟨#[]⟩ (.slice A ns.length c) (.slice B l.length d)).toArray, .string (bx t), .agg (v6 K Bb z sv (.slice A1 m1 k1) (.slice A2 m2 k2)).toArray] w (RSetPost F w (setJ ns l t j).1 (setJ ns l t j).2) := by
  obtain ⟨g, hg⟩ : ∃ g, g = w.heap.size := ⟨_, rfl⟩
  obtain ⟨w1, hw1⟩ : ∃ w1, w1 = ((w.alloc (.cells #[.int .i64 6, .bool false, .int .i64 0, .string ⟨#[]⟩, .slice A ns.length c, .slice B l.length d] vT (0, 0))).alloc (.cells #[.int .i64 K, .bool Bb, .int .i64 z, .string sv, .slice A1 m1 k1, .slice A2 m2 k2] vT (0, 0))).alloc (.cells #[.int .i64 0, .bool false, .int .i64 0, .string ⟨#[]⟩, nilS, nilS] vT (0, 0)) := ⟨_, rfl⟩
  have HX1 : Hid (Ext w w1) := by rw [hw1]; exact ((new_ext _ _).trans (new_ext _ _)).trans (new_ext _ _)
  have HV1 : Hid (VIn w1 g 6 false 0 ⟨#[]⟩ (.slice A ns.length c) (.slice B l.length d)) := by rw [hw1]; exact heap_old (heap_old (heap_new hg))
  have HU1 : Hid (VIn w1 (g + 1) K Bb z sv (.slice A1 m1 k1) (.slice A2 m2 k2)) := by rw [hw1]; exact heap_old (heap_new (by rw [hg]; simp))
  have HR1 : Hid (VIn w1 (g + 2) 0 false 0 ⟨#[]⟩ nilS nilS) := by rw [hw1]; exact heap_new (by rw [hg]; simp)
  have HGW : Hid (w.heap.size = g) := hg.symm
  have HGS : Hid (w1.heap.size = g + 3) := by rw [hw1, hg]; simp [Hid]
  have HN := Lib.hid hn
  have HL := Lib.hid hl
  have HLE := Lib.hid hlen
  have HRI := Lib.hid hr
  have HJ := Lib.hid hj
  have HF := Lib.hid hF
  have HD := Lib.hid hd
  obtain ⟨N, hN⟩ : ∃ N, N = ns.length := ⟨_, rfl⟩
  have HNN : Hid (N = ns.length) := hN
  unfold v6
  rw [← hlen, ← hN] at HV1 hw1 ⊢
  rw [← hN] at hsm
  clear hn hl hlen hr hj hF hd hN
  go_enter Tryz.func93, Tryz.ntmps93
  go_upto_region 1 with (fail)
  rw [← hw1, ← hg]
  clear hw1 hg
  go_upto_region 2 with (fail)
  have hsz : w1.heap.size = g + 3 := HGS.out
  rw [show g + 1 + 1 = g + 2 from rfl]
  obtain ⟨w2, hw2⟩ : ∃ w2, w2 = w1.alloc (.cells #[.int .i64 6, .bool false, .int .i64 0, .string ⟨#[]⟩, nilS, nilS] vT (0, 0)) := ⟨_, rfl⟩
  have HX2 : Hid (Ext w1 w2) := by rw [hw2]; exact new_ext _ _
  have HI0 : Hid (SInv F w w1 (g + 3) (g + 4) w2 0 [] [] nilS nilS) := by
    rw [hw2]
    exact SInv.nil (new_ext _ _) (heap_new hsz.symm) (by show _ ≤ (w1.heap.push _).size; rw [Array.size_push, hsz]; omega) (by omega) (by omega)
  rw [← hw2, hsz]
  clear hw2 hsz
  have hv2 := HV1.out.ext HX2.out
  obtain ⟨c0, c1, c2, c3, c4, c5⟩ := hv2.cells
  clear hv2
  go_wp2_with fail
  clear c0 c1 c2 c3 c4 c5
  have HS7 : Hid (∀ (nA : Option Addr) (n1 nc : Nat) (lA : Option Addr) (lc : Nat) (W : World), GoodW w1 (g + 3) (g + 4) (objB (.slice nA n1 nc) (.slice lA n1 lc)) W → W.cell? ⟨g + 3, 4, none⟩ = some (.slice nA n1 nc) ∧ W.cell? ⟨g + 3, 5, none⟩ = some (.slice lA n1 lc) ∧ W.cell? ⟨g + 1, 0, none⟩ = some (.int .i64 K) ∧ W.cell? ⟨g + 1, 1, none⟩ = some (.bool Bb) ∧ W.cell? ⟨g + 1, 2, none⟩ = some (.int .i64 z) ∧ W.cell? ⟨g + 1, 3, none⟩ = some (.string sv) ∧ W.cell? ⟨g + 1, 4, none⟩ = some (.slice A1 m1 k1) ∧ W.cell? ⟨g + 1, 5, none⟩ = some (.slice A2 m2 k2)) := fun nA n1 nc lA lc W hW =>
    have h := (HU1.out.ext hW.1).cells
    ⟨cell_of hW.2.1 4, cell_of hW.2.1 5, h.1, h.2.1, h.2.2.1, h.2.2.2.1, h.2.2.2.2.1, h.2.2.2.2.2⟩
  go_loopw [8, 15] (fun pt ix wr => ∃ (q n1 : Nat) (pb : Bool) (A' : List Tx) (B' : List J) (nA : Option Addr) (nc : Nat) (lA : Option Addr) (lc : Nat), q ≤ N ∧ n1 ≤ 2 * q ∧ pt = .bool pb ∧ ix = .int .i64 (q : Int) ∧ Hid (SInv F w w1 (g + 3) (g + 4) wr (n1) (A') (B') (.slice nA (n1) nc) (.slice lA (n1) lc) ∧ ((ns.zip l).take q).foldl (setStep t j) (false, [], []) = (pb, A', B'))) (fun _ ix _ => N - (intOf ix).toNat)
  case atStart => exact ⟨0, 0, false, [], [], none, 0, none, 0, Nat.zero_le _, Nat.zero_le _, rfl, rfl, HI0.out, by simp⟩
  case round =>
    obtain ⟨q, n1, pb, A', B', nA, nc, lA, lc, hq, hn1, rfl, rfl, hI⟩ := hrel
    have hq0 : (0 : Int) ≤ (q : Int) := by omega
    have hqI : (q : Int) ≤ 500000 := by omega
    by_cases hlt : q < N
    · have HQ : Hid (q < ns.length ∧ q < l.length) := ⟨by rw [← HNN.out]; exact hlt, by rw [← HLE.out, ← HNN.out]; exact hlt⟩
      obtain ⟨ga, oa, rfl, -, hca⟩ := HN.out q HQ.out.1
      obtain ⟨gb, ob, u, rfl, -, -, hu, hrv⟩ := HL.out q HQ.out.2
      obtain ⟨K', Bb', z', sv', A3, m3, k3, A4, m4, k4, rfl⟩ := RV.shape hrv
      have HRV := Lib.hid hrv
      have HST : Hid (((ns.zip l).take (q + 1)).foldl (setStep t j) (false, [], []) = setStep t j (pb, A', B') (ns[q]'HQ.out.1, l[q]'HQ.out.2)) := by
        unfold Hid
        rw [take_fold _ _ _ _ (by rw [List.length_zip]; have := HQ.out; omega), hI.out.2, List.getElem_zip]
      have hltI : (q : Int) < (N : Int) := by omega
      have hcell : wr.cell? ⟨ga, oa + q, none⟩ = some (.string (bx (ns[q]'HQ.out.1))) := (cell_keep ((HX1.out.trans hI.out.1.2.2.choose_spec.1.1.1).block ga (cell_lt hca))).trans hca
      have HS9 : Hid (∀ (nA : Option Addr) (n1 nc : Nat) (lA : Option Addr) (lc : Nat) (W : World), GoodW w1 (g + 3) (g + 4) (objB (.slice nA n1 nc) (.slice lA n1 lc)) W → W.cell? ⟨g + 3, 4, none⟩ = some (.slice nA n1 nc) ∧ W.cell? ⟨g + 3, 5, none⟩ = some (.slice lA n1 lc) ∧ W.cell? ⟨g, 5, none⟩ = some (.slice (some ⟨gb, ob, none⟩) N d) ∧ W.cell? ⟨gb, ob + q * 6, none⟩ = some (.int .i64 K') ∧ W.cell? ⟨gb, ob + q * 6 + 1, none⟩ = some (.bool Bb') ∧ W.cell? ⟨gb, ob + q * 6 + 2, none⟩ = some (.int .i64 z') ∧ W.cell? ⟨gb, ob + q * 6 + 3, none⟩ = some (.string sv') ∧ W.cell? ⟨gb, ob + q * 6 + 4, none⟩ = some (.slice A3 m3 k3) ∧ W.cell? ⟨gb, ob + q * 6 + 5, none⟩ = some (.slice A4 m4 k4)) := fun nA n1 nc lA lc W hW =>
        have hx := HX1.out.trans hW.1
        have h := fun k x (hk : (v6 K' Bb' z' sv' (.slice A3 m3 k3) (.slice A4 m4 k4))[k]? = some x) => (cell_keep (hx.block gb (cell_lt (hu k x hk)))).trans (hu k x hk)
        ⟨cell_of hW.2.1 4, cell_of hW.2.1 5, (HV1.out.ext hW.1).cells.2.2.2.2.2, h 0 _ rfl, h 1 _ rfl, h 2 _ rfl, h 3 _ rfl, h 4 _ rfl, h 5 _ rfl⟩
      obtain ⟨n, hnn⟩ : ∃ n, n = ns[q]'HQ.out.1 := ⟨_, rfl⟩
      rw [← hnn] at hcell HST
      clear hnn hca hu hrv
      obtain ⟨bl, hbl0⟩ : ∃ bl, bl = Op.bytesLess (bx n).toList (bx t).toList := ⟨_, rfl⟩
      have hbl : Op.bytesLess (bx n).toList (bx t).toList = bl := hbl0.symm
      have HBL : Hid (bl = decide (n < t)) := by rw [hbl0]; exact bx_less n t
      clear hbl0
      obtain ⟨bb, hbb⟩ : ∃ bb, bb = (!pb && !bl) := ⟨_, rfl⟩
      have HBB := Lib.hid hbb
      clear hbb
      go_upto_region 6 with (fail)
      go_cut [26] (fun c wx => c = .bool bb ∧ wr = wx)
      case first =>
        cases pb with
        | true =>
          go_wp2_with fail
          go_meet
          case rel => exact ⟨by rw [HBB.out]; rfl, rfl⟩
        | false =>
          go_wp2_with fail
          go_meet
          case rel => exact ⟨by rw [HBB.out]; rfl, rfl⟩
      case rest =>
        obtain ⟨rfl, rfl⟩ := hcut
        go_upto_if 26 with (fail)
        go_cut [8] (fun pt wx => ∃ (n2 : Nat) (pb2 : Bool) (A2s : List Tx) (B2s : List J) (nA2 : Option Addr) (nc2 : Nat) (lA2 : Option Addr) (lc2 : Nat), pt = .bool pb2 ∧ n2 ≤ n1 + 1 ∧ Hid (SInv F w w1 (g + 3) (g + 4) wx (n2) (A2s) (B2s) (.slice nA2 (n2) nc2) (.slice lA2 (n2) lc2) ∧ setMid t j (pb, A', B') n = (pb2, A2s, B2s)))
        case first =>
          cases bb with
          | false =>
            have HMI : Hid (setMid t j (pb, A', B') n = (pb, A', B')) := by
              unfold Hid setMid
              rw [if_neg]
              rintro ⟨h1, h2⟩
              have h3 := HBB.out
              rw [HBL.out, decide_eq_false h2] at h3
              simp only at h1
              rw [h1] at h3
              cases h3
            go_wp2_with fail
            go_meet
            case rel => exact ⟨n1, pb, A', B', nA, nc, lA, lc, rfl, by omega, hI.out.1, HMI.out⟩
          | true =>
            have HMI : Hid (setMid t j (pb, A', B') n = (true, A' ++ [t], B' ++ [j])) := by
              have h3 := HBB.out
              unfold Hid setMid
              rw [if_pos]
              have h4 : pb = false := by cases pb with
                | false => rfl
                | true => cases h3
              refine ⟨h4, fun h => ?_⟩
              rw [HBL.out, decide_eq_true h, h4] at h3
              cases h3
            obtain ⟨hl1, hl2, L, tw, hL, hrL⟩ := hI.out.1
            have HZ := Lib.hid (SInv.len ⟨hl1, hl2, L, tw, hL, hrL⟩)
            have HM : Hid ((∀ b, (Value.slice nA n1 nc).ownBlock = some b → b < wr.heap.size) ∧ ∀ b, (Value.slice lA n1 lc).ownBlock = some b → b < wr.heap.size) := ⟨fun b e => (tw.2.1.block b e).2, fun b e => (tw.2.2.1.block b e).2⟩
            have HLL := Lib.hid hL
            have HRL := Lib.hid (And.intro (And.intro hl1 hl2) hrL)
            have hgw := tw.1
            clear hl1 hl2 hL hrL
            go_upto_region 7 with (fail)
            refine wp_region_split (fun w' => w'.cell? ⟨g + 3, 4, none⟩ = some (.slice nA n1 nc) ∧ w'.cell? ⟨g + 3, 5, none⟩ = some (.slice lA n1 lc) ∧ w'.cell? ⟨g + 1, 0, none⟩ = some (.int .i64 K) ∧ w'.cell? ⟨g + 1, 1, none⟩ = some (.bool Bb) ∧ w'.cell? ⟨g + 1, 2, none⟩ = some (.int .i64 z) ∧ w'.cell? ⟨g + 1, 3, none⟩ = some (.string sv) ∧ w'.cell? ⟨g + 1, 4, none⟩ = some (.slice A1 m1 k1) ∧ w'.cell? ⟨g + 1, 5, none⟩ = some (.slice A2 m2 k2)) 11 (by kernel_rfl) (by kernel_rfl) (by exact HS7.out _ _ _ _ _ _ (by repeat (first | assumption | apply GoodW.alloc | apply GoodW.drew))) (fun hHeld => ?_)
            simp only [List.take_succ_cons, List.take_zero, List.drop_succ_cons, List.drop_zero]
            refine wpAnyH_take (i := 0) (v := ?_) rfl (by kernel_rfl) (by kernel_rfl) (by kernel_rfl) (fun _ _ _ h => h) (Or.inl ⟨by rfl, ?_⟩) (by assumption) ?_
            rotate_left
            · intro w hSw
              (try dsimp only at hSw)
              go_simp
              (try with_reducible rfl)
            (try simp only [Act.put, List.setIfInBounds_toArray])
            refine wpAnyH_take (i := 1) (v := ?_) rfl (by kernel_rfl) (by kernel_rfl) (by kernel_rfl) (fun _ _ _ h => h) (Or.inl ⟨by rfl, ?_⟩) (by assumption) ?_
            rotate_left
            · intro w hSw
              (try dsimp only at hSw)
              go_simp
              (try with_reducible rfl)
            (try simp only [Act.put])
            refine wpAnyH_take (i := 2) (v := ?_) rfl (by kernel_rfl) (by kernel_rfl) (by kernel_rfl) (fun _ _ _ h => h) (Or.inl ⟨by rfl, ?_⟩) (by assumption) ?_
            rotate_left
            · intro w hSw
              (try dsimp only at hSw)
              go_simp
              (try with_reducible rfl)
            (try simp only [Act.put])
            refine wpAnyH_take (i := 5) (v := ?_) rfl (by kernel_rfl) (by kernel_rfl) (by kernel_rfl) (fun _ _ _ h => h) (Or.inl ⟨by rfl, ?_⟩) (by assumption) ?_
            rotate_left
            · intro w hSw
              (try dsimp only at hSw)
              go_simp
              (try with_reducible rfl)
            (try simp only [Act.put])
            refine wpAnyH_take (i := 6) (v := ?_) rfl (by kernel_rfl) (by kernel_rfl) (by kernel_rfl) (fun _ _ _ h => h) (Or.inl ⟨by rfl, ?_⟩) (by assumption) ?_
            rotate_left
            · intro w hSw
              (try dsimp only at hSw)
              go_simp
              (try with_reducible rfl)
            (try simp only [Act.put])
            refine wpAnyH_take (i := 7) (v := ?_) rfl (by kernel_rfl) (by kernel_rfl) (by kernel_rfl) (fun _ _ _ h => h) (Or.inl ⟨by rfl, ?_⟩) (by assumption) ?_
            rotate_left
            · intro w hSw
              (try dsimp only at hSw)
              go_simp
              (try with_reducible rfl)
            (try simp only [Act.put])
            refine wpAnyH_ready (rs := [3, 8]) (by kernel_rfl) (by simp) ?_
            refine AllReadyH.cons rfl (fun KQ hKQ => ?_) ?_
            · skip
              go_simp
              refine hKQ.out _ _ (by exact HS7.out _ _ _ _ _ _ (by repeat (first | assumption | apply GoodW.alloc | apply GoodW.drew))) (fun hHeld => ?_)
              clear hKQ KQ
              (try simp only [Act.put, List.setIfInBounds_toArray, List.set_cons_zero, List.set_cons_succ])
              refine wpAnyH_ready (rs := [4, 8]) (by kernel_rfl) (by simp) ?_
              refine AllReadyH.cons rfl (fun KQ hKQ => ?_) ?_
              · skip
                (refine step_two1 (m := wr.heap.size) rfl (.tmp 28) (.tmp 30) (by rfl) n1 _ (strV t) (by rfl) (by rfl) (by repeat (first | assumption | apply Two.alloc | apply Two.drew)) (by first | exact heap_new (by simp) | exact heap_old (heap_new (by simp)) | exact kk.out _ _ (by first | omega | (simp; omega)) (by first | exact heap_new (by simp) | exact heap_old (heap_new (by simp)))) rfl HZ.out (by omega) HM.out.1 ?_; intro A1' c1' W1 t1 g1 kk s1)
                refine hKQ.out _ _ (by exact HS7.out _ _ _ _ _ _ (by repeat (first | assumption | apply GoodW.alloc | apply GoodW.drew))) (fun hHeld => ?_)
                clear hKQ KQ
                (try simp only [Act.put, List.setIfInBounds_toArray])
                refine wpAnyH_take (i := 10) (v := ?_) rfl (by kernel_rfl) (by kernel_rfl) (by kernel_rfl) (fun _ _ _ h => h) (Or.inl ⟨by rfl, ?_⟩) (by assumption) ?_
                rotate_left
                · intro w hSw
                  (try dsimp only at hSw)
                  go_simp
                  (try with_reducible rfl)
                (try simp only [Act.put])
                refine wpAnyH_ready (rs := [8]) (by kernel_rfl) (by simp) ?_
                refine AllReadyH.cons rfl (fun KQ hKQ => ?_) AllReadyH.nil
                go_simp
                refine hKQ.out _ _ (by exact HS7.out _ _ _ _ _ _ (by repeat (first | assumption | apply GoodW.alloc | apply GoodW.drew))) (fun hHeld => ?_)
                clear hKQ KQ
                (try simp only [Act.put, List.setIfInBounds_toArray, List.set_cons_zero, List.set_cons_succ])
                refine wpAnyH_ready (rs := [9]) (by kernel_rfl) (by simp) ?_
                refine AllReadyH.cons rfl (fun KQ hKQ => ?_) AllReadyH.nil
                (refine step_two2 (m := wr.heap.size) rfl (.tmp 33) (.tmp 35) (by rfl) n1 _ (v6 K Bb z sv (.slice A1 m1 k1) (.slice A2 m2 k2)) (by rfl) (by rfl) (by repeat (first | assumption | apply Two.alloc | apply Two.drew)) (by first | exact heap_new (by simp) | exact heap_old (heap_new (by simp)) | exact kk.out _ _ (by first | omega | (simp; omega)) (by first | exact heap_new (by simp) | exact heap_old (heap_new (by simp)))) rfl (by unfold v6; simp [Value.oneCell']) HLL.out (by omega) HM.out.2 ?_; intro A2' c2' W2 t2 g2 kk s2)
                refine hKQ.out _ _ (by exact HS7.out _ _ _ _ _ _ (by repeat (first | assumption | apply GoodW.alloc | apply GoodW.drew))) (fun hHeld => ?_)
                clear hKQ KQ
                (try simp only [Act.put, List.setIfInBounds_toArray])
                refine wpAnyH_done (by kernel_rfl) ?_ _
                refine TailQ.normal ?_
                have q42 : W2.cell? ⟨g + 3, 4, none⟩ = some (.slice nA n1 nc) := cell_of g2.2.1 4; have q52 : W2.cell? ⟨g + 3, 5, none⟩ = some (.slice lA n1 lc) := cell_of g2.2.1 5; have fz4 : W2.frozen? ⟨g + 3, 4, none⟩ = false := frozen_of g2.2.1; have fz5 : W2.frozen? ⟨g + 3, 5, none⟩ = false := frozen_of g2.2.1
                go_wp2_with fail
                go_meet
                case rel => exact ⟨n1 + 1, true, A' ++ [t], B' ++ [j], _, _, _, _, rfl, Nat.le_refl _, SInv.app HRL.out.1 HLL.out HRL.out.2 HJ.out (by assumption), HMI.out⟩
              refine AllReadyH.cons rfl (fun KQ hKQ => ?_) ?_
              · skip
                go_simp
                refine hKQ.out _ _ (by exact HS7.out _ _ _ _ _ _ (by repeat (first | assumption | apply GoodW.alloc | apply GoodW.drew))) (fun hHeld => ?_)
                clear hKQ KQ
                (try simp only [Act.put, List.setIfInBounds_toArray, List.set_cons_zero, List.set_cons_succ])
                refine wpAnyH_ready (rs := [4]) (by kernel_rfl) (by simp) ?_
                refine AllReadyH.cons rfl (fun KQ hKQ => ?_) AllReadyH.nil
                (refine step_two1 (m := wr.heap.size) rfl (.tmp 28) (.tmp 30) (by rfl) n1 _ (strV t) (by rfl) (by rfl) (by repeat (first | assumption | apply Two.alloc | apply Two.drew)) (by first | exact heap_new (by simp) | exact heap_old (heap_new (by simp)) | exact kk.out _ _ (by first | omega | (simp; omega)) (by first | exact heap_new (by simp) | exact heap_old (heap_new (by simp)))) rfl HZ.out (by omega) HM.out.1 ?_; intro A1' c1' W1 t1 g1 kk s1)
                refine hKQ.out _ _ (by exact HS7.out _ _ _ _ _ _ (by repeat (first | assumption | apply GoodW.alloc | apply GoodW.drew))) (fun hHeld => ?_)
                clear hKQ KQ
                (try simp only [Act.put, List.setIfInBounds_toArray])
                refine wpAnyH_take (i := 10) (v := ?_) rfl (by kernel_rfl) (by kernel_rfl) (by kernel_rfl) (fun _ _ _ h => h) (Or.inl ⟨by rfl, ?_⟩) (by assumption) ?_
                rotate_left
                · intro w hSw
                  (try dsimp only at hSw)
                  go_simp
                  (try with_reducible rfl)
                (try simp only [Act.put])
                refine wpAnyH_ready (rs := [9]) (by kernel_rfl) (by simp) ?_
                refine AllReadyH.cons rfl (fun KQ hKQ => ?_) AllReadyH.nil
                (refine step_two2 (m := wr.heap.size) rfl (.tmp 33) (.tmp 35) (by rfl) n1 _ (v6 K Bb z sv (.slice A1 m1 k1) (.slice A2 m2 k2)) (by rfl) (by rfl) (by repeat (first | assumption | apply Two.alloc | apply Two.drew)) (by first | exact heap_new (by simp) | exact heap_old (heap_new (by simp)) | exact kk.out _ _ (by first | omega | (simp; omega)) (by first | exact heap_new (by simp) | exact heap_old (heap_new (by simp)))) rfl (by unfold v6; simp [Value.oneCell']) HLL.out (by omega) HM.out.2 ?_; intro A2' c2' W2 t2 g2 kk s2)
                refine hKQ.out _ _ (by exact HS7.out _ _ _ _ _ _ (by repeat (first | assumption | apply GoodW.alloc | apply GoodW.drew))) (fun hHeld => ?_)
                clear hKQ KQ
                (try simp only [Act.put])
                refine wpAnyH_done (by kernel_rfl) ?_ _
                refine TailQ.normal ?_
                have q42 : W2.cell? ⟨g + 3, 4, none⟩ = some (.slice nA n1 nc) := cell_of g2.2.1 4; have q52 : W2.cell? ⟨g + 3, 5, none⟩ = some (.slice lA n1 lc) := cell_of g2.2.1 5; have fz4 : W2.frozen? ⟨g + 3, 4, none⟩ = false := frozen_of g2.2.1; have fz5 : W2.frozen? ⟨g + 3, 5, none⟩ = false := frozen_of g2.2.1
                go_wp2_with fail
                go_meet
                case rel => exact ⟨n1 + 1, true, A' ++ [t], B' ++ [j], _, _, _, _, rfl, Nat.le_refl _, SInv.app HRL.out.1 HLL.out HRL.out.2 HJ.out (by assumption), HMI.out⟩
              exact AllReadyH.nil
            refine AllReadyH.cons rfl (fun KQ hKQ => ?_) ?_
            · skip
              go_simp
              refine hKQ.out _ _ (by exact HS7.out _ _ _ _ _ _ (by repeat (first | assumption | apply GoodW.alloc | apply GoodW.drew))) (fun hHeld => ?_)
              clear hKQ KQ
              (try simp only [Act.put, List.setIfInBounds_toArray, List.set_cons_zero, List.set_cons_succ])
              refine wpAnyH_ready (rs := [3]) (by kernel_rfl) (by simp) ?_
              refine AllReadyH.cons rfl (fun KQ hKQ => ?_) AllReadyH.nil
              go_simp
              refine hKQ.out _ _ (by exact HS7.out _ _ _ _ _ _ (by repeat (first | assumption | apply GoodW.alloc | apply GoodW.drew))) (fun hHeld => ?_)
              clear hKQ KQ
              (try simp only [Act.put, List.setIfInBounds_toArray, List.set_cons_zero, List.set_cons_succ])
              refine wpAnyH_ready (rs := [4]) (by kernel_rfl) (by simp) ?_
              refine AllReadyH.cons rfl (fun KQ hKQ => ?_) AllReadyH.nil
              (refine step_two1 (m := wr.heap.size) rfl (.tmp 28) (.tmp 30) (by rfl) n1 _ (strV t) (by rfl) (by rfl) (by repeat (first | assumption | apply Two.alloc | apply Two.drew)) (by first | exact heap_new (by simp) | exact heap_old (heap_new (by simp)) | exact kk.out _ _ (by first | omega | (simp; omega)) (by first | exact heap_new (by simp) | exact heap_old (heap_new (by simp)))) rfl HZ.out (by omega) HM.out.1 ?_; intro A1' c1' W1 t1 g1 kk s1)
              refine hKQ.out _ _ (by exact HS7.out _ _ _ _ _ _ (by repeat (first | assumption | apply GoodW.alloc | apply GoodW.drew))) (fun hHeld => ?_)
              clear hKQ KQ
              (try simp only [Act.put, List.setIfInBounds_toArray])
              refine wpAnyH_take (i := 10) (v := ?_) rfl (by kernel_rfl) (by kernel_rfl) (by kernel_rfl) (fun _ _ _ h => h) (Or.inl ⟨by rfl, ?_⟩) (by assumption) ?_
              rotate_left
              · intro w hSw
                (try dsimp only at hSw)
                go_simp
                (try with_reducible rfl)
              (try simp only [Act.put])
              refine wpAnyH_ready (rs := [9]) (by kernel_rfl) (by simp) ?_
              refine AllReadyH.cons rfl (fun KQ hKQ => ?_) AllReadyH.nil
              (refine step_two2 (m := wr.heap.size) rfl (.tmp 33) (.tmp 35) (by rfl) n1 _ (v6 K Bb z sv (.slice A1 m1 k1) (.slice A2 m2 k2)) (by rfl) (by rfl) (by repeat (first | assumption | apply Two.alloc | apply Two.drew)) (by first | exact heap_new (by simp) | exact heap_old (heap_new (by simp)) | exact kk.out _ _ (by first | omega | (simp; omega)) (by first | exact heap_new (by simp) | exact heap_old (heap_new (by simp)))) rfl (by unfold v6; simp [Value.oneCell']) HLL.out (by omega) HM.out.2 ?_; intro A2' c2' W2 t2 g2 kk s2)
              refine hKQ.out _ _ (by exact HS7.out _ _ _ _ _ _ (by repeat (first | assumption | apply GoodW.alloc | apply GoodW.drew))) (fun hHeld => ?_)
              clear hKQ KQ
              (try simp only [Act.put])
              refine wpAnyH_done (by kernel_rfl) ?_ _
              refine TailQ.normal ?_
              have q42 : W2.cell? ⟨g + 3, 4, none⟩ = some (.slice nA n1 nc) := cell_of g2.2.1 4; have q52 : W2.cell? ⟨g + 3, 5, none⟩ = some (.slice lA n1 lc) := cell_of g2.2.1 5; have fz4 : W2.frozen? ⟨g + 3, 4, none⟩ = false := frozen_of g2.2.1; have fz5 : W2.frozen? ⟨g + 3, 5, none⟩ = false := frozen_of g2.2.1
              go_wp2_with fail
              go_meet
              case rel => exact ⟨n1 + 1, true, A' ++ [t], B' ++ [j], _, _, _, _, rfl, Nat.le_refl _, SInv.app HRL.out.1 HLL.out HRL.out.2 HJ.out (by assumption), HMI.out⟩
            exact AllReadyH.nil
        case rest =>
          obtain ⟨n2, pb2, A2s, B2s, nA2, nc2, lA2, lc2, rfl, hn2, hI2⟩ := hcut
          by_cases hne : n = t
          · have hbq : ((bx n).toList == (bx t).toList) = true := by rw [bx_beq]; exact decide_eq_true hne
            have HNE := Lib.hid hne
            clear hne
            go_wp2_with fail
            go_roundw
            case rel => exact ⟨q + 1, n2, pb2, A2s, B2s, nA2, nc2, lA2, lc2, hlt, by omega, rfl, by go_num, hI2.out.1, by rw [HST.out, set_mid, if_pos HNE.out, hI2.out.2]⟩
            case measure => simp [intOf]; omega
          · have hbq : ((bx n).toList == (bx t).toList) = false := by rw [bx_beq]; exact decide_eq_false hne
            have HNE := Lib.hid hne
            clear hne
            obtain ⟨hl1, hl2, L, tw, hL, hrL⟩ := hI2.out.1
            have HZ := Lib.hid (SInv.len ⟨hl1, hl2, L, tw, hL, hrL⟩)
            have HM : Hid ((∀ b, (Value.slice nA2 n2 nc2).ownBlock = some b → b < wc.heap.size) ∧ ∀ b, (Value.slice lA2 n2 lc2).ownBlock = some b → b < wc.heap.size) := ⟨fun b e => (tw.2.1.block b e).2, fun b e => (tw.2.2.1.block b e).2⟩
            have HLL := Lib.hid hL
            have HRL := Lib.hid (And.intro (And.intro hl1 hl2) hrL)
            have hgw := tw.1
            clear hl1 hl2 hL hrL
            go_upto_region 9 with (fail)
            refine wp_region_split (fun w' => w'.cell? ⟨g + 3, 4, none⟩ = some (.slice nA2 n2 nc2) ∧ w'.cell? ⟨g + 3, 5, none⟩ = some (.slice lA2 n2 lc2) ∧ w'.cell? ⟨g, 5, none⟩ = some (.slice (some ⟨gb, ob, none⟩) N d) ∧ w'.cell? ⟨gb, ob + q * 6, none⟩ = some (.int .i64 K') ∧ w'.cell? ⟨gb, ob + q * 6 + 1, none⟩ = some (.bool Bb') ∧ w'.cell? ⟨gb, ob + q * 6 + 2, none⟩ = some (.int .i64 z') ∧ w'.cell? ⟨gb, ob + q * 6 + 3, none⟩ = some (.string sv') ∧ w'.cell? ⟨gb, ob + q * 6 + 4, none⟩ = some (.slice A3 m3 k3) ∧ w'.cell? ⟨gb, ob + q * 6 + 5, none⟩ = some (.slice A4 m4 k4)) 15 (by kernel_rfl) (by kernel_rfl) (by exact HS9.out _ _ _ _ _ _ (by repeat (first | assumption | apply GoodW.alloc | apply GoodW.drew))) (fun hHeld => ?_)
            simp only [List.take_succ_cons, List.take_zero, List.drop_succ_cons, List.drop_zero]
            refine wpAnyH_take (i := 0) (v := ?_) rfl (by kernel_rfl) (by kernel_rfl) (by kernel_rfl) (fun _ _ _ h => h) (Or.inl ⟨by rfl, ?_⟩) (by assumption) ?_
            rotate_left
            · intro w hSw
              (try dsimp only at hSw)
              go_simp
              (try with_reducible rfl)
            (try simp only [Act.put, List.setIfInBounds_toArray])
            refine wpAnyH_take (i := 1) (v := ?_) rfl (by kernel_rfl) (by kernel_rfl) (by kernel_rfl) (fun _ _ _ h => h) (Or.inl ⟨by rfl, ?_⟩) (by assumption) ?_
            rotate_left
            · intro w hSw
              (try dsimp only at hSw)
              go_simp
              (try with_reducible rfl)
            (try simp only [Act.put])
            refine wpAnyH_take (i := 2) (v := ?_) rfl (by kernel_rfl) (by kernel_rfl) (by kernel_rfl) (fun _ _ _ h => h) (Or.inl ⟨by rfl, ?_⟩) (by assumption) ?_
            rotate_left
            · intro w hSw
              (try dsimp only at hSw)
              go_simp
              (try with_reducible rfl)
            (try simp only [Act.put])
            refine wpAnyH_take (i := 5) (v := ?_) rfl (by kernel_rfl) (by kernel_rfl) (by kernel_rfl) (fun _ _ _ h => h) (Or.inl ⟨by rfl, ?_⟩) (by assumption) ?_
            rotate_left
            · intro w hSw
              (try dsimp only at hSw)
              go_simp
              (try with_reducible rfl)
            (try simp only [Act.put])
            refine wpAnyH_take (i := 6) (v := ?_) rfl (by kernel_rfl) (by kernel_rfl) (by kernel_rfl) (fun _ _ _ h => h) (Or.inl ⟨by rfl, ?_⟩) (by assumption) ?_
            rotate_left
            · intro w hSw
              (try dsimp only at hSw)
              go_simp
              (try with_reducible rfl)
            (try simp only [Act.put])
            refine wpAnyH_take (i := 7) (v := ?_) rfl (by kernel_rfl) (by kernel_rfl) (by kernel_rfl) (fun _ _ _ h => h) (Or.inl ⟨by rfl, ?_⟩) (by assumption) ?_
            rotate_left
            · intro w hSw
              (try dsimp only at hSw)
              go_simp
              (try with_reducible rfl)
            (try simp only [Act.put])
            refine wpAnyH_take (i := 8) (v := ?_) rfl (by kernel_rfl) (by kernel_rfl) (by kernel_rfl) (fun _ _ _ h => h) (Or.inl ⟨by rfl, ?_⟩) (by assumption) ?_
            rotate_left
            · intro w hSw
              (try dsimp only at hSw)
              go_simp
              (try with_reducible rfl)
            (try simp only [Act.put])
            refine wpAnyH_take (i := 9) (v := ?_) rfl (by kernel_rfl) (by kernel_rfl) (by kernel_rfl) (fun _ _ _ h => h) (Or.inl ⟨by rfl, ?_⟩) (by assumption) ?_
            rotate_left
            · intro w hSw
              (try dsimp only at hSw)
              go_simp
              (try with_reducible rfl)
            (try simp only [Act.put])
            refine wpAnyH_take (i := 10) (v := ?_) rfl (by kernel_rfl) (by kernel_rfl) (by kernel_rfl) (fun _ _ _ h => h) (Or.inl ⟨by rfl, ?_⟩) (by assumption) ?_
            rotate_left
            · intro w hSw
              (try dsimp only at hSw)
              go_simp
              (try with_reducible rfl)
            (try simp only [Act.put])
            refine wpAnyH_take (i := 11) (v := ?_) rfl (by kernel_rfl) (by kernel_rfl) (by kernel_rfl) (fun _ _ _ h => h) (Or.inl ⟨by rfl, ?_⟩) (by assumption) ?_
            rotate_left
            · intro w hSw
              (try dsimp only at hSw)
              go_simp
              (try with_reducible rfl)
            (try simp only [Act.put])
            refine wpAnyH_ready (rs := [3, 12]) (by kernel_rfl) (by simp) ?_
            refine AllReadyH.cons rfl (fun KQ hKQ => ?_) ?_
            · skip
              go_simp
              refine hKQ.out _ _ (by exact HS9.out _ _ _ _ _ _ (by repeat (first | assumption | apply GoodW.alloc | apply GoodW.drew))) (fun hHeld => ?_)
              clear hKQ KQ
              (try simp only [Act.put, List.setIfInBounds_toArray, List.set_cons_zero, List.set_cons_succ])
              refine wpAnyH_ready (rs := [4, 12]) (by kernel_rfl) (by simp) ?_
              refine AllReadyH.cons rfl (fun KQ hKQ => ?_) ?_
              · skip
                (refine step_two1 (m := wc.heap.size) rfl (.tmp 43) (.tmp 45) (by rfl) n2 _ (strV n) (by rfl) (by rfl) (by repeat (first | assumption | apply Two.alloc | apply Two.drew)) (by first | exact heap_new (by simp) | exact heap_old (heap_new (by simp)) | exact kk.out _ _ (by first | omega | (simp; omega)) (by first | exact heap_new (by simp) | exact heap_old (heap_new (by simp)))) rfl HZ.out (by omega) HM.out.1 ?_; intro A1' c1' W1 t1 g1 kk s1)
                refine hKQ.out _ _ (by exact HS9.out _ _ _ _ _ _ (by repeat (first | assumption | apply GoodW.alloc | apply GoodW.drew))) (fun hHeld => ?_)
                clear hKQ KQ
                (try simp only [Act.put, List.setIfInBounds_toArray])
                refine wpAnyH_take (i := 14) (v := ?_) rfl (by kernel_rfl) (by kernel_rfl) (by kernel_rfl) (fun _ _ _ h => h) (Or.inl ⟨by rfl, ?_⟩) (by assumption) ?_
                rotate_left
                · intro w hSw
                  (try dsimp only at hSw)
                  go_simp
                  (try with_reducible rfl)
                (try simp only [Act.put])
                refine wpAnyH_ready (rs := [12]) (by kernel_rfl) (by simp) ?_
                refine AllReadyH.cons rfl (fun KQ hKQ => ?_) AllReadyH.nil
                go_simp
                refine hKQ.out _ _ (by exact HS9.out _ _ _ _ _ _ (by repeat (first | assumption | apply GoodW.alloc | apply GoodW.drew))) (fun hHeld => ?_)
                clear hKQ KQ
                (try simp only [Act.put, List.setIfInBounds_toArray, List.set_cons_zero, List.set_cons_succ])
                refine wpAnyH_ready (rs := [13]) (by kernel_rfl) (by simp) ?_
                refine AllReadyH.cons rfl (fun KQ hKQ => ?_) AllReadyH.nil
                (refine step_two2 (m := wc.heap.size) rfl (.tmp 48) (.tmp 54) (by rfl) n2 _ (v6 K' Bb' z' sv' (.slice A3 m3 k3) (.slice A4 m4 k4)) (by rfl) (by rfl) (by repeat (first | assumption | apply Two.alloc | apply Two.drew)) (by first | exact heap_new (by simp) | exact heap_old (heap_new (by simp)) | exact kk.out _ _ (by first | omega | (simp; omega)) (by first | exact heap_new (by simp) | exact heap_old (heap_new (by simp)))) rfl (by unfold v6; simp [Value.oneCell']) HLL.out (by omega) HM.out.2 ?_; intro A2' c2' W2 t2 g2 kk s2)
                refine hKQ.out _ _ (by exact HS9.out _ _ _ _ _ _ (by repeat (first | assumption | apply GoodW.alloc | apply GoodW.drew))) (fun hHeld => ?_)
                clear hKQ KQ
                (try simp only [Act.put, List.setIfInBounds_toArray])
                refine wpAnyH_done (by kernel_rfl) ?_ _
                refine TailQ.normal ?_
                have q42 : W2.cell? ⟨g + 3, 4, none⟩ = some (.slice nA2 n2 nc2) := cell_of g2.2.1 4; have q52 : W2.cell? ⟨g + 3, 5, none⟩ = some (.slice lA2 n2 lc2) := cell_of g2.2.1 5; have fz4 : W2.frozen? ⟨g + 3, 4, none⟩ = false := frozen_of g2.2.1; have fz5 : W2.frozen? ⟨g + 3, 5, none⟩ = false := frozen_of g2.2.1
                go_wp2_with fail
                go_roundw
                case rel => exact ⟨q + 1, n2 + 1, pb2, A2s ++ [n], B2s ++ [l[q]'HQ.out.2], _, _, _, _, hlt, by omega, rfl, by go_num, SInv.app HRL.out.1 HLL.out HRL.out.2 HRV.out (by assumption), by rw [HST.out, set_mid, if_neg HNE.out, hI2.out.2]⟩
                case measure => simp [intOf]; omega
              refine AllReadyH.cons rfl (fun KQ hKQ => ?_) ?_
              · skip
                go_simp
                refine hKQ.out _ _ (by exact HS9.out _ _ _ _ _ _ (by repeat (first | assumption | apply GoodW.alloc | apply GoodW.drew))) (fun hHeld => ?_)
                clear hKQ KQ
                (try simp only [Act.put, List.setIfInBounds_toArray, List.set_cons_zero, List.set_cons_succ])
                refine wpAnyH_ready (rs := [4]) (by kernel_rfl) (by simp) ?_
                refine AllReadyH.cons rfl (fun KQ hKQ => ?_) AllReadyH.nil
                (refine step_two1 (m := wc.heap.size) rfl (.tmp 43) (.tmp 45) (by rfl) n2 _ (strV n) (by rfl) (by rfl) (by repeat (first | assumption | apply Two.alloc | apply Two.drew)) (by first | exact heap_new (by simp) | exact heap_old (heap_new (by simp)) | exact kk.out _ _ (by first | omega | (simp; omega)) (by first | exact heap_new (by simp) | exact heap_old (heap_new (by simp)))) rfl HZ.out (by omega) HM.out.1 ?_; intro A1' c1' W1 t1 g1 kk s1)
                refine hKQ.out _ _ (by exact HS9.out _ _ _ _ _ _ (by repeat (first | assumption | apply GoodW.alloc | apply GoodW.drew))) (fun hHeld => ?_)
                clear hKQ KQ
                (try simp only [Act.put, List.setIfInBounds_toArray])
                refine wpAnyH_take (i := 14) (v := ?_) rfl (by kernel_rfl) (by kernel_rfl) (by kernel_rfl) (fun _ _ _ h => h) (Or.inl ⟨by rfl, ?_⟩) (by assumption) ?_
                rotate_left
                · intro w hSw
                  (try dsimp only at hSw)
                  go_simp
                  (try with_reducible rfl)
                (try simp only [Act.put])
                refine wpAnyH_ready (rs := [13]) (by kernel_rfl) (by simp) ?_
                refine AllReadyH.cons rfl (fun KQ hKQ => ?_) AllReadyH.nil
                (refine step_two2 (m := wc.heap.size) rfl (.tmp 48) (.tmp 54) (by rfl) n2 _ (v6 K' Bb' z' sv' (.slice A3 m3 k3) (.slice A4 m4 k4)) (by rfl) (by rfl) (by repeat (first | assumption | apply Two.alloc | apply Two.drew)) (by first | exact heap_new (by simp) | exact heap_old (heap_new (by simp)) | exact kk.out _ _ (by first | omega | (simp; omega)) (by first | exact heap_new (by simp) | exact heap_old (heap_new (by simp)))) rfl (by unfold v6; simp [Value.oneCell']) HLL.out (by omega) HM.out.2 ?_; intro A2' c2' W2 t2 g2 kk s2)
                refine hKQ.out _ _ (by exact HS9.out _ _ _ _ _ _ (by repeat (first | assumption | apply GoodW.alloc | apply GoodW.drew))) (fun hHeld => ?_)
                clear hKQ KQ
                (try simp only [Act.put])
                refine wpAnyH_done (by kernel_rfl) ?_ _
                refine TailQ.normal ?_
                have q42 : W2.cell? ⟨g + 3, 4, none⟩ = some (.slice nA2 n2 nc2) := cell_of g2.2.1 4; have q52 : W2.cell? ⟨g + 3, 5, none⟩ = some (.slice lA2 n2 lc2) := cell_of g2.2.1 5; have fz4 : W2.frozen? ⟨g + 3, 4, none⟩ = false := frozen_of g2.2.1; have fz5 : W2.frozen? ⟨g + 3, 5, none⟩ = false := frozen_of g2.2.1
                go_wp2_with fail
                go_roundw
                case rel => exact ⟨q + 1, n2 + 1, pb2, A2s ++ [n], B2s ++ [l[q]'HQ.out.2], _, _, _, _, hlt, by omega, rfl, by go_num, SInv.app HRL.out.1 HLL.out HRL.out.2 HRV.out (by assumption), by rw [HST.out, set_mid, if_neg HNE.out, hI2.out.2]⟩
                case measure => simp [intOf]; omega
              exact AllReadyH.nil
            refine AllReadyH.cons rfl (fun KQ hKQ => ?_) ?_
            · skip
              go_simp
              refine hKQ.out _ _ (by exact HS9.out _ _ _ _ _ _ (by repeat (first | assumption | apply GoodW.alloc | apply GoodW.drew))) (fun hHeld => ?_)
              clear hKQ KQ
              (try simp only [Act.put, List.setIfInBounds_toArray, List.set_cons_zero, List.set_cons_succ])
              refine wpAnyH_ready (rs := [3]) (by kernel_rfl) (by simp) ?_
              refine AllReadyH.cons rfl (fun KQ hKQ => ?_) AllReadyH.nil
              go_simp
              refine hKQ.out _ _ (by exact HS9.out _ _ _ _ _ _ (by repeat (first | assumption | apply GoodW.alloc | apply GoodW.drew))) (fun hHeld => ?_)
              clear hKQ KQ
              (try simp only [Act.put, List.setIfInBounds_toArray, List.set_cons_zero, List.set_cons_succ])
              refine wpAnyH_ready (rs := [4]) (by kernel_rfl) (by simp) ?_
              refine AllReadyH.cons rfl (fun KQ hKQ => ?_) AllReadyH.nil
              (refine step_two1 (m := wc.heap.size) rfl (.tmp 43) (.tmp 45) (by rfl) n2 _ (strV n) (by rfl) (by rfl) (by repeat (first | assumption | apply Two.alloc | apply Two.drew)) (by first | exact heap_new (by simp) | exact heap_old (heap_new (by simp)) | exact kk.out _ _ (by first | omega | (simp; omega)) (by first | exact heap_new (by simp) | exact heap_old (heap_new (by simp)))) rfl HZ.out (by omega) HM.out.1 ?_; intro A1' c1' W1 t1 g1 kk s1)
              refine hKQ.out _ _ (by exact HS9.out _ _ _ _ _ _ (by repeat (first | assumption | apply GoodW.alloc | apply GoodW.drew))) (fun hHeld => ?_)
              clear hKQ KQ
              (try simp only [Act.put, List.setIfInBounds_toArray])
              refine wpAnyH_take (i := 14) (v := ?_) rfl (by kernel_rfl) (by kernel_rfl) (by kernel_rfl) (fun _ _ _ h => h) (Or.inl ⟨by rfl, ?_⟩) (by assumption) ?_
              rotate_left
              · intro w hSw
                (try dsimp only at hSw)
                go_simp
                (try with_reducible rfl)
              (try simp only [Act.put])
              refine wpAnyH_ready (rs := [13]) (by kernel_rfl) (by simp) ?_
              refine AllReadyH.cons rfl (fun KQ hKQ => ?_) AllReadyH.nil
              (refine step_two2 (m := wc.heap.size) rfl (.tmp 48) (.tmp 54) (by rfl) n2 _ (v6 K' Bb' z' sv' (.slice A3 m3 k3) (.slice A4 m4 k4)) (by rfl) (by rfl) (by repeat (first | assumption | apply Two.alloc | apply Two.drew)) (by first | exact heap_new (by simp) | exact heap_old (heap_new (by simp)) | exact kk.out _ _ (by first | omega | (simp; omega)) (by first | exact heap_new (by simp) | exact heap_old (heap_new (by simp)))) rfl (by unfold v6; simp [Value.oneCell']) HLL.out (by omega) HM.out.2 ?_; intro A2' c2' W2 t2 g2 kk s2)
              refine hKQ.out _ _ (by exact HS9.out _ _ _ _ _ _ (by repeat (first | assumption | apply GoodW.alloc | apply GoodW.drew))) (fun hHeld => ?_)
              clear hKQ KQ
              (try simp only [Act.put])
              refine wpAnyH_done (by kernel_rfl) ?_ _
              refine TailQ.normal ?_
              have q42 : W2.cell? ⟨g + 3, 4, none⟩ = some (.slice nA2 n2 nc2) := cell_of g2.2.1 4; have q52 : W2.cell? ⟨g + 3, 5, none⟩ = some (.slice lA2 n2 lc2) := cell_of g2.2.1 5; have fz4 : W2.frozen? ⟨g + 3, 4, none⟩ = false := frozen_of g2.2.1; have fz5 : W2.frozen? ⟨g + 3, 5, none⟩ = false := frozen_of g2.2.1
              go_wp2_with fail
              go_roundw
              case rel => exact ⟨q + 1, n2 + 1, pb2, A2s ++ [n], B2s ++ [l[q]'HQ.out.2], _, _, _, _, hlt, by omega, rfl, by go_num, SInv.app HRL.out.1 HLL.out HRL.out.2 HRV.out (by assumption), by rw [HST.out, set_mid, if_neg HNE.out, hI2.out.2]⟩
              case measure => simp [intOf]; omega
            exact AllReadyH.nil
    · have hqN : q = N := by omega
      have hbl : decide ((q : Int) < (N : Int)) = false := decide_eq_false (by omega)
      have hbl2 : decide (q < N) = false := decide_eq_false hlt
      have HEND : Hid (setEnd t j (pb, A', B') = setJ ns l t j) := by
        unfold Hid
        rw [← hI.out.2, List.take_of_length_le (by rw [List.length_zip, ← HLE.out, ← HNN.out]; omega)]
        exact set_all HLE.out HRI.out
      clear hlt hqN
      cases pb with
      | true =>
        have HI3 := Lib.hid hI.out.1
        have HEQ : Hid ((setJ ns l t j).1 = A' ∧ (setJ ns l t j).2 = B') := by unfold Hid; rw [← HEND.out]; exact ⟨rfl, rfl⟩
        have HVO : Hid (VIn wr (g + 3) 6 false 0 ⟨#[]⟩ (.slice nA (n1) nc) (.slice lA (n1) lc)) := HI3.out.2.2.choose_spec.1.1.2.1
        have HVR := Lib.hid (HR1.out.ext HI3.out.2.2.choose_spec.1.1.1)
        obtain ⟨c0, c1, c2, c3, c4, c5⟩ := HVO.out.cells
        obtain ⟨d0, d1, d2, d3, d4, d5⟩ := HVR.out.cells
        have e0 := HVR.out.free 0
        have e1 := HVR.out.free 1
        have e2 := HVR.out.free 2
        have e3 := HVR.out.free 3
        have e4 := HVR.out.free 4
        have e5 := HVR.out.free 5
        go_wp2_with fail
        refine bodyPost_ret (results_v1 rfl _ _ (g + 2) rfl (put_in 6 false 0 ⟨#[]⟩ (.slice nA (n1) nc) (.slice lA (n1) lc) HVR.out)) rfl ?_
        have hP := set_done HI3.out HX1.out HGW.out HF.out
        have hl1 := HI3.out.1
        have hl2 := HI3.out.2.1
        refine ⟨hP.1, nA, nc, lA, lc, ?_, ?_⟩
        · rw [HEQ.out.1, HEQ.out.2, hl1, hl2]
        · have hR := hP.2
          rw [HEQ.out.1, HEQ.out.2, hl1, hl2]
          exact hR
      | false =>
        have HEQ : Hid ((setJ ns l t j).1 = A' ++ [t] ∧ (setJ ns l t j).2 = B' ++ [j]) := by unfold Hid; rw [← HEND.out]; exact ⟨rfl, rfl⟩
        obtain ⟨hl1, hl2, L, tw, hL, hrL⟩ := hI.out.1
        have HZ := Lib.hid (SInv.len ⟨hl1, hl2, L, tw, hL, hrL⟩)
        have HM : Hid ((∀ b, (Value.slice nA n1 nc).ownBlock = some b → b < wr.heap.size) ∧ ∀ b, (Value.slice lA n1 lc).ownBlock = some b → b < wr.heap.size) := ⟨fun b e => (tw.2.1.block b e).2, fun b e => (tw.2.2.1.block b e).2⟩
        have HLL := Lib.hid hL
        have HRL := Lib.hid (And.intro (And.intro hl1 hl2) hrL)
        have hgw := tw.1
        clear hl1 hl2 hL hrL
        go_upto_region 12 with (fail)
        refine wp_region_split (fun w' => w'.cell? ⟨g + 3, 4, none⟩ = some (.slice nA n1 nc) ∧ w'.cell? ⟨g + 3, 5, none⟩ = some (.slice lA n1 lc) ∧ w'.cell? ⟨g + 1, 0, none⟩ = some (.int .i64 K) ∧ w'.cell? ⟨g + 1, 1, none⟩ = some (.bool Bb) ∧ w'.cell? ⟨g + 1, 2, none⟩ = some (.int .i64 z) ∧ w'.cell? ⟨g + 1, 3, none⟩ = some (.string sv) ∧ w'.cell? ⟨g + 1, 4, none⟩ = some (.slice A1 m1 k1) ∧ w'.cell? ⟨g + 1, 5, none⟩ = some (.slice A2 m2 k2)) 11 (by kernel_rfl) (by kernel_rfl) (by exact HS7.out _ _ _ _ _ _ (by repeat (first | assumption | apply GoodW.alloc | apply GoodW.drew))) (fun hHeld => ?_)
        simp only [List.take_succ_cons, List.take_zero, List.drop_succ_cons, List.drop_zero]
        refine wpAnyH_take (i := 0) (v := ?_) rfl (by kernel_rfl) (by kernel_rfl) (by kernel_rfl) (fun _ _ _ h => h) (Or.inl ⟨by rfl, ?_⟩) (by assumption) ?_
        rotate_left
        · intro w hSw
          (try dsimp only at hSw)
          go_simp
          (try with_reducible rfl)
        (try simp only [Act.put, List.setIfInBounds_toArray])
        refine wpAnyH_take (i := 1) (v := ?_) rfl (by kernel_rfl) (by kernel_rfl) (by kernel_rfl) (fun _ _ _ h => h) (Or.inl ⟨by rfl, ?_⟩) (by assumption) ?_
        rotate_left
        · intro w hSw
          (try dsimp only at hSw)
          go_simp
          (try with_reducible rfl)
        (try simp only [Act.put])
        refine wpAnyH_take (i := 2) (v := ?_) rfl (by kernel_rfl) (by kernel_rfl) (by kernel_rfl) (fun _ _ _ h => h) (Or.inl ⟨by rfl, ?_⟩) (by assumption) ?_
        rotate_left
        · intro w hSw
          (try dsimp only at hSw)
          go_simp
          (try with_reducible rfl)
        (try simp only [Act.put])
        refine wpAnyH_take (i := 5) (v := ?_) rfl (by kernel_rfl) (by kernel_rfl) (by kernel_rfl) (fun _ _ _ h => h) (Or.inl ⟨by rfl, ?_⟩) (by assumption) ?_
        rotate_left
        · intro w hSw
          (try dsimp only at hSw)
          go_simp
          (try with_reducible rfl)
        (try simp only [Act.put])
        refine wpAnyH_take (i := 6) (v := ?_) rfl (by kernel_rfl) (by kernel_rfl) (by kernel_rfl) (fun _ _ _ h => h) (Or.inl ⟨by rfl, ?_⟩) (by assumption) ?_
        rotate_left
        · intro w hSw
          (try dsimp only at hSw)
          go_simp
          (try with_reducible rfl)
        (try simp only [Act.put])
        refine wpAnyH_take (i := 7) (v := ?_) rfl (by kernel_rfl) (by kernel_rfl) (by kernel_rfl) (fun _ _ _ h => h) (Or.inl ⟨by rfl, ?_⟩) (by assumption) ?_
        rotate_left
        · intro w hSw
          (try dsimp only at hSw)
          go_simp
          (try with_reducible rfl)
        (try simp only [Act.put])
        refine wpAnyH_ready (rs := [3, 8]) (by kernel_rfl) (by simp) ?_
        refine AllReadyH.cons rfl (fun KQ hKQ => ?_) ?_
        · skip
          go_simp
          refine hKQ.out _ _ (by exact HS7.out _ _ _ _ _ _ (by repeat (first | assumption | apply GoodW.alloc | apply GoodW.drew))) (fun hHeld => ?_)
          clear hKQ KQ
          (try simp only [Act.put, List.setIfInBounds_toArray, List.set_cons_zero, List.set_cons_succ])
          refine wpAnyH_ready (rs := [4, 8]) (by kernel_rfl) (by simp) ?_
          refine AllReadyH.cons rfl (fun KQ hKQ => ?_) ?_
          · skip
            (refine step_two1 (m := wr.heap.size) rfl (.tmp 62) (.tmp 64) (by rfl) n1 _ (strV t) (by rfl) (by rfl) (by repeat (first | assumption | apply Two.alloc | apply Two.drew)) (by first | exact heap_new (by simp) | exact heap_old (heap_new (by simp)) | exact kk.out _ _ (by first | omega | (simp; omega)) (by first | exact heap_new (by simp) | exact heap_old (heap_new (by simp)))) rfl HZ.out (by omega) HM.out.1 ?_; intro A1' c1' W1 t1 g1 kk s1)
            refine hKQ.out _ _ (by exact HS7.out _ _ _ _ _ _ (by repeat (first | assumption | apply GoodW.alloc | apply GoodW.drew))) (fun hHeld => ?_)
            clear hKQ KQ
            (try simp only [Act.put, List.setIfInBounds_toArray])
            refine wpAnyH_take (i := 10) (v := ?_) rfl (by kernel_rfl) (by kernel_rfl) (by kernel_rfl) (fun _ _ _ h => h) (Or.inl ⟨by rfl, ?_⟩) (by assumption) ?_
            rotate_left
            · intro w hSw
              (try dsimp only at hSw)
              go_simp
              (try with_reducible rfl)
            (try simp only [Act.put])
            refine wpAnyH_ready (rs := [8]) (by kernel_rfl) (by simp) ?_
            refine AllReadyH.cons rfl (fun KQ hKQ => ?_) AllReadyH.nil
            go_simp
            refine hKQ.out _ _ (by exact HS7.out _ _ _ _ _ _ (by repeat (first | assumption | apply GoodW.alloc | apply GoodW.drew))) (fun hHeld => ?_)
            clear hKQ KQ
            (try simp only [Act.put, List.setIfInBounds_toArray, List.set_cons_zero, List.set_cons_succ])
            refine wpAnyH_ready (rs := [9]) (by kernel_rfl) (by simp) ?_
            refine AllReadyH.cons rfl (fun KQ hKQ => ?_) AllReadyH.nil
            (refine step_two2 (m := wr.heap.size) rfl (.tmp 67) (.tmp 69) (by rfl) n1 _ (v6 K Bb z sv (.slice A1 m1 k1) (.slice A2 m2 k2)) (by rfl) (by rfl) (by repeat (first | assumption | apply Two.alloc | apply Two.drew)) (by first | exact heap_new (by simp) | exact heap_old (heap_new (by simp)) | exact kk.out _ _ (by first | omega | (simp; omega)) (by first | exact heap_new (by simp) | exact heap_old (heap_new (by simp)))) rfl (by unfold v6; simp [Value.oneCell']) HLL.out (by omega) HM.out.2 ?_; intro A2' c2' W2 t2 g2 kk s2)
            refine hKQ.out _ _ (by exact HS7.out _ _ _ _ _ _ (by repeat (first | assumption | apply GoodW.alloc | apply GoodW.drew))) (fun hHeld => ?_)
            clear hKQ KQ
            (try simp only [Act.put, List.setIfInBounds_toArray])
            refine wpAnyH_done (by kernel_rfl) ?_ _
            refine TailQ.normal ?_
            have q42 : W2.cell? ⟨g + 3, 4, none⟩ = some (.slice nA n1 nc) := cell_of g2.2.1 4; have q52 : W2.cell? ⟨g + 3, 5, none⟩ = some (.slice lA n1 lc) := cell_of g2.2.1 5; have fz4 : W2.frozen? ⟨g + 3, 4, none⟩ = false := frozen_of g2.2.1; have fz5 : W2.frozen? ⟨g + 3, 5, none⟩ = false := frozen_of g2.2.1
            go_upto_region 13 with (fail)
            generalize hW : World.setCell _ _ _ = W3
            have HI3 : Hid (SInv F w w1 (g + 3) (g + 4) W3 (n1 + 1) (A' ++ [t]) (B' ++ [j]) (.slice A1' (n1 + 1) c1') (.slice A2' (n1 + 1) c2')) := by rw [← hW]; exact SInv.app HRL.out.1 HLL.out HRL.out.2 HJ.out (by assumption)
            clear hW q42 q52 fz4 fz5
            have HVO : Hid (VIn W3 (g + 3) 6 false 0 ⟨#[]⟩ (.slice A1' (n1 + 1) c1') (.slice A2' (n1 + 1) c2')) := HI3.out.2.2.choose_spec.1.1.2.1
            have HVR := Lib.hid (HR1.out.ext HI3.out.2.2.choose_spec.1.1.1)
            obtain ⟨c0, c1, c2, c3, c4, c5⟩ := HVO.out.cells
            obtain ⟨d0, d1, d2, d3, d4, d5⟩ := HVR.out.cells
            have e0 := HVR.out.free 0
            have e1 := HVR.out.free 1
            have e2 := HVR.out.free 2
            have e3 := HVR.out.free 3
            have e4 := HVR.out.free 4
            have e5 := HVR.out.free 5
            go_wp2_with fail
            refine bodyPost_ret (results_v1 rfl _ _ (g + 2) rfl (put_in 6 false 0 ⟨#[]⟩ (.slice A1' (n1 + 1) c1') (.slice A2' (n1 + 1) c2') HVR.out)) rfl ?_
            have hP := set_done HI3.out HX1.out HGW.out HF.out
            have hl1 := HI3.out.1
            have hl2 := HI3.out.2.1
            refine ⟨hP.1, A1', c1', A2', c2', ?_, ?_⟩
            · rw [HEQ.out.1, HEQ.out.2, hl1, hl2]
            · have hR := hP.2
              rw [HEQ.out.1, HEQ.out.2, hl1, hl2]
              exact hR
          refine AllReadyH.cons rfl (fun KQ hKQ => ?_) ?_
          · skip
            go_simp
            refine hKQ.out _ _ (by exact HS7.out _ _ _ _ _ _ (by repeat (first | assumption | apply GoodW.alloc | apply GoodW.drew))) (fun hHeld => ?_)
            clear hKQ KQ
            (try simp only [Act.put, List.setIfInBounds_toArray, List.set_cons_zero, List.set_cons_succ])
            refine wpAnyH_ready (rs := [4]) (by kernel_rfl) (by simp) ?_
            refine AllReadyH.cons rfl (fun KQ hKQ => ?_) AllReadyH.nil
            (refine step_two1 (m := wr.heap.size) rfl (.tmp 62) (.tmp 64) (by rfl) n1 _ (strV t) (by rfl) (by rfl) (by repeat (first | assumption | apply Two.alloc | apply Two.drew)) (by first | exact heap_new (by simp) | exact heap_old (heap_new (by simp)) | exact kk.out _ _ (by first | omega | (simp; omega)) (by first | exact heap_new (by simp) | exact heap_old (heap_new (by simp)))) rfl HZ.out (by omega) HM.out.1 ?_; intro A1' c1' W1 t1 g1 kk s1)
            refine hKQ.out _ _ (by exact HS7.out _ _ _ _ _ _ (by repeat (first | assumption | apply GoodW.alloc | apply GoodW.drew))) (fun hHeld => ?_)
            clear hKQ KQ
            (try simp only [Act.put, List.setIfInBounds_toArray])
            refine wpAnyH_take (i := 10) (v := ?_) rfl (by kernel_rfl) (by kernel_rfl) (by kernel_rfl) (fun _ _ _ h => h) (Or.inl ⟨by rfl, ?_⟩) (by assumption) ?_
            rotate_left
            · intro w hSw
              (try dsimp only at hSw)
              go_simp
              (try with_reducible rfl)
            (try simp only [Act.put])
            refine wpAnyH_ready (rs := [9]) (by kernel_rfl) (by simp) ?_
            refine AllReadyH.cons rfl (fun KQ hKQ => ?_) AllReadyH.nil
            (refine step_two2 (m := wr.heap.size) rfl (.tmp 67) (.tmp 69) (by rfl) n1 _ (v6 K Bb z sv (.slice A1 m1 k1) (.slice A2 m2 k2)) (by rfl) (by rfl) (by repeat (first | assumption | apply Two.alloc | apply Two.drew)) (by first | exact heap_new (by simp) | exact heap_old (heap_new (by simp)) | exact kk.out _ _ (by first | omega | (simp; omega)) (by first | exact heap_new (by simp) | exact heap_old (heap_new (by simp)))) rfl (by unfold v6; simp [Value.oneCell']) HLL.out (by omega) HM.out.2 ?_; intro A2' c2' W2 t2 g2 kk s2)
            refine hKQ.out _ _ (by exact HS7.out _ _ _ _ _ _ (by repeat (first | assumption | apply GoodW.alloc | apply GoodW.drew))) (fun hHeld => ?_)
            clear hKQ KQ
            (try simp only [Act.put])
            refine wpAnyH_done (by kernel_rfl) ?_ _
            refine TailQ.normal ?_
            have q42 : W2.cell? ⟨g + 3, 4, none⟩ = some (.slice nA n1 nc) := cell_of g2.2.1 4; have q52 : W2.cell? ⟨g + 3, 5, none⟩ = some (.slice lA n1 lc) := cell_of g2.2.1 5; have fz4 : W2.frozen? ⟨g + 3, 4, none⟩ = false := frozen_of g2.2.1; have fz5 : W2.frozen? ⟨g + 3, 5, none⟩ = false := frozen_of g2.2.1
            go_upto_region 13 with (fail)
            generalize hW : World.setCell _ _ _ = W3
            have HI3 : Hid (SInv F w w1 (g + 3) (g + 4) W3 (n1 + 1) (A' ++ [t]) (B' ++ [j]) (.slice A1' (n1 + 1) c1') (.slice A2' (n1 + 1) c2')) := by rw [← hW]; exact SInv.app HRL.out.1 HLL.out HRL.out.2 HJ.out (by assumption)
            clear hW q42 q52 fz4 fz5
            have HVO : Hid (VIn W3 (g + 3) 6 false 0 ⟨#[]⟩ (.slice A1' (n1 + 1) c1') (.slice A2' (n1 + 1) c2')) := HI3.out.2.2.choose_spec.1.1.2.1
            have HVR := Lib.hid (HR1.out.ext HI3.out.2.2.choose_spec.1.1.1)
            obtain ⟨c0, c1, c2, c3, c4, c5⟩ := HVO.out.cells
            obtain ⟨d0, d1, d2, d3, d4, d5⟩ := HVR.out.cells
            have e0 := HVR.out.free 0
            have e1 := HVR.out.free 1
            have e2 := HVR.out.free 2
            have e3 := HVR.out.free 3
            have e4 := HVR.out.free 4
            have e5 := HVR.out.free 5
            go_wp2_with fail
            refine bodyPost_ret (results_v1 rfl _ _ (g + 2) rfl (put_in 6 false 0 ⟨#[]⟩ (.slice A1' (n1 + 1) c1') (.slice A2' (n1 + 1) c2') HVR.out)) rfl ?_
            have hP := set_done HI3.out HX1.out HGW.out HF.out
            have hl1 := HI3.out.1
            have hl2 := HI3.out.2.1
            refine ⟨hP.1, A1', c1', A2', c2', ?_, ?_⟩
            · rw [HEQ.out.1, HEQ.out.2, hl1, hl2]
            · have hR := hP.2
              rw [HEQ.out.1, HEQ.out.2, hl1, hl2]
              exact hR
          exact AllReadyH.nil
        refine AllReadyH.cons rfl (fun KQ hKQ => ?_) ?_
        · skip
          go_simp
          refine hKQ.out _ _ (by exact HS7.out _ _ _ _ _ _ (by repeat (first | assumption | apply GoodW.alloc | apply GoodW.drew))) (fun hHeld => ?_)
          clear hKQ KQ
          (try simp only [Act.put, List.setIfInBounds_toArray, List.set_cons_zero, List.set_cons_succ])
          refine wpAnyH_ready (rs := [3]) (by kernel_rfl) (by simp) ?_
          refine AllReadyH.cons rfl (fun KQ hKQ => ?_) AllReadyH.nil
          go_simp
          refine hKQ.out _ _ (by exact HS7.out _ _ _ _ _ _ (by repeat (first | assumption | apply GoodW.alloc | apply GoodW.drew))) (fun hHeld => ?_)
          clear hKQ KQ
          (try simp only [Act.put, List.setIfInBounds_toArray, List.set_cons_zero, List.set_cons_succ])
          refine wpAnyH_ready (rs := [4]) (by kernel_rfl) (by simp) ?_
          refine AllReadyH.cons rfl (fun KQ hKQ => ?_) AllReadyH.nil
          (refine step_two1 (m := wr.heap.size) rfl (.tmp 62) (.tmp 64) (by rfl) n1 _ (strV t) (by rfl) (by rfl) (by repeat (first | assumption | apply Two.alloc | apply Two.drew)) (by first | exact heap_new (by simp) | exact heap_old (heap_new (by simp)) | exact kk.out _ _ (by first | omega | (simp; omega)) (by first | exact heap_new (by simp) | exact heap_old (heap_new (by simp)))) rfl HZ.out (by omega) HM.out.1 ?_; intro A1' c1' W1 t1 g1 kk s1)
          refine hKQ.out _ _ (by exact HS7.out _ _ _ _ _ _ (by repeat (first | assumption | apply GoodW.alloc | apply GoodW.drew))) (fun hHeld => ?_)
          clear hKQ KQ
          (try simp only [Act.put, List.setIfInBounds_toArray])
          refine wpAnyH_take (i := 10) (v := ?_) rfl (by kernel_rfl) (by kernel_rfl) (by kernel_rfl) (fun _ _ _ h => h) (Or.inl ⟨by rfl, ?_⟩) (by assumption) ?_
          rotate_left
          · intro w hSw
            (try dsimp only at hSw)
            go_simp
            (try with_reducible rfl)
          (try simp only [Act.put])
          refine wpAnyH_ready (rs := [9]) (by kernel_rfl) (by simp) ?_
          refine AllReadyH.cons rfl (fun KQ hKQ => ?_) AllReadyH.nil
          (refine step_two2 (m := wr.heap.size) rfl (.tmp 67) (.tmp 69) (by rfl) n1 _ (v6 K Bb z sv (.slice A1 m1 k1) (.slice A2 m2 k2)) (by rfl) (by rfl) (by repeat (first | assumption | apply Two.alloc | apply Two.drew)) (by first | exact heap_new (by simp) | exact heap_old (heap_new (by simp)) | exact kk.out _ _ (by first | omega | (simp; omega)) (by first | exact heap_new (by simp) | exact heap_old (heap_new (by simp)))) rfl (by unfold v6; simp [Value.oneCell']) HLL.out (by omega) HM.out.2 ?_; intro A2' c2' W2 t2 g2 kk s2)
          refine hKQ.out _ _ (by exact HS7.out _ _ _ _ _ _ (by repeat (first | assumption | apply GoodW.alloc | apply GoodW.drew))) (fun hHeld => ?_)
          clear hKQ KQ
          (try simp only [Act.put])
          refine wpAnyH_done (by kernel_rfl) ?_ _
          refine TailQ.normal ?_
          have q42 : W2.cell? ⟨g + 3, 4, none⟩ = some (.slice nA n1 nc) := cell_of g2.2.1 4; have q52 : W2.cell? ⟨g + 3, 5, none⟩ = some (.slice lA n1 lc) := cell_of g2.2.1 5; have fz4 : W2.frozen? ⟨g + 3, 4, none⟩ = false := frozen_of g2.2.1; have fz5 : W2.frozen? ⟨g + 3, 5, none⟩ = false := frozen_of g2.2.1
          go_upto_region 13 with (fail)
          generalize hW : World.setCell _ _ _ = W3
          have HI3 : Hid (SInv F w w1 (g + 3) (g + 4) W3 (n1 + 1) (A' ++ [t]) (B' ++ [j]) (.slice A1' (n1 + 1) c1') (.slice A2' (n1 + 1) c2')) := by rw [← hW]; exact SInv.app HRL.out.1 HLL.out HRL.out.2 HJ.out (by assumption)
          clear hW q42 q52 fz4 fz5
          have HVO : Hid (VIn W3 (g + 3) 6 false 0 ⟨#[]⟩ (.slice A1' (n1 + 1) c1') (.slice A2' (n1 + 1) c2')) := HI3.out.2.2.choose_spec.1.1.2.1
          have HVR := Lib.hid (HR1.out.ext HI3.out.2.2.choose_spec.1.1.1)
          obtain ⟨c0, c1, c2, c3, c4, c5⟩ := HVO.out.cells
          obtain ⟨d0, d1, d2, d3, d4, d5⟩ := HVR.out.cells
          have e0 := HVR.out.free 0
          have e1 := HVR.out.free 1
          have e2 := HVR.out.free 2
          have e3 := HVR.out.free 3
          have e4 := HVR.out.free 4
          have e5 := HVR.out.free 5
          go_wp2_with fail
          refine bodyPost_ret (results_v1 rfl _ _ (g + 2) rfl (put_in 6 false 0 ⟨#[]⟩ (.slice A1' (n1 + 1) c1') (.slice A2' (n1 + 1) c2') HVR.out)) rfl ?_
          have hP := set_done HI3.out HX1.out HGW.out HF.out
          have hl1 := HI3.out.1
          have hl2 := HI3.out.2.1
          refine ⟨hP.1, A1', c1', A2', c2', ?_, ?_⟩
          · rw [HEQ.out.1, HEQ.out.2, hl1, hl2]
          · have hR := hP.2
            rw [HEQ.out.1, HEQ.out.2, hl1, hl2]
            exact hR
        exact AllReadyH.nil
end Go.Proofs.YtnccefeehkcneaaGreatDoor.Jm
