/-
  The reference's three (printed by gen/th6.py).
-/
import Derived.Test.YtnccefeehkcneaaGreatDoorThb
import Derived.Test.YtnccefeehkcneaaGreatDoorTmc
namespace Go.Proofs.YtnccefeehkcneaaGreatDoor.Jm
open Go Go.RowKit Go.Proofs.YtnccefeehkcneaaGreatDoor.Sx Go.Proofs.YtnccefeehkcneaaGreatDoor.Js Go.Proofs.YtnccefeehkcneaaGreatDoor.Gr Go.Proofs.YtnccefeehkcneaaGreatDoor.Ur
/-- What three gives: the value, the ways to what goes. -/
def RThree (F : Nat → Prop) (j : J) (ws : List (List Tx)) (w : World) (e : Ending) (w' : World) : Prop := Ext w w' ∧ ∃ K9 B9 z9 s9 A9 n9 c9 A10 n10 c10, ∃ (B : Option Addr) (d : Nat), e = .returned (.tuple #[.agg #[.int .i64 K9, .bool B9, .int .i64 z9, .string s9, .slice A9 n9 c9, .slice A10 n10 c10], .slice B ws.length d]) ∧ RV F w' j (v6 K9 B9 z9 s9 (.slice A9 n9 c9) (.slice A10 n10 c10)) ∧ GRow 9 1 w.heap.size w' (.slice B ws.length d) (one (wayVs ws))
def RThreeC (v : J) : Prop := ∀ (F : Nat → Prop) (a b : J) (cs ds es : List Value) (A : Option Addr) (c : Nat) (way : List Tx) (w : World), (∀ g, w.heap.size ≤ g → F g) → RZ F w a cs → RZ F w b ds → RV F w v es → WJ a → WJ b → WJ v → bulkJ a ≤ 400000 → bulkJ b + bulkJ v ≤ 400000 →
  NamesAt (fun _ => True) w A way → way.length ≤ c → way.length + bulkJ v ≤ 1000000 → (∀ s ∈ way, s.length ≤ 1048576) → Calls Tryz.prog 51 #[.agg cs.toArray, .agg ds.toArray, .agg es.toArray, .slice A way.length c] w (RThree F (threeJ a b v) (lostJ a b v way) w)
theorem four_cells {w w1 : World} {g : Nat} {c0 c1 c2 c3 : Array Value} (hg : g = w.heap.size) (h : w1 = (((w.alloc (.cells c0 vT (0, 0))).alloc (.cells c1 vT (0, 0))).alloc (.cells c2 vT (0, 0))).alloc (.cells c3 vT (0, 0))) : Ext w w1 ∧ w1.heap[g]? = some (.cells c0 vT (0, 0)) ∧ w1.heap[g + 1]? = some (.cells c1 vT (0, 0)) ∧ w1.heap[g + 2]? = some (.cells c2 vT (0, 0)) ∧ w1.heap[g + 3]? = some (.cells c3 vT (0, 0)) ∧ w1.heap.size = g + 4 := by
  subst h
  exact ⟨(((new_ext _ _).trans (new_ext _ _)).trans (new_ext _ _)).trans (new_ext _ _), heap_old (heap_old (heap_old (heap_new hg))), heap_old (heap_old (heap_new (by rw [hg]; simp))), heap_old (heap_new (by rw [hg]; simp)), heap_new (by rw [hg]; simp), by rw [hg]; simp⟩
set_option maxRecDepth 100000 in
set_option maxHeartbeats 4000000 in
theorem rthree_flat (v : J) (hv : isObj v = false) : RThreeC v := by
  intro F a b cs ds es A c way w hF ha hb hrv _ _ _ _ _ _ _ _ _
  rw [three_flat a b hv]
  obtain ⟨K1, B1, z1, s1, A1, n1, c1, A2, n2, c2, rfl, -⟩ := ha.shape
  obtain ⟨K2, B2, z2, s2, A3, n3, c3, A4, n4, c4, rfl, -⟩ := hb.shape
  obtain ⟨K3, B3, z3, s3, A5, n5, c5, A6, n6, c6, rfl, hsh⟩ := RZ.shape (Or.inl hrv : RZ F w v es)
  have hK : K3 ≠ 6 := by
    rcases hsh with ⟨h, _⟩ | ⟨_, h, _⟩
    · rw [hv] at h; cases h
    · exact h
  have HRV := Lib.hid hrv
  have HL := Lib.hid (lost_flat a b hv way)
  obtain ⟨g, hg⟩ : ∃ g, g = w.heap.size := ⟨_, rfl⟩
  obtain ⟨w1, hw1⟩ : ∃ w1, w1 = (((w.alloc (.cells #[.int .i64 K1, .bool B1, .int .i64 z1, .string s1, .slice A1 n1 c1, .slice A2 n2 c2] vT (0, 0))).alloc (.cells #[.int .i64 K2, .bool B2, .int .i64 z2, .string s2, .slice A3 n3 c3, .slice A4 n4 c4] vT (0, 0))).alloc (.cells #[.int .i64 K3, .bool B3, .int .i64 z3, .string s3, .slice A5 n5 c5, .slice A6 n6 c6] vT (0, 0))).alloc (.cells #[.int .i64 0, .bool false, .int .i64 0, .string ⟨#[]⟩, nilS, nilS] vT (0, 0)) := ⟨_, rfl⟩
  obtain ⟨x1, -, -, y2, y3, -⟩ := four_cells hg hw1
  have HX1 := Lib.hid x1
  have HVV : Hid (VIn w1 (g + 2) K3 B3 z3 s3 (.slice A5 n5 c5) (.slice A6 n6 c6)) := y2
  have HVR : Hid (VIn w1 (g + 3) 0 false 0 ⟨#[]⟩ nilS nilS) := y3
  have HGW : Hid (w.heap.size ≤ g + 3) := by rw [hg]; exact Nat.le_add_right _ _
  have b1 : (K3 != 6) = true := by rw [bne_iff_ne]; exact hK
  unfold v6
  clear ha hb hrv hsh hK hv hF x1 y2 y3
  go_enter Tryz.func51, Tryz.ntmps51
  go_upto_region 1 with (fail)
  rw [← hw1, ← hg]
  clear hw1 hg
  obtain ⟨a0, a1, a2, a3, a4, a5⟩ := HVV.out.cells
  obtain ⟨e0, e1, e2, e3, e4, e5⟩ := (HVR.out).cells
  have f0 := (HVR.out).free 0
  have f1 := (HVR.out).free 1
  have f2 := (HVR.out).free 2
  have f3 := (HVR.out).free 3
  have f4 := (HVR.out).free 4
  have f5 := (HVR.out).free 5
  go_wp2_with fail
  refine bodyPost_ret (results_v rfl _ _ (g + 3) rfl (put_in K3 B3 z3 s3 (.slice A5 n5 c5) (.slice A6 n6 c6) HVR.out)) rfl ?_
  have hx := put_ext K3 B3 z3 s3 (.slice A5 n5 c5) (.slice A6 n6 c6) HX1.out HGW.out
  rw [HL.out]
  exact ⟨hx, _, _, _, _, _, _, _, _, _, _, none, 0, rfl, HRV.out.ext hx, GRow.nil⟩
theorem grow_of_srow {base : Nat} {w : World} {A : Option Addr} {n c : Nat} {ns : List Tx} (h : SRow base w (.slice A n c) (ns.map bx)) : GRow 9 1 base w (.slice A n c) (one (ns.map strW)) := by
  have e : strVals (ns.map bx) = ns.map strW := by unfold strVals; rw [List.map_map]; rfl
  refine GRow.of_owns (n := (ns.map bx).length) (one_sized fun u hu => by obtain ⟨s, _, rfl⟩ := List.mem_map.1 hu; rfl) (by rw [one_len, List.length_map, List.length_map]) ?_
  rw [one_flat, ← e]
  exact h.owns
theorem rcopyW_any (A : Option Addr) (c : Nat) (way : List Tx) (w : World) (h : NamesAt (fun _ => True) w A way) (hl : way.length ≤ 1000000) :
    Calls Tryz.prog 83 #[.slice A way.length c] w fun e w' => ∃ A' c', e = .returned (.slice A' way.length c') ∧ GRow 9 1 w.heap.size w' (.slice A' way.length c') (one (way.map strW)) ∧ Ext w w' := by
  have h1 := copyS_any w.heap.size (.slice A way.length c) (way.map bx) w (names_src h) (by rw [List.length_map]; omega) (Nat.le_refl _)
  rw [List.length_map] at h1
  exact h1.mono fun e w' ⟨A', c', h2, h3, h4, _⟩ => ⟨A', c', h2, grow_of_srow h3, h4⟩
/-- Blocks that are neither the walk's boxes nor the row of the ways. -/
def NR (g : Nat) (F : Nat → Prop) (lv : Value) (b : Nat) : Prop := NF g 5 F b ∧ lv.ownBlock ≠ some b
def LSt (g : Nat) (F : Nat → Prop) (w1 W : World) (a : Ob) (lv : Value) (ws : List (List Tx)) : Prop :=
  Ext w1 W ∧ g + 5 ≤ W.heap.size ∧ (∃ A c B d, VIn W (g + 4) 6 false 0 ⟨#[]⟩ (.slice A a.1.length c) (.slice B a.2.length d) ∧ RO (NR g F lv) W A c B d a) ∧ GRow 9 1 (g + 5) W lv (one (wayVs ws))
section
variable {g : Nat} {F : Nat → Prop} {w w1 W V V' : World} {a o : Ob} {lv lv' : Value} {ws ws' : List (List Tx)}
theorem LSt.ext (h : LSt g F w1 W a lv ws) (hx : Ext W V) : LSt g F w1 V a lv ws := by
  obtain ⟨h1, h2, ⟨A, c, B, d, h3, h4⟩, h5⟩ := h
  exact ⟨h1.trans hx, Nat.le_trans h2 hx.size, ⟨A, c, B, d, h3.ext hx, h4.ext hx⟩, h5.ext hx⟩
/-- A new object is stored. -/
theorem LSt.put {K : Int} {Bb : Bool} {n : Int} {s : ByteArray} {x l : Value} {A : Option Addr} {c : Nat} {B : Option Addr} {d : Nat} (h1 : Ext w1 V) (h2 : g + 5 ≤ V.heap.size) (hw : w1.heap.size ≤ g + 4) (hv : VIn V (g + 4) K Bb n s x l) (hr : RO (NR g F lv) V A c B d o) (h5 : GRow 9 1 (g + 5) V lv (one (wayVs ws))) :
    LSt g F w1 (putV V (g + 4) 6 false 0 ⟨#[]⟩ (.slice A o.1.length c) (.slice B o.2.length d)) o lv ws :=
  ⟨put_ext _ _ _ _ _ _ h1 hw, by rw [put_size]; exact h2, ⟨A, c, B, d, put_in _ _ _ _ _ _ hv, hr.keep (fun b hb _ => put_heap _ _ _ _ _ _ _ b (by have := hb.1.2; omega)) (fun _ h _ => h)⟩, h5.keep (fun b e => put_heap _ _ _ _ _ _ _ b (by have := (h5.block b e).1; omega))⟩
theorem nr_app {A : Option Addr} {c : Nat} {B : Option Addr} {d : Nat} (h : RO (NR g F lv) V A c B d o) (hg : V.grownBy V' lv.ownBlock) (ho : lv'.ownBlock = lv.ownBlock ∨ lv'.ownBlock = some V.heap.size) : RO (NR g F lv') V' A c B d o :=
  h.keep (fun b hb hlt => hg.block b hlt (fun e => hb.2 e.symm)) (fun b hb hlt => ⟨hb.1, fun e => by
    rcases ho with o | o
    · exact hb.2 (o.symm.trans e)
    · rw [o] at e
      injection e with e
      omega⟩)
/-- Ways are appended. -/
theorem LSt.app (h : LSt g F w1 W a lv ws) (hx : Ext W V) (hg : V.grownBy V' lv.ownBlock) (ho : lv'.ownBlock = lv.ownBlock ∨ lv'.ownBlock = some V.heap.size) (hw : w1.heap.size ≤ g + 5) (hr : GRow 9 1 (g + 5) V' lv' (one (wayVs ws'))) : LSt g F w1 V' a lv' ws' := by
  have hV := h.ext hx
  obtain ⟨h1, h2, ⟨A, c, B, d, h3, h4⟩, h5⟩ := hV
  exact ⟨ext_row h1 hg (fun b e => by have := (h5.block b e).1; omega), Nat.le_trans h2 hg.size, ⟨A, c, B, d, h3.kept hg (fun e => by have := (h5.block _ e).1; omega), nr_app h4 hg ho⟩, hr⟩
theorem nr_new (hF : ∀ b, w.heap.size ≤ b → F b) (hg : w.heap.size ≤ g) (h : LSt g F w1 W a lv ws) (hx : Ext W V) : ∀ b, V.heap.size ≤ b → NR g F lv b := fun b hb => by
  have hV := h.ext hx
  have h2 := hV.2.1
  exact ⟨⟨hF b (by omega), .inr (by omega)⟩, fun e => by have := (hV.2.2.2.block b e).2; omega⟩
theorem nr_old {cs : List Value} {j : J} (h : RV F w j cs) (hg : w.heap.size ≤ g) (hl : LSt g F w1 W a lv ws) (hx : Ext w V) : RV (NR g F lv) V j cs :=
  RV.keep (fun b _ hb => hx.block b hb) (fun b h hb => ⟨⟨h, .inl (by omega)⟩, fun e => by have := (hl.2.2.2.block b e).1; omega⟩) _ _ h
theorem nr_oldZ {cs : List Value} {j : J} (h : RZ F w j cs) (hg : w.heap.size ≤ g) (hl : LSt g F w1 W a lv ws) (hx : Ext w V) : RZ (NR g F lv) V j cs :=
  h.keep (fun b _ hb => hx.block b hb) (fun b h hb => ⟨⟨h, .inl (by omega)⟩, fun e => by have := (hl.2.2.2.block b e).1; omega⟩)
end
theorem way_app (ws : List (List Tx)) (way : List Tx) : one (wayVs (ws ++ [way])) = one (wayVs ws) ++ [[.string (wayT way)]] := by
  unfold wayVs
  rw [List.map_append, one_app]
  rfl
theorem ways_app (ws ws' : List (List Tx)) : one (wayVs (ws ++ ws')) = one (wayVs ws) ++ one (wayVs ws') := by
  unfold wayVs
  rw [List.map_append, one_app]
/-- A value is stored into a box, in a drawn region. -/
theorem step_storeV {ops : Array Oper} {o : Oper} {a : Act} {K : Act → World → Prop} {Q : Exit → Act → World → Prop} {E : Prop} {w : World} {g : Nat} {K0 K1 : Int} {B0 B1 : Bool} {z0 z1 : Int} {s0 s1 : ByteArray} {l0 m0 : Value} {A1 A2 : Option Addr} {n1 c1 n2 c2 : Nat} (hgd : o.guard = none) (x y : Operand) (ho : o.op = .store vT x y)
    (hv : VIn w g K0 B0 z0 s0 l0 m0) (hx : a.eval x = .pointer (some ⟨g, 0, none⟩)) (hy : a.eval y = .agg #[.int .i64 K1, .bool B1, .int .i64 z1, .string s1, .slice A1 n1 c1, .slice A2 n2 c2])
    (h : ∀ W, VIn W g K1 B1 z1 s1 (.slice A1 n1 c1) (.slice A2 n2 c2) → (∀ w0, Ext w0 w → w0.heap.size ≤ g → Ext w0 W) → (∀ b, b ≠ g → W.heap[b]? = w.heap[b]?) → K (a.put o.dst undef) W) : if Region.wanted o (yielded ops a.tmps) = true then Oper.wp Tryz.prog o a w K Q else E := by
  have hw : Region.wanted o (yielded ops a.tmps) = true := by simp [Region.wanted, hgd]
  rw [if_pos hw]
  exact wp_store_row vT x y ho g _ hx hy vT _ hv (by kernel_rfl) rfl (by simp [Value.oneCell']) (h _ (setRow_heap _ _ _ _ _ _ hv) (fun w0 h1 h2 => ⟨h1.os, h1.tape, h1.output, by rw [size_setRow]; exact h1.size, fun k hk => (setRow_other w g k _ (by omega)).trans (h1.block k hk)⟩) fun b hb => setRow_other w g b _ hb)
set_option maxRecDepth 100000 in
set_option maxHeartbeats 32000000 in
theorem rthree_obj (o : Ob) (ih : ∀ n x, getO o n = some x → RThreeC x) : RThreeC (ofO o) := by
  intro F a b cs ds es A c way w hF ha hb hrv wa wb wv ba bb hn hc hwy hsz
  obtain ⟨K1, B1, z1, s1, A1, n1, c1, A2, n2, c2, rfl, -⟩ := ha.shape
  obtain ⟨K2, B2, z2, s2, A3, n3, c3, A4, n4, c4, rfl, bsh⟩ := hb.shape
  obtain ⟨VA, vc, VB, vd, rfl, hvo⟩ : ∃ VA vc VB vd, es = v6 6 false 0 ⟨#[]⟩ (.slice VA o.1.length vc) (.slice VB o.2.length vd) ∧ RO F w VA vc VB vd o := by
    obtain ⟨A, c, B, d, e, h⟩ := RV_obj.1 hrv
    exact ⟨A, c, B, d, e, h⟩
  have hO : WO o := wv
  have hH : WO (objO a) := WO.of wa
  have hL : WO (objO b) := WO.of wb
  have hbo : bulkJ (ofO o) = 32 + bulkO o := bulk_of o
  have hbH := bulk_obO a
  have hbL := bulk_obO b
  have hlo := len_bulkO o
  have hlL := len_bulkO (objO b)
  have h3 : threeJ a b (ofO o) = ofO (foldO (stpR (objO a) (objO b) threeJ) (o.1.zip o.2) (keptR (objO a) (objO b) o)) := by rw [three_obj, three_ref wa wb hO]
  have h4 : lostJ a b (ofO o) way = ((goesR (objO a) (objO b) o).map fun n => way ++ [n]) ++ (o.1.zip o.2).flatMap (lostF (objO a) (objO b) way) := by rw [lost_obj, goes_eq hH hL]
  obtain ⟨H, hHd⟩ : ∃ H, H = objO a := ⟨_, rfl⟩
  obtain ⟨L, hLd⟩ : ∃ L, L = objO b := ⟨_, rfl⟩
  have HB : Hid (n3 = L.1.length ∧ NamesAt F w A3 L.1 ∧ RValsAt F w A4 L.2 ∧ (0 < L.1.length → n4 = L.2.length)) := by
    rw [hLd]
    rcases bsh with ⟨_, _, _, _, _, e3, e4, _, _, e5, e6⟩ | ⟨e1, _, _, e3, _⟩
    · exact ⟨e3, e5, e6, fun _ => e4⟩
    · rw [objO_not e1]
      exact ⟨e3, fun i hi => (by cases hi), fun i hi => (by cases hi), fun h => (by cases h)⟩
  rw [← hHd, ← hLd] at h3 h4
  rw [← hHd] at hH hbH
  rw [← hLd] at hL hbL hlL
  obtain ⟨D, hD⟩ : ∃ D : Nat → Ob, ∀ q, D q = foldO (stpQ H o) ((L.1.zip L.2).take q) ([], []) := ⟨_, fun _ => rfl⟩
  obtain ⟨G, hG⟩ : ∃ G : Nat → List (List Tx), ∀ q, G q = ((L.1.take q).filter fun n => !decide (n ∈ o.1) && decide (n ∈ H.1)).map fun n => way ++ [n] := ⟨_, fun _ => rfl⟩
  obtain ⟨E, hE⟩ : ∃ E : Nat → Ob, ∀ q, E q = foldO (stpR H L threeJ) ((o.1.zip o.2).take q) (keptR H L o) := ⟨_, fun _ => rfl⟩
  obtain ⟨P, hP⟩ : ∃ P : Nat → List (List Tx), ∀ q, P q = ((goesR H L o).map fun n => way ++ [n]) ++ ((o.1.zip o.2).take q).flatMap (lostF H L way) := ⟨_, fun _ => rfl⟩
  have HD : Hid (D 0 = ([], []) ∧ G 0 = [] ∧ (∀ q (h1 : q < L.1.length) (h2 : q < L.2.length), D (q + 1) = stpQ H o (D q) L.1[q] L.2[q] ∧ G (q + 1) = (if L.1[q] ∉ o.1 ∧ L.1[q] ∈ H.1 then G q ++ [way ++ [L.1[q]]] else G q)) ∧ (∀ q, WO (D q) ∧ bulkO (D q) ≤ 400000) ∧ ∀ q, q = L.1.length → D q = E 0 ∧ G q = P 0) := by
    refine ⟨by rw [hD]; rfl, by rw [hG]; rfl, fun q h1 h2 => ⟨?_, ?_⟩, fun q => ⟨?_, ?_⟩, fun q hq => ⟨?_, ?_⟩⟩
    · rw [hD, hD]; exact fold_take _ _ _ h1 h2
    · rw [hG, hG, List.take_succ_eq_append_getElem h1, List.filter_append, List.map_append]
      by_cases h : L.1[q] ∉ o.1 ∧ L.1[q] ∈ H.1
      · rw [if_pos h]; simp [h.1, h.2]
      · rw [if_neg h]
        have : ([L.1[q]].filter fun n => !decide (n ∈ o.1) && decide (n ∈ H.1)) = [] := by
          rw [List.filter_eq_nil_iff]
          intro a ha
          rw [List.mem_singleton] at ha
          rw [ha]
          simpa using h
        rw [this]
        simp
    · rw [hD]; exact (ref3_first hL o q).1
    · rw [hD]; have := (ref3_first (H := H) hL o q).2; omega
    · rw [hD, hE, List.take_of_length_le (by rw [List.length_zip]; omega)]; rfl
    · rw [hG, hP, List.take_of_length_le (by omega)]; simp [goesR]
  have HE : Hid ((∀ q (h1 : q < o.1.length) (h2 : q < o.2.length), E (q + 1) = setO (E q) o.1[q] (threeJ (valO H o.1[q]) (valO L o.1[q]) o.2[q]) ∧ P (q + 1) = P q ++ lostJ (valO H o.1[q]) (valO L o.1[q]) o.2[q] (way ++ [o.1[q]])) ∧ (∀ q, WO (E q) ∧ bulkO (E q) ≤ 2000000) ∧ ∀ q, q = o.1.length → threeJ a b (ofO o) = ofO (E q) ∧ lostJ a b (ofO o) way = P q) := by
    refine ⟨fun q h1 h2 => ⟨?_, ?_⟩, fun q => ⟨?_, ?_⟩, fun q hq => ⟨?_, ?_⟩⟩
    · rw [hE, hE]; exact fold_take _ _ _ h1 h2
    · have hz : q < (o.1.zip o.2).length := by rw [List.length_zip]; omega
      rw [hP, hP, List.take_succ_eq_append_getElem hz, List.flatMap_append, List.getElem_zip, ← List.append_assoc]
      simp [lostF]
    · rw [hE]; exact (ref3_second hH hL hO q).1
    · rw [hE]; have := (ref3_second hH hL hO q).2; have := hO.len; omega
    · rw [h3, hE, List.take_of_length_le (by rw [List.length_zip]; omega)]
    · rw [h4, hP, List.take_of_length_le (by rw [List.length_zip]; omega)]
  have HPN : Hid (∀ q, (P q).length ≤ 1000000 ∧ (G q).length ≤ 1000000) := fun q => by
    refine ⟨?_, ?_⟩
    · have h5 := lost_upto (L := L) hH hO way q (fun i h1 h2 _ => Nat.le_trans (lost_many _ (valO H o.1[i]) (valO L o.1[i]) o.2[i] (way ++ [o.1[i]]) (Nat.le_refl _) (hH.val _) (hO.vals _ (List.getElem_mem h2))) (gO_val hH _).1)
      have h6 : ((goesT H L o ++ o.1.take q).map (gO H)).sum ≤ bulkO H := sum_names H.1 H.2 hH _ (goes_nodup (L := L) hH hO q)
      rw [hP, List.length_append, List.length_map, goes_eq hH hL]
      omega
    · rw [hG, List.length_map]
      refine Nat.le_trans (List.length_filter_le ..) ?_
      rw [List.length_take]
      have := hL.len
      omega
  have HIH : Hid (∀ q (h1 : q < o.1.length) (h2 : q < o.2.length), RThreeC o.2[q] ∧ bulkJ o.2[q] + 33 ≤ bulkJ (ofO o) ∧ WJ o.2[q] ∧ o.1[q].length ≤ 1048576 ∧ bulkJ (valO L o.1[q]) + bulkJ o.2[q] ≤ 400000 ∧ bulkJ (valO H o.1[q]) ≤ 400000) := fun q h1 h2 => by
    have hat := at_field hO h1 h2
    have hg := bulk_get hat
    have hnl := names_long o o.1[q] (List.getElem_mem h1)
    have e1 := bulk_val L o.1[q]
    have e2 := bulk_val H o.1[q]
    exact ⟨ih _ _ hat, by omega, hO.get hat, by omega, by omega, by omega⟩
  have HLN : Hid (∀ q (h1 : q < L.1.length), L.1[q].length ≤ 1048576) := fun q h1 => by
    have := names_long L L.1[q] (List.getElem_mem h1)
    omega
  have HWY : Hid (way.length + bulkJ (ofO o) ≤ 1000000 ∧ (∀ s ∈ way, s.length ≤ 1048576) ∧ way.length ≤ c) := ⟨hwy, hsz, hc⟩
  obtain ⟨N, hN⟩ : ∃ N, N = o.1.length := ⟨_, rfl⟩
  have hNs : N ≤ 1048576 := by have := hO.len; omega
  have HN : Hid (N = o.1.length ∧ N = o.2.length) := ⟨hN, by have := hO.len; omega⟩
  obtain ⟨g, hg⟩ : ∃ g, g = w.heap.size := ⟨_, rfl⟩
  have hgw : w.heap.size ≤ g := by omega
  have HF := Lib.hid hF
  have HGW := Lib.hid hgw
  obtain ⟨w1, hw1⟩ : ∃ w1, w1 = (((w.alloc (.cells #[.int .i64 K1, .bool B1, .int .i64 z1, .string s1, .slice A1 n1 c1, .slice A2 n2 c2] vT (0, 0))).alloc (.cells #[.int .i64 K2, .bool B2, .int .i64 z2, .string s2, .slice A3 n3 c3, .slice A4 n4 c4] vT (0, 0))).alloc (.cells #[.int .i64 6, .bool false, .int .i64 0, .string ⟨#[]⟩, .slice VA o.1.length vc, .slice VB o.2.length vd] vT (0, 0))).alloc (.cells #[.int .i64 0, .bool false, .int .i64 0, .string ⟨#[]⟩, nilS, nilS] vT (0, 0)) := ⟨_, rfl⟩
  obtain ⟨x1, y0, y1, y2, y3, hsz1⟩ := four_cells hg hw1
  have e0v : o.2.length = N := by have := hO.len; omega
  rw [← hN, e0v] at y2 hw1 ⊢
  have HX1 := Lib.hid x1
  have HVA : Hid (VIn w1 g K1 B1 z1 s1 (.slice A1 n1 c1) (.slice A2 n2 c2)) := y0
  have HVB : Hid (VIn w1 (g + 1) K2 B2 z2 s2 (.slice A3 n3 c3) (.slice A4 n4 c4)) := y1
  have HVV : Hid (VIn w1 (g + 2) 6 false 0 ⟨#[]⟩ (.slice VA N vc) (.slice VB N vd)) := y2
  have HVR : Hid (VIn w1 (g + 3) 0 false 0 ⟨#[]⟩ nilS nilS) := y3
  have HGS := Lib.hid hsz1
  have HNW := Lib.hid hn
  have HA := Lib.hid ha
  have HBB := Lib.hid hb
  have HVO : Hid (RO F w VA vc VB vd o) := hvo
  have HHW : Hid (WO H ∧ WJ a ∧ bulkJ a ≤ 16000000 ∧ H = objO a) := ⟨hH, wa, by omega, hHd⟩
  have HLW : Hid (WO L ∧ WJ b ∧ bulkJ b ≤ 16000000 ∧ L = objO b ∧ L.1.length = L.2.length) := ⟨hL, wb, by omega, hLd, hL.len⟩
  have HOW : Hid (WO o ∧ bulkO o ≤ 400000) := ⟨hO, by omega⟩
  have hLs : n3 ≤ 1000000 := by have h1 := HB.out.1; have h2 := hL.len; omega
  have CFV : Hid (∀ (n : Tx) (W : World), Ext w1 W → Calls Tryz.prog 101 #[.agg #[.int .i64 6, .bool false, .int .i64 0, .string ⟨#[]⟩, .slice VA N vc, .slice VB N vd], .string (bx n)] W (FindZ F W o n)) := fun n W hW => by
    have h := rfindO_any F VA vc VB vd o n W (hvo.ext (x1.trans hW)) hO (by omega)
    rw [e0v, ← hN] at h
    exact h
  have CFA : Hid (∀ (n : Tx) (W : World), Ext w1 W → Calls Tryz.prog 101 #[.agg #[.int .i64 K1, .bool B1, .int .i64 z1, .string s1, .slice A1 n1 c1, .slice A2 n2 c2], .string (bx n)] W (FindZ F W H n)) := fun n W hW => by
    rw [hHd]
    exact rfindZ_any F a K1 B1 z1 s1 A1 n1 c1 A2 n2 c2 n W (ha.ext (x1.trans hW)) wa (by omega)
  obtain ⟨w2, hw2⟩ : ∃ w2, w2 = w1.alloc (.cells #[.int .i64 6, .bool false, .int .i64 0, .string ⟨#[]⟩, nilS, nilS] vT (0, 0)) := ⟨_, rfl⟩
  have HX2 : Hid (Ext w1 w2) := by rw [hw2]; exact new_ext _ _
  have HS2 : Hid (LSt g F w1 w2 (D 0) (.slice none (G 0).length 0) (G 0)) := by
    rw [HD.out.1, HD.out.2.1]
    exact ⟨HX2.out, by rw [hw2]; simp [hsz1], ⟨none, 0, none, 0, by rw [hw2]; exact heap_new hsz1.symm, RO.nil⟩, GRow.nil⟩
  have hG0 : (G 0).length = 0 := by rw [HD.out.2.1]; rfl
  unfold v6
  obtain ⟨NW, hNW⟩ : ∃ n, n = way.length := ⟨_, rfl⟩
  have HNWL : Hid (NW = way.length ∧ NW ≤ 1000000) := ⟨hNW, by omega⟩
  have hNWs : NW ≤ 1000000 := by omega
  rw [← hNW]
  clear hF ha hb hrv wa wb wv ba bb hn hc hwy hsz bsh hvo hO hH hL hbo hbH hbL hlo hlL h3 h4 hHd hLd hD hG hE hP ih hN hgw x1 y0 y1 y2 y3 e0v hNW
  go_enter Tryz.func51, Tryz.ntmps51
  go_upto_region 1 with (fail)
  rw [← hw1, ← hg, show g + 1 + 1 = g + 2 from rfl, show g + 2 + 1 = g + 3 from rfl]
  clear hw1 hg
  obtain ⟨a0, -, -, -, -, -⟩ := HVV.out.cells
  go_upto_region 5 with (fail)
  rw [← hw2]
  clear hw2 hsz1 a0
  obtain ⟨-, -, -, -, b4, -⟩ := (HVB.out.ext HX2.out).cells
  go_wp2_with fail
  clear b4
  go_loopw [10, 36] (fun lv ix wr => ∃ (q : Nat) (LA : Option Addr) (lc : Nat), q ≤ n3 ∧ lv = .slice LA (G q).length lc ∧ ix = .int .i64 (q : Int) ∧ Hid (LSt g F w1 wr (D q) (.slice LA (G q).length lc) (G q))) (fun _ ix _ => n3 - (intOf ix).toNat)
  case atStart => exact ⟨0, none, 0, Nat.zero_le _, by rw [hG0], rfl, HS2.out⟩
  case round =>
    obtain ⟨q, LA, lc, hq, rfl, rfl, hR⟩ := hrel
    have hq0 : (0 : Int) ≤ (q : Int) := by omega
    have HXR := Lib.hid hR.out.1
    by_cases hlt : q < n3
    · have hqn : q < L.1.length := by have := HB.out.1; omega
      have hql : q < L.2.length := by have := HLW.out.2.2.2.2; omega
      obtain ⟨ga, oa, rfl, -, hca0⟩ := HB.out.2.1 q hqn
      have hca := (cell_keep ((HX1.out.trans HXR.out).block ga (cell_lt hca0))).trans hca0
      have hltI : (q : Int) < (n3 : Int) := by omega
      have HST := Lib.hid (HD.out.2.2.1 q hqn hql)
      have HDQ := Lib.hid (HD.out.2.2.2.1 q)
      have HNL := Lib.hid (HLN.out q hqn)
      have hn4 := HB.out.2.2.2 (by omega)
      obtain ⟨gb, ob, u, rfl, -, -, hu, hrv⟩ := HB.out.2.2.1 q hql
      obtain ⟨K5, B5, z5, s5, A7, n7, c7, A8, n8, c8, rfl⟩ := RV.shape hrv
      have HRV : Hid (RV F w L.2[q] (v6 K5 B5 z5 s5 (.slice A7 n7 c7) (.slice A8 n8 c8))) := hrv
      have HSRC : Hid (∀ W, Ext w W → W.cell? ⟨gb, ob + q * 6, none⟩ = some (.int .i64 K5) ∧ W.cell? ⟨gb, ob + q * 6 + 1, none⟩ = some (.bool B5) ∧ W.cell? ⟨gb, ob + q * 6 + 2, none⟩ = some (.int .i64 z5) ∧ W.cell? ⟨gb, ob + q * 6 + 3, none⟩ = some (.string s5) ∧ W.cell? ⟨gb, ob + q * 6 + 4, none⟩ = some (.slice A7 n7 c7) ∧ W.cell? ⟨gb, ob + q * 6 + 5, none⟩ = some (.slice A8 n8 c8)) := fun W hW => by
        have hk : ∀ k x, (v6 K5 B5 z5 s5 (.slice A7 n7 c7) (.slice A8 n8 c8))[k]? = some x → W.cell? ⟨gb, ob + q * 6 + k, none⟩ = some x := fun k x h => (cell_keep (hW.block gb (cell_lt (hu k x h)))).trans (hu k x h)
        exact ⟨by have := hk 0 _ rfl; rwa [Nat.add_zero] at this, hk 1 _ rfl, hk 2 _ rfl, hk 3 _ rfl, hk 4 _ rfl, hk 5 _ rfl⟩
      have hn4I : (q : Int) < (n4 : Int) := by omega
      have CF := Lib.hid (CFV.out L.1[q] wr HXR.out)
      have CA : Hid (∀ W, Ext w1 W → Calls Tryz.prog 101 #[.agg #[.int .i64 K1, .bool B1, .int .i64 z1, .string s1, .slice A1 n1 c1, .slice A2 n2 c2], .string (bx L.1[q])] W (FindZ F W H L.1[q])) := fun W hW => CFA.out L.1[q] W hW
      obtain ⟨OA, oc, OB, od, hvo1, hro1⟩ := hR.out.2.2.1
      have HVO1 := Lib.hid hvo1
      have HRO1 := Lib.hid hro1
      obtain ⟨n, hn⟩ : ∃ n, n = L.1[q] := ⟨_, rfl⟩
      obtain ⟨x, hx⟩ : ∃ x, x = L.2[q] := ⟨_, rfl⟩
      rw [← hn, ← hx] at HST
      rw [← hx] at HRV
      rw [← hn] at hca HNL CF CA
      obtain ⟨nx, hnx⟩ : ∃ s, s = bx n := ⟨_, rfl⟩
      rw [← hnx] at hca CF CA
      have HNX := Lib.hid hnx
      have HMO : Hid ((getO o n).isSome = true ↔ n ∈ o.1) := get_mem HOW.out.1 n
      have HMH : Hid ((getO H n).isSome = true ↔ n ∈ H.1) := get_mem HHW.out.1 n
      clear hca0 hu hrv hn hx hnx hn4 hvo1 hro1
      obtain ⟨a0, a1, a2, a3, a4, a5⟩ := (HVV.out.ext HXR.out).cells
      go_wp2_with fail
      refine Calls.mono CF.out ?_
      rintro e w6 ⟨x6, u6, hu6, rfl, -⟩
      obtain ⟨K6, B6, z6, s6, A11, n11, c11, A12, n12, c12, rfl, -⟩ := hu6.shape
      unfold v6
      have X6 := Lib.hid x6
      clear x6 hu6 a0 a1 a2 a3 a4 a5
      go_upto_region 9 with (fail)
      generalize hW : World.alloc w6 _ = w7
      have X7 : Hid (Ext wr w7) := by rw [← hW]; exact X6.out.trans (new_ext _ _)
      clear hW
      obtain ⟨a0, a1, a2, a3, a4, a5⟩ := (HVA.out.ext (HXR.out.trans X7.out)).cells
      go_wp2_with fail
      refine Calls.mono (CA.out w7 (HXR.out.trans X7.out)) ?_
      rintro e w8 ⟨x8, u8, hu8, rfl, -⟩
      obtain ⟨K7, B7, z7, s7, A13, n13, c13, A14, n14, c14, rfl, -⟩ := hu8.shape
      unfold v6
      have X8 := Lib.hid (X7.out.trans x8)
      clear x8 hu8 a0 a1 a2 a3 a4 a5
      go_upto_region 11 with (fail)
      generalize hW : World.alloc w8 _ = w9
      have X9 : Hid (Ext wr w9) := by rw [← hW]; exact X8.out.trans (new_ext _ _)
      clear hW
      cases hin : (getO o n).isSome with
      | true =>
        have HS : Hid (D (q + 1) = D q ∧ G (q + 1) = G q) := by
          have hm := HMO.out.1 hin
          refine ⟨?_, by rw [HST.out.2, if_neg (fun h => h.1 hm)]⟩
          rw [HST.out.1]
          exact if_pos (.inl hm)
        clear hin
        go_wp2_with fail
        go_roundw
        case rel => exact ⟨q + 1, LA, lc, hlt, by rw [HS.out.2], by go_num, by rw [HS.out.1, HS.out.2]; exact hR.out.ext X9.out⟩
        case measure => simp [intOf]; omega
      | false =>
        have HNO : Hid (n ∉ o.1) := fun h => by rw [HMO.out.2 h] at hin; cases hin
        clear hin
        cases hwas : (getO H n).isSome with
        | true =>
          have HS : Hid (D (q + 1) = D q ∧ G (q + 1) = G q ++ [way ++ [n]]) := by
            have hm := HMH.out.1 hwas
            refine ⟨?_, by rw [HST.out.2, if_pos ⟨HNO.out, hm⟩]⟩
            rw [HST.out.1]
            exact if_pos (.inr hm)
          clear hwas
          have CC : Hid (Calls Tryz.prog 83 #[.slice A NW c] w9 fun e w' => ∃ A' c', e = .returned (.slice A' NW c') ∧ GRow 9 1 w9.heap.size w' (.slice A' NW c') (one (way.map strW)) ∧ Ext w9 w') := by
            have h := rcopyW_any A c way w9 (HNW.out.ext (HX1.out.trans (HXR.out.trans X9.out))) (by have := HNWL.out; omega)
            rw [← HNWL.out.1] at h
            exact h
          go_wp2_with fail
          refine Calls.mono CC.out ?_
          rintro e w10 ⟨A20, c20, rfl, h10, x10⟩
          have H10 := Lib.hid h10
          have X10 := Lib.hid x10
          clear h10 x10
          go_wp2_with (at_builtin; refine append_g ty_strs rfl _ _ (by rfl) w9.heap.size NW 1 _ (.slice A20 NW c20) (.slice (some ⟨w10.heap.size, 0, none⟩) 1 1) (one (way.map strW)) [[.string nx]] (by rfl) (by rfl) (H10.out.ext (new_ext _ _)) (GSrc.one rfl (by simp [Value.oneCell']) (heap_new rfl)) (by rw [one_len, List.length_map]; exact HNWL.out.1.symm) rfl (by omega) (Nat.le_trans X10.out.size (new_ext _ _).size) ?_; intro A21 c21 w11 h11 g11 o11; have X11 : Hid (Ext w9 w11) := ext_row (X10.out.trans (new_ext _ _)) g11 (fun b e => (H10.out.block b e).1); have H11 : Hid (GRow 9 1 w9.heap.size w11 (.slice A21 (NW + 1) c21) (one ((way ++ [n]).map strW))) := (by unfold Hid; rw [List.map_append, one_app]; rw [HNX.out] at h11; exact h11); clear h11 g11 o11)
          have HW11 : Hid ((way ++ [n]).length = NW + 1 ∧ ∀ s ∈ way ++ [n], s.length ≤ 1048576) := ⟨by rw [List.length_append, ← HNWL.out.1]; rfl, fun s h => by
            rcases List.mem_append.1 h with h | h
            · exact HWY.out.2.1 s h
            · rw [List.mem_singleton] at h; rw [h]; exact HNL.out⟩
          obtain ⟨jx, hjx⟩ : ∃ j, j = wayT (way ++ [n]) := ⟨_, rfl⟩
          have HJX := Lib.hid hjx
          have CJ : Hid (Calls Tryz.prog 80 #[.slice A21 (NW + 1) c21] w11 fun e w' => e = .returned (.tuple #[.string jx, .int .i64 (joinE ((way ++ [n]).map bx))]) ∧ Ext w11 w') := by
            have h := rjoins_any w11.heap.size (.slice A21 (way ++ [n]).length c21) ((way ++ [n]).map bx) w11 (names_strs (row_names H11.out).2.2 (by rw [HW11.out.1]; have := HNWL.out.2; have := HWY.out.1; have := bulk_low (ofO o); have := HNWL.out.1; omega) HW11.out.2)
            rw [HW11.out.1] at h
            unfold Hid
            rw [hjx]
            exact h
          clear hjx
          refine Calls.mono CJ.out ?_
          rintro e w12 ⟨rfl, x12⟩
          have X12 := Lib.hid (X9.out.trans (X11.out.trans x12))
          have HL12 := Lib.hid (hR.out.ext X12.out)
          have HG12 := Lib.hid ((HPN.out q).2)
          clear x12
          go_wp2_with (at_builtin; refine append_g ty_strs rfl _ _ (by rfl) (g + 5) (G q).length 1 _ (.slice LA (G q).length lc) (.slice (some ⟨w12.heap.size, 0, none⟩) 1 1) (one (wayVs (G q))) [[.string jx]] (by rfl) (by rfl) (HL12.out.2.2.2.ext (new_ext _ _)) (GSrc.one rfl (by simp [Value.oneCell']) (heap_new rfl)) (by rw [one_len]; unfold wayVs; rw [List.length_map]) rfl (by have := HG12.out; omega) (Nat.le_trans HL12.out.2.1 (new_ext _ _).size) ?_; intro A22 c22 w13 h13 g13 o13; have H13 : Hid (LSt g F w1 w13 (D (q + 1)) (.slice A22 (G (q + 1)).length c22) (G (q + 1))) := (by have e1 : (G (q + 1)).length = (G q).length + 1 := (by rw [HS.out.2, List.length_append]; rfl); unfold Hid; rw [e1, HS.out.1, HS.out.2]; refine LSt.app HL12.out (new_ext _ _) g13 o13 (by rw [HGS.out]; omega) ?_; rw [way_app, ← HJX.out]; exact h13); clear h13 g13 o13)
          go_roundw
          case rel => exact ⟨q + 1, A22, c22, hlt, by rw [HS.out.2, List.length_append]; rfl, by go_num, H13.out⟩
          case measure => simp [intOf]; omega
        | false =>
          have HS : Hid (D (q + 1) = setO (D q) n x ∧ G (q + 1) = G q) := by
            have hm : n ∉ H.1 := fun h => by rw [HMH.out.2 h] at hwas; cases hwas
            refine ⟨?_, by rw [HST.out.2, if_neg (fun h => hm h.2)]⟩
            rw [HST.out.1]
            exact if_neg (fun h => h.elim HNO.out hm)
          clear hwas
          have HST9 : Hid (∀ W, Ext w9 W → W.cell? ⟨g + 4, 0, none⟩ = some (.int .i64 6) ∧ W.cell? ⟨g + 4, 1, none⟩ = some (.bool false) ∧ W.cell? ⟨g + 4, 2, none⟩ = some (.int .i64 0) ∧ W.cell? ⟨g + 4, 3, none⟩ = some (.string ⟨#[]⟩) ∧ W.cell? ⟨g + 4, 4, none⟩ = some (.slice OA (D q).1.length oc) ∧ W.cell? ⟨g + 4, 5, none⟩ = some (.slice OB (D q).2.length od) ∧ W.cell? ⟨g + 1, 5, none⟩ = some (.slice (some ⟨gb, ob, none⟩) n4 c4) ∧ W.cell? ⟨gb, ob + q * 6, none⟩ = some (.int .i64 K5) ∧ W.cell? ⟨gb, ob + q * 6 + 1, none⟩ = some (.bool B5) ∧ W.cell? ⟨gb, ob + q * 6 + 2, none⟩ = some (.int .i64 z5) ∧ W.cell? ⟨gb, ob + q * 6 + 3, none⟩ = some (.string s5) ∧ W.cell? ⟨gb, ob + q * 6 + 4, none⟩ = some (.slice A7 n7 c7) ∧ W.cell? ⟨gb, ob + q * 6 + 5, none⟩ = some (.slice A8 n8 c8)) := fun W hW => by
            obtain ⟨o0, o1, o2, o3, o4, o5⟩ := (HVO1.out.ext (X9.out.trans hW)).cells
            obtain ⟨-, -, -, -, -, d5⟩ := (HVB.out.ext (HXR.out.trans (X9.out.trans hW))).cells
            exact ⟨o0, o1, o2, o3, o4, o5, d5, HSRC.out W (HX1.out.trans (HXR.out.trans (X9.out.trans hW)))⟩
          have CS : Hid (∀ W, Ext w9 W → Calls Tryz.prog 93 #[.agg #[.int .i64 6, .bool false, .int .i64 0, .string ⟨#[]⟩, .slice OA (D q).1.length oc, .slice OB (D q).2.length od], .string nx, .agg #[.int .i64 K5, .bool B5, .int .i64 z5, .string s5, .slice A7 n7 c7, .slice A8 n8 c8]] W (RMadeO (NR g F (.slice LA (G q).length lc)) W (setO (D q) n x))) := fun W hW => by
            rw [HNX.out]
            exact rsetO_any (NR g F (.slice LA (G q).length lc)) OA oc OB od (D q) n x K5 B5 z5 s5 A7 n7 c7 A8 n8 c8 W (HRO1.out.ext (X9.out.trans hW)) HDQ.out.1 (by have := HDQ.out.2; omega) (nr_old HRV.out HGW.out hR.out (HX1.out.trans (HXR.out.trans (X9.out.trans hW)))) (nr_new HF.out HGW.out hR.out (X9.out.trans hW))
          have hxx : Ext w9 w9 := Below.refl _ _
          go_upto_region 10 with (fail)
          refine wp_region_split (fun w' => w'.cell? ⟨g + 4, 0, none⟩ = some (.int .i64 6) ∧ w'.cell? ⟨g + 4, 1, none⟩ = some (.bool false) ∧ w'.cell? ⟨g + 4, 2, none⟩ = some (.int .i64 0) ∧ w'.cell? ⟨g + 4, 3, none⟩ = some (.string ⟨#[]⟩) ∧ w'.cell? ⟨g + 4, 4, none⟩ = some (.slice OA (D q).1.length oc) ∧ w'.cell? ⟨g + 4, 5, none⟩ = some (.slice OB (D q).2.length od) ∧ w'.cell? ⟨g + 1, 5, none⟩ = some (.slice (some ⟨gb, ob, none⟩) n4 c4) ∧ w'.cell? ⟨gb, ob + q * 6, none⟩ = some (.int .i64 K5) ∧ w'.cell? ⟨gb, ob + q * 6 + 1, none⟩ = some (.bool B5) ∧ w'.cell? ⟨gb, ob + q * 6 + 2, none⟩ = some (.int .i64 z5) ∧ w'.cell? ⟨gb, ob + q * 6 + 3, none⟩ = some (.string s5) ∧ w'.cell? ⟨gb, ob + q * 6 + 4, none⟩ = some (.slice A7 n7 c7) ∧ w'.cell? ⟨gb, ob + q * 6 + 5, none⟩ = some (.slice A8 n8 c8)) 7 (by kernel_rfl) (by kernel_rfl) (by exact HST9.out _ (by repeat (first | assumption | apply ext_al | apply ext_dr))) (fun hHeld => ?_)
          simp only [List.take_succ_cons, List.take_zero, List.drop_succ_cons, List.drop_zero]
          refine wpAnyH_take (i := 0) (v := ?_) rfl (by kernel_rfl) (by kernel_rfl) (by kernel_rfl) (fun _ _ _ h => h) (Or.inl ⟨by rfl, ?_⟩) (by assumption) ?_
          rotate_left
          · intro w hSw
            (try dsimp only at hSw)
            go_simp
            (try with_reducible rfl)
          (try simp only [Act.put, List.setIfInBounds_toArray])
          refine wpAnyH_take (i := 1) (v := ?_) rfl (by kernel_rfl) (by kernel_rfl) (by kernel_rfl) (fun _ _ _ h => h) (Or.inl ⟨by rfl, ?_⟩) (by assumption) ?_
          rotate_left
          · intro w hSw
            (try dsimp only at hSw)
            go_simp
            (try with_reducible rfl)
          (try simp only [Act.put])
          refine wpAnyH_take (i := 2) (v := ?_) rfl (by kernel_rfl) (by kernel_rfl) (by kernel_rfl) (fun _ _ _ h => h) (Or.inl ⟨by rfl, ?_⟩) (by assumption) ?_
          rotate_left
          · intro w hSw
            (try dsimp only at hSw)
            go_simp
            (try with_reducible rfl)
          (try simp only [Act.put])
          refine wpAnyH_take (i := 3) (v := ?_) rfl (by kernel_rfl) (by kernel_rfl) (by kernel_rfl) (fun _ _ _ h => h) (Or.inl ⟨by rfl, ?_⟩) (by assumption) ?_
          rotate_left
          · intro w hSw
            (try dsimp only at hSw)
            go_simp
            (try with_reducible rfl)
          (try simp only [Act.put])
          refine wpAnyH_take (i := 4) (v := ?_) rfl (by kernel_rfl) (by kernel_rfl) (by kernel_rfl) (fun _ _ _ h => h) (Or.inl ⟨by rfl, ?_⟩) (by assumption) ?_
          rotate_left
          · intro w hSw
            (try dsimp only at hSw)
            go_simp
            (try with_reducible rfl)
          (try simp only [Act.put])
          refine wpAnyH_take (i := 5) (v := ?_) rfl (by kernel_rfl) (by kernel_rfl) (by kernel_rfl) (fun _ _ _ h => h) (Or.inl ⟨by rfl, ?_⟩) (by assumption) ?_
          rotate_left
          · intro w hSw
            (try dsimp only at hSw)
            go_simp
            (try with_reducible rfl)
          (try simp only [Act.put])
          refine wpAnyH_take (i := 6) (v := ?_) rfl (by kernel_rfl) (by kernel_rfl) (by kernel_rfl) (fun _ _ _ h => h) (Or.inl ⟨by rfl, ?_⟩) (by assumption) ?_
          rotate_left
          · intro w hSw
            (try dsimp only at hSw)
            go_simp
            (try with_reducible rfl)
          (try simp only [Act.put])
          refine wpAnyH_done (by kernel_rfl) ?_ _
          refine TailQ.normal ?_
          go_upto_region 15 with (go_at_call 93; refine Calls.mono (CS.out _ (by repeat (first | assumption | apply ext_al | apply ext_dr))) ?_; rintro e w10 ⟨x10, A9, c9, B9, d9, rfl, hro8⟩; have HRO8 := Lib.hid hro8; have HX10 : Hid (Ext w9 w10) := ((by repeat (first | assumption | apply ext_al | apply ext_dr)) : Ext w9 _).trans x10; have hb8 := HVO1.out.ext (X9.out.trans HX10.out); have HVO8 := Lib.hid hb8; have y0 := hb8.free 0; have y1 := hb8.free 1; have y2 := hb8.free 2; have y3 := hb8.free 3; have y4 := hb8.free 4; have y5 := hb8.free 5; obtain ⟨v0, v1, v2, v3, v4, v5⟩ := hb8.cells; clear x10 hro8 hb8)
          generalize hW : World.setCell _ _ _ = w11
          have H11 : Hid (LSt g F w1 w11 (D (q + 1)) (.slice LA (G q).length lc) (G q)) := by
            have hV := hR.out.ext (X9.out.trans HX10.out)
            unfold Hid
            rw [← hW, HS.out.1]
            exact LSt.put hV.1 hV.2.1 (by rw [HGS.out]; exact Nat.le_refl _) HVO8.out HRO8.out hV.2.2.2
          clear hW
          go_wp2_with fail
          go_roundw
          case rel => exact ⟨q + 1, LA, lc, hlt, by rw [HS.out.2], by go_num, by rw [HS.out.2]; exact H11.out⟩
          case measure => simp [intOf]; omega
    · have hqM : q = n3 := by omega
      have bl : decide ((q : Int) < (n3 : Int)) = false := decide_eq_false (by omega)
      have bl2 : decide (q < n3) = false := decide_eq_false hlt
      have he := HD.out.2.2.2.2 q (by rw [hqM]; exact HB.out.1)
      have HS0 : Hid (LSt g F w1 wr (E 0) (.slice LA (P 0).length lc) (P 0)) := by unfold Hid; rw [← he.1, ← he.2]; exact hR.out
      obtain ⟨w5, hw5⟩ : ∃ w5, w5 = wr := ⟨_, rfl⟩
      rw [← hw5, he.2]
      rw [← hw5] at HS0 HXR
      clear hlt hqM hw5 hR he hq hq0
      obtain ⟨-, -, -, -, a4, -⟩ := (HVV.out.ext HXR.out).cells
      go_wp2_with fail
      clear a4 bl bl2
      go_loopw [10, 82] (fun lv ix wr => ∃ (q : Nat) (LA : Option Addr) (lc : Nat), q ≤ N ∧ lv = .slice LA (P q).length lc ∧ ix = .int .i64 (q : Int) ∧ Hid (LSt g F w1 wr (E q) (.slice LA (P q).length lc) (P q))) (fun _ ix _ => N - (intOf ix).toNat)
      case atStart => exact ⟨0, LA, lc, Nat.zero_le _, rfl, rfl, HS0.out⟩
      case round =>
        obtain ⟨q, LA, lc, hq, rfl, rfl, hR⟩ := hrel
        have hq0 : (0 : Int) ≤ (q : Int) := by omega
        have HXR := Lib.hid hR.out.1
        by_cases hlt : q < N
        · have hqn : q < o.1.length := by rw [← HN.out.1]; exact hlt
          have hql : q < o.2.length := by rw [← HN.out.2]; exact hlt
          obtain ⟨ga, oa, rfl, -, hca0⟩ := HVO.out.2.2.1 q hqn
          have hca := (cell_keep ((HX1.out.trans HXR.out).block ga (cell_lt hca0))).trans hca0
          have hltI : (q : Int) < (N : Int) := by omega
          have HST := Lib.hid (HE.out.1 q hqn hql)
          have HEQ := Lib.hid (HE.out.2.1 q)
          have HQ := Lib.hid (HIH.out q hqn hql)
          obtain ⟨gb, ob, u, rfl, -, -, hu, hrv⟩ := HVO.out.2.2.2 q hql
          obtain ⟨K5, B5, z5, s5, A7, n7, c7, A8, n8, c8, rfl⟩ := RV.shape hrv
          have HRV : Hid (RV F w o.2[q] (v6 K5 B5 z5 s5 (.slice A7 n7 c7) (.slice A8 n8 c8))) := hrv
          have HSRC : Hid (∀ W, Ext w W → W.cell? ⟨gb, ob + q * 6, none⟩ = some (.int .i64 K5) ∧ W.cell? ⟨gb, ob + q * 6 + 1, none⟩ = some (.bool B5) ∧ W.cell? ⟨gb, ob + q * 6 + 2, none⟩ = some (.int .i64 z5) ∧ W.cell? ⟨gb, ob + q * 6 + 3, none⟩ = some (.string s5) ∧ W.cell? ⟨gb, ob + q * 6 + 4, none⟩ = some (.slice A7 n7 c7) ∧ W.cell? ⟨gb, ob + q * 6 + 5, none⟩ = some (.slice A8 n8 c8)) := fun W hW => by
            have hk : ∀ k x, (v6 K5 B5 z5 s5 (.slice A7 n7 c7) (.slice A8 n8 c8))[k]? = some x → W.cell? ⟨gb, ob + q * 6 + k, none⟩ = some x := fun k x h => (cell_keep (hW.block gb (cell_lt (hu k x h)))).trans (hu k x h)
            exact ⟨by have := hk 0 _ rfl; rwa [Nat.add_zero] at this, hk 1 _ rfl, hk 2 _ rfl, hk 3 _ rfl, hk 4 _ rfl, hk 5 _ rfl⟩
          have CA : Hid (∀ W, Ext wr W → Calls Tryz.prog 101 #[.agg #[.int .i64 K1, .bool B1, .int .i64 z1, .string s1, .slice A1 n1 c1, .slice A2 n2 c2], .string (bx o.1[q])] W (FindZ (NR g F (.slice LA (P q).length lc)) W H o.1[q])) := fun W hW => by
            rw [HHW.out.2.2.2]
            exact rfindZ_any _ a K1 B1 z1 s1 A1 n1 c1 A2 n2 c2 o.1[q] W (nr_oldZ HA.out HGW.out hR.out (HX1.out.trans (HXR.out.trans hW))) HHW.out.2.1 HHW.out.2.2.1
          have CB : Hid (∀ W, Ext wr W → Calls Tryz.prog 101 #[.agg #[.int .i64 K2, .bool B2, .int .i64 z2, .string s2, .slice A3 n3 c3, .slice A4 n4 c4], .string (bx o.1[q])] W (FindZ (NR g F (.slice LA (P q).length lc)) W L o.1[q])) := fun W hW => by
            rw [HLW.out.2.2.2.1]
            exact rfindZ_any _ b K2 B2 z2 s2 A3 n3 c3 A4 n4 c4 o.1[q] W (nr_oldZ HBB.out HGW.out hR.out (HX1.out.trans (HXR.out.trans hW))) HLW.out.2.1 HLW.out.2.2.1
          obtain ⟨OA, oc, OB, od, hvo1, hro1⟩ := hR.out.2.2.1
          have HVO1 := Lib.hid hvo1
          have HRO1 := Lib.hid hro1
          obtain ⟨n, hn⟩ : ∃ n, n = o.1[q] := ⟨_, rfl⟩
          obtain ⟨x, hx⟩ : ∃ x, x = o.2[q] := ⟨_, rfl⟩
          rw [← hn, ← hx] at HST HQ
          rw [← hx] at HRV
          rw [← hn] at hca CA CB
          obtain ⟨nx, hnx⟩ : ∃ s, s = bx n := ⟨_, rfl⟩
          rw [← hnx] at hca CA CB
          have HNX := Lib.hid hnx
          clear hca0 hu hrv hn hx hnx hvo1 hro1
          obtain ⟨a0, a1, a2, a3, a4, a5⟩ := (HVA.out.ext HXR.out).cells
          go_wp2_with fail
          refine Calls.mono (CA.out wr (Below.refl _ _)) ?_
          rintro e w6 ⟨x6, u6, hu6, rfl, -⟩
          obtain ⟨K6, B6, z6, s6, A11, n11, c11, A12, n12, c12, rfl, -⟩ := hu6.shape
          have HU6 := Lib.hid hu6
          unfold v6
          have X6 := Lib.hid x6
          clear x6 hu6 a0 a1 a2 a3 a4 a5
          go_upto_region 20 with (fail)
          obtain ⟨t1, ht1⟩ : ∃ t, t = w6.heap.size := ⟨_, rfl⟩
          rw [← ht1]
          generalize hW : World.alloc w6 _ = w7
          have X67 : Hid (Ext w6 w7) := by rw [← hW]; exact new_ext _ _
          have X7 : Hid (Ext wr w7) := X6.out.trans X67.out
          have HT1 : Hid (VIn w7 t1 K6 B6 z6 s6 (.slice A11 n11 c11) (.slice A12 n12 c12)) := by rw [← hW]; exact heap_new ht1
          clear hW ht1
          obtain ⟨a0, a1, a2, a3, a4, a5⟩ := (HVB.out.ext (HXR.out.trans X7.out)).cells
          go_wp2_with fail
          refine Calls.mono (CB.out w7 X7.out) ?_
          rintro e w8 ⟨x8, u8, hu8, rfl, -⟩
          obtain ⟨K7, B7, z7, s7, A13, n13, c13, A14, n14, c14, rfl, -⟩ := hu8.shape
          have HU8 := Lib.hid hu8
          unfold v6
          have X78 := Lib.hid x8
          clear x8 hu8 a0 a1 a2 a3 a4 a5
          go_upto_region 21 with (fail)
          obtain ⟨t2, ht2⟩ : ∃ t, t = w8.heap.size := ⟨_, rfl⟩
          rw [← ht2]
          generalize hW : World.alloc w8 _ = w9
          have X89 : Hid (Ext w8 w9) := by rw [← hW]; exact new_ext _ _
          have X9 : Hid (Ext wr w9) := X7.out.trans (X78.out.trans X89.out)
          have HT2 : Hid (VIn w9 t2 K7 B7 z7 s7 (.slice A13 n13 c13) (.slice A14 n14 c14)) := by rw [← hW]; exact heap_new ht2
          clear hW ht2
          go_cut [26, 27] (fun pb lv wx => ∃ (t3 : Nat) (B : Option Addr) (d : Nat), ∃ K8 B8 z8 s8 A15 n15 c15 A16 n16 c16, pb = .pointer (some ⟨t3, 0, none⟩) ∧ lv = .slice B (lostJ (valO H n) (valO L n) x (way ++ [n])).length d ∧ Hid (Ext w9 wx ∧ VIn wx t3 K8 B8 z8 s8 (.slice A15 n15 c15) (.slice A16 n16 c16) ∧ RV (NR g F (.slice LA (P q).length lc)) wx (threeJ (valO H n) (valO L n) x) (v6 K8 B8 z8 s8 (.slice A15 n15 c15) (.slice A16 n16 c16)) ∧ GRow 9 1 w9.heap.size wx (.slice B (lostJ (valO H n) (valO L n) x (way ++ [n])).length d) (one (wayVs (lostJ (valO H n) (valO L n) x (way ++ [n]))))))
          case first =>
            have HST21 : Hid (∀ W, Ext w9 W → W.cell? ⟨t1, 0, none⟩ = some (.int .i64 K6) ∧ W.cell? ⟨t1, 1, none⟩ = some (.bool B6) ∧ W.cell? ⟨t1, 2, none⟩ = some (.int .i64 z6) ∧ W.cell? ⟨t1, 3, none⟩ = some (.string s6) ∧ W.cell? ⟨t1, 4, none⟩ = some (.slice A11 n11 c11) ∧ W.cell? ⟨t1, 5, none⟩ = some (.slice A12 n12 c12) ∧ W.cell? ⟨t2, 0, none⟩ = some (.int .i64 K7) ∧ W.cell? ⟨t2, 1, none⟩ = some (.bool B7) ∧ W.cell? ⟨t2, 2, none⟩ = some (.int .i64 z7) ∧ W.cell? ⟨t2, 3, none⟩ = some (.string s7) ∧ W.cell? ⟨t2, 4, none⟩ = some (.slice A13 n13 c13) ∧ W.cell? ⟨t2, 5, none⟩ = some (.slice A14 n14 c14) ∧ W.cell? ⟨g + 2, 5, none⟩ = some (.slice (some ⟨gb, ob, none⟩) N vd) ∧ W.cell? ⟨gb, ob + q * 6, none⟩ = some (.int .i64 K5) ∧ W.cell? ⟨gb, ob + q * 6 + 1, none⟩ = some (.bool B5) ∧ W.cell? ⟨gb, ob + q * 6 + 2, none⟩ = some (.int .i64 z5) ∧ W.cell? ⟨gb, ob + q * 6 + 3, none⟩ = some (.string s5) ∧ W.cell? ⟨gb, ob + q * 6 + 4, none⟩ = some (.slice A7 n7 c7) ∧ W.cell? ⟨gb, ob + q * 6 + 5, none⟩ = some (.slice A8 n8 c8)) := fun W hW => by
              obtain ⟨p0, p1, p2, p3, p4, p5⟩ := (HT1.out.ext (X78.out.trans (X89.out.trans hW))).cells
              obtain ⟨q0, q1, q2, q3, q4, q5⟩ := (HT2.out.ext hW).cells
              obtain ⟨-, -, -, -, -, d5⟩ := (HVV.out.ext (HXR.out.trans (X9.out.trans hW))).cells
              exact ⟨p0, p1, p2, p3, p4, p5, q0, q1, q2, q3, q4, q5, d5, HSRC.out W (HX1.out.trans (HXR.out.trans (X9.out.trans hW)))⟩
            have CC : Hid (∀ W, Ext w9 W → Calls Tryz.prog 83 #[.slice A NW c] W fun e w' => ∃ A' c', e = .returned (.slice A' NW c') ∧ GRow 9 1 W.heap.size w' (.slice A' NW c') (one (way.map strW)) ∧ Ext W w') := fun W hW => by
              have h := rcopyW_any A c way W (HNW.out.ext (HX1.out.trans (HXR.out.trans (X9.out.trans hW)))) (by have := HNWL.out; omega)
              rw [← HNWL.out.1] at h
              exact h
            have CT : Hid (∀ W, Ext w9 W → ∀ A7' c7', GRow 9 1 w9.heap.size W (.slice A7' (NW + 1) c7') (one ((way ++ [n]).map strW)) → Calls Tryz.prog 51 #[.agg #[.int .i64 K6, .bool B6, .int .i64 z6, .string s6, .slice A11 n11 c11, .slice A12 n12 c12], .agg #[.int .i64 K7, .bool B7, .int .i64 z7, .string s7, .slice A13 n13 c13, .slice A14 n14 c14], .agg #[.int .i64 K5, .bool B5, .int .i64 z5, .string s5, .slice A7 n7 c7, .slice A8 n8 c8], .slice A7' (NW + 1) c7'] W (RThree (fun b => NR g F (.slice LA (P q).length lc) b ∧ (b < w9.heap.size ∨ W.heap.size ≤ b)) (threeJ (valO H n) (valO L n) x) (lostJ (valO H n) (valO L n) x (way ++ [n])) W)) := fun W hW A7' c7' hg7 => by
              have hl7 : (way ++ [n]).length = NW + 1 := by rw [List.length_append, ← HNWL.out.1]; rfl
              have hXW := X9.out.trans hW
              have h := HQ.out.1 (fun b => NR g F (.slice LA (P q).length lc) b ∧ (b < w9.heap.size ∨ W.heap.size ≤ b)) (valO H n) (valO L n) _ _ _ A7' c7' (way ++ [n]) W (fun b hb => ⟨nr_new HF.out HGW.out hR.out hXW b hb, .inr hb⟩)
                (HU6.out.keep (fun b _ hb => hXW.block b hb) (fun b h hb => ⟨h, .inl (Nat.lt_of_lt_of_le hb X9.out.size)⟩))
                (HU8.out.keep (fun b _ hb => (X78.out.trans (X89.out.trans hW)).block b hb) (fun b h hb => ⟨h, .inl (Nat.lt_of_lt_of_le hb (X78.out.trans X89.out).size)⟩))
                (RV.keep (fun b _ hb => (HX1.out.trans (HXR.out.trans hXW)).block b hb) (fun b h hb => ⟨⟨⟨h, .inl (by have := HGW.out; omega)⟩, fun e => by have := (hR.out.2.2.2.block b e).1; have := HGW.out; omega⟩, .inl (Nat.lt_of_lt_of_le hb (HX1.out.trans (HXR.out.trans X9.out)).size)⟩) _ _ HRV.out)
                (HHW.out.1.val _) (HLW.out.1.val _) HQ.out.2.2.1 HQ.out.2.2.2.2.2 HQ.out.2.2.2.2.1 ((row_names hg7).2.2.keep (fun _ _ _ => rfl) (fun _ _ _ => trivial)) (by have := (row_names hg7).2.1; exact this) (by rw [hl7]; have h1 := HWY.out.1; have h2 := HNWL.out.1; have h3 := HQ.out.2.1; omega)
                (fun s h => by
                  rcases List.mem_append.1 h with h | h
                  · exact HWY.out.2.1 s h
                  · rw [List.mem_singleton] at h; rw [h]; exact HQ.out.2.2.2.1)
              rw [hl7] at h
              exact h
            have x_w9 : Ext w9 w9 := Below.refl _ _
            refine wp_region_split (fun w' => w'.cell? ⟨t1, 0, none⟩ = some (.int .i64 K6) ∧ w'.cell? ⟨t1, 1, none⟩ = some (.bool B6) ∧ w'.cell? ⟨t1, 2, none⟩ = some (.int .i64 z6) ∧ w'.cell? ⟨t1, 3, none⟩ = some (.string s6) ∧ w'.cell? ⟨t1, 4, none⟩ = some (.slice A11 n11 c11) ∧ w'.cell? ⟨t1, 5, none⟩ = some (.slice A12 n12 c12) ∧ w'.cell? ⟨t2, 0, none⟩ = some (.int .i64 K7) ∧ w'.cell? ⟨t2, 1, none⟩ = some (.bool B7) ∧ w'.cell? ⟨t2, 2, none⟩ = some (.int .i64 z7) ∧ w'.cell? ⟨t2, 3, none⟩ = some (.string s7) ∧ w'.cell? ⟨t2, 4, none⟩ = some (.slice A13 n13 c13) ∧ w'.cell? ⟨t2, 5, none⟩ = some (.slice A14 n14 c14) ∧ w'.cell? ⟨g + 2, 5, none⟩ = some (.slice (some ⟨gb, ob, none⟩) N vd) ∧ w'.cell? ⟨gb, ob + q * 6, none⟩ = some (.int .i64 K5) ∧ w'.cell? ⟨gb, ob + q * 6 + 1, none⟩ = some (.bool B5) ∧ w'.cell? ⟨gb, ob + q * 6 + 2, none⟩ = some (.int .i64 z5) ∧ w'.cell? ⟨gb, ob + q * 6 + 3, none⟩ = some (.string s5) ∧ w'.cell? ⟨gb, ob + q * 6 + 4, none⟩ = some (.slice A7 n7 c7) ∧ w'.cell? ⟨gb, ob + q * 6 + 5, none⟩ = some (.slice A8 n8 c8)) 18 (by kernel_rfl) (by kernel_rfl) (by exact HST21.out _ (by repeat (first | assumption | apply ext_al | apply ext_dr))) (fun hHeld => ?_)
            simp only [List.take_succ_cons, List.take_zero, List.drop_succ_cons, List.drop_zero]
            generalize hd : World.drew w9 = wd at hHeld ⊢
            have x_wd : Ext w9 wd := by rw [← hd]; exact (by repeat (first | assumption | apply ext_al | apply ext_dr))
            clear hd
            refine wpAnyH_take (i := 0) (v := ?_) rfl (by kernel_rfl) (by kernel_rfl) (by kernel_rfl) (fun _ _ _ h => h) (Or.inl ⟨by rfl, ?_⟩) (by assumption) ?_
            rotate_left
            · intro w hSw
              (try dsimp only at hSw)
              go_simp
              (try with_reducible rfl)
            (try simp only [Act.put, List.setIfInBounds_toArray])
            refine wpAnyH_take (i := 1) (v := ?_) rfl (by kernel_rfl) (by kernel_rfl) (by kernel_rfl) (fun _ _ _ h => h) (Or.inl ⟨by rfl, ?_⟩) (by assumption) ?_
            rotate_left
            · intro w hSw
              (try dsimp only at hSw)
              go_simp
              (try with_reducible rfl)
            (try simp only [Act.put])
            refine wpAnyH_take (i := 2) (v := ?_) rfl (by kernel_rfl) (by kernel_rfl) (by kernel_rfl) (fun _ _ _ h => h) (Or.inl ⟨by rfl, ?_⟩) (by assumption) ?_
            rotate_left
            · intro w hSw
              (try dsimp only at hSw)
              go_simp
              (try with_reducible rfl)
            (try simp only [Act.put])
            refine wpAnyH_take (i := 3) (v := ?_) rfl (by kernel_rfl) (by kernel_rfl) (by kernel_rfl) (fun _ _ _ h => h) (Or.inl ⟨by rfl, ?_⟩) (by assumption) ?_
            rotate_left
            · intro w hSw
              (try dsimp only at hSw)
              go_simp
              (try with_reducible rfl)
            (try simp only [Act.put])
            refine wpAnyH_take (i := 4) (v := ?_) rfl (by kernel_rfl) (by kernel_rfl) (by kernel_rfl) (fun _ _ _ h => h) (Or.inl ⟨by rfl, ?_⟩) (by assumption) ?_
            rotate_left
            · intro w hSw
              (try dsimp only at hSw)
              go_simp
              (try with_reducible rfl)
            (try simp only [Act.put])
            refine wpAnyH_take (i := 5) (v := ?_) rfl (by kernel_rfl) (by kernel_rfl) (by kernel_rfl) (fun _ _ _ h => h) (Or.inl ⟨by rfl, ?_⟩) (by assumption) ?_
            rotate_left
            · intro w hSw
              (try dsimp only at hSw)
              go_simp
              (try with_reducible rfl)
            (try simp only [Act.put])
            refine wpAnyH_take (i := 6) (v := ?_) rfl (by kernel_rfl) (by kernel_rfl) (by kernel_rfl) (fun _ _ _ h => h) (Or.inl ⟨by rfl, ?_⟩) (by assumption) ?_
            rotate_left
            · intro w hSw
              (try dsimp only at hSw)
              go_simp
              (try with_reducible rfl)
            (try simp only [Act.put])
            refine wpAnyH_take (i := 7) (v := ?_) rfl (by kernel_rfl) (by kernel_rfl) (by kernel_rfl) (fun _ _ _ h => h) (Or.inl ⟨by rfl, ?_⟩) (by assumption) ?_
            rotate_left
            · intro w hSw
              (try dsimp only at hSw)
              go_simp
              (try with_reducible rfl)
            (try simp only [Act.put])
            refine wpAnyH_take (i := 9) (v := ?_) rfl (by kernel_rfl) (by kernel_rfl) (by kernel_rfl) (fun _ _ _ h => h) (Or.inl ⟨by rfl, ?_⟩) (by assumption) ?_
            rotate_left
            · intro w hSw
              (try dsimp only at hSw)
              go_simp
              (try with_reducible rfl)
            (try simp only [Act.put])
            refine wpAnyH_ready (rs := [8, 10, 16]) (by kernel_rfl) (by simp) ?_
            refine AllReadyH.cons rfl (fun KQ hKQ => ?_) ?_
            · skip
              go_simp
              refine Calls.mono (CC.out wd x_wd) ?_
              rintro e V21 ⟨A20, c20, rfl, h20, y_V21⟩
              (try dsimp only)
              have x_V21 : Ext w9 V21 := x_wd.trans y_V21
              have hrow_V21 : GRow 9 1 w9.heap.size V21 (.slice A20 NW c20) (one (way.map strW)) := h20.low x_wd.size
              refine hKQ.out _ _ (by exact HST21.out V21 x_V21) (fun hHeld => ?_)
              clear hKQ KQ
              (try simp only [Act.put, List.setIfInBounds_toArray, List.set_cons_zero, List.set_cons_succ])
              refine wpAnyH_ready (rs := [10, 16]) (by kernel_rfl) (by simp) ?_
              refine AllReadyH.cons rfl (fun KQ hKQ => ?_) ?_
              · skip
                obtain ⟨bs, hbs⟩ : ∃ t, t = (V21 : World).heap.size := ⟨_, rfl⟩
                go_simp
                rw [← hbs]
                generalize hW : World.alloc V21 _ = V22
                have y_V22 : Ext V21 V22 := by rw [← hW]; exact new_ext _ _
                have x_V22 : Ext w9 V22 := x_V21.trans y_V22
                have hrow_V22 := hrow_V21.ext y_V22
                have hsrc_V22 : GSrc 1 V22 (.slice (some ⟨bs, 0, none⟩) 1 1) [[.string nx]] := by rw [← hW]; exact GSrc.one rfl (by simp [Value.oneCell']) (heap_new hbs)
                clear hW hbs
                refine hKQ.out _ _ (by exact HST21.out V22 x_V22) (fun hHeld => ?_)
                clear hKQ KQ
                (try simp only [Act.put, List.setIfInBounds_toArray, List.set_cons_zero, List.set_cons_succ])
                refine wpAnyH_ready (rs := [11, 16]) (by kernel_rfl) (by simp) ?_
                refine AllReadyH.cons rfl (fun KQ hKQ => ?_) ?_
                · skip
                  (refine step_append_g ty_strs rfl _ _ (by rfl) w9.heap.size NW 1 V22 (.slice A20 NW c20) (.slice (some ⟨bs, 0, none⟩) 1 1) (one (way.map strW)) [[.string nx]] (by rfl) (by rfl) hrow_V22 hsrc_V22 (by rw [one_len, List.length_map]; exact HNWL.out.1.symm) rfl (by omega) x_V22.size ?_; intro A21 c21 V23 h21 g21 o21)
                  have x_V23 : Ext w9 V23 := ext_row x_V22 g21 (fun b e => (hrow_V22.block b e).1)
                  have hway_V23 : GRow 9 1 w9.heap.size V23 (.slice A21 (NW + 1) c21) (one ((way ++ [n]).map strW)) := by rw [List.map_append, one_app]; rw [HNX.out] at h21; exact h21
                  refine hKQ.out _ _ (by exact HST21.out V23 x_V23) (fun hHeld => ?_)
                  clear hKQ KQ
                  (try simp only [Act.put, List.setIfInBounds_toArray])
                  refine wpAnyH_ready (rs := [12, 16]) (by kernel_rfl) (by simp) ?_
                  refine AllReadyH.cons rfl (fun KQ hKQ => ?_) ?_
                  · skip
                    go_simp
                    refine Calls.mono (CT.out V23 x_V23 A21 c21 hway_V23) ?_
                    rintro e V24 ⟨y_V24, K8, B8, z8, s8, A15, n15, c15, A16, n16, c16, B, d, rfl, hval_V24, hlow_V24⟩
                    (try dsimp only)
                    have x_V24 : Ext w9 V24 := x_V23.trans y_V24
                    refine hKQ.out _ _ (by exact HST21.out V24 x_V24) (fun hHeld => ?_)
                    clear hKQ KQ
                    (try simp only [Act.put, List.setIfInBounds_toArray, List.set_cons_zero, List.set_cons_succ])
                    refine wpAnyH_take (i := 13) (v := ?_) rfl (by kernel_rfl) (by kernel_rfl) (by kernel_rfl) (fun _ _ _ h => h) (Or.inl ⟨by rfl, ?_⟩) (by assumption) ?_
                    rotate_left
                    · intro w hSw
                      (try dsimp only at hSw)
                      go_simp
                      (try with_reducible rfl)
                    (try simp only [Act.put, List.setIfInBounds_toArray])
                    refine wpAnyH_take (i := 14) (v := ?_) rfl (by kernel_rfl) (by kernel_rfl) (by kernel_rfl) (fun _ _ _ h => h) (Or.inl ⟨by rfl, ?_⟩) (by assumption) ?_
                    rotate_left
                    · intro w hSw
                      (try dsimp only at hSw)
                      go_simp
                      (try with_reducible rfl)
                    (try simp only [Act.put])
                    refine wpAnyH_take (i := 15) (v := ?_) rfl (by kernel_rfl) (by kernel_rfl) (by kernel_rfl) (fun _ _ _ h => h) (Or.inl ⟨by rfl, ?_⟩) (by assumption) ?_
                    rotate_left
                    · intro w hSw
                      (try dsimp only at hSw)
                      go_simp
                      (try with_reducible rfl)
                    (try simp only [Act.put])
                    refine wpAnyH_ready (rs := [16]) (by kernel_rfl) (by simp) ?_
                    refine AllReadyH.cons rfl (fun KQ hKQ => ?_) AllReadyH.nil
                    obtain ⟨t3, ht3⟩ : ∃ t, t = (V24 : World).heap.size := ⟨_, rfl⟩
                    go_simp
                    rw [← ht3]
                    generalize hW : World.alloc V24 _ = V25
                    have y_V25 : Ext V24 V25 := by rw [← hW]; exact new_ext _ _
                    have x_V25 : Ext w9 V25 := x_V24.trans y_V25
                    have hbox_V25 : VIn V25 t3 0 false 0 ⟨#[]⟩ nilS nilS := by rw [← hW]; exact heap_new ht3
                    have hge3 : w9.heap.size ≤ t3 := by rw [ht3]; exact x_V24.size
                    have HT3 := Lib.hid ht3
                    clear hW ht3
                    refine hKQ.out _ _ (by exact HST21.out V25 x_V25) (fun hHeld => ?_)
                    clear hKQ KQ
                    (try simp only [Act.put, List.setIfInBounds_toArray, List.set_cons_zero, List.set_cons_succ])
                    refine wpAnyH_ready (rs := [17]) (by kernel_rfl) (by simp) ?_
                    refine AllReadyH.cons rfl (fun KQ hKQ => ?_) AllReadyH.nil
                    (refine step_storeV rfl _ _ rfl hbox_V25 (by rfl) (by rfl) ?_; intro V26 hv6 he6 hk6)
                    have x_V26 : Ext w9 V26 := he6 w9 x_V25 hge3
                    refine hKQ.out _ _ (by exact HST21.out V26 x_V26) (fun hHeld => ?_)
                    clear hKQ KQ
                    (try simp only [Act.put, List.setIfInBounds_toArray])
                    refine wpAnyH_done (by kernel_rfl) ?_ _
                    refine TailQ.normal ?_
                    go_wp2_with fail
                    go_meet
                    case rel => exact ⟨t3, B, d, K8, B8, z8, s8, A15, n15, c15, A16, n16, c16, rfl, rfl, x_V26, hv6, RV.keep (fun b h hlt => ((hk6 b (fun e => by have h3 := HT3.out; omega)).trans (y_V25.block b hlt))) (fun _ h _ => h.1) _ _ hval_V24, (hlow_V24.keep (fun b e => ((hk6 b (fun e' => by have h1 := (hlow_V24.block b e).2; have h3 := HT3.out; omega)).trans (y_V25.block b (hlow_V24.block b e).2)))).low x_V23.size⟩
                  refine AllReadyH.cons rfl (fun KQ hKQ => ?_) ?_
                  · skip
                    obtain ⟨t3, ht3⟩ : ∃ t, t = (V23 : World).heap.size := ⟨_, rfl⟩
                    go_simp
                    rw [← ht3]
                    generalize hW : World.alloc V23 _ = V24
                    have y_V24 : Ext V23 V24 := by rw [← hW]; exact new_ext _ _
                    have x_V24 : Ext w9 V24 := x_V23.trans y_V24
                    have hbox_V24 : VIn V24 t3 0 false 0 ⟨#[]⟩ nilS nilS := by rw [← hW]; exact heap_new ht3
                    have hge3 : w9.heap.size ≤ t3 := by rw [ht3]; exact x_V23.size
                    have HT3 := Lib.hid ht3
                    clear hW ht3
                    refine hKQ.out _ _ (by exact HST21.out V24 x_V24) (fun hHeld => ?_)
                    clear hKQ KQ
                    (try simp only [Act.put, List.setIfInBounds_toArray, List.set_cons_zero, List.set_cons_succ])
                    refine wpAnyH_ready (rs := [12]) (by kernel_rfl) (by simp) ?_
                    refine AllReadyH.cons rfl (fun KQ hKQ => ?_) AllReadyH.nil
                    go_simp
                    refine Calls.mono (CT.out V24 x_V24 A21 c21 (hway_V23.ext y_V24)) ?_
                    rintro e V25 ⟨y_V25, K8, B8, z8, s8, A15, n15, c15, A16, n16, c16, B, d, rfl, hval_V25, hlow_V25⟩
                    (try dsimp only)
                    have x_V25 : Ext w9 V25 := x_V24.trans y_V25
                    have hbox_V25 : VIn V25 t3 0 false 0 ⟨#[]⟩ nilS nilS := VIn.ext hbox_V24 y_V25
                    have hlt3 := heap_lt hbox_V24
                    refine hKQ.out _ _ (by exact HST21.out V25 x_V25) (fun hHeld => ?_)
                    clear hKQ KQ
                    (try simp only [Act.put, List.setIfInBounds_toArray, List.set_cons_zero, List.set_cons_succ])
                    refine wpAnyH_take (i := 13) (v := ?_) rfl (by kernel_rfl) (by kernel_rfl) (by kernel_rfl) (fun _ _ _ h => h) (Or.inl ⟨by rfl, ?_⟩) (by assumption) ?_
                    rotate_left
                    · intro w hSw
                      (try dsimp only at hSw)
                      go_simp
                      (try with_reducible rfl)
                    (try simp only [Act.put, List.setIfInBounds_toArray])
                    refine wpAnyH_take (i := 14) (v := ?_) rfl (by kernel_rfl) (by kernel_rfl) (by kernel_rfl) (fun _ _ _ h => h) (Or.inl ⟨by rfl, ?_⟩) (by assumption) ?_
                    rotate_left
                    · intro w hSw
                      (try dsimp only at hSw)
                      go_simp
                      (try with_reducible rfl)
                    (try simp only [Act.put])
                    refine wpAnyH_take (i := 15) (v := ?_) rfl (by kernel_rfl) (by kernel_rfl) (by kernel_rfl) (fun _ _ _ h => h) (Or.inl ⟨by rfl, ?_⟩) (by assumption) ?_
                    rotate_left
                    · intro w hSw
                      (try dsimp only at hSw)
                      go_simp
                      (try with_reducible rfl)
                    (try simp only [Act.put])
                    refine wpAnyH_ready (rs := [17]) (by kernel_rfl) (by simp) ?_
                    refine AllReadyH.cons rfl (fun KQ hKQ => ?_) AllReadyH.nil
                    (refine step_storeV rfl _ _ rfl hbox_V25 (by rfl) (by rfl) ?_; intro V26 hv6 he6 hk6)
                    have x_V26 : Ext w9 V26 := he6 w9 x_V25 hge3
                    refine hKQ.out _ _ (by exact HST21.out V26 x_V26) (fun hHeld => ?_)
                    clear hKQ KQ
                    (try simp only [Act.put])
                    refine wpAnyH_done (by kernel_rfl) ?_ _
                    refine TailQ.normal ?_
                    go_wp2_with fail
                    go_meet
                    case rel => exact ⟨t3, B, d, K8, B8, z8, s8, A15, n15, c15, A16, n16, c16, rfl, rfl, x_V26, hv6, RV.keep (fun b h hlt => (hk6 b (fun e => by have h1 := h.2; omega))) (fun _ h _ => h.1) _ _ hval_V25, (hlow_V25.keep (fun b e => hk6 b (fun e' => by have h1 := (hlow_V25.block b e).1; omega))).low x_V24.size⟩
                  exact AllReadyH.nil
                refine AllReadyH.cons rfl (fun KQ hKQ => ?_) ?_
                · skip
                  obtain ⟨t3, ht3⟩ : ∃ t, t = (V22 : World).heap.size := ⟨_, rfl⟩
                  go_simp
                  rw [← ht3]
                  generalize hW : World.alloc V22 _ = V23
                  have y_V23 : Ext V22 V23 := by rw [← hW]; exact new_ext _ _
                  have x_V23 : Ext w9 V23 := x_V22.trans y_V23
                  have hne : ∀ b, (Value.slice A20 NW c20).ownBlock = some b → b ≠ t3 := fun b e => by have h1 := (hrow_V22.block b e).2; omega
                  have hsrc_V23 := hsrc_V22.ext y_V23
                  have hrow_V23 := hrow_V22.ext y_V23
                  have hbox_V23 : VIn V23 t3 0 false 0 ⟨#[]⟩ nilS nilS := by rw [← hW]; exact heap_new ht3
                  have hge3 : w9.heap.size ≤ t3 := by rw [ht3]; exact x_V22.size
                  have HT3 := Lib.hid ht3
                  clear hW ht3
                  refine hKQ.out _ _ (by exact HST21.out V23 x_V23) (fun hHeld => ?_)
                  clear hKQ KQ
                  (try simp only [Act.put, List.setIfInBounds_toArray, List.set_cons_zero, List.set_cons_succ])
                  refine wpAnyH_ready (rs := [11]) (by kernel_rfl) (by simp) ?_
                  refine AllReadyH.cons rfl (fun KQ hKQ => ?_) AllReadyH.nil
                  (refine step_append_g ty_strs rfl _ _ (by rfl) w9.heap.size NW 1 V23 (.slice A20 NW c20) (.slice (some ⟨bs, 0, none⟩) 1 1) (one (way.map strW)) [[.string nx]] (by rfl) (by rfl) hrow_V23 hsrc_V23 (by rw [one_len, List.length_map]; exact HNWL.out.1.symm) rfl (by omega) x_V23.size ?_; intro A21 c21 V24 h21 g21 o21)
                  have x_V24 : Ext w9 V24 := ext_row x_V23 g21 (fun b e => (hrow_V23.block b e).1)
                  have hbox_V24 : VIn V24 t3 0 false 0 ⟨#[]⟩ nilS nilS := VIn.kept hbox_V23 g21 (fun e => hne _ e rfl)
                  have hway_V24 : GRow 9 1 w9.heap.size V24 (.slice A21 (NW + 1) c21) (one ((way ++ [n]).map strW)) := by rw [List.map_append, one_app]; rw [HNX.out] at h21; exact h21
                  refine hKQ.out _ _ (by exact HST21.out V24 x_V24) (fun hHeld => ?_)
                  clear hKQ KQ
                  (try simp only [Act.put, List.setIfInBounds_toArray])
                  refine wpAnyH_ready (rs := [12]) (by kernel_rfl) (by simp) ?_
                  refine AllReadyH.cons rfl (fun KQ hKQ => ?_) AllReadyH.nil
                  go_simp
                  refine Calls.mono (CT.out V24 x_V24 A21 c21 hway_V24) ?_
                  rintro e V25 ⟨y_V25, K8, B8, z8, s8, A15, n15, c15, A16, n16, c16, B, d, rfl, hval_V25, hlow_V25⟩
                  (try dsimp only)
                  have x_V25 : Ext w9 V25 := x_V24.trans y_V25
                  have hbox_V25 : VIn V25 t3 0 false 0 ⟨#[]⟩ nilS nilS := VIn.ext hbox_V24 y_V25
                  have hlt3 := heap_lt hbox_V24
                  refine hKQ.out _ _ (by exact HST21.out V25 x_V25) (fun hHeld => ?_)
                  clear hKQ KQ
                  (try simp only [Act.put, List.setIfInBounds_toArray, List.set_cons_zero, List.set_cons_succ])
                  refine wpAnyH_take (i := 13) (v := ?_) rfl (by kernel_rfl) (by kernel_rfl) (by kernel_rfl) (fun _ _ _ h => h) (Or.inl ⟨by rfl, ?_⟩) (by assumption) ?_
                  rotate_left
                  · intro w hSw
                    (try dsimp only at hSw)
                    go_simp
                    (try with_reducible rfl)
                  (try simp only [Act.put, List.setIfInBounds_toArray])
                  refine wpAnyH_take (i := 14) (v := ?_) rfl (by kernel_rfl) (by kernel_rfl) (by kernel_rfl) (fun _ _ _ h => h) (Or.inl ⟨by rfl, ?_⟩) (by assumption) ?_
                  rotate_left
                  · intro w hSw
                    (try dsimp only at hSw)
                    go_simp
                    (try with_reducible rfl)
                  (try simp only [Act.put])
                  refine wpAnyH_take (i := 15) (v := ?_) rfl (by kernel_rfl) (by kernel_rfl) (by kernel_rfl) (fun _ _ _ h => h) (Or.inl ⟨by rfl, ?_⟩) (by assumption) ?_
                  rotate_left
                  · intro w hSw
                    (try dsimp only at hSw)
                    go_simp
                    (try with_reducible rfl)
                  (try simp only [Act.put])
                  refine wpAnyH_ready (rs := [17]) (by kernel_rfl) (by simp) ?_
                  refine AllReadyH.cons rfl (fun KQ hKQ => ?_) AllReadyH.nil
                  (refine step_storeV rfl _ _ rfl hbox_V25 (by rfl) (by rfl) ?_; intro V26 hv6 he6 hk6)
                  have x_V26 : Ext w9 V26 := he6 w9 x_V25 hge3
                  refine hKQ.out _ _ (by exact HST21.out V26 x_V26) (fun hHeld => ?_)
                  clear hKQ KQ
                  (try simp only [Act.put])
                  refine wpAnyH_done (by kernel_rfl) ?_ _
                  refine TailQ.normal ?_
                  go_wp2_with fail
                  go_meet
                  case rel => exact ⟨t3, B, d, K8, B8, z8, s8, A15, n15, c15, A16, n16, c16, rfl, rfl, x_V26, hv6, RV.keep (fun b h hlt => (hk6 b (fun e => by have h1 := h.2; omega))) (fun _ h _ => h.1) _ _ hval_V25, (hlow_V25.keep (fun b e => hk6 b (fun e' => by have h1 := (hlow_V25.block b e).1; omega))).low x_V24.size⟩
                exact AllReadyH.nil
              refine AllReadyH.cons rfl (fun KQ hKQ => ?_) ?_
              · skip
                obtain ⟨t3, ht3⟩ : ∃ t, t = (V21 : World).heap.size := ⟨_, rfl⟩
                go_simp
                rw [← ht3]
                generalize hW : World.alloc V21 _ = V22
                have y_V22 : Ext V21 V22 := by rw [← hW]; exact new_ext _ _
                have x_V22 : Ext w9 V22 := x_V21.trans y_V22
                have hne : ∀ b, (Value.slice A20 NW c20).ownBlock = some b → b ≠ t3 := fun b e => by have h1 := (hrow_V21.block b e).2; omega
                have hrow_V22 := hrow_V21.ext y_V22
                have hbox_V22 : VIn V22 t3 0 false 0 ⟨#[]⟩ nilS nilS := by rw [← hW]; exact heap_new ht3
                have hge3 : w9.heap.size ≤ t3 := by rw [ht3]; exact x_V21.size
                have HT3 := Lib.hid ht3
                clear hW ht3
                refine hKQ.out _ _ (by exact HST21.out V22 x_V22) (fun hHeld => ?_)
                clear hKQ KQ
                (try simp only [Act.put, List.setIfInBounds_toArray, List.set_cons_zero, List.set_cons_succ])
                refine wpAnyH_ready (rs := [10]) (by kernel_rfl) (by simp) ?_
                refine AllReadyH.cons rfl (fun KQ hKQ => ?_) AllReadyH.nil
                obtain ⟨bs, hbs⟩ : ∃ t, t = (V22 : World).heap.size := ⟨_, rfl⟩
                go_simp
                rw [← hbs]
                generalize hW : World.alloc V22 _ = V23
                have y_V23 : Ext V22 V23 := by rw [← hW]; exact new_ext _ _
                have x_V23 : Ext w9 V23 := x_V22.trans y_V23
                have hbox_V23 := hbox_V22.ext y_V23
                have hrow_V23 := hrow_V22.ext y_V23
                have hsrc_V23 : GSrc 1 V23 (.slice (some ⟨bs, 0, none⟩) 1 1) [[.string nx]] := by rw [← hW]; exact GSrc.one rfl (by simp [Value.oneCell']) (heap_new hbs)
                clear hW hbs
                refine hKQ.out _ _ (by exact HST21.out V23 x_V23) (fun hHeld => ?_)
                clear hKQ KQ
                (try simp only [Act.put, List.setIfInBounds_toArray, List.set_cons_zero, List.set_cons_succ])
                refine wpAnyH_ready (rs := [11]) (by kernel_rfl) (by simp) ?_
                refine AllReadyH.cons rfl (fun KQ hKQ => ?_) AllReadyH.nil
                (refine step_append_g ty_strs rfl _ _ (by rfl) w9.heap.size NW 1 V23 (.slice A20 NW c20) (.slice (some ⟨bs, 0, none⟩) 1 1) (one (way.map strW)) [[.string nx]] (by rfl) (by rfl) hrow_V23 hsrc_V23 (by rw [one_len, List.length_map]; exact HNWL.out.1.symm) rfl (by omega) x_V23.size ?_; intro A21 c21 V24 h21 g21 o21)
                have x_V24 : Ext w9 V24 := ext_row x_V23 g21 (fun b e => (hrow_V23.block b e).1)
                have hbox_V24 : VIn V24 t3 0 false 0 ⟨#[]⟩ nilS nilS := VIn.kept hbox_V23 g21 (fun e => hne _ e rfl)
                have hway_V24 : GRow 9 1 w9.heap.size V24 (.slice A21 (NW + 1) c21) (one ((way ++ [n]).map strW)) := by rw [List.map_append, one_app]; rw [HNX.out] at h21; exact h21
                refine hKQ.out _ _ (by exact HST21.out V24 x_V24) (fun hHeld => ?_)
                clear hKQ KQ
                (try simp only [Act.put, List.setIfInBounds_toArray])
                refine wpAnyH_ready (rs := [12]) (by kernel_rfl) (by simp) ?_
                refine AllReadyH.cons rfl (fun KQ hKQ => ?_) AllReadyH.nil
                go_simp
                refine Calls.mono (CT.out V24 x_V24 A21 c21 hway_V24) ?_
                rintro e V25 ⟨y_V25, K8, B8, z8, s8, A15, n15, c15, A16, n16, c16, B, d, rfl, hval_V25, hlow_V25⟩
                (try dsimp only)
                have x_V25 : Ext w9 V25 := x_V24.trans y_V25
                have hbox_V25 : VIn V25 t3 0 false 0 ⟨#[]⟩ nilS nilS := VIn.ext hbox_V24 y_V25
                have hlt3 := heap_lt hbox_V24
                refine hKQ.out _ _ (by exact HST21.out V25 x_V25) (fun hHeld => ?_)
                clear hKQ KQ
                (try simp only [Act.put, List.setIfInBounds_toArray, List.set_cons_zero, List.set_cons_succ])
                refine wpAnyH_take (i := 13) (v := ?_) rfl (by kernel_rfl) (by kernel_rfl) (by kernel_rfl) (fun _ _ _ h => h) (Or.inl ⟨by rfl, ?_⟩) (by assumption) ?_
                rotate_left
                · intro w hSw
                  (try dsimp only at hSw)
                  go_simp
                  (try with_reducible rfl)
                (try simp only [Act.put, List.setIfInBounds_toArray])
                refine wpAnyH_take (i := 14) (v := ?_) rfl (by kernel_rfl) (by kernel_rfl) (by kernel_rfl) (fun _ _ _ h => h) (Or.inl ⟨by rfl, ?_⟩) (by assumption) ?_
                rotate_left
                · intro w hSw
                  (try dsimp only at hSw)
                  go_simp
                  (try with_reducible rfl)
                (try simp only [Act.put])
                refine wpAnyH_take (i := 15) (v := ?_) rfl (by kernel_rfl) (by kernel_rfl) (by kernel_rfl) (fun _ _ _ h => h) (Or.inl ⟨by rfl, ?_⟩) (by assumption) ?_
                rotate_left
                · intro w hSw
                  (try dsimp only at hSw)
                  go_simp
                  (try with_reducible rfl)
                (try simp only [Act.put])
                refine wpAnyH_ready (rs := [17]) (by kernel_rfl) (by simp) ?_
                refine AllReadyH.cons rfl (fun KQ hKQ => ?_) AllReadyH.nil
                (refine step_storeV rfl _ _ rfl hbox_V25 (by rfl) (by rfl) ?_; intro V26 hv6 he6 hk6)
                have x_V26 : Ext w9 V26 := he6 w9 x_V25 hge3
                refine hKQ.out _ _ (by exact HST21.out V26 x_V26) (fun hHeld => ?_)
                clear hKQ KQ
                (try simp only [Act.put])
                refine wpAnyH_done (by kernel_rfl) ?_ _
                refine TailQ.normal ?_
                go_wp2_with fail
                go_meet
                case rel => exact ⟨t3, B, d, K8, B8, z8, s8, A15, n15, c15, A16, n16, c16, rfl, rfl, x_V26, hv6, RV.keep (fun b h hlt => (hk6 b (fun e => by have h1 := h.2; omega))) (fun _ h _ => h.1) _ _ hval_V25, (hlow_V25.keep (fun b e => hk6 b (fun e' => by have h1 := (hlow_V25.block b e).1; omega))).low x_V24.size⟩
              exact AllReadyH.nil
            refine AllReadyH.cons rfl (fun KQ hKQ => ?_) ?_
            · skip
              obtain ⟨bs, hbs⟩ : ∃ t, t = (wd : World).heap.size := ⟨_, rfl⟩
              go_simp
              rw [← hbs]
              generalize hW : World.alloc wd _ = V21
              have y_V21 : Ext wd V21 := by rw [← hW]; exact new_ext _ _
              have x_V21 : Ext w9 V21 := x_wd.trans y_V21
              have hsrc_V21 : GSrc 1 V21 (.slice (some ⟨bs, 0, none⟩) 1 1) [[.string nx]] := by rw [← hW]; exact GSrc.one rfl (by simp [Value.oneCell']) (heap_new hbs)
              clear hW hbs
              refine hKQ.out _ _ (by exact HST21.out V21 x_V21) (fun hHeld => ?_)
              clear hKQ KQ
              (try simp only [Act.put, List.setIfInBounds_toArray, List.set_cons_zero, List.set_cons_succ])
              refine wpAnyH_ready (rs := [8, 16]) (by kernel_rfl) (by simp) ?_
              refine AllReadyH.cons rfl (fun KQ hKQ => ?_) ?_
              · skip
                go_simp
                refine Calls.mono (CC.out V21 x_V21) ?_
                rintro e V22 ⟨A20, c20, rfl, h20, y_V22⟩
                (try dsimp only)
                have x_V22 : Ext w9 V22 := x_V21.trans y_V22
                have hsrc_V22 := hsrc_V21.ext y_V22
                have hrow_V22 : GRow 9 1 w9.heap.size V22 (.slice A20 NW c20) (one (way.map strW)) := h20.low x_V21.size
                refine hKQ.out _ _ (by exact HST21.out V22 x_V22) (fun hHeld => ?_)
                clear hKQ KQ
                (try simp only [Act.put, List.setIfInBounds_toArray, List.set_cons_zero, List.set_cons_succ])
                refine wpAnyH_ready (rs := [11, 16]) (by kernel_rfl) (by simp) ?_
                refine AllReadyH.cons rfl (fun KQ hKQ => ?_) ?_
                · skip
                  (refine step_append_g ty_strs rfl _ _ (by rfl) w9.heap.size NW 1 V22 (.slice A20 NW c20) (.slice (some ⟨bs, 0, none⟩) 1 1) (one (way.map strW)) [[.string nx]] (by rfl) (by rfl) hrow_V22 hsrc_V22 (by rw [one_len, List.length_map]; exact HNWL.out.1.symm) rfl (by omega) x_V22.size ?_; intro A21 c21 V23 h21 g21 o21)
                  have x_V23 : Ext w9 V23 := ext_row x_V22 g21 (fun b e => (hrow_V22.block b e).1)
                  have hway_V23 : GRow 9 1 w9.heap.size V23 (.slice A21 (NW + 1) c21) (one ((way ++ [n]).map strW)) := by rw [List.map_append, one_app]; rw [HNX.out] at h21; exact h21
                  refine hKQ.out _ _ (by exact HST21.out V23 x_V23) (fun hHeld => ?_)
                  clear hKQ KQ
                  (try simp only [Act.put, List.setIfInBounds_toArray])
                  refine wpAnyH_ready (rs := [12, 16]) (by kernel_rfl) (by simp) ?_
                  refine AllReadyH.cons rfl (fun KQ hKQ => ?_) ?_
                  · skip
                    go_simp
                    refine Calls.mono (CT.out V23 x_V23 A21 c21 hway_V23) ?_
                    rintro e V24 ⟨y_V24, K8, B8, z8, s8, A15, n15, c15, A16, n16, c16, B, d, rfl, hval_V24, hlow_V24⟩
                    (try dsimp only)
                    have x_V24 : Ext w9 V24 := x_V23.trans y_V24
                    refine hKQ.out _ _ (by exact HST21.out V24 x_V24) (fun hHeld => ?_)
                    clear hKQ KQ
                    (try simp only [Act.put, List.setIfInBounds_toArray, List.set_cons_zero, List.set_cons_succ])
                    refine wpAnyH_take (i := 13) (v := ?_) rfl (by kernel_rfl) (by kernel_rfl) (by kernel_rfl) (fun _ _ _ h => h) (Or.inl ⟨by rfl, ?_⟩) (by assumption) ?_
                    rotate_left
                    · intro w hSw
                      (try dsimp only at hSw)
                      go_simp
                      (try with_reducible rfl)
                    (try simp only [Act.put, List.setIfInBounds_toArray])
                    refine wpAnyH_take (i := 14) (v := ?_) rfl (by kernel_rfl) (by kernel_rfl) (by kernel_rfl) (fun _ _ _ h => h) (Or.inl ⟨by rfl, ?_⟩) (by assumption) ?_
                    rotate_left
                    · intro w hSw
                      (try dsimp only at hSw)
                      go_simp
                      (try with_reducible rfl)
                    (try simp only [Act.put])
                    refine wpAnyH_take (i := 15) (v := ?_) rfl (by kernel_rfl) (by kernel_rfl) (by kernel_rfl) (fun _ _ _ h => h) (Or.inl ⟨by rfl, ?_⟩) (by assumption) ?_
                    rotate_left
                    · intro w hSw
                      (try dsimp only at hSw)
                      go_simp
                      (try with_reducible rfl)
                    (try simp only [Act.put])
                    refine wpAnyH_ready (rs := [16]) (by kernel_rfl) (by simp) ?_
                    refine AllReadyH.cons rfl (fun KQ hKQ => ?_) AllReadyH.nil
                    obtain ⟨t3, ht3⟩ : ∃ t, t = (V24 : World).heap.size := ⟨_, rfl⟩
                    go_simp
                    rw [← ht3]
                    generalize hW : World.alloc V24 _ = V25
                    have y_V25 : Ext V24 V25 := by rw [← hW]; exact new_ext _ _
                    have x_V25 : Ext w9 V25 := x_V24.trans y_V25
                    have hbox_V25 : VIn V25 t3 0 false 0 ⟨#[]⟩ nilS nilS := by rw [← hW]; exact heap_new ht3
                    have hge3 : w9.heap.size ≤ t3 := by rw [ht3]; exact x_V24.size
                    have HT3 := Lib.hid ht3
                    clear hW ht3
                    refine hKQ.out _ _ (by exact HST21.out V25 x_V25) (fun hHeld => ?_)
                    clear hKQ KQ
                    (try simp only [Act.put, List.setIfInBounds_toArray, List.set_cons_zero, List.set_cons_succ])
                    refine wpAnyH_ready (rs := [17]) (by kernel_rfl) (by simp) ?_
                    refine AllReadyH.cons rfl (fun KQ hKQ => ?_) AllReadyH.nil
                    (refine step_storeV rfl _ _ rfl hbox_V25 (by rfl) (by rfl) ?_; intro V26 hv6 he6 hk6)
                    have x_V26 : Ext w9 V26 := he6 w9 x_V25 hge3
                    refine hKQ.out _ _ (by exact HST21.out V26 x_V26) (fun hHeld => ?_)
                    clear hKQ KQ
                    (try simp only [Act.put, List.setIfInBounds_toArray])
                    refine wpAnyH_done (by kernel_rfl) ?_ _
                    refine TailQ.normal ?_
                    go_wp2_with fail
                    go_meet
                    case rel => exact ⟨t3, B, d, K8, B8, z8, s8, A15, n15, c15, A16, n16, c16, rfl, rfl, x_V26, hv6, RV.keep (fun b h hlt => ((hk6 b (fun e => by have h3 := HT3.out; omega)).trans (y_V25.block b hlt))) (fun _ h _ => h.1) _ _ hval_V24, (hlow_V24.keep (fun b e => ((hk6 b (fun e' => by have h1 := (hlow_V24.block b e).2; have h3 := HT3.out; omega)).trans (y_V25.block b (hlow_V24.block b e).2)))).low x_V23.size⟩
                  refine AllReadyH.cons rfl (fun KQ hKQ => ?_) ?_
                  · skip
                    obtain ⟨t3, ht3⟩ : ∃ t, t = (V23 : World).heap.size := ⟨_, rfl⟩
                    go_simp
                    rw [← ht3]
                    generalize hW : World.alloc V23 _ = V24
                    have y_V24 : Ext V23 V24 := by rw [← hW]; exact new_ext _ _
                    have x_V24 : Ext w9 V24 := x_V23.trans y_V24
                    have hbox_V24 : VIn V24 t3 0 false 0 ⟨#[]⟩ nilS nilS := by rw [← hW]; exact heap_new ht3
                    have hge3 : w9.heap.size ≤ t3 := by rw [ht3]; exact x_V23.size
                    have HT3 := Lib.hid ht3
                    clear hW ht3
                    refine hKQ.out _ _ (by exact HST21.out V24 x_V24) (fun hHeld => ?_)
                    clear hKQ KQ
                    (try simp only [Act.put, List.setIfInBounds_toArray, List.set_cons_zero, List.set_cons_succ])
                    refine wpAnyH_ready (rs := [12]) (by kernel_rfl) (by simp) ?_
                    refine AllReadyH.cons rfl (fun KQ hKQ => ?_) AllReadyH.nil
                    go_simp
                    refine Calls.mono (CT.out V24 x_V24 A21 c21 (hway_V23.ext y_V24)) ?_
                    rintro e V25 ⟨y_V25, K8, B8, z8, s8, A15, n15, c15, A16, n16, c16, B, d, rfl, hval_V25, hlow_V25⟩
                    (try dsimp only)
                    have x_V25 : Ext w9 V25 := x_V24.trans y_V25
                    have hbox_V25 : VIn V25 t3 0 false 0 ⟨#[]⟩ nilS nilS := VIn.ext hbox_V24 y_V25
                    have hlt3 := heap_lt hbox_V24
                    refine hKQ.out _ _ (by exact HST21.out V25 x_V25) (fun hHeld => ?_)
                    clear hKQ KQ
                    (try simp only [Act.put, List.setIfInBounds_toArray, List.set_cons_zero, List.set_cons_succ])
                    refine wpAnyH_take (i := 13) (v := ?_) rfl (by kernel_rfl) (by kernel_rfl) (by kernel_rfl) (fun _ _ _ h => h) (Or.inl ⟨by rfl, ?_⟩) (by assumption) ?_
                    rotate_left
                    · intro w hSw
                      (try dsimp only at hSw)
                      go_simp
                      (try with_reducible rfl)
                    (try simp only [Act.put, List.setIfInBounds_toArray])
                    refine wpAnyH_take (i := 14) (v := ?_) rfl (by kernel_rfl) (by kernel_rfl) (by kernel_rfl) (fun _ _ _ h => h) (Or.inl ⟨by rfl, ?_⟩) (by assumption) ?_
                    rotate_left
                    · intro w hSw
                      (try dsimp only at hSw)
                      go_simp
                      (try with_reducible rfl)
                    (try simp only [Act.put])
                    refine wpAnyH_take (i := 15) (v := ?_) rfl (by kernel_rfl) (by kernel_rfl) (by kernel_rfl) (fun _ _ _ h => h) (Or.inl ⟨by rfl, ?_⟩) (by assumption) ?_
                    rotate_left
                    · intro w hSw
                      (try dsimp only at hSw)
                      go_simp
                      (try with_reducible rfl)
                    (try simp only [Act.put])
                    refine wpAnyH_ready (rs := [17]) (by kernel_rfl) (by simp) ?_
                    refine AllReadyH.cons rfl (fun KQ hKQ => ?_) AllReadyH.nil
                    (refine step_storeV rfl _ _ rfl hbox_V25 (by rfl) (by rfl) ?_; intro V26 hv6 he6 hk6)
                    have x_V26 : Ext w9 V26 := he6 w9 x_V25 hge3
                    refine hKQ.out _ _ (by exact HST21.out V26 x_V26) (fun hHeld => ?_)
                    clear hKQ KQ
                    (try simp only [Act.put])
                    refine wpAnyH_done (by kernel_rfl) ?_ _
                    refine TailQ.normal ?_
                    go_wp2_with fail
                    go_meet
                    case rel => exact ⟨t3, B, d, K8, B8, z8, s8, A15, n15, c15, A16, n16, c16, rfl, rfl, x_V26, hv6, RV.keep (fun b h hlt => (hk6 b (fun e => by have h1 := h.2; omega))) (fun _ h _ => h.1) _ _ hval_V25, (hlow_V25.keep (fun b e => hk6 b (fun e' => by have h1 := (hlow_V25.block b e).1; omega))).low x_V24.size⟩
                  exact AllReadyH.nil
                refine AllReadyH.cons rfl (fun KQ hKQ => ?_) ?_
                · skip
                  obtain ⟨t3, ht3⟩ : ∃ t, t = (V22 : World).heap.size := ⟨_, rfl⟩
                  go_simp
                  rw [← ht3]
                  generalize hW : World.alloc V22 _ = V23
                  have y_V23 : Ext V22 V23 := by rw [← hW]; exact new_ext _ _
                  have x_V23 : Ext w9 V23 := x_V22.trans y_V23
                  have hne : ∀ b, (Value.slice A20 NW c20).ownBlock = some b → b ≠ t3 := fun b e => by have h1 := (hrow_V22.block b e).2; omega
                  have hsrc_V23 := hsrc_V22.ext y_V23
                  have hrow_V23 := hrow_V22.ext y_V23
                  have hbox_V23 : VIn V23 t3 0 false 0 ⟨#[]⟩ nilS nilS := by rw [← hW]; exact heap_new ht3
                  have hge3 : w9.heap.size ≤ t3 := by rw [ht3]; exact x_V22.size
                  have HT3 := Lib.hid ht3
                  clear hW ht3
                  refine hKQ.out _ _ (by exact HST21.out V23 x_V23) (fun hHeld => ?_)
                  clear hKQ KQ
                  (try simp only [Act.put, List.setIfInBounds_toArray, List.set_cons_zero, List.set_cons_succ])
                  refine wpAnyH_ready (rs := [11]) (by kernel_rfl) (by simp) ?_
                  refine AllReadyH.cons rfl (fun KQ hKQ => ?_) AllReadyH.nil
                  (refine step_append_g ty_strs rfl _ _ (by rfl) w9.heap.size NW 1 V23 (.slice A20 NW c20) (.slice (some ⟨bs, 0, none⟩) 1 1) (one (way.map strW)) [[.string nx]] (by rfl) (by rfl) hrow_V23 hsrc_V23 (by rw [one_len, List.length_map]; exact HNWL.out.1.symm) rfl (by omega) x_V23.size ?_; intro A21 c21 V24 h21 g21 o21)
                  have x_V24 : Ext w9 V24 := ext_row x_V23 g21 (fun b e => (hrow_V23.block b e).1)
                  have hbox_V24 : VIn V24 t3 0 false 0 ⟨#[]⟩ nilS nilS := VIn.kept hbox_V23 g21 (fun e => hne _ e rfl)
                  have hway_V24 : GRow 9 1 w9.heap.size V24 (.slice A21 (NW + 1) c21) (one ((way ++ [n]).map strW)) := by rw [List.map_append, one_app]; rw [HNX.out] at h21; exact h21
                  refine hKQ.out _ _ (by exact HST21.out V24 x_V24) (fun hHeld => ?_)
                  clear hKQ KQ
                  (try simp only [Act.put, List.setIfInBounds_toArray])
                  refine wpAnyH_ready (rs := [12]) (by kernel_rfl) (by simp) ?_
                  refine AllReadyH.cons rfl (fun KQ hKQ => ?_) AllReadyH.nil
                  go_simp
                  refine Calls.mono (CT.out V24 x_V24 A21 c21 hway_V24) ?_
                  rintro e V25 ⟨y_V25, K8, B8, z8, s8, A15, n15, c15, A16, n16, c16, B, d, rfl, hval_V25, hlow_V25⟩
                  (try dsimp only)
                  have x_V25 : Ext w9 V25 := x_V24.trans y_V25
                  have hbox_V25 : VIn V25 t3 0 false 0 ⟨#[]⟩ nilS nilS := VIn.ext hbox_V24 y_V25
                  have hlt3 := heap_lt hbox_V24
                  refine hKQ.out _ _ (by exact HST21.out V25 x_V25) (fun hHeld => ?_)
                  clear hKQ KQ
                  (try simp only [Act.put, List.setIfInBounds_toArray, List.set_cons_zero, List.set_cons_succ])
                  refine wpAnyH_take (i := 13) (v := ?_) rfl (by kernel_rfl) (by kernel_rfl) (by kernel_rfl) (fun _ _ _ h => h) (Or.inl ⟨by rfl, ?_⟩) (by assumption) ?_
                  rotate_left
                  · intro w hSw
                    (try dsimp only at hSw)
                    go_simp
                    (try with_reducible rfl)
                  (try simp only [Act.put, List.setIfInBounds_toArray])
                  refine wpAnyH_take (i := 14) (v := ?_) rfl (by kernel_rfl) (by kernel_rfl) (by kernel_rfl) (fun _ _ _ h => h) (Or.inl ⟨by rfl, ?_⟩) (by assumption) ?_
                  rotate_left
                  · intro w hSw
                    (try dsimp only at hSw)
                    go_simp
                    (try with_reducible rfl)
                  (try simp only [Act.put])
                  refine wpAnyH_take (i := 15) (v := ?_) rfl (by kernel_rfl) (by kernel_rfl) (by kernel_rfl) (fun _ _ _ h => h) (Or.inl ⟨by rfl, ?_⟩) (by assumption) ?_
                  rotate_left
                  · intro w hSw
                    (try dsimp only at hSw)
                    go_simp
                    (try with_reducible rfl)
                  (try simp only [Act.put])
                  refine wpAnyH_ready (rs := [17]) (by kernel_rfl) (by simp) ?_
                  refine AllReadyH.cons rfl (fun KQ hKQ => ?_) AllReadyH.nil
                  (refine step_storeV rfl _ _ rfl hbox_V25 (by rfl) (by rfl) ?_; intro V26 hv6 he6 hk6)
                  have x_V26 : Ext w9 V26 := he6 w9 x_V25 hge3
                  refine hKQ.out _ _ (by exact HST21.out V26 x_V26) (fun hHeld => ?_)
                  clear hKQ KQ
                  (try simp only [Act.put])
                  refine wpAnyH_done (by kernel_rfl) ?_ _
                  refine TailQ.normal ?_
                  go_wp2_with fail
                  go_meet
                  case rel => exact ⟨t3, B, d, K8, B8, z8, s8, A15, n15, c15, A16, n16, c16, rfl, rfl, x_V26, hv6, RV.keep (fun b h hlt => (hk6 b (fun e => by have h1 := h.2; omega))) (fun _ h _ => h.1) _ _ hval_V25, (hlow_V25.keep (fun b e => hk6 b (fun e' => by have h1 := (hlow_V25.block b e).1; omega))).low x_V24.size⟩
                exact AllReadyH.nil
              refine AllReadyH.cons rfl (fun KQ hKQ => ?_) ?_
              · skip
                obtain ⟨t3, ht3⟩ : ∃ t, t = (V21 : World).heap.size := ⟨_, rfl⟩
                go_simp
                rw [← ht3]
                generalize hW : World.alloc V21 _ = V22
                have y_V22 : Ext V21 V22 := by rw [← hW]; exact new_ext _ _
                have x_V22 : Ext w9 V22 := x_V21.trans y_V22
                have hsrc_V22 := hsrc_V21.ext y_V22
                have hbox_V22 : VIn V22 t3 0 false 0 ⟨#[]⟩ nilS nilS := by rw [← hW]; exact heap_new ht3
                have hge3 : w9.heap.size ≤ t3 := by rw [ht3]; exact x_V21.size
                have HT3 := Lib.hid ht3
                clear hW ht3
                refine hKQ.out _ _ (by exact HST21.out V22 x_V22) (fun hHeld => ?_)
                clear hKQ KQ
                (try simp only [Act.put, List.setIfInBounds_toArray, List.set_cons_zero, List.set_cons_succ])
                refine wpAnyH_ready (rs := [8]) (by kernel_rfl) (by simp) ?_
                refine AllReadyH.cons rfl (fun KQ hKQ => ?_) AllReadyH.nil
                go_simp
                refine Calls.mono (CC.out V22 x_V22) ?_
                rintro e V23 ⟨A20, c20, rfl, h20, y_V23⟩
                (try dsimp only)
                have x_V23 : Ext w9 V23 := x_V22.trans y_V23
                have hbox_V23 := hbox_V22.ext y_V23
                have hsrc_V23 := hsrc_V22.ext y_V23
                have hne : ∀ b, (Value.slice A20 NW c20).ownBlock = some b → b ≠ t3 := fun b e => by have h1 := (h20.block b e).1; have h2 := heap_lt hbox_V22; omega
                have hrow_V23 : GRow 9 1 w9.heap.size V23 (.slice A20 NW c20) (one (way.map strW)) := h20.low x_V22.size
                refine hKQ.out _ _ (by exact HST21.out V23 x_V23) (fun hHeld => ?_)
                clear hKQ KQ
                (try simp only [Act.put, List.setIfInBounds_toArray, List.set_cons_zero, List.set_cons_succ])
                refine wpAnyH_ready (rs := [11]) (by kernel_rfl) (by simp) ?_
                refine AllReadyH.cons rfl (fun KQ hKQ => ?_) AllReadyH.nil
                (refine step_append_g ty_strs rfl _ _ (by rfl) w9.heap.size NW 1 V23 (.slice A20 NW c20) (.slice (some ⟨bs, 0, none⟩) 1 1) (one (way.map strW)) [[.string nx]] (by rfl) (by rfl) hrow_V23 hsrc_V23 (by rw [one_len, List.length_map]; exact HNWL.out.1.symm) rfl (by omega) x_V23.size ?_; intro A21 c21 V24 h21 g21 o21)
                have x_V24 : Ext w9 V24 := ext_row x_V23 g21 (fun b e => (hrow_V23.block b e).1)
                have hbox_V24 : VIn V24 t3 0 false 0 ⟨#[]⟩ nilS nilS := VIn.kept hbox_V23 g21 (fun e => hne _ e rfl)
                have hway_V24 : GRow 9 1 w9.heap.size V24 (.slice A21 (NW + 1) c21) (one ((way ++ [n]).map strW)) := by rw [List.map_append, one_app]; rw [HNX.out] at h21; exact h21
                refine hKQ.out _ _ (by exact HST21.out V24 x_V24) (fun hHeld => ?_)
                clear hKQ KQ
                (try simp only [Act.put, List.setIfInBounds_toArray])
                refine wpAnyH_ready (rs := [12]) (by kernel_rfl) (by simp) ?_
                refine AllReadyH.cons rfl (fun KQ hKQ => ?_) AllReadyH.nil
                go_simp
                refine Calls.mono (CT.out V24 x_V24 A21 c21 hway_V24) ?_
                rintro e V25 ⟨y_V25, K8, B8, z8, s8, A15, n15, c15, A16, n16, c16, B, d, rfl, hval_V25, hlow_V25⟩
                (try dsimp only)
                have x_V25 : Ext w9 V25 := x_V24.trans y_V25
                have hbox_V25 : VIn V25 t3 0 false 0 ⟨#[]⟩ nilS nilS := VIn.ext hbox_V24 y_V25
                have hlt3 := heap_lt hbox_V24
                refine hKQ.out _ _ (by exact HST21.out V25 x_V25) (fun hHeld => ?_)
                clear hKQ KQ
                (try simp only [Act.put, List.setIfInBounds_toArray, List.set_cons_zero, List.set_cons_succ])
                refine wpAnyH_take (i := 13) (v := ?_) rfl (by kernel_rfl) (by kernel_rfl) (by kernel_rfl) (fun _ _ _ h => h) (Or.inl ⟨by rfl, ?_⟩) (by assumption) ?_
                rotate_left
                · intro w hSw
                  (try dsimp only at hSw)
                  go_simp
                  (try with_reducible rfl)
                (try simp only [Act.put, List.setIfInBounds_toArray])
                refine wpAnyH_take (i := 14) (v := ?_) rfl (by kernel_rfl) (by kernel_rfl) (by kernel_rfl) (fun _ _ _ h => h) (Or.inl ⟨by rfl, ?_⟩) (by assumption) ?_
                rotate_left
                · intro w hSw
                  (try dsimp only at hSw)
                  go_simp
                  (try with_reducible rfl)
                (try simp only [Act.put])
                refine wpAnyH_take (i := 15) (v := ?_) rfl (by kernel_rfl) (by kernel_rfl) (by kernel_rfl) (fun _ _ _ h => h) (Or.inl ⟨by rfl, ?_⟩) (by assumption) ?_
                rotate_left
                · intro w hSw
                  (try dsimp only at hSw)
                  go_simp
                  (try with_reducible rfl)
                (try simp only [Act.put])
                refine wpAnyH_ready (rs := [17]) (by kernel_rfl) (by simp) ?_
                refine AllReadyH.cons rfl (fun KQ hKQ => ?_) AllReadyH.nil
                (refine step_storeV rfl _ _ rfl hbox_V25 (by rfl) (by rfl) ?_; intro V26 hv6 he6 hk6)
                have x_V26 : Ext w9 V26 := he6 w9 x_V25 hge3
                refine hKQ.out _ _ (by exact HST21.out V26 x_V26) (fun hHeld => ?_)
                clear hKQ KQ
                (try simp only [Act.put])
                refine wpAnyH_done (by kernel_rfl) ?_ _
                refine TailQ.normal ?_
                go_wp2_with fail
                go_meet
                case rel => exact ⟨t3, B, d, K8, B8, z8, s8, A15, n15, c15, A16, n16, c16, rfl, rfl, x_V26, hv6, RV.keep (fun b h hlt => (hk6 b (fun e => by have h1 := h.2; omega))) (fun _ h _ => h.1) _ _ hval_V25, (hlow_V25.keep (fun b e => hk6 b (fun e' => by have h1 := (hlow_V25.block b e).1; omega))).low x_V24.size⟩
              exact AllReadyH.nil
            refine AllReadyH.cons rfl (fun KQ hKQ => ?_) ?_
            · skip
              obtain ⟨t3, ht3⟩ : ∃ t, t = (wd : World).heap.size := ⟨_, rfl⟩
              go_simp
              rw [← ht3]
              generalize hW : World.alloc wd _ = V21
              have y_V21 : Ext wd V21 := by rw [← hW]; exact new_ext _ _
              have x_V21 : Ext w9 V21 := x_wd.trans y_V21
              have hbox_V21 : VIn V21 t3 0 false 0 ⟨#[]⟩ nilS nilS := by rw [← hW]; exact heap_new ht3
              have hge3 : w9.heap.size ≤ t3 := by rw [ht3]; exact x_wd.size
              have HT3 := Lib.hid ht3
              clear hW ht3
              refine hKQ.out _ _ (by exact HST21.out V21 x_V21) (fun hHeld => ?_)
              clear hKQ KQ
              (try simp only [Act.put, List.setIfInBounds_toArray, List.set_cons_zero, List.set_cons_succ])
              refine wpAnyH_ready (rs := [8, 10]) (by kernel_rfl) (by simp) ?_
              refine AllReadyH.cons rfl (fun KQ hKQ => ?_) ?_
              · skip
                go_simp
                refine Calls.mono (CC.out V21 x_V21) ?_
                rintro e V22 ⟨A20, c20, rfl, h20, y_V22⟩
                (try dsimp only)
                have x_V22 : Ext w9 V22 := x_V21.trans y_V22
                have hbox_V22 := hbox_V21.ext y_V22
                have hne : ∀ b, (Value.slice A20 NW c20).ownBlock = some b → b ≠ t3 := fun b e => by have h1 := (h20.block b e).1; have h2 := heap_lt hbox_V21; omega
                have hrow_V22 : GRow 9 1 w9.heap.size V22 (.slice A20 NW c20) (one (way.map strW)) := h20.low x_V21.size
                refine hKQ.out _ _ (by exact HST21.out V22 x_V22) (fun hHeld => ?_)
                clear hKQ KQ
                (try simp only [Act.put, List.setIfInBounds_toArray, List.set_cons_zero, List.set_cons_succ])
                refine wpAnyH_ready (rs := [10]) (by kernel_rfl) (by simp) ?_
                refine AllReadyH.cons rfl (fun KQ hKQ => ?_) AllReadyH.nil
                obtain ⟨bs, hbs⟩ : ∃ t, t = (V22 : World).heap.size := ⟨_, rfl⟩
                go_simp
                rw [← hbs]
                generalize hW : World.alloc V22 _ = V23
                have y_V23 : Ext V22 V23 := by rw [← hW]; exact new_ext _ _
                have x_V23 : Ext w9 V23 := x_V22.trans y_V23
                have hbox_V23 := hbox_V22.ext y_V23
                have hrow_V23 := hrow_V22.ext y_V23
                have hsrc_V23 : GSrc 1 V23 (.slice (some ⟨bs, 0, none⟩) 1 1) [[.string nx]] := by rw [← hW]; exact GSrc.one rfl (by simp [Value.oneCell']) (heap_new hbs)
                clear hW hbs
                refine hKQ.out _ _ (by exact HST21.out V23 x_V23) (fun hHeld => ?_)
                clear hKQ KQ
                (try simp only [Act.put, List.setIfInBounds_toArray, List.set_cons_zero, List.set_cons_succ])
                refine wpAnyH_ready (rs := [11]) (by kernel_rfl) (by simp) ?_
                refine AllReadyH.cons rfl (fun KQ hKQ => ?_) AllReadyH.nil
                (refine step_append_g ty_strs rfl _ _ (by rfl) w9.heap.size NW 1 V23 (.slice A20 NW c20) (.slice (some ⟨bs, 0, none⟩) 1 1) (one (way.map strW)) [[.string nx]] (by rfl) (by rfl) hrow_V23 hsrc_V23 (by rw [one_len, List.length_map]; exact HNWL.out.1.symm) rfl (by omega) x_V23.size ?_; intro A21 c21 V24 h21 g21 o21)
                have x_V24 : Ext w9 V24 := ext_row x_V23 g21 (fun b e => (hrow_V23.block b e).1)
                have hbox_V24 : VIn V24 t3 0 false 0 ⟨#[]⟩ nilS nilS := VIn.kept hbox_V23 g21 (fun e => hne _ e rfl)
                have hway_V24 : GRow 9 1 w9.heap.size V24 (.slice A21 (NW + 1) c21) (one ((way ++ [n]).map strW)) := by rw [List.map_append, one_app]; rw [HNX.out] at h21; exact h21
                refine hKQ.out _ _ (by exact HST21.out V24 x_V24) (fun hHeld => ?_)
                clear hKQ KQ
                (try simp only [Act.put, List.setIfInBounds_toArray])
                refine wpAnyH_ready (rs := [12]) (by kernel_rfl) (by simp) ?_
                refine AllReadyH.cons rfl (fun KQ hKQ => ?_) AllReadyH.nil
                go_simp
                refine Calls.mono (CT.out V24 x_V24 A21 c21 hway_V24) ?_
                rintro e V25 ⟨y_V25, K8, B8, z8, s8, A15, n15, c15, A16, n16, c16, B, d, rfl, hval_V25, hlow_V25⟩
                (try dsimp only)
                have x_V25 : Ext w9 V25 := x_V24.trans y_V25
                have hbox_V25 : VIn V25 t3 0 false 0 ⟨#[]⟩ nilS nilS := VIn.ext hbox_V24 y_V25
                have hlt3 := heap_lt hbox_V24
                refine hKQ.out _ _ (by exact HST21.out V25 x_V25) (fun hHeld => ?_)
                clear hKQ KQ
                (try simp only [Act.put, List.setIfInBounds_toArray, List.set_cons_zero, List.set_cons_succ])
                refine wpAnyH_take (i := 13) (v := ?_) rfl (by kernel_rfl) (by kernel_rfl) (by kernel_rfl) (fun _ _ _ h => h) (Or.inl ⟨by rfl, ?_⟩) (by assumption) ?_
                rotate_left
                · intro w hSw
                  (try dsimp only at hSw)
                  go_simp
                  (try with_reducible rfl)
                (try simp only [Act.put, List.setIfInBounds_toArray])
                refine wpAnyH_take (i := 14) (v := ?_) rfl (by kernel_rfl) (by kernel_rfl) (by kernel_rfl) (fun _ _ _ h => h) (Or.inl ⟨by rfl, ?_⟩) (by assumption) ?_
                rotate_left
                · intro w hSw
                  (try dsimp only at hSw)
                  go_simp
                  (try with_reducible rfl)
                (try simp only [Act.put])
                refine wpAnyH_take (i := 15) (v := ?_) rfl (by kernel_rfl) (by kernel_rfl) (by kernel_rfl) (fun _ _ _ h => h) (Or.inl ⟨by rfl, ?_⟩) (by assumption) ?_
                rotate_left
                · intro w hSw
                  (try dsimp only at hSw)
                  go_simp
                  (try with_reducible rfl)
                (try simp only [Act.put])
                refine wpAnyH_ready (rs := [17]) (by kernel_rfl) (by simp) ?_
                refine AllReadyH.cons rfl (fun KQ hKQ => ?_) AllReadyH.nil
                (refine step_storeV rfl _ _ rfl hbox_V25 (by rfl) (by rfl) ?_; intro V26 hv6 he6 hk6)
                have x_V26 : Ext w9 V26 := he6 w9 x_V25 hge3
                refine hKQ.out _ _ (by exact HST21.out V26 x_V26) (fun hHeld => ?_)
                clear hKQ KQ
                (try simp only [Act.put])
                refine wpAnyH_done (by kernel_rfl) ?_ _
                refine TailQ.normal ?_
                go_wp2_with fail
                go_meet
                case rel => exact ⟨t3, B, d, K8, B8, z8, s8, A15, n15, c15, A16, n16, c16, rfl, rfl, x_V26, hv6, RV.keep (fun b h hlt => (hk6 b (fun e => by have h1 := h.2; omega))) (fun _ h _ => h.1) _ _ hval_V25, (hlow_V25.keep (fun b e => hk6 b (fun e' => by have h1 := (hlow_V25.block b e).1; omega))).low x_V24.size⟩
              refine AllReadyH.cons rfl (fun KQ hKQ => ?_) ?_
              · skip
                obtain ⟨bs, hbs⟩ : ∃ t, t = (V21 : World).heap.size := ⟨_, rfl⟩
                go_simp
                rw [← hbs]
                generalize hW : World.alloc V21 _ = V22
                have y_V22 : Ext V21 V22 := by rw [← hW]; exact new_ext _ _
                have x_V22 : Ext w9 V22 := x_V21.trans y_V22
                have hbox_V22 := hbox_V21.ext y_V22
                have hsrc_V22 : GSrc 1 V22 (.slice (some ⟨bs, 0, none⟩) 1 1) [[.string nx]] := by rw [← hW]; exact GSrc.one rfl (by simp [Value.oneCell']) (heap_new hbs)
                clear hW hbs
                refine hKQ.out _ _ (by exact HST21.out V22 x_V22) (fun hHeld => ?_)
                clear hKQ KQ
                (try simp only [Act.put, List.setIfInBounds_toArray, List.set_cons_zero, List.set_cons_succ])
                refine wpAnyH_ready (rs := [8]) (by kernel_rfl) (by simp) ?_
                refine AllReadyH.cons rfl (fun KQ hKQ => ?_) AllReadyH.nil
                go_simp
                refine Calls.mono (CC.out V22 x_V22) ?_
                rintro e V23 ⟨A20, c20, rfl, h20, y_V23⟩
                (try dsimp only)
                have x_V23 : Ext w9 V23 := x_V22.trans y_V23
                have hbox_V23 := hbox_V22.ext y_V23
                have hsrc_V23 := hsrc_V22.ext y_V23
                have hne : ∀ b, (Value.slice A20 NW c20).ownBlock = some b → b ≠ t3 := fun b e => by have h1 := (h20.block b e).1; have h2 := heap_lt hbox_V22; omega
                have hrow_V23 : GRow 9 1 w9.heap.size V23 (.slice A20 NW c20) (one (way.map strW)) := h20.low x_V22.size
                refine hKQ.out _ _ (by exact HST21.out V23 x_V23) (fun hHeld => ?_)
                clear hKQ KQ
                (try simp only [Act.put, List.setIfInBounds_toArray, List.set_cons_zero, List.set_cons_succ])
                refine wpAnyH_ready (rs := [11]) (by kernel_rfl) (by simp) ?_
                refine AllReadyH.cons rfl (fun KQ hKQ => ?_) AllReadyH.nil
                (refine step_append_g ty_strs rfl _ _ (by rfl) w9.heap.size NW 1 V23 (.slice A20 NW c20) (.slice (some ⟨bs, 0, none⟩) 1 1) (one (way.map strW)) [[.string nx]] (by rfl) (by rfl) hrow_V23 hsrc_V23 (by rw [one_len, List.length_map]; exact HNWL.out.1.symm) rfl (by omega) x_V23.size ?_; intro A21 c21 V24 h21 g21 o21)
                have x_V24 : Ext w9 V24 := ext_row x_V23 g21 (fun b e => (hrow_V23.block b e).1)
                have hbox_V24 : VIn V24 t3 0 false 0 ⟨#[]⟩ nilS nilS := VIn.kept hbox_V23 g21 (fun e => hne _ e rfl)
                have hway_V24 : GRow 9 1 w9.heap.size V24 (.slice A21 (NW + 1) c21) (one ((way ++ [n]).map strW)) := by rw [List.map_append, one_app]; rw [HNX.out] at h21; exact h21
                refine hKQ.out _ _ (by exact HST21.out V24 x_V24) (fun hHeld => ?_)
                clear hKQ KQ
                (try simp only [Act.put, List.setIfInBounds_toArray])
                refine wpAnyH_ready (rs := [12]) (by kernel_rfl) (by simp) ?_
                refine AllReadyH.cons rfl (fun KQ hKQ => ?_) AllReadyH.nil
                go_simp
                refine Calls.mono (CT.out V24 x_V24 A21 c21 hway_V24) ?_
                rintro e V25 ⟨y_V25, K8, B8, z8, s8, A15, n15, c15, A16, n16, c16, B, d, rfl, hval_V25, hlow_V25⟩
                (try dsimp only)
                have x_V25 : Ext w9 V25 := x_V24.trans y_V25
                have hbox_V25 : VIn V25 t3 0 false 0 ⟨#[]⟩ nilS nilS := VIn.ext hbox_V24 y_V25
                have hlt3 := heap_lt hbox_V24
                refine hKQ.out _ _ (by exact HST21.out V25 x_V25) (fun hHeld => ?_)
                clear hKQ KQ
                (try simp only [Act.put, List.setIfInBounds_toArray, List.set_cons_zero, List.set_cons_succ])
                refine wpAnyH_take (i := 13) (v := ?_) rfl (by kernel_rfl) (by kernel_rfl) (by kernel_rfl) (fun _ _ _ h => h) (Or.inl ⟨by rfl, ?_⟩) (by assumption) ?_
                rotate_left
                · intro w hSw
                  (try dsimp only at hSw)
                  go_simp
                  (try with_reducible rfl)
                (try simp only [Act.put, List.setIfInBounds_toArray])
                refine wpAnyH_take (i := 14) (v := ?_) rfl (by kernel_rfl) (by kernel_rfl) (by kernel_rfl) (fun _ _ _ h => h) (Or.inl ⟨by rfl, ?_⟩) (by assumption) ?_
                rotate_left
                · intro w hSw
                  (try dsimp only at hSw)
                  go_simp
                  (try with_reducible rfl)
                (try simp only [Act.put])
                refine wpAnyH_take (i := 15) (v := ?_) rfl (by kernel_rfl) (by kernel_rfl) (by kernel_rfl) (fun _ _ _ h => h) (Or.inl ⟨by rfl, ?_⟩) (by assumption) ?_
                rotate_left
                · intro w hSw
                  (try dsimp only at hSw)
                  go_simp
                  (try with_reducible rfl)
                (try simp only [Act.put])
                refine wpAnyH_ready (rs := [17]) (by kernel_rfl) (by simp) ?_
                refine AllReadyH.cons rfl (fun KQ hKQ => ?_) AllReadyH.nil
                (refine step_storeV rfl _ _ rfl hbox_V25 (by rfl) (by rfl) ?_; intro V26 hv6 he6 hk6)
                have x_V26 : Ext w9 V26 := he6 w9 x_V25 hge3
                refine hKQ.out _ _ (by exact HST21.out V26 x_V26) (fun hHeld => ?_)
                clear hKQ KQ
                (try simp only [Act.put])
                refine wpAnyH_done (by kernel_rfl) ?_ _
                refine TailQ.normal ?_
                go_wp2_with fail
                go_meet
                case rel => exact ⟨t3, B, d, K8, B8, z8, s8, A15, n15, c15, A16, n16, c16, rfl, rfl, x_V26, hv6, RV.keep (fun b h hlt => (hk6 b (fun e => by have h1 := h.2; omega))) (fun _ h _ => h.1) _ _ hval_V25, (hlow_V25.keep (fun b e => hk6 b (fun e' => by have h1 := (hlow_V25.block b e).1; omega))).low x_V24.size⟩
              exact AllReadyH.nil
            exact AllReadyH.nil
          case rest =>
            obtain ⟨t3, B, d, K8, B8, z8, s8, A15, n15, c15, A16, n16, c16, rfl, rfl, hcut⟩ := hcut
            have HC := Lib.hid hcut
            have HXC : Hid (Ext wr wc) := X9.out.trans hcut.1
            obtain ⟨m, hm⟩ : ∃ m, m = (lostJ (valO H n) (valO L n) x (way ++ [n])).length := ⟨_, rfl⟩
            rw [← hm]
            have HPM : Hid ((P (q + 1)).length = (P q).length + m) := by unfold Hid; rw [HST.out.2, List.length_append, hm]
            have HM := Lib.hid hm
            obtain ⟨o0, o1, o2, o3, o4, o5⟩ := (HVO1.out.ext HXC.out).cells
            obtain ⟨p0, p1, p2, p3, p4, p5⟩ := HC.out.2.1.cells
            have CS : Hid (Calls Tryz.prog 93 #[.agg #[.int .i64 6, .bool false, .int .i64 0, .string ⟨#[]⟩, .slice OA (E q).1.length oc, .slice OB (E q).2.length od], .string nx, .agg #[.int .i64 K8, .bool B8, .int .i64 z8, .string s8, .slice A15 n15 c15, .slice A16 n16 c16]] wc (RMadeO (NR g F (.slice LA (P q).length lc)) wc (setO (E q) n (threeJ (valO H n) (valO L n) x)))) := by
              rw [HNX.out]
              exact rsetO_any (NR g F (.slice LA (P q).length lc)) OA oc OB od (E q) n (threeJ (valO H n) (valO L n) x) K8 B8 z8 s8 A15 n15 c15 A16 n16 c16 wc (HRO1.out.ext HXC.out) HEQ.out.1 (by have := HEQ.out.2; omega) HC.out.2.2.1 (nr_new HF.out HGW.out hR.out HXC.out)
            clear hcut hm
            go_wp2_with fail
            refine Calls.mono CS.out ?_
            rintro e w10 ⟨x10, A9, c9, B9, d9, rfl, hro8⟩
            have HX10 : Hid (Ext wr w10) := HXC.out.trans x10
            have HL10 := Lib.hid (hR.out.ext HX10.out)
            have HRO8 := Lib.hid hro8
            have HW10 := Lib.hid (HC.out.2.2.2.ext x10)
            have HVB10 := Lib.hid (HVO1.out.ext HX10.out)
            clear x10 hro8 o0 o1 o2 o3 o4 o5 p0 p1 p2 p3 p4 p5
            have hPq : (P q).length + m ≤ 1000000 := by have h1 := (HPN.out (q + 1)).1; have h2 := HPM.out; omega
            go_wp2_with (at_builtin; refine append_g ty_strs rfl _ _ (by rfl) (g + 5) (P q).length m _ (.slice LA (P q).length lc) (.slice B m d) (one (wayVs (P q))) (one (wayVs (lostJ (valO H n) (valO L n) x (way ++ [n])))) (by rfl) (by rfl) HL10.out.2.2.2 (by rw [HM.out]; exact HW10.out.src) (by rw [one_len]; unfold wayVs; rw [List.length_map]) (by rw [one_len]; unfold wayVs; rw [List.length_map]; exact HM.out.symm) (by omega) HL10.out.2.1 ?_; intro A22 c22 w11 h11 g11 o11; have HL11 : Hid (LSt g F w1 w11 (E q) (.slice A22 ((P q).length + m) c22) (P (q + 1))) := (by unfold Hid; rw [HST.out.2]; rw [← ways_app] at h11; exact HL10.out.app (Below.refl _ _) g11 o11 (by have := HGS.out; omega) h11); have hb11 := HVB10.out.kept g11 (fun e => by have := (HL10.out.2.2.2.block _ e).1; omega); have HR11 := Lib.hid (nr_app HRO8.out g11 o11); have HB11 := Lib.hid hb11; have y0 := hb11.free 0; have y1 := hb11.free 1; have y2 := hb11.free 2; have y3 := hb11.free 3; have y4 := hb11.free 4; have y5 := hb11.free 5; obtain ⟨v0, v1, v2, v3, v4, v5⟩ := hb11.cells; clear h11 g11 o11 hb11)
            generalize hW : World.setCell _ _ _ = w12
            have H12 : Hid (LSt g F w1 w12 (E (q + 1)) (.slice A22 ((P q).length + m) c22) (P (q + 1))) := by
              have hV := HL11.out
              unfold Hid
              rw [← hW, HST.out.1]
              exact LSt.put hV.1 hV.2.1 (by rw [HGS.out]; exact Nat.le_refl _) HB11.out HR11.out hV.2.2.2
            clear hW
            go_wp2_with fail
            go_roundw
            case rel => exact ⟨q + 1, A22, c22, hlt, by rw [HPM.out], by go_num, by rw [HPM.out]; exact H12.out⟩
            case measure => simp [intOf]; omega
        · have hqN : q = N := by omega
          have bl : decide ((q : Int) < (N : Int)) = false := decide_eq_false (by omega)
          have bl2 : decide (q < N) = false := decide_eq_false hlt
          have HEND := Lib.hid (HE.out.2.2 q (by rw [hqN]; exact HN.out.1))
          obtain ⟨OA, oc, OB, od, hvo, hro⟩ := hR.out.2.2.1
          have HRO1 := Lib.hid hro
          have HVO1 := Lib.hid hvo
          obtain ⟨o0, o1, o2, o3, o4, o5⟩ := hvo.cells
          have HVR1 := Lib.hid (HVR.out.ext HXR.out)
          obtain ⟨r0, r1, r2, r3, r4, r5⟩ := (HVR1.out).cells
          have f0 := (HVR1.out).free 0
          have f1 := (HVR1.out).free 1
          have f2 := (HVR1.out).free 2
          have f3 := (HVR1.out).free 3
          have f4 := (HVR1.out).free 4
          have f5 := (HVR1.out).free 5
          clear hlt hqN hvo hro
          go_wp2_with fail
          refine bodyPost_ret (results_v rfl _ _ (g + 3) rfl (put_in 6 false 0 ⟨#[]⟩ (.slice OA (E q).1.length oc) (.slice OB (E q).2.length od) HVR1.out)) rfl ?_
          rw [HEND.out.1, HEND.out.2]
          refine ⟨put_ext 6 false 0 ⟨#[]⟩ (.slice OA (E q).1.length oc) (.slice OB (E q).2.length od) (HX1.out.trans HXR.out) (by have := HGW.out; omega), _, _, _, _, _, _, _, _, _, _, LA, lc, rfl, ?_, ?_⟩
          · exact (HRO1.out.keep (fun b hb _ => put_heap _ _ _ _ _ _ _ b (by have := hb.1.2; omega)) (fun b hb _ => hb.1.1)).rv
          · exact (hR.out.2.2.2.keep (fun b e => put_heap _ _ _ _ _ _ _ b (by have := (hR.out.2.2.2.block b e).1; omega))).low (by have := HGW.out; omega)
end Go.Proofs.YtnccefeehkcneaaGreatDoor.Jm
