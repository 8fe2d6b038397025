/-
  Schemas, the reference's faults: its box of faults, the closures that tell.
  Schemas, the reference's faults: what it answers; the lists of an object's faults.
-/
import Derived.Test.YtnccefeehkcneaaGreatDoorSci
namespace Go.Proofs.YtnccefeehkcneaaGreatDoor.Sc
open Go Go.RowKit Go.Proofs.YtnccefeehkcneaaGreatDoor.Js Go.Proofs.YtnccefeehkcneaaGreatDoor.Sx Go.Proofs.YtnccefeehkcneaaGreatDoor.Pt Go.Proofs.YtnccefeehkcneaaGreatDoor.Jm Go.Proofs.YtnccefeehkcneaaGreatDoor.Gr Go.Proofs.YtnccefeehkcneaaGreatDoor.Ur
/-! ### The box of faults -/
def OutF (k : Nat) (w : World) (b : Nat) : Prop := b ≠ k ∧ ∀ v, w.heap[k]? = some (.cells #[v] fltsT (0, 0)) → v.ownBlock ≠ some b
theorem outF_of {k b : Nat} {w : World} {v : Value} (h : w.heap[k]? = some (.cells #[v] fltsT (0, 0))) : OutF k w b ↔ b ≠ k ∧ v.ownBlock ≠ some b := by
  refine ⟨fun ⟨h1, h2⟩ => ⟨h1, h2 v h⟩, fun ⟨h1, h2⟩ => ⟨h1, fun v' h3 => ?_⟩⟩
  rw [h] at h3
  injection h3 with h3
  injection h3 with h3
  have : v = v' := by injection h3 with h3; injection h3
  rw [← this]
  exact h2
def OutI (k : Nat) (w0 w : World) (fs : List (ByteArray × Int)) : Prop := Ext w0 w ∧ ∃ A c, w.heap[k]? = some (.cells #[.slice A fs.length c] fltsT (0, 0)) ∧ GRow fltT 2 (k + 1) w (.slice A fs.length c) (fltsV fs)
section
variable {k : Nat} {w0 w w' : World} {fs fs' : List (ByteArray × Int)}
theorem OutI.ext (h : OutI k w0 w fs) (hx : Ext w w') : OutI k w0 w' fs ∧ OutF k w' = OutF k w := by
  obtain ⟨h1, A, c, h3, h4⟩ := h
  have h5 : w'.heap[k]? = some (.cells #[.slice A fs.length c] fltsT (0, 0)) := (hx.block k (heap_lt h3)).trans h3
  refine ⟨⟨h1.trans hx, A, c, h5, h4.ext hx⟩, funext fun b => propext ?_⟩
  rw [outF_of h3, outF_of h5]
theorem OutI.new (h : OutI k w0 w fs) {b : Nat} (hb : w.heap.size ≤ b) : OutF k w b := by
  obtain ⟨h1, A, c, h3, h4⟩ := h
  exact (outF_of h3).2 ⟨fun e => by have := heap_lt h3; omega, fun e => by have := (h4.block b e).2; omega⟩
theorem OutI.old (h : OutI k w0 w fs) {b : Nat} (hb : b < k) : OutF k w b := by
  obtain ⟨h1, A, c, h3, h4⟩ := h
  exact (outF_of h3).2 ⟨by omega, fun e => by have := (h4.block b e).1; omega⟩
theorem OutI.turn (h : OutI k w0 w fs) (hx : Ext w w') : Trn (OutF k) w w' := ⟨hx.mono (Nat.zero_le _), fun b hb hF => ⟨hx.block b hb, by rw [(h.ext hx).2]; exact hF⟩⟩
/-- Faults come. -/
theorem out_put {V w9 : World} {ys : List (ByteArray × Int)} {A A9 : Option Addr} {c c9 M m : Nat} (hk : w0.heap.size = k) (hx0 : Ext w0 w) (h3 : w.heap[k]? = some (.cells #[.slice A M c] fltsT (0, 0))) (hr : GRow fltT 2 (k + 1) w (.slice A M c) (fltsV fs)) (hM : M = fs.length) (hm : m = ys.length) (hV : Ext w V)
    (h9 : GRow fltT 2 (k + 1) w9 (.slice A9 (M + m) c9) (fltsV fs ++ fltsV ys)) (g9 : V.grownBy w9 (Value.slice A M c).ownBlock) (o9 : (Value.slice A9 (M + m) c9).ownBlock = (Value.slice A M c).ownBlock ∨ (Value.slice A9 (M + m) c9).ownBlock = some V.heap.size) :
    Trn (OutF k) w (w9.setCell ⟨k, 0, none⟩ (.slice A9 (M + m) c9)) ∧ OutI k w0 (w9.setCell ⟨k, 0, none⟩ (.slice A9 (M + m) c9)) (fs ++ ys) := by
  have hb9 : w9.heap[k]? = some (.cells #[.slice A M c] fltsT (0, 0)) := (g9.block k (Nat.lt_of_lt_of_le (heap_lt h3) hV.size) (fun e => by have := (hr.block k e.symm).1; omega)).trans ((hV.block k (heap_lt h3)).trans h3)
  have hkb : (w9.setCell ⟨k, 0, none⟩ (.slice A9 (M + m) c9)).heap[k]? = some (.cells #[.slice A9 (M + m) c9] fltsT (0, 0)) := heap_setCell_same w9 k 0 _ fltsT _ hb9
  have hown : ∀ b, (Value.slice A9 (M + m) c9).ownBlock = some b → k + 1 ≤ b := fun b e => (h9.block b e).1
  have hB : Below 0 w w9 := ⟨g9.os.trans hV.os, g9.tape.trans hV.tape, g9.output.trans hV.output, Nat.le_trans hV.size g9.size, fun j hj => absurd hj (Nat.not_lt_zero _)⟩
  refine ⟨⟨Below.setCell hB (Nat.zero_le _) _, fun b hb hF => ?_⟩, ?_, A9, c9, ?_, ?_⟩
  · obtain ⟨f1, f2⟩ := (outF_of h3).1 hF
    refine ⟨((set_heap _ _ _ _ _ f1).trans (g9.block b (Nat.lt_of_lt_of_le hb hV.size) (fun e => f2 e.symm))).trans (hV.block b hb), (outF_of hkb).2 ⟨f1, fun e => ?_⟩⟩
    rcases o9 with o | o
    · exact f2 (o.symm.trans e)
    · rw [o] at e
      injection e with e
      have := hV.size
      omega
  · exact ext_setCell (ext_row (hx0.trans hV) g9 (fun b e => by have := (hr.block b e).1; omega)) (Nat.le_of_eq hk)
  · have e : (fs ++ ys).length = M + m := by rw [List.length_append, hM, hm]
    rw [e]
    exact hkb
  · have e : (fs ++ ys).length = M + m := by rw [List.length_append, hM, hm]
    have e2 : fltsV (fs ++ ys) = fltsV fs ++ fltsV ys := List.map_append
    rw [e, e2]
    exact h9.keep (fun b e => set_heap _ _ _ _ _ (by have := hown b e; omega))
end
def OutPost (k : Nat) (w0 w : World) (fs : List (ByteArray × Int)) (e : Ending) (w' : World) : Prop := e = .returned (.tuple #[]) ∧ Trn (OutF k) w w' ∧ OutI k w0 w' fs
theorem way_copy {F : Nat → Prop} {w : World} {A : Option Addr} {c : Nat} {ws : List ByteArray} (h : WayAt F w A ws) (hl : ws.length ≤ 1000000) :
    Calls Tryz.prog 83 #[.slice A ws.length c] w fun e w' => ∃ A' c', e = .returned (.slice A' ws.length c') ∧ GRow 9 1 w.heap.size w' (.slice A' ws.length c') (Jm.one (strVals ws)) ∧ Ext w w' := by
  have hsrc : SrcS w (.slice A ws.length c) ws := by
    cases ws with
    | nil =>
      cases A with
      | none => exact .inl ⟨c, rfl, rfl⟩
      | some a => exact .inr ⟨a, c, rfl, fun j u hj => by cases j <;> cases hj⟩
    | cons x r =>
      obtain ⟨g, off, rfl, _⟩ := h 0 (by simp)
      refine .inr ⟨_, c, rfl, fun j u hj => ?_⟩
      have hjl : j < (x :: r).length := by have := (List.getElem?_eq_some_iff.1 hj).1; rwa [strVals_len] at this
      obtain ⟨g', off', e, _, hc, _⟩ := h j hjl
      injection e with e
      injection e with e1 e2
      subst e1 e2
      unfold strVals at hj
      rw [List.getElem?_map, List.getElem?_eq_getElem hjl] at hj
      injection hj with hj
      rw [Addr.add_lit, hc, ← hj]
  exact (copyS_any w.heap.size (.slice A ws.length c) ws w hsrc (by omega) (Nat.le_refl _)).mono fun e w' ⟨A', c', h2, h3, h4, _⟩ => ⟨A', c', h2, by
    have h5 : SRow w.heap.size w' (.slice A' ws.length c') ws := h3
    refine GRow.of_owns (n := ws.length) (one_sized fun u hu => by unfold strVals at hu; obtain ⟨s, _, rfl⟩ := List.mem_map.1 hu; rfl) (by rw [one_len, strVals_len]) ?_
    rw [one_flat]
    exact h5.owns, h4⟩
set_option maxRecDepth 100000 in
set_option maxHeartbeats 2000000 in
theorem below_any (kw : Nat) (A : Option Addr) (c : Nat) (ws : List ByteArray) (s : ByteArray) (w : World) (hk : w.cell? ⟨kw, 0, none⟩ = some (.slice A ws.length c)) (h : WayAt (fun _ => True) w A ws) (hl : ws.length ≤ 1000000) (hz : s.size ≤ 1048576) :
    Calls Tryz.prog 82 #[.string s, .pointer (some ⟨kw, 0, none⟩)] w fun e w' => ∃ A' c', e = .returned (.slice A' (ws.length + 1) c') ∧ WayAt (fun b => w.heap.size ≤ b) w' A' (ws ++ [s]) ∧ Ext w w' := by
  have CC := Lib.hid (way_copy (c := c) h hl)
  have HZ : Hid (∀ t ∈ ws ++ [s], t.size ≤ 1048576) := fun t ht => by
    rcases List.mem_append.1 ht with ht | ht
    · exact h.sizes t ht
    · rw [List.mem_singleton] at ht; rw [ht]; exact hz
  obtain ⟨N, hN⟩ : ∃ N, N = ws.length := ⟨_, rfl⟩
  have HN := Lib.hid hN
  have hNs : N ≤ 1000000 := by omega
  rw [← hN] at CC hk ⊢
  clear h hl hz hN
  go_enter Tryz.func82, Tryz.ntmps82
  go_wp2_with fail
  refine Calls.mono CC.out ?_
  rintro e w2 ⟨A2, c2, rfl, h2, x2⟩
  have H2 := Lib.hid h2
  have X2 := Lib.hid x2
  clear h2 x2 hk
  go_wp2_with (at_builtin; refine append_g ty_strs rfl _ _ (by rfl) w.heap.size N 1 _ (.slice A2 N c2) (.slice (some ⟨w2.heap.size, 0, none⟩) 1 1) (Jm.one (strVals ws)) [[.string s]] (by rfl) (by rfl) (H2.out.ext (new_ext _ _)) (GSrc.one rfl (by simp [Value.oneCell']) (heap_new rfl)) (by rw [one_len, strVals_len]; exact HN.out.symm) rfl (by omega) (Nat.le_trans X2.out.size (new_ext _ _).size) ?_; intro A9 c9 w9 h9 g9 o9; have H9 := Lib.hid h9; have X9 : Hid (Ext w w9) := ext_row (X2.out.trans (new_ext _ _)) g9 (fun b e => (H2.out.block b e).1); clear h9 g9 o9)
  go_ret
  refine ⟨A9, c9, rfl, way_grow (n := N + 1) (c := c9) (by
    have e : strVals (ws ++ [s]) = strVals ws ++ [.string s] := by unfold strVals; rw [List.map_append]; rfl
    rw [e, one_app]
    exact H9.out) HZ.out, X9.out⟩
set_option maxRecDepth 100000 in
set_option maxHeartbeats 4000000 in
theorem tellf_any (k kf kw : Nat) (w0 w : World) (fs : List (ByteArray × Int)) (A : Option Addr) (c : Nat) (ws : List ByteArray) (s : ByteArray) (er : Int) (hk : w0.heap.size = k) (hi : OutI k w0 w fs) (hkf : w.cell? ⟨kf, 0, none⟩ = some (.func (.func 82) #[] #[.pointer (some ⟨kw, 0, none⟩)])) (hkw : w.cell? ⟨kw, 0, none⟩ = some (.slice A ws.length c)) (h : WayAt (fun _ => True) w A ws) (hl : ws.length + 1 ≤ 1000000) (hz : s.size ≤ 1048576) (hf : fs.length ≤ 3000000) :
    Calls Tryz.prog 84 #[.string s, .int .i64 er, .pointer (some ⟨kf, 0, none⟩), .pointer (some ⟨k, 0, none⟩)] w (OutPost k w0 w (fs ++ [(joinV (ws ++ [s]), er)])) := by
  have CB := Lib.hid (below_any kw A c ws s w hkw h (by omega) hz)
  have CJ : Hid (∀ (W : World) (A' : Option Addr) (c' : Nat) (F : Nat → Prop), WayAt F W A' (ws ++ [s]) → Calls Tryz.prog 80 #[.slice A' (ws.length + 1) c'] W (JoinsPost W (ws ++ [s]))) := fun W A' c' F hw => by
    have h := rjoins_any W.heap.size (.slice A' (ws ++ [s]).length c') (ws ++ [s]) W (hw.strs (by rw [List.length_append]; simp; omega))
    rw [List.length_append] at h
    exact h
  have HI := Lib.hid hi
  have HK := Lib.hid hk
  obtain ⟨hx0, A1, c1, h3, hr⟩ := hi
  obtain ⟨N, hN⟩ : ∃ N, N = ws.length := ⟨_, rfl⟩
  obtain ⟨M, hM⟩ : ∃ M, M = fs.length := ⟨_, rfl⟩
  have HM := Lib.hid hM
  have hMs : M ≤ 3000000 := by omega
  rw [← hN] at CB CJ
  rw [← hM] at h3 hr
  have H3 := Lib.hid h3
  have HR := Lib.hid hr
  have HX0 := Lib.hid hx0
  obtain ⟨jx, hjx⟩ : ∃ j, j = joinV (ws ++ [s]) := ⟨_, rfl⟩
  have HJX := Lib.hid hjx
  unfold JoinsPost at CJ
  rw [← hjx] at CJ
  clear hx0 h3 hr h hl hz hf hN hM hjx hk hkw
  go_enter Tryz.func84, Tryz.ntmps84
  go_wp2_with fail
  refine Calls.mono CB.out ?_
  rintro e w2 ⟨A2, c2, rfl, h2, x2⟩
  have X2 := Lib.hid x2
  have C2 := Lib.hid (CJ.out w2 A2 c2 _ h2)
  clear h2 x2 hkf
  go_wp2_with fail
  refine Calls.mono C2.out ?_
  rintro e w3 ⟨rfl, x3⟩
  have X3 : Hid (Ext w w3) := X2.out.trans x3
  have hb3 : w3.heap[k]? = some (.cells #[.slice A1 M c1] fltsT (0, 0)) := (X3.out.block k (heap_lt H3.out)).trans H3.out
  have HB3 := Lib.hid hb3
  have HR3 := Lib.hid (HR.out.ext X3.out)
  have z0 : w3.cell? ⟨k, 0, none⟩ = some (.slice A1 M c1) := cell_of hb3 0
  clear x3 hb3
  go_wp2_with (at_builtin; refine append_g ty_flts rfl _ _ (by rfl) (k + 1) M 1 _ (.slice A1 M c1) (.slice (some ⟨w3.heap.size, 0, none⟩) 1 1) (fltsV fs) [[.string jx, .int .i64 er]] (by rfl) (by rfl) (HR3.out.ext (new_ext _ _)) (GSrc.one rfl (by simp [Value.oneCell']) (heap_new rfl)) (by rw [flts_len]; exact HM.out.symm) rfl (by omega) (Nat.le_trans (Nat.succ_le_of_lt (heap_lt HB3.out)) (new_ext _ _).size) ?_; intro A9 c9 w9 h9 g9 o9; have hb9 : w9.heap[k]? = some (.cells #[.slice A1 M c1] fltsT (0, 0)) := (g9.block k (Nat.lt_of_lt_of_le (heap_lt HB3.out) (new_ext _ _).size) (fun e => by have := (HR3.out.block k e.symm).1; omega)).trans (((new_ext w3 _).block k (heap_lt HB3.out)).trans HB3.out); have y0 := cell_of hb9 0; have y1 : w9.frozen? ⟨k, 0, none⟩ = false := frozen_of hb9; have H9 := Lib.hid (And.intro h9 (And.intro g9 o9)); clear h9 g9 o9 hb9)
  go_end0
  obtain ⟨h9, g9, o9⟩ := H9.out
  have hp := out_put (ys := [(joinV (ws ++ [s]), er)]) HK.out HX0.out H3.out HR.out HM.out rfl (X3.out.trans (new_ext w3 (.cells #[.string jx, .int .i64 er] 31 (0, 0)))) (by rw [HJX.out] at h9; exact h9) g9 o9
  exact ⟨rfl, hp.1, hp.2⟩
end Go.Proofs.YtnccefeehkcneaaGreatDoor.Sc
namespace Go.Proofs.YtnccefeehkcneaaGreatDoor.Sc
open Go Go.RowKit Go.Proofs.YtnccefeehkcneaaGreatDoor.Js Go.Proofs.YtnccefeehkcneaaGreatDoor.Sx Go.Proofs.YtnccefeehkcneaaGreatDoor.Pt Go.Proofs.YtnccefeehkcneaaGreatDoor.Jm Go.Proofs.YtnccefeehkcneaaGreatDoor.Gr Go.Proofs.YtnccefeehkcneaaGreatDoor.Ur
def RFlt (fs : List (ByteArray × Int)) (w : World) (e : Ending) (w' : World) : Prop := Ext w w' ∧ ∃ B d, e = .returned (.slice B fs.length d) ∧ GRow fltT 2 w.heap.size w' (.slice B fs.length d) (fltsV fs)
def RFaultC (v : J) : Prop := ∀ (s : List PartS) (i : Nat) (sv : Value) (cs : List Value) (w : World) (F F' : Nat → Prop) (A : Option Addr) (c : Nat) (ws : List ByteArray), PartsR w.heap.size w sv s → GoodS s → s.length ≤ 30 → i < s.length → RV F w v cs → WJ v → WayAt F' w A ws → ws.length + bulkJ v ≤ 1000000 → bulkJ v ≤ 1000000 →
  Calls Tryz.prog 30 #[sv, .int .i64 (i : Int), .agg cs.toArray, .slice A ws.length c] w (RFlt (faultsS s v i ws) w)
theorem sameD_iff {v j : J} {d : ByteArray} (hv : WJ v) (hd : readS d.data.toList = .ok j) : sameD v d = true ↔ v = j := by
  have hj := (readS_good hd).1
  unfold sameD
  rw [hd]
  simp only [beq_iff_eq]
  exact ⟨fun h => text_inj (WJ.ok _ hv) (WJ.ok _ hj) h, fun h => by rw [h]⟩
theorem head_cells (p : PartS) (v : J) (ws : List ByteArray) (L1 : List (ByteArray × Int)) : (L1 ++ match lenJ v with | some n => spanS p n (joinV ws) | none => []) = if 3 ≤ kindJ v ∧ kindJ v ≤ 5 then L1 ++ spanS p (if kindJ v = 4 then ((txtJ v).length : Int) else if kindJ v = 5 then ((kidsJ v).length : Int) else numJ v) (joinV ws) else L1 := by
  cases v <;> simp [kindJ, lenJ, numJ, txtJ, kidsJ]
theorem rflt_done {ko : Nat} {w w2 w3 W : World} {L : List (ByteArray × Int)} {A : Option Addr} {c M : Nat} (h2 : Ext w w2) (h3 : Ext w2 w3) (hko : w.heap.size ≤ ko) (hM : M = L.length) (hx : Ext w3 W) (hr : GRow fltT 2 (ko + 1) W (.slice A M c) (fltsV L)) : RFlt L w (.returned (.slice A M c)) W := by
  rw [hM] at hr ⊢
  exact ⟨h2.trans (h3.trans hx), A, c, rfl, hr.low (by omega)⟩
theorem strs_names {F : Nat → Prop} {w : World} {A : Option Addr} {c : Nat} {ns : List Tx} (h : NamesAt F w A ns) (hn : ns.length ≤ 1000000) (hz : ∀ s ∈ ns, s.length ≤ 1048576) : StrsR w.heap.size w (.slice A ns.length c) (ns.map bx) := by
  refine ⟨by rw [List.length_map]; omega, A, c, by rw [List.length_map], fun i hi => ?_⟩
  have hi' : i < ns.length := by simpa using hi
  obtain ⟨g, off, hA, _, hc⟩ := h i hi'
  refine ⟨g, off, [.string (bx ns[i])], hA, cell_lt hc, rfl, ⟨by simp, by rw [List.getElem_map, bx_size]; exact hz _ (List.getElem_mem hi')⟩, fun k u hu => ?_⟩
  have hk : k = 0 := by have := (List.getElem?_eq_some_iff.1 hu).1; simp at this; exact this
  subst hk
  simp only [List.getElem?_cons_zero, Option.some.injEq] at hu
  rw [Nat.mul_one, Nat.add_zero, hc, hu]
def ObjLists (fs : List (ByteArray × Int)) (p : PartS) (o : Ob) (s : List PartS) (ws : List ByteArray) (NE UN OB : Nat → List (ByteArray × Int)) : Prop :=
  (NE 0 = fs ∧ (∀ j (h : j < p.need.length), NE (j + 1) = NE j ++ needE o.1 ws p.need[j]) ∧ (∀ j, (NE j).length ≤ 2900000) ∧ ∀ j, j = p.need.length → NE j = UN 0) ∧
  ((∀ j (h : j < o.1.length), UN (j + 1) = UN j ++ unkE p ws o.1[j]) ∧ (∀ j, (UN j).length ≤ 2900000) ∧ ∀ j, j = o.1.length → UN j = OB 0) ∧
  ((∀ j (h1 : j < o.1.length) (h2 : j < o.2.length), OB (j + 1) = OB j ++ (match partOf p.fields (bx o.1[j]) with | none => [] | some q => faultsS s o.2[j] q.toNat (ws ++ [bx o.1[j]])) ∧ (OB j).length + bulkJ o.2[j] ≤ 2900000) ∧ ∀ j, j = o.1.length → OB j = fs ++ (needF p o.1 ws ++ unkF p o.1 ws ++ objW (fun x q w => faultsS s x q w) p.fields ws (o.1.zip o.2)))
theorem obj_lists (fs : List (ByteArray × Int)) (p : PartS) (o : Ob) (s : List PartS) (ws : List ByteArray) (hO : WO o) (hpn : p.need.length ≤ 8) (hgn : ∀ k, (partAt s k).need.length ≤ 8) (hf : fs.length + 8 + o.1.length + sumB o.2 ≤ 2900000) : ∃ NE UN OB, ObjLists fs p o s ws NE UN OB := by
  have hol := hO.len
  obtain ⟨NE, hNE⟩ : ∃ NE : Nat → List (ByteArray × Int), ∀ j, NE j = fs ++ (p.need.take j).flatMap (needE o.1 ws) := ⟨_, fun _ => rfl⟩
  obtain ⟨UN, hUN⟩ : ∃ UN : Nat → List (ByteArray × Int), ∀ j, UN j = fs ++ needF p o.1 ws ++ (o.1.take j).flatMap (unkE p ws) := ⟨_, fun _ => rfl⟩
  obtain ⟨OB, hOB⟩ : ∃ OB : Nat → List (ByteArray × Int), ∀ j, OB j = fs ++ needF p o.1 ws ++ unkF p o.1 ws ++ objW (fun x q w => faultsS s x q w) p.fields ws ((o.1.zip o.2).take j) := ⟨_, fun _ => rfl⟩
  have hneS : ∀ t, (needE o.1 ws t).length ≤ 1 := fun t => by unfold needE; split <;> simp
  have hunS : ∀ t, (unkE p ws t).length ≤ 1 := fun t => by unfold unkE; split <;> simp
  have HNE : (NE 0 = fs ∧ (∀ j (h : j < p.need.length), NE (j + 1) = NE j ++ needE o.1 ws p.need[j]) ∧ (∀ j, (NE j).length ≤ 2900000) ∧ ∀ j, j = p.need.length → NE j = UN 0) := by
    refine ⟨by rw [hNE]; simp, fun j h => by rw [hNE, hNE, flat_take _ _ _ h, List.append_assoc], fun j => ?_, fun j h => ?_⟩
    · rw [hNE, List.length_append]
      have h1 := flat_many _ hneS (p.need.take j)
      rw [List.length_take] at h1
      omega
    · rw [hNE, hUN, h, List.take_length, needF_eq]
      simp
  have HUN : ((∀ j (h : j < o.1.length), UN (j + 1) = UN j ++ unkE p ws o.1[j]) ∧ (∀ j, (UN j).length ≤ 2900000) ∧ ∀ j, j = o.1.length → UN j = OB 0) := by
    refine ⟨fun j h => by rw [hUN, hUN, flat_take _ _ _ h]; simp only [List.append_assoc], fun j => ?_, fun j h => ?_⟩
    · rw [hUN, List.length_append, List.length_append]
      have h1 := flat_many _ hunS (o.1.take j)
      have h2 := needF_many p o.1 ws
      rw [List.length_take] at h1
      omega
    · rw [hUN, hOB, h, List.take_length, unkF_eq]
      simp [objW]
  have HOB : ((∀ j (h1 : j < o.1.length) (h2 : j < o.2.length), OB (j + 1) = OB j ++ (match partOf p.fields (bx o.1[j]) with | none => [] | some q => faultsS s o.2[j] q.toNat (ws ++ [bx o.1[j]])) ∧ (OB j).length + bulkJ o.2[j] ≤ 2900000) ∧ ∀ j, j = o.1.length → OB j = fs ++ (needF p o.1 ws ++ unkF p o.1 ws ++ objW (fun x q w => faultsS s x q w) p.fields ws (o.1.zip o.2))) := by
    refine ⟨fun j h1 h2 => ⟨?_, ?_⟩, fun j h => ?_⟩
    · have hz : j < (o.1.zip o.2).length := by rw [List.length_zip]; omega
      rw [hOB, hOB, List.take_succ_eq_append_getElem hz, objW_snoc, List.getElem_zip]
      simp only [List.append_assoc]
      rfl
    · rw [hOB, List.length_append, List.length_append, List.length_append]
      have h3 := needF_many p o.1 ws
      have h4 := unkF_many p o.1 ws
      have h5 := objW_few (F := fun x q w => faultsS s x q w) p.fields ws ((o.1.zip o.2).take j) fun x hx q w => faults_many hgn x.2 (hO.vals x.2 (List.of_mem_zip (List.mem_of_mem_take hx)).2) q w
      have h6 : (((o.1.zip o.2).take j).map fun x => bulkJ x.2 + 1).sum + bulkJ o.2[j] + 1 ≤ sumB o.2 := by
        have hz : j < (o.1.zip o.2).length := by rw [List.length_zip]; omega
        have h7 := sum_take_le (fun x : Tx × J => bulkJ x.2 + 1) (o.1.zip o.2) (j + 1)
        rw [List.take_succ_eq_append_getElem hz, List.map_append, List.sum_append, List.getElem_zip] at h7
        have h8 : ((o.1.zip o.2).map fun x => bulkJ x.2 + 1).sum = sumB o.2 := by
          have e : (o.1.zip o.2).map Prod.snd = o.2 := List.map_snd_zip (by omega)
          unfold sumB
          conv => rhs; rw [← e, List.map_map]
          rfl
        rw [h8] at h7
        simp only [List.map_cons, List.map_nil, List.sum_cons, List.sum_nil] at h7
        omega
      omega
    · rw [hOB, List.take_of_length_le (by rw [List.length_zip]; omega)]
      simp only [List.append_assoc]
  exact ⟨NE, UN, OB, HNE, HUN, HOB⟩
end Go.Proofs.YtnccefeehkcneaaGreatDoor.Sc
