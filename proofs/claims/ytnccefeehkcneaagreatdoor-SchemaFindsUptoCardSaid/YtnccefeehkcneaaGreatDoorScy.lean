/-
  Schemas, the program's look at a document: its box, fault, span, step.
  Schemas, the program's look: step, span, field.
  Schemas, the program: field; slices.ContainsFunc over texts that are read, over fields.
  Schemas, the program's checker: need, document, the closure 'behind'.
-/
import Derived.Test.YtnccefeehkcneaaGreatDoorScx
import Derived.Test.YtnccefeehkcneaaGreatDoorTmc
import Derived.Test.YtnccefeehkcneaaGreatDoorOfg
import Derived.Test.YtnccefeehkcneaaGreatDoorPjn
namespace Go.Proofs.YtnccefeehkcneaaGreatDoor.Sc
open Go Go.RowKit Go.Proofs.YtnccefeehkcneaaGreatDoor.Js Go.Proofs.YtnccefeehkcneaaGreatDoor.Sx Go.Proofs.YtnccefeehkcneaaGreatDoor.Pt Go.Proofs.YtnccefeehkcneaaGreatDoor.Jm Go.Proofs.YtnccefeehkcneaaGreatDoor.Gr Go.Proofs.YtnccefeehkcneaaGreatDoor.Ur
abbrev lookT : Nat := 68
abbrev fltT : Nat := 31
abbrev fltsT : Nat := 26
theorem ty_flts : GTy fltsT fltT 2 24 (.agg #[.string ⟨#[]⟩, .int .i64 0]) := ⟨Tryz.underlying26, by kernel_rfl, rfl, by omega, by omega⟩
def Trn (Fp : World → Nat → Prop) (w w' : World) : Prop := Below 0 w w' ∧ ∀ b, b < w.heap.size → Fp w b → w'.heap[b]? = w.heap[b]? ∧ Fp w' b
section
variable {Fp : World → Nat → Prop} {w w' w'' : World}
theorem Trn.refl : Trn Fp w w := ⟨Below.refl _ _, fun _ _ h => ⟨rfl, h⟩⟩
theorem Trn.trans (h : Trn Fp w w') (k : Trn Fp w' w'') : Trn Fp w w'' := ⟨h.1.trans k.1, fun b hb hF => by
  obtain ⟨h1, h2⟩ := h.2 b hb hF
  obtain ⟨k1, k2⟩ := k.2 b (Nat.lt_of_lt_of_le hb h.1.size) h2
  exact ⟨k1.trans h1, k2⟩⟩
theorem Trn.pv {j : J} {u : Value} (h : Trn Fp w w') (hp : PV (Fp w) w j u) : PV (Fp w') w' j u := PV.keep (fun b hb hlt => (h.2 b hlt hb).1) (fun b hb hlt => (h.2 b hlt hb).2) _ _ hp
theorem Trn.of {b : Nat} {a : Ob} (h : Trn Fp w w') (hp : OF (Fp w) w b a) : OF (Fp w') w' b a := hp.keep (fun b hb hlt => (h.2 b hlt hb).1) (fun b hb hlt => (h.2 b hlt hb).2)
theorem Trn.size (h : Trn Fp w w') : w.heap.size ≤ w'.heap.size := h.1.size
end
def WayAt (F : Nat → Prop) (w : World) (A : Option Addr) (ws : List ByteArray) : Prop := ∀ i (hi : i < ws.length), ∃ g off, A = some ⟨g, off, none⟩ ∧ F g ∧ w.cell? ⟨g, off + i, none⟩ = some (.string ws[i]) ∧ ws[i].size ≤ 1048576
section
variable {F F' : Nat → Prop} {w w' : World} {A : Option Addr} {ws : List ByteArray}
theorem WayAt.keep (h : WayAt F w A ws) (h1 : ∀ b, F b → b < w.heap.size → w'.heap[b]? = w.heap[b]?) (h2 : ∀ b, F b → b < w.heap.size → F' b) : WayAt F' w' A ws := fun i hi => by
  obtain ⟨g, off, hA, hF, hc, hz⟩ := h i hi
  have hlt := cell_lt hc
  exact ⟨g, off, hA, h2 g hF hlt, (cell_keep (h1 g hF hlt)).trans hc, hz⟩
theorem WayAt.ext (h : WayAt F w A ws) (hx : Ext w w') : WayAt F w' A ws := h.keep (fun b _ hb => hx.block b hb) fun _ h _ => h
theorem WayAt.strs {c : Nat} (h : WayAt F w A ws) (hn : ws.length ≤ 1000000) : StrsR w.heap.size w (.slice A ws.length c) ws := by
  refine ⟨by omega, A, c, rfl, fun i hi => ?_⟩
  obtain ⟨g, off, hA, _, hc, hz⟩ := h i hi
  refine ⟨g, off, [.string ws[i]], hA, cell_lt hc, rfl, ⟨rfl, hz⟩, fun k u hu => ?_⟩
  have hk : k = 0 := by have := (List.getElem?_eq_some_iff.1 hu).1; simp at this; exact this
  subst hk
  simp only [List.getElem?_cons_zero, Option.some.injEq] at hu
  rw [Nat.mul_one, Nat.add_zero, hc, hu]
end
theorem Trn.way {Fp : World → Nat → Prop} {w w' : World} {A : Option Addr} {ws : List ByteArray} (h : Trn Fp w w') (hp : WayAt (Fp w) w A ws) : WayAt (Fp w') w' A ws := hp.keep (fun b hb hlt => (h.2 b hlt hb).1) (fun b hb hlt => (h.2 b hlt hb).2)
def fltV (f : ByteArray × Int) : List Value := [.string f.1, .int .i64 f.2]
def fltsV (fs : List (ByteArray × Int)) : List (List Value) := fs.map fltV
theorem flts_len (fs : List (ByteArray × Int)) : (fltsV fs).length = fs.length := List.length_map ..
def LookF (k : Nat) (w : World) (b : Nat) : Prop := b ≠ k ∧ ∀ u v, w.heap[k]? = some (.cells #[u, v] lookT (0, 0)) → v.ownBlock ≠ some b
theorem lookF_of {k b : Nat} {w : World} {u v : Value} (h : w.heap[k]? = some (.cells #[u, v] lookT (0, 0))) : LookF k w b ↔ b ≠ k ∧ v.ownBlock ≠ some b := by
  refine ⟨fun ⟨h1, h2⟩ => ⟨h1, h2 u v h⟩, fun ⟨h1, h2⟩ => ⟨h1, fun u' v' h3 => ?_⟩⟩
  rw [h] at h3
  injection h3 with h3
  injection h3 with h3
  have : v = v' := by injection h3 with h3; injection h3 with _ h3; injection h3
  rw [← this]
  exact h2
def LookI (k : Nat) (sv : Value) (w0 w : World) (fs : List (ByteArray × Int)) : Prop := Ext w0 w ∧ ∃ A c, w.heap[k]? = some (.cells #[sv, .slice A fs.length c] lookT (0, 0)) ∧ GRow fltT 2 (k + 1) w (.slice A fs.length c) (fltsV fs)
section
variable {k : Nat} {sv : Value} {w0 w w' : World} {fs fs' : List (ByteArray × Int)}
theorem LookI.ext (h : LookI k sv w0 w fs) (hx : Ext w w') : LookI k sv w0 w' fs ∧ LookF k w' = LookF k w := by
  obtain ⟨h1, A, c, h3, h4⟩ := h
  have h5 : w'.heap[k]? = some (.cells #[sv, .slice A fs.length c] lookT (0, 0)) := (hx.block k (heap_lt h3)).trans h3
  refine ⟨⟨h1.trans hx, A, c, h5, h4.ext hx⟩, funext fun b => propext ?_⟩
  rw [lookF_of h3, lookF_of h5]
theorem LookI.new (h : LookI k sv w0 w fs) {b : Nat} (hb : w.heap.size ≤ b) : LookF k w b := by
  obtain ⟨h1, A, c, h3, h4⟩ := h
  exact (lookF_of h3).2 ⟨fun e => by have := heap_lt h3; omega, fun e => by have := (h4.block b e).2; omega⟩
theorem LookI.old (h : LookI k sv w0 w fs) {b : Nat} (hb : b < k) : LookF k w b := by
  obtain ⟨h1, A, c, h3, h4⟩ := h
  exact (lookF_of h3).2 ⟨by omega, fun e => by have := (h4.block b e).1; omega⟩
theorem LookI.turn (h : LookI k sv w0 w fs) (hx : Ext w w') : Trn (LookF k) w w' := ⟨hx.mono (Nat.zero_le _), fun b hb hF => ⟨hx.block b hb, by rw [(h.ext hx).2]; exact hF⟩⟩
end
/-- What a call leaves: faults came. -/
def LookPost (k : Nat) (sv : Value) (w0 w : World) (fs : List (ByteArray × Int)) (e : Ending) (w' : World) : Prop := e = .returned (.tuple #[]) ∧ Trn (LookF k) w w' ∧ LookI k sv w0 w' fs
set_option maxRecDepth 100000 in
set_option maxHeartbeats 4000000 in
theorem fault_any (k : Nat) (sv : Value) (w0 w : World) (fs : List (ByteArray × Int)) (hk : w0.heap.size = k) (hm : MaxC w0) (hi : LookI k sv w0 w fs) (A : Option Addr) (c : Nat) (ws : List ByteArray) (hw : WayAt (fun _ => True) w A ws) (hl : ws.length ≤ 1000000) (hf : fs.length ≤ 3000000) (er : Int) :
    Calls Tryz.prog 69 #[.pointer (some ⟨k, 0, none⟩), .slice A ws.length c, .int .i64 er] w (LookPost k sv w0 w (fs ++ [(joinV ws, er)])) := by
  obtain ⟨h1, A', c', h3, h4⟩ := hi
  have h2 := hm.ext h1
  have CJ := Lib.hid (joins_any w.heap.size (.slice A ws.length c) ws w (Nat.le_refl _) (hw.strs hl) h2)
  have H1 := Lib.hid h1
  have H3 := Lib.hid h3
  have H4 := Lib.hid h4
  obtain ⟨N, hN⟩ : ∃ N, N = ws.length := ⟨_, rfl⟩
  obtain ⟨M, hM⟩ : ∃ M, M = fs.length := ⟨_, rfl⟩
  have HM : Hid (M = fs.length) := hM
  have hMs : M ≤ 3000000 := by omega
  have HK : Hid (w0.heap.size = k) := hk
  obtain ⟨jx, hjx⟩ : ∃ j, j = joinV ws := ⟨_, rfl⟩
  have HJX := Lib.hid hjx
  have CJ2 : Hid (Calls Tryz.prog 48 #[.slice A N c] w fun e w' => e = .returned (.tuple #[.string jx, .int .i64 (joinE ws)]) ∧ Ext w w') := by unfold Hid; rw [hN, hjx]; exact CJ.out
  rw [← hM] at H3 H4
  rw [← hN]
  clear h1 h2 h3 h4 hw hl hf hN hM CJ hjx hk hm
  go_enter Tryz.func69, Tryz.ntmps69
  go_wp2_with fail
  refine Calls.mono CJ2.out ?_
  rintro e w2 ⟨rfl, x2⟩
  have X2 := Lib.hid x2
  have hb2 : w2.heap[k]? = some (.cells #[sv, .slice A' M c'] lookT (0, 0)) := (x2.block k (heap_lt H3.out)).trans H3.out
  have HB2 := Lib.hid hb2
  have HR2 := Lib.hid (H4.out.ext x2)
  have z0 : w2.cell? ⟨k, 1, none⟩ = some (.slice A' M c') := cell_of hb2 1
  clear x2 hb2
  go_wp2_with (at_builtin; refine append_g ty_flts rfl _ _ (by rfl) (k + 1) M 1 _ (.slice A' M c') (.slice (some ⟨w2.heap.size, 0, none⟩) 1 1) (fltsV fs) [[.string jx, .int .i64 er]] (by rfl) (by rfl) (HR2.out.ext (new_ext _ _)) (GSrc.one rfl (by simp [Value.oneCell']) (heap_new rfl)) (by rw [flts_len]; exact HM.out.symm) rfl (by omega) (Nat.le_trans (Nat.succ_le_of_lt (heap_lt HB2.out)) (new_ext _ _).size) ?_; intro A9 c9 w9 h9 g9 o9; have hb9 : w9.heap[k]? = some (.cells #[sv, .slice A' M c'] lookT (0, 0)) := (g9.block k (Nat.lt_of_lt_of_le (heap_lt HB2.out) (new_ext _ _).size) (fun e => by have := (HR2.out.block k e.symm).1; omega)).trans (((new_ext w2 _).block k (heap_lt HB2.out)).trans HB2.out); have y0 := cell_of hb9 1; have y1 : w9.frozen? ⟨k, 1, none⟩ = false := frozen_of hb9; have HB9 := Lib.hid hb9; have H9 := Lib.hid (And.intro h9 (And.intro g9 o9)); clear h9 g9 o9 hb9)
  go_end0
  obtain ⟨h9, g9, o9⟩ := H9.out
  have hV := X2.out.trans (new_ext w2 (.cells #[.string jx, .int .i64 er] 31 (0, 0)))
  have hkb : (w9.setCell ⟨k, 1, none⟩ (.slice A9 (M + 1) c9)).heap[k]? = some (.cells #[sv, .slice A9 (M + 1) c9] lookT (0, 0)) := heap_setCell_same w9 k 1 _ lookT _ HB9.out
  have hown : ∀ b, (Value.slice A9 (M + 1) c9).ownBlock = some b → k + 1 ≤ b := fun b e => (h9.block b e).1
  have hB : Below 0 w w9 := ⟨g9.os.trans hV.os, g9.tape.trans hV.tape, g9.output.trans hV.output, Nat.le_trans hV.size g9.size, fun j hj => absurd hj (Nat.not_lt_zero _)⟩
  refine ⟨rfl, ⟨Below.setCell hB (Nat.zero_le _) _, fun b hb hF => ?_⟩, ?_, A9, c9, ?_, ?_⟩
  · obtain ⟨f1, f2⟩ := (lookF_of H3.out).1 hF
    refine ⟨((set_heap _ _ _ _ _ f1).trans (g9.block b (Nat.lt_of_lt_of_le hb hV.size) (fun e => f2 e.symm))).trans (hV.block b hb), (lookF_of hkb).2 ⟨f1, fun e => ?_⟩⟩
    rcases o9 with o | o
    · exact f2 (o.symm.trans e)
    · rw [o] at e
      injection e with e
      have := hV.size
      omega
  · exact ext_setCell (ext_row (H1.out.trans hV) g9 (fun b e => by have := (HR2.out.block b e).1; have := HK.out; omega)) (Nat.le_of_eq HK.out)
  · have e : (fs ++ [(joinV ws, er)]).length = M + 1 := by rw [List.length_append, ← HM.out]; rfl
    rw [e]
    exact hkb
  · have e : (fs ++ [(joinV ws, er)]).length = M + 1 := by rw [List.length_append, ← HM.out]; rfl
    have e2 : fltsV (fs ++ [(joinV ws, er)]) = fltsV fs ++ [[.string jx, .int .i64 er]] := by
      unfold fltsV
      rw [List.map_append, HJX.out]
      rfl
    rw [e, e2]
    exact h9.keep (fun b e => set_heap _ _ _ _ _ (by have := hown b e; omega))
end Go.Proofs.YtnccefeehkcneaaGreatDoor.Sc
namespace Go.Proofs.YtnccefeehkcneaaGreatDoor.Sc
open Go Go.RowKit Go.Proofs.YtnccefeehkcneaaGreatDoor.Js Go.Proofs.YtnccefeehkcneaaGreatDoor.Sx Go.Proofs.YtnccefeehkcneaaGreatDoor.Pt Go.Proofs.YtnccefeehkcneaaGreatDoor.Jm Go.Proofs.YtnccefeehkcneaaGreatDoor.Gr Go.Proofs.YtnccefeehkcneaaGreatDoor.Ur
theorem way_grow {base : Nat} {w : World} {A : Option Addr} {n c : Nat} {ws : List ByteArray} (h : GRow 9 1 base w (.slice A n c) (Jm.one (strVals ws))) (hz : ∀ s ∈ ws, s.size ≤ 1048576) : WayAt (fun b => base ≤ b) w A ws := fun i hi => by
  obtain ⟨g, hA, _, hb, _, hcell⟩ := h.at_ (k := i) (by rw [one_len, strVals_len]; exact hi)
  refine ⟨g, 0, hA, hb, ?_, hz _ (List.getElem_mem hi)⟩
  have := hcell 0 (.string ws[i]) (by simp [Jm.one, strVals])
  rw [Nat.mul_one, Nat.add_zero] at this
  rw [Nat.zero_add]
  exact this
theorem WayAt.sizes {F : Nat → Prop} {w : World} {A : Option Addr} {ws : List ByteArray} (h : WayAt F w A ws) : ∀ s ∈ ws, s.size ≤ 1048576 := fun s hs => by
  obtain ⟨i, hi, rfl⟩ := List.mem_iff_getElem.1 hs
  obtain ⟨_, _, _, _, _, hz⟩ := h i hi
  exact hz
theorem WayAt.vals {F : Nat → Prop} {w : World} {A : Option Addr} {ws : List ByteArray} (h : WayAt F w A ws) : CellsAt w A (strVals ws) := fun i hi => by
  have hi' : i < ws.length := by rw [strVals_len] at hi; exact hi
  obtain ⟨g, off, hA, _, hc, _⟩ := h i hi'
  exact ⟨g, off, hA, by rw [hc]; simp [strVals]⟩
set_option maxRecDepth 100000 in
set_option maxHeartbeats 2000000 in
theorem step_any (A : Option Addr) (c : Nat) (ws : List ByteArray) (s : ByteArray) (w : World) (h : WayAt (fun _ => True) w A ws) (hl : ws.length ≤ 1000000) (hz : s.size ≤ 1048576) :
    Calls Tryz.prog 74 #[.slice A ws.length c, .string s] w fun e w' => ∃ A' c', e = .returned (.slice A' (ws.length + 1) c') ∧ WayAt (fun b => w.heap.size ≤ b) w' A' (ws ++ [s]) ∧ Ext w w' := by
  have CC := Lib.hid (clone_strs A ws.length c (strVals ws) w (strVals_len ws) (fun u hu => by unfold strVals at hu; obtain ⟨t, _, rfl⟩ := List.mem_map.1 hu; rfl) h.vals (by omega))
  have HZ : Hid (∀ t ∈ ws ++ [s], t.size ≤ 1048576) := fun t ht => by
    rcases List.mem_append.1 ht with ht | ht
    · exact h.sizes t ht
    · rw [List.mem_singleton] at ht; rw [ht]; exact hz
  obtain ⟨N, hN⟩ : ∃ N, N = ws.length := ⟨_, rfl⟩
  have HN := Lib.hid hN
  have hNs : N ≤ 1000000 := by omega
  rw [← hN] at CC ⊢
  clear h hl hz hN
  go_enter Tryz.func74, Tryz.ntmps74
  go_wp2_with fail
  refine Calls.mono CC.out ?_
  rintro e w2 ⟨A2, c2, rfl, h2, x2⟩
  have H2 := Lib.hid h2
  have X2 := Lib.hid x2
  clear h2 x2
  go_wp2_with (at_builtin; refine append_g ty_strs rfl _ _ (by rfl) w.heap.size N 1 _ (.slice A2 N c2) (.slice (some ⟨w2.heap.size, 0, none⟩) 1 1) (Jm.one (strVals ws)) [[.string s]] (by rfl) (by rfl) (H2.out.ext (new_ext _ _)) (GSrc.one rfl (by simp [Value.oneCell']) (heap_new rfl)) (by rw [one_len, strVals_len]; exact HN.out.symm) rfl (by omega) (Nat.le_trans X2.out.size (new_ext _ _).size) ?_; intro A9 c9 w9 h9 g9 o9; have H9 := Lib.hid h9; have X9 : Hid (Ext w w9) := ext_row (X2.out.trans (new_ext _ _)) g9 (fun b e => (H2.out.block b e).1); clear h9 g9 o9)
  go_ret
  refine ⟨A9, c9, rfl, way_grow (n := N + 1) (c := c9) (by
    have e : strVals (ws ++ [s]) = strVals ws ++ [.string s] := by unfold strVals; rw [List.map_append]; rfl
    rw [e, one_app]
    exact H9.out) HZ.out, X9.out⟩
abbrev partT : Nat := 62
def PBox (w : World) (g : Nat) (p : PartS) (v1 v2 v3 : Value) : Prop := w.heap[g]? = some (.cells #[.int .i64 p.kind, v1, v2, .bool p.extra, .int .i64 p.items, .int .i64 p.least, .int .i64 p.most, v3, .string p.dflt] partT (0, 0))
theorem PBox.ext {w w' : World} {g : Nat} {p : PartS} {v1 v2 v3 : Value} (h : PBox w g p v1 v2 v3) (hx : Ext w w') : PBox w' g p v1 v2 v3 := (hx.block g (heap_lt h)).trans h
theorem PBox.trn {w w' : World} {g : Nat} {p : PartS} {v1 v2 v3 : Value} {Fp : World → Nat → Prop} (h : PBox w g p v1 v2 v3) (ht : Trn Fp w w') (hF : Fp w g) : PBox w' g p v1 v2 v3 ∧ Fp w' g := by
  obtain ⟨h1, h2⟩ := ht.2 g (heap_lt h) hF
  exact ⟨h1.trans h, h2⟩
theorem PBox.at {w : World} {g : Nat} {p : PartS} {v1 v2 v3 : Value} (h : PBox w g p v1 v2 v3) : w.cell? ⟨g, 0, none⟩ = some (.int .i64 p.kind) ∧ w.cell? ⟨g, 1, none⟩ = some v1 ∧ w.cell? ⟨g, 2, none⟩ = some v2 ∧ w.cell? ⟨g, 3, none⟩ = some (.bool p.extra) ∧ w.cell? ⟨g, 4, none⟩ = some (.int .i64 p.items) ∧ w.cell? ⟨g, 5, none⟩ = some (.int .i64 p.least) ∧ w.cell? ⟨g, 6, none⟩ = some (.int .i64 p.most) ∧ w.cell? ⟨g, 7, none⟩ = some v3 ∧ w.cell? ⟨g, 8, none⟩ = some (.string p.dflt) :=
  ⟨cell_of h 0, cell_of h 1, cell_of h 2, cell_of h 3, cell_of h 4, cell_of h 5, cell_of h 6, cell_of h 7, cell_of h 8⟩
theorem span_two {p : PartS} {n : Int} {a : ByteArray} : spanS p n a = (if n < p.least then [(a, 1)] else []) ++ (if p.most < n then [(a, 2)] else []) := rfl
set_option maxRecDepth 100000 in
set_option maxHeartbeats 4000000 in
theorem span_any (k : Nat) (sv : Value) (w0 w : World) (fs : List (ByteArray × Int)) (hk : w0.heap.size = k) (hm : MaxC w0) (hi : LookI k sv w0 w fs) (p : PartS) (v1 v2 v3 : Value) (n : Int) (A : Option Addr) (c : Nat) (ws : List ByteArray) (hw : WayAt (LookF k w) w A ws) (hl : ws.length ≤ 1000000) (hf : fs.length ≤ 2999000) :
    Calls Tryz.prog 73 #[.pointer (some ⟨k, 0, none⟩), .agg #[.int .i64 p.kind, v1, v2, .bool p.extra, .int .i64 p.items, .int .i64 p.least, .int .i64 p.most, v3, .string p.dflt], .int .i64 n, .slice A ws.length c] w (LookPost k sv w0 w (fs ++ spanS p n (joinV ws))) := by
  obtain ⟨g, hg⟩ : ∃ g, g = w.heap.size := ⟨_, rfl⟩
  obtain ⟨w1, hw1⟩ : ∃ w1, w1 = w.alloc (.cells #[.int .i64 p.kind, v1, v2, .bool p.extra, .int .i64 p.items, .int .i64 p.least, .int .i64 p.most, v3, .string p.dflt] partT (0, 0)) := ⟨_, rfl⟩
  have HX1 : Hid (Ext w w1) := by rw [hw1]; exact new_ext _ _
  have HI1 := Lib.hid (hi.ext HX1.out)
  have HT1 := Lib.hid (hi.turn HX1.out)
  have HB1 : Hid (PBox w1 g p v1 v2 v3) := by rw [hw1]; exact heap_new hg
  have HG1 : Hid (LookF k w1 g) := by unfold Hid; rw [HI1.out.2]; exact hi.new (by omega)
  have HW1 := Lib.hid (HT1.out.way hw)
  obtain ⟨N, hN⟩ : ∃ N, N = ws.length := ⟨_, rfl⟩
  have HK := Lib.hid hk
  have CF : Hid (∀ (W : World) (l : List (ByteArray × Int)) (er : Int), LookI k sv w0 W l → WayAt (LookF k W) W A ws → l.length ≤ 3000000 → Calls Tryz.prog 69 #[.pointer (some ⟨k, 0, none⟩), .slice A N c, .int .i64 er] W (LookPost k sv w0 W (l ++ [(joinV ws, er)]))) := fun W l er h1 h2 h3 => by
    rw [hN]
    exact fault_any k sv w0 W l HK.out hm h1 A c ws (h2.keep (fun _ _ _ => rfl) (fun _ _ _ => trivial)) hl h3 er
  rw [← hN]
  have HFS := Lib.hid hf
  clear hN hi hw hl hm hk
  obtain ⟨-, -, -, -, -, a5, -, -, -⟩ := HB1.out.at
  go_enter Tryz.func73, Tryz.ntmps73
  go_upto_region 1 with (fail)
  rw [← hw1, ← hg]
  clear hw1 hg
  by_cases h1 : n < p.least
  · have b1 : decide (n < p.least) = true := decide_eq_true h1
    have HS1 := Lib.hid h1
    clear h1
    go_wp2_with fail
    refine Calls.mono (CF.out w1 fs 1 HI1.out.1 HW1.out (by have := HFS.out; omega)) ?_
    rintro e w2 ⟨rfl, t2, i2⟩
    have HB2 := Lib.hid (HB1.out.trn t2 HG1.out)
    have HT2 := Lib.hid t2
    have HI2 := Lib.hid i2
    have HW2 := Lib.hid (t2.way HW1.out)
    clear t2 i2 a5 b1
    obtain ⟨-, -, -, -, -, -, a6, -, -⟩ := HB2.out.1.at
    by_cases h2 : p.most < n
    · have b2 : decide (n > p.most) = true := decide_eq_true h2
      have HS2 := Lib.hid h2
      clear h2
      go_wp2_with fail
      refine Calls.mono (CF.out w2 _ 2 HI2.out HW2.out (by rw [List.length_append]; have := HFS.out; simp; omega)) ?_
      rintro e w3 ⟨rfl, t3, i3⟩
      have HT3 := Lib.hid t3
      have HI3 := Lib.hid i3
      clear t3 i3 a6 b2
      go_wp2_with fail
      go_end0
      refine ⟨rfl, HT1.out.trans (HT2.out.trans HT3.out), ?_⟩
      rw [span_two, if_pos HS1.out, if_pos HS2.out, ← List.append_assoc]
      exact HI3.out
    · have b2 : decide (n > p.most) = false := decide_eq_false h2
      have HS2 := Lib.hid h2
      clear h2
      go_wp2_with fail
      go_end0
      refine ⟨rfl, HT1.out.trans HT2.out, ?_⟩
      rw [span_two, if_pos HS1.out, if_neg (Int.not_lt.2 HS2.out), List.append_nil]
      exact HI2.out
  · have b1 : decide (n < p.least) = false := decide_eq_false h1
    have HS1 := Lib.hid h1
    clear h1
    obtain ⟨-, -, -, -, -, -, a6, -, -⟩ := HB1.out.at
    by_cases h2 : p.most < n
    · have b2 : decide (n > p.most) = true := decide_eq_true h2
      have HS2 := Lib.hid h2
      clear h2
      go_wp2_with fail
      refine Calls.mono (CF.out w1 fs 2 HI1.out.1 HW1.out (by have := HFS.out; omega)) ?_
      rintro e w3 ⟨rfl, t3, i3⟩
      have HT3 := Lib.hid t3
      have HI3 := Lib.hid i3
      clear t3 i3 a6 b2
      go_wp2_with fail
      go_end0
      refine ⟨rfl, HT1.out.trans HT3.out, ?_⟩
      rw [span_two, if_neg (Int.not_lt.2 HS1.out), if_pos HS2.out, List.nil_append]
      exact HI3.out
    · have b2 : decide (n > p.most) = false := decide_eq_false h2
      have HS2 := Lib.hid h2
      clear h2
      go_wp2_with fail
      go_end0
      refine ⟨rfl, HT1.out, ?_⟩
      rw [span_two, if_neg (Int.not_lt.2 HS1.out), if_neg (Int.not_lt.2 HS2.out), List.append_nil, List.append_nil]
      exact HI1.out.1
end Go.Proofs.YtnccefeehkcneaaGreatDoor.Sc
namespace Go.Proofs.YtnccefeehkcneaaGreatDoor.Sc
open Go Go.RowKit Go.Proofs.YtnccefeehkcneaaGreatDoor.Js Go.Proofs.YtnccefeehkcneaaGreatDoor.Sx Go.Proofs.YtnccefeehkcneaaGreatDoor.Pt Go.Proofs.YtnccefeehkcneaaGreatDoor.Jm Go.Proofs.YtnccefeehkcneaaGreatDoor.Gr Go.Proofs.YtnccefeehkcneaaGreatDoor.Ur
theorem partOf_none {fs : List (ByteArray × Int)} {t : ByteArray} (h : noneTo (fun f => eqS f.1 t) fs fs.length) : partOf fs t = none := by
  unfold partOf
  rw [Option.map_eq_none_iff, List.find?_eq_none]
  intro x hx
  obtain ⟨i, hi, rfl⟩ := List.mem_iff_getElem.1 hx
  have h0 : eqS fs[i].1 t = false := h i hi hi
  rw [h0]
  simp
theorem partOf_some {fs : List (ByteArray × Int)} {t : ByteArray} {j : Nat} (hj : j < fs.length) (h : noneTo (fun f => eqS f.1 t) fs j) (hp : eqS fs[j].1 t = true) : partOf fs t = some fs[j].2 := by
  unfold partOf
  have : fs.find? (fun f => eqS f.1 t) = some fs[j] := by
    rw [List.find?_eq_some_iff_getElem]
    exact ⟨hp, j, hj, rfl, fun i hi => by
      have h0 : eqS fs[i].1 t = false := h i (by omega) hi
      rw [h0]
      rfl⟩
  rw [this]
  rfl
set_option maxRecDepth 100000 in
set_option maxHeartbeats 2000000 in
theorem field_any (B : Nat) (p : PartS) (v1 v2 v3 : Value) (t : ByteArray) (w : World) (hB : B ≤ w.heap.size) (hv : FldsR B w v1 p.fields) :
    Calls Tryz.prog 42 #[.agg #[.int .i64 p.kind, v1, v2, .bool p.extra, .int .i64 p.items, .int .i64 p.least, .int .i64 p.most, v3, .string p.dflt], .string t] w fun e w' => e = .returned (.tuple #[.int .i64 ((partOf p.fields t).getD 0), .bool (partOf p.fields t).isSome]) ∧ Ext w w' := by
  obtain ⟨A, c, rfl⟩ := hv.slice
  have hn := hv.1
  obtain ⟨fs, hfs⟩ : ∃ fs, fs = p.fields := ⟨_, rfl⟩
  rw [← hfs] at hv hn ⊢
  obtain ⟨M, hM⟩ : ∃ M, M = fs.length := ⟨_, rfl⟩
  have HM := Lib.hid hM
  have HV := Lib.hid hv
  rw [← hM]
  obtain ⟨g, hg⟩ : ∃ g, g = w.heap.size := ⟨_, rfl⟩
  obtain ⟨w1, hw1⟩ : ∃ w1, w1 = w.alloc (.cells #[.int .i64 p.kind, .slice A M c, v2, .bool p.extra, .int .i64 p.items, .int .i64 p.least, .int .i64 p.most, v3, .string p.dflt] partT (0, 0)) := ⟨_, rfl⟩
  have HX1 : Hid (Ext w w1) := by rw [hw1]; exact new_ext _ _
  have hb1 : PBox w1 g p (.slice A M c) v2 v3 := by rw [hw1]; exact heap_new hg
  obtain ⟨-, a1, -, -, -, -, -, -, -⟩ := hb1.at
  have hMs : M ≤ 1099511627776 := by omega
  have HBW := Lib.hid hB
  clear hb1 hv hn hM hfs hB
  go_enter Tryz.func42, Tryz.ntmps42
  go_upto_region 1 with (fail)
  rw [← hw1, ← hg]
  clear hw1 hg
  go_wp2_with fail
  clear a1
  go_loopw [11] (fun ix wr => ∃ j : Nat, j ≤ M ∧ ix = .int .i64 (j : Int) ∧ Hid (noneTo (fun f => eqS f.1 t) fs j) ∧ Hid (Ext w1 wr)) (fun ix _ => M - (intOf ix).toNat)
  case atStart => exact ⟨0, Nat.zero_le _, rfl, fun i hi h => by omega, Below.refl _ _⟩
  case round =>
    obtain ⟨j, hj, rfl, hN, hX⟩ := hrel
    by_cases hlt : j < M
    · have hjl : j < fs.length := by rw [← HM.out]; exact hlt
      obtain ⟨b, off, c', hv9, hbB, x0, x1⟩ := HV.out.cells hjl
      injection hv9 with e1 _ e3
      subst e1 e3
      have hxr := HX1.out.trans hX.out
      have hbl : b < w.heap.size := Nat.lt_of_lt_of_le hbB HBW.out
      have c0 := (cell_keep (hxr.block b hbl)).trans x0
      have c1 := (cell_keep (hxr.block b hbl)).trans x1
      have hltI : (j : Int) < (M : Int) := by omega
      obtain ⟨nm, hnm⟩ : ∃ n, n = fs[j].1 := ⟨_, rfl⟩
      obtain ⟨q, hq⟩ : ∃ n, n = fs[j].2 := ⟨_, rfl⟩
      have HS : Hid ((eqS nm t = true → partOf fs t = some q) ∧ (eqS nm t = false → noneTo (fun f => eqS f.1 t) fs (j + 1))) := by
        rw [hnm, hq]
        exact ⟨fun h => partOf_some hjl hN.out h, fun h => noneTo_succ hN.out hjl h⟩
      rw [← hnm] at c0
      rw [← hq] at c1
      clear hnm hq x0 x1 hxr hbB hbl
      cases hb : eqS nm t with
      | true =>
        have HP := Lib.hid (HS.out.1 hb)
        have b1 : (nm.toList == t.toList) = true := hb
        clear hb
        go_wp2_with fail
        go_ret2
        refine ⟨by rw [HP.out]; rfl, HX1.out.trans ?_⟩
        exact hX.out.trans (new_ext _ _)
      | false =>
        have HP := Lib.hid (HS.out.2 hb)
        have b1 : (nm.toList == t.toList) = false := hb
        clear hb
        go_wp2_with fail
        go_roundw
        case rel => exact ⟨j + 1, hlt, by go_num, HP.out, hX.out.trans (new_ext _ _)⟩
        case measure => simp [intOf]; omega
    · have hjM : j = M := by omega
      have HP : Hid (partOf fs t = none) := partOf_none (by rw [← HM.out, ← hjM]; exact hN.out)
      have bl : decide ((j : Int) < (M : Int)) = false := decide_eq_false (by omega)
      clear hjM
      go_wp2_with fail
      go_ret2
      exact ⟨by rw [HP.out]; rfl, HX1.out.trans hX.out⟩
set_option maxRecDepth 100000 in
theorem same_closure (F : Nat → Prop) (k : Nat) (u : Value) (v : J) (d : ByteArray) (w : World) (h : w.heap[k]? = some (.cells #[u] valT (0, 0))) (hp : PV F w v u) (hij : IJ v) (ht : Tab10 w) (hb : bulkJ v ≤ 1048576) (hd : ∃ j, readS d.data.toList = .ok j) :
    Calls Tryz.prog 71 #[.string d, .pointer (some ⟨k, 0, none⟩)] w fun e w' => e = .returned (.bool (sameD v d)) ∧ Ext w w' := by
  obtain ⟨j, hj⟩ := hd
  have HG := Lib.hid (readS_good hj)
  have CR := Lib.hid (read_any d w)
  have HE : Hid (sameD v d = (textJ v == textJ j)) := by unfold Hid sameD; rw [hj]
  rw [hj] at CR
  have H := Lib.hid h
  have HP := Lib.hid hp
  have CS : Hid (∀ (W : World) (x : Value), Ext w W → PV (fun b => w.heap.size ≤ b) W j x → Calls Tryz.prog 72 #[u, x] W fun e w' => e = .returned (.bool (textJ v == textJ j)) ∧ Ext W w') := fun W x hW hx =>
    tsame_val _ _ u x W v j (HP.out.ext hW) hx hij (PV.ij _ _ hx HG.out.1) (ht.ext hW) hb (by have := HG.out.2; omega)
  clear h hp hij ht hb hj
  go_enter Tryz.func71, Tryz.ntmps71
  go_wp2_with fail
  refine Calls.mono CR.out ?_
  rintro e w2 ⟨x2, ⟨j2, y, e1, hy, rfl⟩ | ⟨er, -, e1, -⟩⟩
  · obtain rfl : j = j2 := by injection e1
    have C2 := Lib.hid (CS.out w2 y x2 hy)
    have X2 := Lib.hid x2
    have c0 : w2.cell? ⟨k, 0, none⟩ = some u := cell_of ((x2.block k (heap_lt H.out)).trans H.out) 0
    clear e1 hy x2
    go_wp2_with fail
    refine Calls.mono C2.out ?_
    rintro e w3 ⟨rfl, x3⟩
    have X3 := Lib.hid x3
    clear x3 c0
    go_wp2_with fail
    go_ret
    exact ⟨by rw [HE.out]; rfl, X2.out.trans X3.out⟩
  · cases e1
/-- What IndexFunc returns: a place (there is one), or -1. -/
def IdxP (w : World) (is : Bool) (e : Ending) (w' : World) : Prop := ∃ n : Int, e = .returned (.int .i64 n) ∧ decide (0 ≤ n) = is ∧ -1 ≤ n ∧ n < 1048577 ∧ Ext w w'
set_option maxRecDepth 100000 in
set_option maxHeartbeats 1000000 in
theorem same_idx (F : Nat → Prop) (k : Nat) (u : Value) (v : J) (A : Option Addr) (c : Nat) (ds : List ByteArray) (w : World) (h : w.heap[k]? = some (.cells #[u] valT (0, 0))) (hp : PV F w v u) (hij : IJ v) (ht : Tab10 w) (hb : bulkJ v ≤ 1048576) (hd : ∀ d ∈ ds, ∃ j, readS d.data.toList = .ok j) (hv : StrsR w.heap.size w (.slice A ds.length c) ds) (hl : ds.length ≤ 1048576) :
    Calls Tryz.prog 123 #[.slice A ds.length c, .func (.func 71) #[] #[.pointer (some ⟨k, 0, none⟩)]] w (IdxP w (ds.any (sameD v))) := by
  have CC : Hid (∀ (W : World) (d : ByteArray), Ext w W → d ∈ ds → Calls Tryz.prog 71 #[.string d, .pointer (some ⟨k, 0, none⟩)] W fun e w' => e = .returned (.bool (sameD v d)) ∧ Ext W w') := fun W d hW hm =>
    same_closure F k u v d W ((hW.block k (heap_lt h)).trans h) (hp.ext hW) hij (ht.ext hW) hb (hd d hm)
  have HV := Lib.hid hv
  obtain ⟨M, hM⟩ : ∃ M, M = ds.length := ⟨_, rfl⟩
  have HM := Lib.hid hM
  rw [← hM]
  have hMs : M ≤ 1048576 := by omega
  clear h hp hij ht hb hd hv hl hM
  go_enter Tryz.func123, Tryz.ntmps123
  go_wp2
  go_loopw [5, 8] (fun i k wr => ∃ j : Nat, j ≤ M ∧ k = .int .i64 j ∧ Hid (noneTo (sameD v) ds j) ∧ Hid (Ext w wr)) (fun _ k _ => M - (intOf k).toNat)
  case atStart => exact ⟨0, Nat.zero_le _, rfl, fun i hi h => by omega, Below.refl _ _⟩
  case round =>
    obtain ⟨j, hj, rfl, hN, hX⟩ := hrel
    by_cases hlt : j < M
    · have hjl : j < ds.length := by rw [← HM.out]; exact hlt
      obtain ⟨b, off, c9, hv9, hbB, hcl⟩ := (HV.out.below hX.out (Nat.le_refl _)).cells (by omega)
      injection hv9 with e1 _ e3
      subst e1 e3
      have c0 := (hcl j hjl).1
      have C1 := Lib.hid (CC.out wr ds[j] hX.out (List.getElem_mem hjl))
      have HS : Hid ((sameD v ds[j] = true → ds.any (sameD v) = true) ∧ (sameD v ds[j] = false → noneTo (sameD v) ds (j + 1))) := ⟨fun h => any_some hjl h, fun h => noneTo_succ hN.out hjl h⟩
      obtain ⟨d, hdd⟩ : ∃ d, d = ds[j] := ⟨_, rfl⟩
      rw [← hdd] at c0 C1 HS
      clear hdd hcl hbB
      cases hb : sameD v d with
      | true =>
        have HP := Lib.hid (HS.out.1 hb)
        rw [hb] at C1
        clear hb
        go_wp2_with (go_at_call 71; refine C1.out.mono ?_; rintro e w' ⟨rfl, hx⟩; have HX2 := Lib.hid hx; clear hx)
        go_ret
        exact ⟨j, rfl, by rw [HP.out]; simp, by omega, by omega, hX.out.trans HX2.out⟩
      | false =>
        have HP := Lib.hid (HS.out.2 hb)
        rw [hb] at C1
        clear hb
        go_wp2_with (go_at_call 71; refine C1.out.mono ?_; rintro e w' ⟨rfl, hx⟩; have HX2 := Lib.hid hx; clear hx)
        go_roundw
        case rel => exact ⟨j + 1, hlt, by go_num, HP.out, hX.out.trans HX2.out⟩
        case measure => simp [intOf]; omega
    · have HA := Lib.hid (any_none hN.out (by have := HM.out; omega))
      go_wp2
      go_ret
      exact ⟨-1, rfl, by rw [HA.out]; rfl, by omega, by omega, hX.out⟩
set_option maxRecDepth 100000 in
theorem same_has (F : Nat → Prop) (k : Nat) (u : Value) (v : J) (A : Option Addr) (c : Nat) (ds : List ByteArray) (w : World) (h : w.heap[k]? = some (.cells #[u] valT (0, 0))) (hp : PV F w v u) (hij : IJ v) (ht : Tab10 w) (hb : bulkJ v ≤ 1048576) (hd : ∀ d ∈ ds, ∃ j, readS d.data.toList = .ok j) (hv : StrsR w.heap.size w (.slice A ds.length c) ds) (hl : ds.length ≤ 1048576) :
    Calls Tryz.prog 70 #[.slice A ds.length c, .func (.func 71) #[] #[.pointer (some ⟨k, 0, none⟩)]] w fun e w' => e = .returned (.bool (ds.any (sameD v))) ∧ Ext w w' := by
  have C := Lib.hid (same_idx F k u v A c ds w h hp hij ht hb hd hv hl)
  clear h hp hij ht hb hd hv hl
  go_enter Tryz.func70, Tryz.ntmps70
  go_wp2_with (go_at_call 123; refine C.out.mono ?_; rintro e w' ⟨m, rfl, hm, hm1, hm2, hx⟩; have HM := Lib.hid hm; have HX := Lib.hid hx; clear hm hx)
  go_ret
  exact ⟨ret_bool HM.out, HX.out⟩
def nmOf (fs : List (ByteArray × Int)) : List ByteArray := fs.map (·.1)
set_option maxRecDepth 100000 in
theorem name_closure (k : Nat) (s : ByteArray) (q : Int) (t : ByteArray) (z : Int) (w : World) (h : w.heap[k]? = some (.cells #[.string s, .int .i64 q] 81 (0, 0))) :
    Calls Tryz.prog 62 #[.agg #[.string t, .int .i64 z], .pointer (some ⟨k, 0, none⟩)] w fun e w' => e = .returned (.bool (eqS t s)) ∧ Ext w w' := by
  have c0 := cell_of h 0
  have hk := heap_lt h
  have hne : k ≠ w.heap.size := by omega
  have HE : Hid (∀ b, (t.toList == s.toList) = b → eqS t s = b) := fun b hb => hb
  simp only [List.getElem?_toArray, List.getElem?_cons_zero] at c0
  clear h
  go_enter Tryz.func62, Tryz.ntmps62
  go_wp2
  go_ret
  exact ⟨ret_bool (HE.out _ rfl).symm, new_ext _ _⟩
set_option maxRecDepth 100000 in
set_option maxHeartbeats 1000000 in
theorem name_idx (k : Nat) (s : ByteArray) (q : Int) (B : Nat) (A : Option Addr) (c N : Nat) (fs : List (ByteArray × Int)) (w : World) (h : w.heap[k]? = some (.cells #[.string s, .int .i64 q] 81 (0, 0))) (hB : B ≤ w.heap.size) (hv : FldsR B w (.slice A fs.length c) fs) (hN : N ≤ fs.length) (hl : fs.length ≤ 1048576) :
    Calls Tryz.prog 119 #[.slice A N c, .func (.func 62) #[] #[.pointer (some ⟨k, 0, none⟩)]] w (IdxP w ((fs.take N).any fun f => eqS f.1 s)) := by
  have HV := Lib.hid hv
  have H := Lib.hid h
  have HBW := Lib.hid hB
  have HNF := Lib.hid hN
  have hNs : N ≤ 1048576 := by omega
  have HLT : Hid ((fs.take N).length = N) := by unfold Hid; rw [List.length_take]; omega
  clear h hv hl hB hN
  go_enter Tryz.func119, Tryz.ntmps119
  go_wp2
  go_loopw [5, 8] (fun i k wr => ∃ j : Nat, j ≤ N ∧ k = .int .i64 j ∧ Hid (noneTo (fun f => eqS f.1 s) (fs.take N) j) ∧ Hid (Ext w wr)) (fun _ k _ => N - (intOf k).toNat)
  case atStart => exact ⟨0, Nat.zero_le _, rfl, fun i hi h => by omega, Below.refl _ _⟩
  case round =>
    obtain ⟨j, hj, rfl, hN, hX⟩ := hrel
    by_cases hlt : j < N
    · have hjl : j < (fs.take N).length := by rw [HLT.out]; exact hlt
      have hjf : j < fs.length := Nat.lt_of_lt_of_le hlt HNF.out
      obtain ⟨b, off, c', hv9, hbB, x0, x1⟩ := HV.out.cells hjf
      injection hv9 with e1 _ e3
      subst e1 e3
      have hbl : b < w.heap.size := Nat.lt_of_lt_of_le hbB HBW.out
      have c0 := (cell_keep (hX.out.block b hbl)).trans x0
      have c1 := (cell_keep (hX.out.block b hbl)).trans x1
      have HS : Hid ((eqS fs[j].1 s = true → (fs.take N).any (fun f => eqS f.1 s) = true) ∧ (eqS fs[j].1 s = false → noneTo (fun f => eqS f.1 s) (fs.take N) (j + 1))) :=
        ⟨fun h => any_some hjl (by rw [List.getElem_take]; exact h), fun h => noneTo_succ hN.out hjl (by rw [List.getElem_take]; exact h)⟩
      obtain ⟨nm, hnm⟩ : ∃ n, n = fs[j].1 := ⟨_, rfl⟩
      obtain ⟨z, hz⟩ : ∃ n, n = fs[j].2 := ⟨_, rfl⟩
      rw [← hnm] at c0 HS
      rw [← hz] at c1
      have C1 := Lib.hid (name_closure k s q nm z wr ((hX.out.block k (heap_lt H.out)).trans H.out))
      clear hnm hz x0 x1 hbB hbl
      cases hb : eqS nm s with
      | true =>
        have HP := Lib.hid (HS.out.1 hb)
        rw [hb] at C1
        clear hb
        go_wp2_with (go_at_call 62; refine C1.out.mono ?_; rintro e w' ⟨rfl, hx⟩; have HX2 := Lib.hid hx; clear hx)
        go_ret
        exact ⟨j, rfl, by rw [HP.out]; simp, by omega, by omega, hX.out.trans HX2.out⟩
      | false =>
        have HP := Lib.hid (HS.out.2 hb)
        rw [hb] at C1
        clear hb
        go_wp2_with (go_at_call 62; refine C1.out.mono ?_; rintro e w' ⟨rfl, hx⟩; have HX2 := Lib.hid hx; clear hx)
        go_roundw
        case rel => exact ⟨j + 1, hlt, by go_num, HP.out, hX.out.trans HX2.out⟩
        case measure => simp [intOf]; omega
    · have HA := Lib.hid (any_none hN.out (by have := HLT.out; omega))
      go_wp2
      go_ret
      exact ⟨-1, rfl, by rw [HA.out]; rfl, by omega, by omega, hX.out⟩
set_option maxRecDepth 100000 in
theorem name_has (k : Nat) (s : ByteArray) (q : Int) (B : Nat) (A : Option Addr) (c N : Nat) (fs : List (ByteArray × Int)) (w : World) (h : w.heap[k]? = some (.cells #[.string s, .int .i64 q] 81 (0, 0))) (hB : B ≤ w.heap.size) (hv : FldsR B w (.slice A fs.length c) fs) (hN : N ≤ fs.length) (hl : fs.length ≤ 1048576) :
    Calls Tryz.prog 61 #[.slice A N c, .func (.func 62) #[] #[.pointer (some ⟨k, 0, none⟩)]] w fun e w' => e = .returned (.bool ((fs.take N).any fun f => eqS f.1 s)) ∧ Ext w w' := by
  have C := Lib.hid (name_idx k s q B A c N fs w h hB hv hN hl)
  clear h hv hl hB hN
  go_enter Tryz.func61, Tryz.ntmps61
  go_wp2_with (go_at_call 119; refine C.out.mono ?_; rintro e w' ⟨m, rfl, hm, hm1, hm2, hx⟩; have HM := Lib.hid hm; have HX := Lib.hid hx; clear hm hx)
  go_ret
  exact ⟨ret_bool HM.out, HX.out⟩
end Go.Proofs.YtnccefeehkcneaaGreatDoor.Sc
namespace Go.Proofs.YtnccefeehkcneaaGreatDoor.Sc
open Go Go.RowKit Go.Proofs.YtnccefeehkcneaaGreatDoor.Js Go.Proofs.YtnccefeehkcneaaGreatDoor.Sx Go.Proofs.YtnccefeehkcneaaGreatDoor.Pt Go.Proofs.YtnccefeehkcneaaGreatDoor.Jm Go.Proofs.YtnccefeehkcneaaGreatDoor.Gr Go.Proofs.YtnccefeehkcneaaGreatDoor.Ur
abbrev chkT : Nat := 57
/-- The checker's box: what was wrong first. -/
def ChkI (k : Nat) (w0 w : World) (b : Int) : Prop := Ext w0 w ∧ w.heap[k]? = some (.cells #[.int .i64 b] chkT (0, 0))
def NotK (k : Nat) (_ : World) (b : Nat) : Prop := b ≠ k
section
variable {k : Nat} {w0 w w' : World} {b : Int}
theorem ChkI.ext (h : ChkI k w0 w b) (hx : Ext w w') : ChkI k w0 w' b := ⟨h.1.trans hx, (hx.block k (heap_lt h.2)).trans h.2⟩
theorem notk_ext (hx : Ext w w') : Trn (NotK k) w w' := ⟨hx.mono (Nat.zero_le _), fun b hb hF => ⟨hx.block b hb, hF⟩⟩
end
def ChkPost (k : Nat) (w0 w : World) (b : Int) (e : Ending) (w' : World) : Prop := e = .returned (.tuple #[]) ∧ Trn (NotK k) w w' ∧ ChkI k w0 w' b
theorem ChkI.put {k : Nat} {w0 w : World} {b e : Int} (hk : w0.heap.size = k) (h : ChkI k w0 w b) : Trn (NotK k) w (w.setCell ⟨k, 0, none⟩ (.int .i64 e)) ∧ ChkI k w0 (w.setCell ⟨k, 0, none⟩ (.int .i64 e)) e := by
  refine ⟨⟨Below.setCell (Below.refl _ _) (Nat.zero_le _) _, fun b hb hF => ⟨set_heap _ _ _ _ _ hF, hF⟩⟩, ext_setCell h.1 (Nat.le_of_eq hk), ?_⟩
  exact heap_setCell_same w k 0 _ chkT _ h.2
set_option maxRecDepth 100000 in
theorem need_any (k : Nat) (w0 w : World) (b e : Int) (is : Bool) (hk : w0.heap.size = k) (hi : ChkI k w0 w b) :
    Calls Tryz.prog 24 #[.pointer (some ⟨k, 0, none⟩), .bool is, .int .i64 e] w (ChkPost k w0 w (needS b is e)) := by
  have c0 : w.cell? ⟨k, 0, none⟩ = some (.int .i64 b) := cell_of hi.2 0
  have c1 : w.frozen? ⟨k, 0, none⟩ = false := frozen_of hi.2
  have HI := Lib.hid hi
  have HP := Lib.hid (fun x => ChkI.put (e := x) hk hi)
  clear hi hk
  by_cases hb : b = 0
  · subst hb
    cases is with
    | true =>
      go_enter Tryz.func24, Tryz.ntmps24
      go_wp2_with fail
      go_end0
      exact ⟨rfl, Trn.refl, by rw [need_true]; exact HI.out⟩
    | false =>
      go_enter Tryz.func24, Tryz.ntmps24
      go_wp2_with fail
      go_end0
      exact ⟨rfl, (HP.out e).1, by rw [need_false]; exact (HP.out e).2⟩
  · have b1 : (b == 0) = false := by rw [beq_eq_false_iff_ne]; exact hb
    have HB := Lib.hid hb
    clear hb
    go_enter Tryz.func24, Tryz.ntmps24
    go_wp2_with fail
    go_end0
    exact ⟨rfl, Trn.refl, by rw [need_bad HB.out]; exact HI.out⟩
set_option maxRecDepth 100000 in
theorem document_any (k : Nat) (w0 w : World) (b : Int) (d : ByteArray) (hk : w0.heap.size = k) (hi : ChkI k w0 w b) :
    Calls Tryz.prog 63 #[.pointer (some ⟨k, 0, none⟩), .string d] w (ChkPost k w0 w (docS b d)) := by
  have CR := Lib.hid (read_any d w)
  have CN : Hid (∀ (W : World) (is : Bool) (e : Int), ChkI k w0 W b → Calls Tryz.prog 24 #[.pointer (some ⟨k, 0, none⟩), .bool is, .int .i64 e] W (ChkPost k w0 W (needS b is e))) := fun W is e h => need_any k w0 W b e is hk h
  have HI := Lib.hid hi
  clear hi hk
  go_enter Tryz.func63, Tryz.ntmps63
  go_wp2_with fail
  refine Calls.mono CR.out ?_
  rintro e w2 ⟨x2, ⟨j2, y, e1, hy, rfl⟩ | ⟨er, hne, e1, rfl⟩⟩
  · have HE : Hid (docS b d = needS b true 0) := by unfold Hid docS; rw [errOf_ok e1]; rfl
    have X2 := Lib.hid x2
    clear x2 e1 hy
    go_wp2_with fail
    refine Calls.mono (CN.out w2 true 0 (HI.out.ext X2.out)) ?_
    rintro e w3 ⟨rfl, t3, i3⟩
    have T3 := Lib.hid t3
    have I3 := Lib.hid i3
    clear t3 i3
    go_wp2_with fail
    go_end0
    exact ⟨rfl, (notk_ext X2.out).trans T3.out, by rw [HE.out]; exact I3.out⟩
  · have b1 : (er == 0) = false := by rw [beq_eq_false_iff_ne]; exact hne
    have HE : Hid (docS b d = needS b false er) := by unfold Hid docS; rw [errOf_err e1 hne, b1]
    have X2 := Lib.hid x2
    clear x2 e1 hne
    go_wp2_with fail
    refine Calls.mono (CN.out w2 false er (HI.out.ext X2.out)) ?_
    rintro e w3 ⟨rfl, t3, i3⟩
    have T3 := Lib.hid t3
    have I3 := Lib.hid i3
    clear t3 i3
    go_wp2_with fail
    go_end0
    exact ⟨rfl, (notk_ext X2.out).trans T3.out, by rw [HE.out]; exact I3.out⟩
set_option maxRecDepth 100000 in
theorem behind_any (a b i n c : Nat) (A : Option Addr) (x : Int) (w : World) (ha : w.cell? ⟨a, 0, none⟩ = some (.int .i64 (i : Int))) (hb : w.cell? ⟨b, 0, none⟩ = some (.slice A n c)) :
    Calls Tryz.prog 60 #[.int .i64 x, .pointer (some ⟨a, 0, none⟩), .pointer (some ⟨b, 0, none⟩)] w fun e w' => e = .returned (.bool (behindS n i x)) ∧ w = w' := by
  have HE : Hid (∀ r, (decide ((i : Int) < x) && decide (x < (n : Int))) = r → behindS n i x = r) := fun r h => h
  by_cases h1 : (i : Int) < x
  · have b1 : decide ((i : Int) < x) = true := decide_eq_true h1
    have HR := Lib.hid (HE.out (decide (x < (n : Int))) (by rw [b1, Bool.true_and]))
    clear h1
    go_enter Tryz.func60, Tryz.ntmps60
    go_wp2_with fail
    go_ret
    exact ⟨ret_bool HR.out.symm, rfl⟩
  · have b1 : decide ((i : Int) < x) = false := decide_eq_false h1
    have HR := Lib.hid (HE.out false (by rw [b1, Bool.false_and]))
    clear h1
    go_enter Tryz.func60, Tryz.ntmps60
    go_wp2_with fail
    go_ret
    exact ⟨ret_bool HR.out.symm, rfl⟩
end Go.Proofs.YtnccefeehkcneaaGreatDoor.Sc
