/-
  The program's store.Copy.
-/
import Derived.Test.YtpbbohinhbboaaaThing
import Derived.Test.YtpbbohinhbboaaaFcl
import Derived.Test.YtpbbohinhbboaaaSrs
import Derived.Test.YtpbbohinhbboaaaIns
import Derived.Deep.RegionHeld3
import Derived.Laws.ResultCell
import Derived.Laws.Rows
namespace Go.Proofs.Ytpbbohinhbboaaa.Sx
open Go Go.RowKit

theorem strsSm {B : Nat} {w : World} {v : Value} {xs : List ByteArray} (h : StrsR B w v xs) : xs.length ≤ 1099511627776 ∧ ∀ x ∈ xs, x.size ≤ 1048576 := by
  refine ⟨h.1, fun x hx => ?_⟩
  obtain ⟨i, hi, rfl⟩ := List.mem_iff_getElem.1 hx
  obtain ⟨_, _, _, _, _, hc⟩ := h.cells (by omega)
  exact (hc i hi).2
theorem clone_row {B : Nat} {v : Value} {xs : List ByteArray} {w : World} (h : StrsR B w v xs) :
    Calls Try.prog 123 #[v] w fun e w' => ∃ A c, e = .returned (.slice A xs.length c) ∧ SRow w.heap.size w' (.slice A xs.length c) xs ∧ Ext w w' := by
  by_cases h0 : 0 < xs.length
  · have hn := h.1
    obtain ⟨b, off, c, rfl, _, hc⟩ := h.cells h0
    refine (Try.slices_Clone_string b off xs.length c xs w (Nat.le_refl _) (by omega) (StrsR.getD hc)).mono fun e w' ⟨v', he, ho, _, hb⟩ => ?_
    rw [List.take_length] at ho
    have hs : SRow w.heap.size w' v' xs := SRow.of_owns rfl ho
    obtain ⟨A', c', rfl⟩ := hs.slice
    exact ⟨_, _, he, hs, hb⟩
  · obtain ⟨hn, A, c, rfl, _⟩ := h
    have hx : xs = [] := List.length_eq_zero_iff.1 (by omega)
    subst hx
    cases A with
    | none => exact (Try.slices_Clone_string_nil 0 c w).mono fun e w' ⟨he, hw⟩ => ⟨_, _, he, SRow.nil, by rw [hw]; exact Below.refl _ _⟩
    | some a =>
      refine (Try.slices_Clone_string_zero a c w).mono fun e w' ⟨v', he, ho, _, hb⟩ => ?_
      have hs : SRow w.heap.size w' v' [] := SRow.of_owns rfl ho
      obtain ⟨A', c', rfl⟩ := hs.slice
      exact ⟨_, _, he, hs, hb⟩

theorem ThingIn.free {w : World} {k : Nat} {o : Thing} {vl vo vh : Value} (h : ThingIn w k o vl vo vh) : w.frozen? ⟨k, 3, none⟩ = false ∧ w.frozen? ⟨k, 4, none⟩ = false ∧ w.frozen? ⟨k, 5, none⟩ = false := ⟨free_of h 3, free_of h 4, free_of h 5⟩
/-- What stands of a box ahead of the writes. -/
def Lim (w : World) (k : Nat) (vl vo vh : Value) : Prop := w.cell? ⟨k, 3, none⟩ = some vl ∧ w.cell? ⟨k, 4, none⟩ = some vo ∧ w.cell? ⟨k, 5, none⟩ = some vh
theorem own_low {w : World} {base base' : Nat} {t : TypeId} {sz n : Nat} {v : Value} {xs : List Value} (h : w.ownsRow base t sz v n xs) (hb : base' ≤ base) : w.ownsRow base' t sz v n xs := by
  refine ⟨h.1, ?_⟩
  rcases h.2 with h0 | ⟨g, cap, cur, hv, hb', rest⟩
  · exact .inl h0
  · exact .inr ⟨g, cap, cur, hv, Nat.le_trans hb hb', rest⟩
theorem own_ext {w w' : World} {base : Nat} {t : TypeId} {sz n : Nat} {v : Value} {xs : List Value} (h : w.ownsRow base t sz v n xs) (he : Ext w w') : w'.ownsRow base t sz v n xs :=
  h.kept (row := none) ⟨he.os, he.tape, he.output, he.size, fun k hk _ => he.block k hk⟩ (by cases h : v.ownBlock <;> simp)

theorem results_c {fn : Func} {p : Tmp} (h : fn.results = #[.cell p 54]) (tmps : Array Value) (w : World) (g : Nat) {o : Thing} {vl vo vh : Value} (hp : tmps.getD p undef = .pointer (some ⟨g, 0, none⟩)) (hg : ThingIn w g o vl vo vh) :
    (results fn tmps).run Try.prog w = .ok (o.val vl vo vh) w :=
  results_cell_row h tmps w g _ _ _ _ hp hg Try.underlying54 rfl (by kernel_rfl)
theorem results_ct {fn : Func} {p u : Tmp} (h : fn.results = #[.cell p 54, .tmp u]) (tmps : Array Value) (w : World) (g : Nat) {o : Thing} {vl vo vh : Value} (hp : tmps.getD p undef = .pointer (some ⟨g, 0, none⟩)) (hg : ThingIn w g o vl vo vh) :
    (results fn tmps).run Try.prog w = .ok (.tuple #[o.val vl vo vh, tmps.getD u undef]) w := by
  have hp' : tmps[p]?.getD undef = .pointer (some ⟨g, 0, none⟩) := by simpa using hp
  have hr := run_loadVar_row (P := Try.prog) w g 54 _ _ _ _ hg Try.underlying54 rfl (by kernel_rfl)
  simp [results, h, hp', asAddr, hr, Thing.val]
theorem results_ctt {fn : Func} {p u x : Tmp} (h : fn.results = #[.cell p 54, .tmp u, .tmp x]) (tmps : Array Value) (w : World) (g : Nat) {o : Thing} {vl vo vh : Value} (hp : tmps.getD p undef = .pointer (some ⟨g, 0, none⟩)) (hg : ThingIn w g o vl vo vh) :
    (results fn tmps).run Try.prog w = .ok (.tuple #[o.val vl vo vh, tmps.getD u undef, tmps.getD x undef]) w := by
  have hp' : tmps[p]?.getD undef = .pointer (some ⟨g, 0, none⟩) := by simpa using hp
  have hr := run_loadVar_row (P := Try.prog) w g 54 _ _ _ _ hg Try.underlying54 rfl (by kernel_rfl)
  simp [results, h, hp', asAddr, hr, Thing.val]
theorem apart_of {base n : Nat} {w : World} {v u : Value} {xs : List ByteArray} (h2 : SRow base w v xs) (h4 : Hid (∀ g, u.ownBlock = some g → n ≤ g)) (hn : w.heap.size ≤ n) : Hid (∀ g, v.ownBlock = some g → u.ownBlock ≠ some g) := fun g e1 e2 => by
  have a := (h2.block g e1).2
  have b := h4.out g e2
  omega
/-- The zero box. -/
def ZeroIn (w : World) (k : Nat) : Prop := w.heap[k]? = some (.cells #[.string ⟨#[]⟩, .string ⟨#[]⟩, .string ⟨#[]⟩, .slice none 0 0, .slice none 0 0, .slice none 0 0, .bool false, .string ⟨#[]⟩, .int .i64 0, .string ⟨#[]⟩] 54 (0, 0))
theorem ZeroIn.free {w : World} {k : Nat} (h : ZeroIn w k) : w.frozen? ⟨k, 0, none⟩ = false ∧ w.frozen? ⟨k, 1, none⟩ = false ∧ w.frozen? ⟨k, 2, none⟩ = false ∧ w.frozen? ⟨k, 3, none⟩ = false ∧ w.frozen? ⟨k, 4, none⟩ = false ∧ w.frozen? ⟨k, 5, none⟩ = false ∧ w.frozen? ⟨k, 6, none⟩ = false ∧ w.frozen? ⟨k, 7, none⟩ = false ∧ w.frozen? ⟨k, 8, none⟩ = false ∧ w.frozen? ⟨k, 9, none⟩ = false :=
  ⟨free_of h 0, free_of h 1, free_of h 2, free_of h 3, free_of h 4, free_of h 5, free_of h 6, free_of h 7, free_of h 8, free_of h 9⟩
theorem ZeroIn.cells {w : World} {k : Nat} (h : ZeroIn w k) :
    w.cell? ⟨k, 0, none⟩ = some (.string ⟨#[]⟩) ∧ w.cell? ⟨k, 1, none⟩ = some (.string ⟨#[]⟩) ∧ w.cell? ⟨k, 2, none⟩ = some (.string ⟨#[]⟩) ∧ w.cell? ⟨k, 3, none⟩ = some (.slice none 0 0) ∧ w.cell? ⟨k, 4, none⟩ = some (.slice none 0 0) ∧ w.cell? ⟨k, 5, none⟩ = some (.slice none 0 0) ∧
    w.cell? ⟨k, 6, none⟩ = some (.bool false) ∧ w.cell? ⟨k, 7, none⟩ = some (.string ⟨#[]⟩) ∧ w.cell? ⟨k, 8, none⟩ = some (.int .i64 0) ∧ w.cell? ⟨k, 9, none⟩ = some (.string ⟨#[]⟩) :=
  ⟨cell_of h 0, cell_of h 1, cell_of h 2, cell_of h 3, cell_of h 4, cell_of h 5, cell_of h 6, cell_of h 7, cell_of h 8, cell_of h 9⟩
theorem three_sets {w : World} {k : Nat} {o : Thing} {vl vo vh : Value} (h : ThingIn w k o vl vo vh) (ul uo uh : Value) : ThingIn (w.setCells k 3 [ul, uo, uh]) k o ul uo uh :=
  heap_setCells [ul, uo, uh] [.string o.kind, .string o.space, .string o.name] [vl, vo, vh] [.bool o.ending, .string o.uid, .int .i64 o.rev, .string o.doc] w rfl h
/-- An object written into a box. -/
def Thing.vals (o : Thing) (vl vo vh : Value) : List Value := [.string o.kind, .string o.space, .string o.name, vl, vo, vh, .bool o.ending, .string o.uid, .int .i64 o.rev, .string o.doc]
theorem put_thing {w : World} {k : Nat} {old : List Value} (hl : old.length = 10) (h : w.heap[k]? = some (.cells old.toArray 54 (0, 0))) (o : Thing) (ul uo uh : Value) : ThingIn (w.setCells k 0 (o.vals ul uo uh)) k o ul uo uh := by
  have h1 : w.heap[k]? = some (.cells (([] : List Value) ++ old ++ []).toArray 54 (0, 0)) := by rw [List.nil_append, List.append_nil]; exact h
  exact heap_setCells (o.vals ul uo uh) [] old [] w hl h1
theorem put_zero {w : World} {k : Nat} (h : ZeroIn w k) (o : Thing) (ul uo uh : Value) : ∃ W, W = w.setCells k 0 (o.vals ul uo uh) ∧ ThingIn W k o ul uo uh ∧ w.grownBy W (some k) :=
  ⟨_, rfl, put_thing (old := [.string ⟨#[]⟩, .string ⟨#[]⟩, .string ⟨#[]⟩, .slice none 0 0, .slice none 0 0, .slice none 0 0, .bool false, .string ⟨#[]⟩, .int .i64 0, .string ⟨#[]⟩]) rfl h o ul uo uh, grown_setCells w k 0 _⟩
/-- Its slices are the call's own. -/
def OwnT (base : Nat) (w : World) (o : Thing) (ul uo uh : Value) : Prop := w.ownsRow base labT 2 ul o.labels.length (flatL o.labels) ∧ SRow base w uo o.owners ∧ SRow base w uh o.holds ∧ ∀ g, uo.ownBlock = some g → uh.ownBlock ≠ some g
theorem OwnT.kept {base k : Nat} {w w' : World} {o : Thing} {ul uo uh : Value} (h : OwnT base w o ul uo uh) (hG : w.grownBy w' (some k)) (hk : k < base) : OwnT base w' o ul uo uh := by
  obtain ⟨y1, y2, y3, y4⟩ := h
  refine ⟨y1.kept hG ?_, y2.kept hG fun g e h2 => by have := (y2.block g e).1; injection h2 with h2; omega, y3.kept hG (fun g e h2 => by have := (y3.block g e).1; injection h2 with h2; omega), y4⟩
  rcases y1.2 with ⟨e, _⟩ | ⟨g, _, _, e, hb, _⟩
  · rw [e]; exact .inl rfl
  · rw [e]; exact .inr (by simp [Value.ownBlock]; omega)
theorem OwnT.low {base base' : Nat} {w : World} {o : Thing} {ul uo uh : Value} (h : OwnT base w o ul uo uh) (hb : base' ≤ base) : OwnT base' w o ul uo uh := ⟨own_low h.1 hb, h.2.1.low hb, h.2.2.1.low hb, h.2.2.2⟩
theorem OwnT.ext {base : Nat} {w w' : World} {o : Thing} {ul uo uh : Value} (h : OwnT base w o ul uo uh) (he : Ext w w') : OwnT base w' o ul uo uh := ⟨own_ext h.1 he, h.2.1.ext he, h.2.2.1.ext he, h.2.2.2⟩
/-- What is handed in is small. -/
def Thing.small (o : Thing) : Prop := (o.labels.length ≤ 1099511627776 ∧ ∀ x ∈ o.labels, x.key.size ≤ 1048576 ∧ x.val.size ≤ 1048576) ∧ (o.owners.length ≤ 1099511627776 ∧ ∀ x ∈ o.owners, x.size ≤ 1048576) ∧ (o.holds.length ≤ 1099511627776 ∧ ∀ x ∈ o.holds, x.size ≤ 1048576)
theorem Thing.fits.small {B : Nat} {w : World} {o : Thing} {vl vo vh : Value} (h : o.fits B w vl vo vh) : o.small := ⟨⟨h.1.1, h.1.small⟩, strsSm h.2.1, strsSm h.2.2⟩
theorem OwnT.fits {base : Nat} {w : World} {o : Thing} {ul uo uh : Value} (h : OwnT base w o ul uo uh) (hs : o.small) : o.fits w.heap.size w ul uo uh := ⟨labs_of_own h.1 hs.1.1 hs.1.2, h.2.1.strs hs.2.1.1 hs.2.1.2, h.2.2.1.strs hs.2.2.1 hs.2.2.2⟩
/-- An object written over a box. -/
theorem put_over {w : World} {k : Nat} {o : Thing} {vl vo vh : Value} (h : ThingIn w k o vl vo vh) (o' : Thing) (ul uo uh : Value) : ∃ W, W = w.setCells k 0 (o'.vals ul uo uh) ∧ ThingIn W k o' ul uo uh ∧ w.grownBy W (some k) :=
  ⟨_, rfl, put_thing (old := o.vals vl vo vh) rfl h o' ul uo uh, grown_setCells w k 0 _⟩
theorem ZeroIn.kept {w w' : World} {k j : Nat} (h : ZeroIn w k) (hG : w.grownBy w' (some j)) (hne : k ≠ j) : ZeroIn w' k := (hG.block k (heap_lt h) (by simpa using hne)).trans h
theorem ZeroIn.ext {w w' : World} {k : Nat} (h : ZeroIn w k) (hx : Ext w w') : ZeroIn w' k := (hx.block _ (heap_lt h)).trans h
theorem copy_done {w w2 W W' : World} {k1 k2 : Nat} {o : Thing} {ul uo uh : Value} (hk : k1 = w.heap.size ∧ k2 = w.heap.size + 1) (hs : w2.heap.size = w.heap.size + 2) (y : OwnT w2.heap.size W o ul uo uh ∧ Ext w W) (hG : W.grownBy W' (some k2)) : OwnT w.heap.size W' o ul uo uh ∧ Ext w W' :=
  ⟨(y.1.kept hG (by omega)).low (by omega), y.2.grown hG y.2.size (by intro k e; injection e with e; omega)⟩
theorem copy_facts {w w2 w' : World} {k1 k2 : Nat} {o : Thing} {vl vo vh : Value} {A1 A2 A3 : Option Addr} {c1 c2 c3 : Nat} (hk : k1 = w.heap.size ∧ k2 = w.heap.size + 1) (hs : w2.heap.size = w.heap.size + 2) (hx : Ext w w2) (hr : Ext w2 w') (hg : ThingIn w2 k1 o vl vo vh) (hz : ZeroIn w2 k2)
    (o1 : w'.ownsRow w2.heap.size labT 2 (.slice A1 o.labels.length c1) o.labels.length (flatL o.labels)) (o2 : SRow w2.heap.size w' (.slice A2 o.owners.length c2) o.owners) (o3 : SRow w2.heap.size w' (.slice A3 o.holds.length c3) o.holds) (o5 : Hid (∀ g, (Value.slice A2 o.owners.length c2).ownBlock = some g → (Value.slice A3 o.holds.length c3).ownBlock ≠ some g)) :
    ∃ W, W = w'.setCells k1 3 [.slice A1 o.labels.length c1, .slice A2 o.owners.length c2, .slice A3 o.holds.length c3] ∧ ThingIn W k1 o (.slice A1 o.labels.length c1) (.slice A2 o.owners.length c2) (.slice A3 o.holds.length c3) ∧ ZeroIn W k2 ∧
      OwnT w2.heap.size W o (.slice A1 o.labels.length c1) (.slice A2 o.owners.length c2) (.slice A3 o.holds.length c3) ∧ Ext w W := by
  refine ⟨_, rfl, three_sets (hg.ext hr) _ _ _, ?_, ?_, ?_⟩
  all_goals have hG := grown_setCells w' k1 3 [.slice A1 o.labels.length c1, .slice A2 o.owners.length c2, .slice A3 o.holds.length c3]
  · have h2 : ZeroIn w' k2 := (hr.block _ (heap_lt hz)).trans hz
    exact (hG.block k2 (heap_lt h2) (by simp; omega)).trans h2
  · exact OwnT.kept ⟨o1, o2, o3, o5.out⟩ hG (by omega)
  · exact (hx.trans hr).grown hG (Nat.le_trans hx.size hr.size) (by intro k e; injection e with e; omega)

set_option maxRecDepth 100000 in
set_option maxHeartbeats 4000000 in
theorem copy_thing (B : Nat) (o : Thing) (vl vo vh : Value) (w : World) (hB : B ≤ w.heap.size) (h : o.fits B w vl vo vh) :
    Calls Try.prog 67 #[o.val vl vo vh] w fun e w' => ∃ ul uo uh, e = .returned (o.val ul uo uh) ∧ OwnT w.heap.size w' o ul uo uh ∧ Ext w w' := by
  obtain ⟨k1, hk1⟩ : ∃ k, k = w.heap.size := ⟨_, rfl⟩
  obtain ⟨k2, hk2⟩ : ∃ k, k = w.heap.size + 1 := ⟨_, rfl⟩
  obtain ⟨w2, hw2⟩ : ∃ w2, w2 = (w.alloc (.cells #[.string o.kind, .string o.space, .string o.name, vl, vo, vh, .bool o.ending, .string o.uid, .int .i64 o.rev, .string o.doc] 54)).alloc (.cells #[.string ⟨#[]⟩, .string ⟨#[]⟩, .string ⟨#[]⟩, .slice none 0 0, .slice none 0 0, .slice none 0 0, .bool false, .string ⟨#[]⟩, .int .i64 0, .string ⟨#[]⟩] 54) := ⟨_, rfl⟩
  have hx2 : Ext w w2 := by rw [hw2]; exact ((Below.refl _ _).alloc (Nat.le_refl _) _).alloc (by simp) _
  have hg1 : ThingIn w2 k1 o vl vo vh := by rw [hw2]; exact heap_old (heap_new hk1)
  have HF := Lib.hid (h.below (hx2.mono hB) (Nat.le_refl _))
  have HB2 : Hid (B ≤ w2.heap.size) := Nat.le_trans hB hx2.size
  have HG := Lib.hid hg1
  have HX2 := Lib.hid hx2
  have HZ2 : Hid (ZeroIn w2 k2) := by rw [hw2]; exact heap_new (by simp [hk2])
  obtain ⟨q3, q4, q5⟩ : Lim w2 k1 vl vo vh := ⟨hg1.cells.2.2.2.1, hg1.cells.2.2.2.2.1, hg1.cells.2.2.2.2.2.1⟩
  obtain ⟨z3, z4, z5⟩ := hg1.free
  have hcs : ∀ w', Ext w2 w' → Ext w2 w' ∧ w'.cell? ⟨k1, 3, none⟩ = some vl ∧ w'.cell? ⟨k1, 4, none⟩ = some vo ∧ w'.cell? ⟨k1, 5, none⟩ = some vh ∧ w'.frozen? ⟨k1, 3, none⟩ = false ∧ w'.frozen? ⟨k1, 4, none⟩ = false ∧ w'.frozen? ⟨k1, 5, none⟩ = false := fun w' hx =>
    have hg := HG.out.ext hx
    ⟨hx, hg.cells.2.2.2.1, hg.cells.2.2.2.2.1, hg.cells.2.2.2.2.2.1, hg.free.1, hg.free.2.1, hg.free.2.2⟩
  have C1 : Hid (∀ wk, Ext w2 wk → Calls Try.prog 122 #[vl] wk fun e w' => ∃ A c, e = .returned (.slice A o.labels.length c) ∧ w'.ownsRow w2.heap.size labT 2 (.slice A o.labels.length c) o.labels.length (flatL o.labels) ∧ Ext wk w' ∧ Ext w2 w' ∧ w'.cell? ⟨k1, 3, none⟩ = some vl ∧ w'.cell? ⟨k1, 4, none⟩ = some vo ∧ w'.cell? ⟨k1, 5, none⟩ = some vh ∧ w'.frozen? ⟨k1, 3, none⟩ = false ∧ w'.frozen? ⟨k1, 4, none⟩ = false ∧ w'.frozen? ⟨k1, 5, none⟩ = false) := fun wk hk =>
    (clone_labs_own (HF.out.1.below (hk.mono HB2.out) (Nat.le_refl _))).mono fun e w' ⟨A, c, he, ho, hx⟩ => ⟨A, c, he, own_low ho hk.size, hx, hcs w' (hk.trans hx)⟩
  have C2 : Hid (∀ wk, Ext w2 wk → Calls Try.prog 123 #[vo] wk fun e w' => ∃ A c, e = .returned (.slice A o.owners.length c) ∧ SRow w2.heap.size w' (.slice A o.owners.length c) o.owners ∧ Ext wk w' ∧ Ext w2 w' ∧ w'.cell? ⟨k1, 3, none⟩ = some vl ∧ w'.cell? ⟨k1, 4, none⟩ = some vo ∧ w'.cell? ⟨k1, 5, none⟩ = some vh ∧ w'.frozen? ⟨k1, 3, none⟩ = false ∧ w'.frozen? ⟨k1, 4, none⟩ = false ∧ w'.frozen? ⟨k1, 5, none⟩ = false) := fun wk hk =>
    (clone_row (HF.out.2.1.below (hk.mono HB2.out) (Nat.le_refl _))).mono fun e w' ⟨A, c, he, ho, hx⟩ => ⟨A, c, he, ho.low hk.size, hx, hcs w' (hk.trans hx)⟩
  have C3 : Hid (∀ wk, Ext w2 wk → Calls Try.prog 123 #[vh] wk fun e w' => ∃ A c, e = .returned (.slice A o.holds.length c) ∧ SRow w2.heap.size w' (.slice A o.holds.length c) o.holds ∧ Hid (∀ g, (Value.slice A o.holds.length c).ownBlock = some g → wk.heap.size ≤ g) ∧ Ext wk w' ∧ Ext w2 w' ∧ w'.cell? ⟨k1, 3, none⟩ = some vl ∧ w'.cell? ⟨k1, 4, none⟩ = some vo ∧ w'.cell? ⟨k1, 5, none⟩ = some vh ∧ w'.frozen? ⟨k1, 3, none⟩ = false ∧ w'.frozen? ⟨k1, 4, none⟩ = false ∧ w'.frozen? ⟨k1, 5, none⟩ = false) := fun wk hk =>
    (clone_row (HF.out.2.2.below (hk.mono HB2.out) (Nat.le_refl _))).mono fun e w' ⟨A, c, he, ho, hx⟩ => ⟨A, c, he, ho.low hk.size, (fun g e => (ho.block g e).1), hx, hcs w' (hk.trans hx)⟩
  have hxx : Ext w2 w2 := Below.refl _ _
  unfold Thing.val
  go_enter Try.func67, Try.ntmps67
  clear hcs hx2 hg1 h
  go_wp2_with fail
  rw [← hw2, ← hk2, ← hk1]
  have HK := Lib.hid (And.intro hk1 hk2)
  have HS2 : Hid (w2.heap.size = w.heap.size + 2) := by unfold Hid; rw [hw2]; simp
  clear hw2 hk1 hk2
  go_region_law (first
    | (go_simp; go_at_call 122; with_reducible refine (C1.out _ (by first | assumption | (apply Below.drew; assumption))).mono ?_; rintro e w' ⟨a1, d1, rfl, o1, hx, r0, r1, r2, r3, f1, f2, f3⟩)
    | (go_simp; go_at_call 123; with_reducible refine (C2.out _ (by first | assumption | (apply Below.drew; assumption))).mono ?_; rintro e w' ⟨a2, d2, rfl, o2, hx, r0, r1, r2, r3, f1, f2, f3⟩; first | replace o1 := own_ext o1 hx | replace o1 := own_ext o1 hx.undrew)
    | (go_simp; go_at_call 123; with_reducible refine (C3.out _ (by first | assumption | (apply Below.drew; assumption))).mono ?_; rintro e w' ⟨a3, d3, rfl, o3, o4, hx, r0, r1, r2, r3, f1, f2, f3⟩; have o5 := apart_of o2 o4 (Nat.le_refl _); first | (replace o1 := own_ext o1 hx; replace o2 := o2.ext hx) | (replace o1 := own_ext o1 hx.undrew; replace o2 := o2.ext hx.undrew)))
  all_goals
    obtain ⟨W, hW, y1, y2, y3, y6⟩ := copy_facts HK.out HS2.out HX2.out r0 HG.out HZ2.out o1 o2 o3 o5
    have Y := Lib.hid (And.intro y3 y6)
    obtain ⟨g0, g1, g2, g3, g4, g5, g6, g7, g8, g9⟩ := y1.cells
    obtain ⟨i0, i1, i2, i3, i4, i5, i6, i7, i8, i9⟩ := y2.free
    obtain ⟨j0, j1, j2, j3, j4, j5, j6, j7, j8, j9⟩ := y2.cells
    have Y2 := Lib.hid y2
    have hne : k1 ≠ k2 := by have := HK.out; omega
    have e : ((w'.setCell ⟨k1, 3, none⟩ (.slice a1 o.labels.length d1)).setCell ⟨k1, 4, none⟩ (.slice a2 o.owners.length d2)).setCell ⟨k1, 5, none⟩ (.slice a3 o.holds.length d3) = W := hW.symm
    rw [e]
    clear e hW y1 y2 y3 y6 o1 o2 o3 o4 o5 r0 r1 r2 r3 f1 f2 f3 q3 q4 q5 z3 z4 z5 hx hxx
    go_wp2
    obtain ⟨W', hW', t1, t2⟩ := put_zero Y2.out o (.slice a1 o.labels.length d1) (.slice a2 o.owners.length d2) (.slice a3 o.holds.length d3)
    have e' : (((((((((W.setCell ⟨k2, 0, none⟩ (.string o.kind)).setCell ⟨k2, 1, none⟩ (.string o.space)).setCell ⟨k2, 2, none⟩ (.string o.name)).setCell ⟨k2, 3, none⟩ (.slice a1 o.labels.length d1)).setCell ⟨k2, 4, none⟩ (.slice a2 o.owners.length d2)).setCell ⟨k2, 5, none⟩ (.slice a3 o.holds.length d3)).setCell ⟨k2, 6, none⟩ (.bool o.ending)).setCell ⟨k2, 7, none⟩ (.string o.uid)).setCell ⟨k2, 8, none⟩ (.int .i64 o.rev)).setCell ⟨k2, 9, none⟩ (.string o.doc) = W' := hW'.symm
    rw [e']
    have R := Lib.hid (copy_done HK.out HS2.out Y.out t2)
    have T1 := Lib.hid t1
    clear e' hW' t1 t2 g0 g1 g2 g3 g4 g5 g6 g7 g8 g9 i0 i1 i2 i3 i4 i5 i6 i7 i8 i9 j0 j1 j2 j3 j4 j5 j6 j7 j8 j9
    refine bodyPost_ret (results_c rfl _ _ k2 rfl T1.out) rfl ?_
    exact ⟨_, _, _, rfl, R.out.1, R.out.2⟩
end Go.Proofs.Ytpbbohinhbboaaa.Sx
