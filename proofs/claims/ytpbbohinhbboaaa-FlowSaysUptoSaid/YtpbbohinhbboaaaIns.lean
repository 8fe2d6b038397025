/-
  A row of integers of the call's own: what it looks like; slices.Insert of one number into it.
-/
import Derived.Test.YtpbbohinhbboaaaBase
import Derived.Test.YtpbbohinhbboaaaSfb
import Derived.Laws.AppendOwn
import Derived.Deep.Upon
namespace Go.Proofs.Ytpbbohinhbboaaa.Sx
open Go Go.RowKit

abbrev iT : Nat := 3
def ints (zs : List Int) : List Value := zs.map (Value.int .i64)
theorem ints_len (zs : List Int) : (ints zs).length = zs.length := List.length_map _
/-- The slice v is the call's own row of these numbers. -/
def IRow (base : Nat) (w : World) (v : Value) (zs : List Int) : Prop :=
  (v = .slice none 0 0 ∧ zs = []) ∨ ∃ g rest, v = .slice (some ⟨g, 0, none⟩) zs.length (zs.length + rest.length) ∧ base ≤ g ∧ w.heap[g]? = some (.cells (ints zs ++ rest).toArray iT (0, 0)) ∧ zs.length + rest.length ≤ maxLen
theorem IRow.owns {base : Nat} {w : World} {v : Value} {zs : List Int} (h : IRow base w v zs) : w.ownsRow base iT 1 v zs.length (ints zs) := by
  refine ⟨by rw [ints_len, Nat.mul_one], ?_⟩
  rcases h with ⟨rfl, rfl⟩ | ⟨g, rest, rfl, hb, hg, hm⟩
  · exact .inl ⟨rfl, rfl⟩
  · refine .inr ⟨g, _, _, rfl, hb, hg, by omega, hm, ?_, ?_⟩
    · simp [ints_len]
    · rw [Nat.mul_one]
      have : (ints zs ++ rest).take zs.length = ints zs := by rw [← ints_len, List.take_left']; rfl
      simpa using this
theorem IRow.of_owns {base : Nat} {w : World} {v : Value} {zs : List Int} {n : Nat} (hn : n = zs.length) (h : w.ownsRow base iT 1 v n (ints zs)) : IRow base w v zs := by
  subst hn
  rcases h.2 with ⟨rfl, h0⟩ | ⟨g, cap, cur, rfl, hb, hg, hnc, hm, hs, ht⟩
  · exact .inl ⟨rfl, List.length_eq_zero_iff.1 h0⟩
  · rw [Nat.mul_one] at ht hs
    have hl : cur.toList.length = cap := by simpa using hs
    have he : cur = (ints zs ++ cur.toList.drop zs.length).toArray := by
      rw [← ht, List.take_append_drop, Array.toArray_toList]
    refine .inr ⟨g, cur.toList.drop zs.length, ?_, hb, by rw [hg, ← he], ?_⟩
    · rw [List.length_drop, hl, Nat.add_sub_cancel' hnc]
    · rw [List.length_drop, hl]; omega
theorem IRow.nil {base : Nat} {w : World} : IRow base w (.slice none 0 0) [] := .inl ⟨rfl, rfl⟩
/-- It stands where only other blocks have turned. -/
theorem IRow.kept {base : Nat} {w w' : World} {v : Value} {zs : List Int} {row : Option Nat} (h : IRow base w v zs) (hg : w.grownBy w' row) (hne : ∀ g, v.ownBlock = some g → row ≠ some g) : IRow base w' v zs := by
  rcases h with h | ⟨g, rest, rfl, hb, hh, hm⟩
  · exact .inl h
  · refine .inr ⟨g, rest, rfl, hb, (hg.block g (heap_lt hh) (fun e => hne g rfl e.symm)).trans hh, hm⟩
theorem grown_of_ext {w w' : World} (h : Ext w w') : w.grownBy w' none := ⟨h.os, h.tape, h.output, h.size, fun k hk _ => h.block k hk⟩
theorem IRow.ext {base : Nat} {w w' : World} {v : Value} {zs : List Int} (h : IRow base w v zs) (he : Ext w w') : IRow base w' v zs := h.kept (grown_of_ext he) (fun g _ => by simp)
theorem IRow.block {base : Nat} {w : World} {v : Value} {zs : List Int} (h : IRow base w v zs) : ∀ g, v.ownBlock = some g → base ≤ g ∧ g < w.heap.size := by
  rcases h with ⟨rfl, _⟩ | ⟨g, rest, rfl, hb, hh, hm⟩
  · intro g hg; simp [Value.ownBlock] at hg
  · intro g' hg
    have : g = g' := by simpa [Value.ownBlock] using hg
    subst this
    exact ⟨hb, heap_lt hh⟩
theorem IRow.slice {base : Nat} {w : World} {v : Value} {zs : List Int} (h : IRow base w v zs) : ∃ A c, v = .slice A zs.length c := by
  rcases h with ⟨rfl, rfl⟩ | ⟨g, rest, rfl, _⟩
  · exact ⟨_, _, rfl⟩
  · exact ⟨_, _, rfl⟩

/-- Cells of a block, written one behind the other. -/
theorem heap_setCells {b : Nat} {t : TypeId} {f : Nat × Nat} (vs : List Value) : ∀ (A B C : List Value) (w : World), B.length = vs.length → w.heap[b]? = some (.cells (A ++ B ++ C).toArray t f) → (w.setCells b A.length vs).heap[b]? = some (.cells (A ++ vs ++ C).toArray t f) := by
  induction vs with
  | nil =>
    intro A B C w hB h
    have : B = [] := List.length_eq_zero_iff.1 hB
    subst this
    exact h
  | cons x r ih =>
    intro A B C w hB h
    cases B with
    | nil => simp at hB
    | cons y B =>
      have h1 : (w.setCell ⟨b, A.length, none⟩ x).heap[b]? = some (.cells ((A ++ [x]) ++ B ++ C).toArray t f) := by
        simp [World.setCell, Array.getElem?_modify, h]
      have h2 := ih (A ++ [x]) B C _ (by simpa using hB) h1
      rw [List.length_append] at h2
      simpa [World.setCells] using h2
theorem grown_setCells (w : World) (b o : Nat) (vs : List Value) : w.grownBy (w.setCells b o vs) (some b) := by
  have hk := World.keptBut_setCells b (may := fun _ => True) vs o w (fun _ _ => trivial)
  have hs : ∀ (vs : List Value) (o : Nat) (w : World), (w.setCells b o vs).heap.size = w.heap.size ∧ (w.setCells b o vs).tape = w.tape := by
    intro vs
    induction vs with
    | nil => intro o w; exact ⟨rfl, rfl⟩
    | cons x r ih =>
      intro o w
      have := ih (o + 1) (w.setCell ⟨b, o, none⟩ x)
      exact ⟨this.1.trans (by simp [World.setCell]), this.2.trans rfl⟩
  exact ⟨World.os_setCells w b o vs, (hs vs o w).2, World.output_setCells w b o vs, Nat.le_of_eq (hs vs o w).1.symm, fun k hk hne => World.heap_setCells_other w b o vs hk (fun e => hne (by rw [e]))⟩
theorem grown_trans {w w' w'' : World} {row : Option Nat} (h : w.grownBy w' row) (h' : w'.grownBy w'' row) : w.grownBy w'' row :=
  ⟨h'.os.trans h.os, h'.tape.trans h.tape, h'.output.trans h.output, Nat.le_trans h.size h'.size, fun k hk hne => (h'.block k (Nat.lt_of_lt_of_le hk h.size) hne).trans (h.block k hk hne)⟩
/-- A new block may be written too. -/
theorem grown_of_ext' {w w' : World} {row : Option Nat} (h : Ext w w') : w.grownBy w' row := ⟨h.os, h.tape, h.output, h.size, fun k hk _ => h.block k hk⟩
theorem grown_new {w w' : World} {o : Obj} {row : Option Nat} (h : (w.alloc o).grownBy w' (some w.heap.size)) : w.grownBy w' row :=
  ⟨h.os, h.tape, h.output, by have := h.size; simp at this; omega, fun k hk _ => (h.block k (by simp; omega) (fun e => by injection e with e; omega)).trans (Below.heap_alloc w o k hk)⟩
theorem grown_drew (w : World) (row : Option Nat) : w.grownBy w.drew row := ⟨rfl, rfl, rfl, Nat.le_refl _, fun _ _ _ => rfl⟩

/-- zs with x put in at place i. -/
def putAt (zs : List Int) (i : Nat) (x : Int) : List Int := zs.take i ++ x :: zs.drop i
theorem putAt_len (zs : List Int) (i : Nat) (x : Int) : (putAt zs i x).length = zs.length + 1 := by
  simp only [putAt, List.length_append, List.length_take, List.length_cons, List.length_drop]
  omega
theorem ints_putAt (zs : List Int) (i : Nat) (x : Int) : ints (putAt zs i x) = (ints zs).take i ++ [Value.int .i64 x] ++ (ints zs).drop i := by
  simp [ints, putAt, List.map_take, List.map_drop]

/-- What Insert leaves behind. -/
def InsPost (base : Nat) (w : World) (v : Value) (zs' : List Int) (e : Ending) (w' : World) : Prop :=
  ∃ g c, e = .returned (.slice (some ⟨g, 0, none⟩) zs'.length c) ∧ IRow base w' (.slice (some ⟨g, 0, none⟩) zs'.length c) zs' ∧ w.grownBy w' v.ownBlock ∧ (v.ownBlock = some g ∨ g = w.heap.size)

theorem ins_new {base : Nat} {w w' : World} {v : Value} {zs' : List Int} {Z : List Value} {n cap : Nat} (hn : n = zs'.length) (hh : w'.heap[w.heap.size]? = some (.cells (ints zs' ++ Z).toArray iT (0, 0))) (hc : zs'.length + Z.length = cap) (hm : cap ≤ maxLen) (hbase : base ≤ w.heap.size) (hg : w.grownBy w' v.ownBlock) :
    InsPost base w v zs' (.returned (.slice (some ⟨w.heap.size, 0, none⟩) n cap)) w' := by
  subst hn hc
  exact ⟨_, _, rfl, .inr ⟨_, Z, rfl, hbase, hh, hm⟩, hg, .inr rfl⟩
theorem ins_old {base g : Nat} {w w' : World} {v : Value} {zs' : List Int} {Z : List Value} {n cap : Nat} (hn : n = zs'.length) (hh : w'.heap[g]? = some (.cells (ints zs' ++ Z).toArray iT (0, 0))) (hc : zs'.length + Z.length = cap) (hm : cap ≤ maxLen) (hb : base ≤ g) (hv : v.ownBlock = some g) (hg : w.grownBy w' (some g)) :
    InsPost base w v zs' (.returned (.slice (some ⟨g, 0, none⟩) n cap)) w' := by
  subst hn hc
  exact ⟨_, _, rfl, .inr ⟨_, Z, rfl, hb, hh, hm⟩, by rw [hv]; exact hg, .inl hv⟩
theorem zeros_len (z : Value) (k : Nat) (h : z.cells.size = 1) : (Builtin.zeroCells z.cells k).toList.length = k := by
  have := size_zeroCells z.cells k
  rw [h, Nat.mul_one] at this
  simpa using this
theorem arr_append (A : List Value) (Z : Array Value) : A.toArray ++ Z = (A ++ Z.toList).toArray := by
  apply Array.ext'
  simp

theorem insert_any (base vb i : Nat) (x : Int) (zs : List Int) (v : Value) (w : World) (hrow : IRow base w v zs) (hi : i ≤ zs.length) (hn : zs.length ≤ 1048576) (hvb : w.heap[vb]? = some (.cells #[.int .i64 x] iT (0, 0))) (hne : v.ownBlock ≠ some vb) (hbase : base ≤ w.heap.size) :
    Calls Try.prog 66 #[v, .int .i64 (i : Int), .slice (some ⟨vb, 0, none⟩) 1 1] w (InsPost base w v (putAt zs i x)) := by
  have hvs : ∀ j u, [Value.int .i64 x][j]? = some u → w.cell? ⟨vb, 0 + j, none⟩ = some u := fun j u hu => by
    have h := cell_of hvb (0 + j)
    rw [h]
    simpa using hu
  have h1v : ∀ u ∈ [Value.int .i64 x], u.oneCell' = true := by simp [Value.oneCell']
  have h1c : ∀ u ∈ ints zs, u.oneCell' = true := by
    intro u hu
    obtain ⟨z, _, rfl⟩ := List.mem_map.1 hu
    rfl
  have hpl := putAt_len zs i x
  rcases hrow with ⟨rfl, rfl⟩ | ⟨g, rest, rfl, hb, hg, hm⟩
  · obtain rfl : i = 0 := by simpa using hi
    refine (Any2.slices_Insert_int_end_grow Try.laysNm221 none 0 0 vb 0 1 1 [] [Value.int .i64 x] w (by omega) (by omega) (by omega) (by omega) rfl rfl (fun _ => rfl) (fun a h => by cases h) hvs h1v).mono fun e w' ⟨he, hw⟩ => ?_
    have hge := grownCap_ge w 1 0 iT
    have hle := grownCap_le_maxLen w 1 0 iT (by unfold maxLen; omega)
    have hz := zeros_len (Value.int .i64 0) (grownCap w 1 0 iT - 1) rfl
    subst he
    refine ins_new (Z := (Builtin.zeroCells (Value.int .i64 0).cells (grownCap w 1 0 iT - 1)).toList) rfl ?_ ?_ hle hbase ?_
    · rw [hw, arr_append]
      exact heap_new (w := w.drew) rfl
    · rw [hz, hpl]
      show 0 + 1 + _ = grownCap w 1 0 iT
      omega
    · rw [hw]
      exact grown_trans (grown_drew _ _) (grown_of_ext' ((Below.refl _ _).alloc (Nat.le_refl _) _))
  · have hl := ints_len zs
    have hcs : ∀ j u, (ints zs)[j]? = some u → w.cell? ⟨g, 0 + j, none⟩ = some u := fun j u hu => by
      have h := cell_of hg (0 + j)
      rw [h, Nat.zero_add]
      have hj := (List.getElem?_eq_some_iff.1 hu).1
      simpa [List.getElem?_append_left hj] using hu
    by_cases hr : rest.length = 0
    · have hr0 : rest = [] := List.length_eq_zero_iff.1 hr
      subst hr0
      by_cases hin : i = zs.length
      · subst hin
        refine (Any2.slices_Insert_int_end_grow Try.laysNm221 (some ⟨g, 0, none⟩) zs.length (zs.length + 0) vb 0 1 1 (ints zs) [Value.int .i64 x] w (by omega) (by omega) (by omega) (by omega) hl rfl (fun h => by cases h) (fun a h j u hu => by cases h; rw [Addr.add_lit]; exact hcs j u hu) hvs h1v).mono fun e w' ⟨he, hw⟩ => ?_
        have hge := grownCap_ge w (zs.length + 1) (zs.length + 0) iT
        have hle := grownCap_le_maxLen w (zs.length + 1) (zs.length + 0) iT (by unfold maxLen; omega)
        have hz := zeros_len (Value.int .i64 0) (grownCap w (zs.length + 1) (zs.length + 0) iT - (zs.length + 1)) rfl
        have hp : ints (putAt zs zs.length x) = ints zs ++ [Value.int .i64 x] := by rw [ints_putAt, ← hl, List.take_length, List.drop_length, List.append_nil]
        subst he
        refine ins_new (Z := (Builtin.zeroCells (Value.int .i64 0).cells (grownCap w (zs.length + 1) (zs.length + 0) iT - (zs.length + 1))).toList) hpl.symm ?_ ?_ hle hbase ?_
        · rw [hw, hp, arr_append]
          exact heap_new (w := w.drew) rfl
        · rw [hz, hpl]
          show _ = grownCap w (zs.length + 1) (zs.length + 0) iT
          omega
        · rw [hw]
          exact grown_trans (grown_drew _ _) (grown_of_ext' ((Below.refl _ _).alloc (Nat.le_refl _) _))
      · have hlt : i < zs.length := by omega
        refine (Any2.slices_Insert_int_grow Try.laysNm221 g 0 zs.length (zs.length + 0) i vb 0 1 1 (ints zs) [Value.int .i64 x] w hlt (by omega) (by omega) (by omega) (by omega) hl rfl hcs hvs h1c h1v).mono fun e w' ⟨he, hw⟩ => ?_
        have hge := grownCap_ge w (zs.length + 1) (zs.length + 0) iT
        have hle := grownCap_le_maxLen w (zs.length + 1) (zs.length + 0) iT (by unfold maxLen; omega)
        have hz := zeros_len (Value.int .i64 0) (grownCap w (zs.length + 1) (zs.length + 0) iT - (zs.length + 1)) rfl
        have hz1 := zeros_len (Value.int .i64 0) (zs.length + 1 - i) rfl
        obtain ⟨Z2, hZ2⟩ : ∃ Z2, Z2 = (Builtin.zeroCells (Value.int .i64 0).cells (grownCap w (zs.length + 1) (zs.length + 0) iT - (zs.length + 1))).toList := ⟨_, rfl⟩
        obtain ⟨Z1, hZ1⟩ : ∃ Z1, Z1 = (Builtin.zeroCells (Value.int .i64 0).cells (zs.length + 1 - i)).toList := ⟨_, rfl⟩
        rw [← hZ2] at hz
        rw [← hZ1] at hz1
        subst he
        have htk : ((ints zs).take i).length = i := by rw [List.length_take, hl]; omega
        have h0 : (w.alloc (.cells (((ints zs).take i).toArray ++ Builtin.zeroCells (Value.int .i64 0).cells (zs.length + 1 - i) ++ Builtin.zeroCells (Value.int .i64 0).cells (grownCap w (zs.length + 1) (zs.length + 0) iT - (zs.length + 1))) iT)).drew.heap[w.heap.size]? = some (.cells ((ints zs).take i ++ Z1.take 1 ++ (Z1.drop 1 ++ Z2)).toArray iT (0, 0)) := by
          rw [arr_append, arr_append, ← hZ1, ← hZ2]
          have e : (ints zs).take i ++ Z1 ++ Z2 = (ints zs).take i ++ Z1.take 1 ++ (Z1.drop 1 ++ Z2) := by simp only [List.append_assoc]; rw [← List.append_assoc (Z1.take 1), List.take_append_drop]
          rw [e]
          exact heap_new rfl
        have h1 := heap_setCells [Value.int .i64 x] _ _ _ _ (by rw [List.length_take, hz1]; simp; omega) h0
        rw [htk] at h1
        have h2 := heap_setCells ((ints zs).drop i) ((ints zs).take i ++ [Value.int .i64 x]) (Z1.drop 1) Z2 (((w.alloc (.cells (((ints zs).take i).toArray ++ Builtin.zeroCells (Value.int .i64 0).cells (zs.length + 1 - i) ++ Builtin.zeroCells (Value.int .i64 0).cells (grownCap w (zs.length + 1) (zs.length + 0) iT - (zs.length + 1))) iT)).drew.setCells w.heap.size i [Value.int .i64 x]).drew) (by rw [List.length_drop, List.length_drop, hz1, hl]; omega) (by
          have e : (ints zs).take i ++ [Value.int .i64 x] ++ (Z1.drop 1 ++ Z2) = (ints zs).take i ++ [Value.int .i64 x] ++ Z1.drop 1 ++ Z2 := by simp only [List.append_assoc]
          rw [← e]
          exact h1)
        rw [List.length_append, htk] at h2
        refine ins_new (Z := Z2) hpl.symm ?_ ?_ hle hbase ?_
        · rw [hw, ints_putAt]
          exact h2
        · rw [hz, hpl]
          show _ = grownCap w (zs.length + 1) (zs.length + 0) iT
          omega
        · rw [hw]
          exact grown_new (grown_trans (grown_drew _ _) (grown_trans (grown_setCells _ _ _ _) (grown_trans (grown_drew _ _) (grown_setCells _ _ _ _))))
    · obtain ⟨r0, rest', hrr⟩ : ∃ r0 rest', rest = r0 :: rest' := by
        cases rest with
        | nil => exact absurd rfl hr
        | cons a b => exact ⟨a, b, rfl⟩
      subst hrr
      by_cases hin : i = zs.length
      · subst hin
        have hp : ints (putAt zs zs.length x) = ints zs ++ [Value.int .i64 x] := by rw [ints_putAt, ← hl, List.take_length, List.drop_length, List.append_nil]
        have hspare : w.cell? ⟨g, 0 + zs.length + 0, none⟩ = some r0 := by
          rw [cell_of hg]
          simp [hl]
        have hg' : w.heap[g]? = some (.cells (ints zs ++ [r0] ++ rest').toArray iT (0, 0)) := by rw [hg]; simp
        have hsome : ∀ j, j < 1 → (w.cell? ⟨g, 0 + zs.length + j, none⟩).isSome = true := fun j hj => by
          obtain rfl : j = 0 := by omega
          rw [hspare]
          rfl
        refine (Any2.slices_Insert_int_end_room Try.laysNm221 g 0 zs.length (zs.length + (r0 :: rest').length) vb 0 1 1 [Value.int .i64 x] w (by omega) (by simp) (by unfold maxLen at hm; exact hm) rfl hsome (fun j _ => free_of hg _) hvs h1v).mono fun e w' ⟨he, hw⟩ => ?_
        have h1 := heap_setCells [Value.int .i64 x] (ints zs) [r0] rest' w rfl hg'
        rw [hl] at h1
        subst he
        refine ins_old (Z := rest') hpl.symm (g := g) ?_ (by rw [hpl]; simp; omega) hm hb rfl ?_
        · rw [hw, hp, Nat.zero_add]
          exact h1
        · rw [hw]
          exact grown_setCells _ _ _ _
      · have hlt : i < zs.length := by omega
        have hli : i < (ints zs).length := by rw [hl]; exact hlt
        have htk : ((ints zs).take i).length = i := by rw [List.length_take, hl]; omega
        have hsome : ∀ j, j < zs.length + 1 → (w.cell? ⟨g, 0 + j, none⟩).isSome = true := fun j hj => by
          rw [cell_of hg]
          have : 0 + j < (ints zs ++ r0 :: rest').toArray.size := by simp [hl]; omega
          rw [Array.getElem?_eq_getElem this]
          rfl
        have hne' : vb ≠ g := fun e => hne (by rw [e]; rfl)
        refine (Any2.slices_Insert_int_shift Try.laysNm221 g 0 zs.length (zs.length + (r0 :: rest').length) i vb 0 1 1 (ints zs) [Value.int .i64 x] w hlt (by omega) (by simp) (by unfold maxLen at hm; exact hm) hne' hl rfl hcs hsome (fun j _ => free_of hg _) hvs h1c h1v iT iT 1 _ (by unfold World.shape?; rw [hvb]; rfl) (by unfold World.shape?; rw [hg]) (by simp) (free_of hvb _) (free_of hvb _)).mono fun e w' ⟨he, hw⟩ => ?_
        have h0 : w.drew.heap[g]? = some (.cells (((ints zs).take i ++ [(ints zs)[i]]) ++ ((ints zs).drop (i + 1) ++ [r0]) ++ rest').toArray iT (0, 0)) := by
          have e : (ints zs).take i ++ [(ints zs)[i]] ++ ((ints zs).drop (i + 1) ++ [r0]) ++ rest' = ints zs ++ r0 :: rest' := by
            rw [← List.take_succ_eq_append_getElem hli, List.append_assoc, List.append_assoc, ← List.append_assoc (List.take (i + 1) (ints zs)), List.take_append_drop]
            rfl
          rw [e]
          exact hg
        have h1 := heap_setCells ((ints zs).drop i) _ _ _ _ (by simp [hl]; omega) h0
        have h2 := heap_setCells [Value.int .i64 x] ((ints zs).take i) [(ints zs)[i]] ((ints zs).drop i ++ rest') _ rfl (by
          have e : (ints zs).take i ++ [(ints zs)[i]] ++ ((ints zs).drop i ++ rest') = (ints zs).take i ++ [(ints zs)[i]] ++ (ints zs).drop i ++ rest' := by simp only [List.append_assoc]
          rw [e]
          exact h1)
        rw [List.length_append, htk] at h2
        subst he
        refine ins_old (Z := rest') hpl.symm (g := g) ?_ (by rw [hpl]; simp; omega) hm hb rfl ?_
        · rw [hw, ints_putAt, Nat.zero_add, Nat.zero_add]
          have e : (ints zs).take i ++ [Value.int .i64 x] ++ (ints zs).drop i ++ rest' = (ints zs).take i ++ [Value.int .i64 x] ++ ((ints zs).drop i ++ rest') := by simp only [List.append_assoc]
          rw [e]
          exact h2
        · rw [hw]
          exact grown_trans (grown_drew _ _) (grown_trans (grown_setCells _ _ _ _) (grown_setCells _ _ _ _))
end Go.Proofs.Ytpbbohinhbboaaa.Sx
