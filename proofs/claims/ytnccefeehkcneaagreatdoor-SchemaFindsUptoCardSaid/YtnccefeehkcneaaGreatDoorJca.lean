/-
  Rows of one-cell things: what a slice reads as; what is put in between. No function in sight.
  slices.Clone of a slice of strs (printed by gen/jc.py).
  slices.Clone of a slice of vals (printed by gen/jc.py).
-/
import Derived.Test.YtnccefeehkcneaaGreatDoorJm0
import Derived.Test.YtnccefeehkcneaaGreatDoorGrow
import Derived.Lib.Overlaps
import Derived.Lib.AppendZeros
import Derived.Lib.AppendZerosOnto
import Derived.Laws.IdiomCopy
import Derived.Laws.Externs
import Derived.Deep.RegionLaw
import Derived.WalkSpells
import Derived.Lib.SliceRun
import Derived.Shelf.Spec.SlicesInsert
import Derived.IntWalk
import Derived.Laws.Slices
namespace Go.Proofs.YtnccefeehkcneaaGreatDoor.Jm
open Go Go.RowKit Go.Proofs.YtnccefeehkcneaaGreatDoor.Sx Go.Proofs.YtnccefeehkcneaaGreatDoor.Js Go.Proofs.YtnccefeehkcneaaGreatDoor.Gr
theorem ext_row {w V V' : World} {row : Option Nat} (h : Ext w V) (hg : V.grownBy V' row) (hr : ∀ g, row = some g → w.heap.size ≤ g) : Ext w V' :=
  ⟨hg.os.trans h.os, hg.tape.trans h.tape, hg.output.trans h.output, Nat.le_trans h.size hg.size, fun j hj => (hg.block j (Nat.lt_of_lt_of_le hj h.size) (fun e => by have := hr j e.symm; omega)).trans (h.block j hj)⟩
def one (cs : List Value) : List (List Value) := cs.map fun u => [u]
theorem one_flat : ∀ cs : List Value, (one cs).flatten = cs
  | [] => rfl
  | c :: r => by show [c] ++ (one r).flatten = _; rw [one_flat r]; rfl
theorem one_len (cs : List Value) : (one cs).length = cs.length := List.length_map _
theorem one_app (a b : List Value) : one (a ++ b) = one a ++ one b := List.map_append
theorem one_sized {cs : List Value} (h : ∀ u ∈ cs, u.oneCell' = true) : Sized 1 (one cs) := fun t ht => by
  obtain ⟨u, hu, rfl⟩ := List.mem_map.1 ht
  exact ⟨rfl, fun x hx => by rw [List.mem_singleton] at hx; rw [hx]; exact h u hu⟩
theorem one_cells {cs : List Value} (h : Sized 1 (one cs)) : ∀ u ∈ cs, u.oneCell' = true := fun u hu => (h [u] (List.mem_map.2 ⟨u, hu, rfl⟩)).2 u (List.mem_singleton.2 rfl)
/-- The slice at A reads as these cells. -/
def CellsAt (w : World) (A : Option Addr) (cs : List Value) : Prop := ∀ i (hi : i < cs.length), ∃ g off, A = some ⟨g, off, none⟩ ∧ w.cell? ⟨g, off + i, none⟩ = some cs[i]
theorem CellsAt.ext {w w' : World} {A : Option Addr} {cs : List Value} (h : CellsAt w A cs) (hx : Ext w w') : CellsAt w' A cs := fun i hi => by
  obtain ⟨g, off, hA, hc⟩ := h i hi
  exact ⟨g, off, hA, (cell_keep (hx.block g (cell_lt hc))).trans hc⟩
theorem CellsAt.src {w : World} {A : Option Addr} {cs : List Value} {n c : Nat} (h : CellsAt w A cs) (hn : cs.length = n) (h1 : ∀ u ∈ cs, u.oneCell' = true) (h0 : A = none → c = 0 ∨ cs = []) (hc : cs ≠ [] ∨ A ≠ none ∨ True) : GSrc 1 w (.slice A n c) (one cs) := by
  subst hn
  refine ⟨one_sized h1, ?_⟩
  cases A with
  | none =>
    refine .inl ⟨c, ?_, ?_⟩
    · cases cs with
      | nil => rfl
      | cons u r => obtain ⟨g, off, hA, _⟩ := h 0 (by simp); cases hA
    · cases cs with
      | nil => rfl
      | cons u r => obtain ⟨g, off, hA, _⟩ := h 0 (by simp); cases hA
  | some ad =>
    refine .inr ⟨ad, c, by rw [one_len], fun j u hj => ?_⟩
    rw [one_flat] at hj
    obtain ⟨hj1, hj2⟩ := List.getElem?_eq_some_iff.1 hj
    obtain ⟨g, off, hA, hcell⟩ := h j hj1
    injection hA with hA
    rw [hA, Addr.add_lit, hcell, hj2]
theorem ins_eq {α : Type} (x : α) : ∀ (l : List α) (i : Nat), i ≤ l.length → l.insertIdx i x = l.take i ++ x :: l.drop i
  | l, 0, _ => by simp
  | a :: l, i + 1, h => by
    rw [List.insertIdx_succ_cons, ins_eq x l i (by simpa using h)]
    rfl
/-- A row of one-cell things out of its block. -/
theorem grow_of {et base g : Nat} {w : World} {cs rest : List Value} {n c : Nat} (hs : ∀ u ∈ cs, u.oneCell' = true) (hb : base ≤ g) (hg : w.heap[g]? = some (.cells (cs ++ rest).toArray et (0, 0))) (hn : cs.length = n) (hc : n + rest.length = c) (hm : c ≤ maxLen) : GRow et 1 base w (.slice (some ⟨g, 0, none⟩) n c) (one cs) := by
  subst hn
  exact ⟨one_sized hs, .inr ⟨g, c, rest, by rw [one_len], hb, by rw [one_flat]; exact hg, by rw [one_len, Nat.mul_one, Nat.mul_one]; exact hc, by rw [one_len]; omega, hm⟩⟩
theorem grow_to {et base : Nat} {w : World} {A : Option Addr} {cs : List Value} {n c : Nat} (h : GRow et 1 base w (.slice A n c) (one cs)) : n = cs.length ∧ ((A = none ∧ cs = [] ∧ c = 0) ∨ ∃ g rest, A = some ⟨g, 0, none⟩ ∧ base ≤ g ∧ w.heap[g]? = some (.cells (cs ++ rest).toArray et (0, 0)) ∧ n + rest.length = c ∧ c ≤ maxLen) := by
  rcases h.2 with ⟨hv, h0⟩ | ⟨g, c', rest, hv, hb, hg, hc, _, hm⟩
  · injection hv with e1 e2 e3
    have : cs = [] := by simpa [one] using h0
    subst this
    exact ⟨by rw [e2]; rfl, .inl ⟨e1, rfl, e3⟩⟩
  · injection hv with e1 e2 e3
    rw [one_len] at e2 hc
    rw [one_flat] at hg
    refine ⟨e2, .inr ⟨g, rest, e1, hb, hg, by omega, by omega⟩⟩
theorem heap_setCells {b : Nat} {t : TypeId} {f : Nat × Nat} (vs : List Value) : ∀ (A B C : List Value) (w : World), B.length = vs.length → w.heap[b]? = some (.cells (A ++ B ++ C).toArray t f) → (w.setCells b A.length vs).heap[b]? = some (.cells (A ++ vs ++ C).toArray t f) := by
  induction vs with
  | nil =>
    intro A B C w hB h
    have : B = [] := List.length_eq_zero_iff.1 hB
    subst this
    exact h
  | cons x r ih =>
    intro A B C w hB h
    cases B with
    | nil => simp at hB
    | cons y B =>
      have h1 : (w.setCell ⟨b, A.length, none⟩ x).heap[b]? = some (.cells ((A ++ [x]) ++ B ++ C).toArray t f) := by
        simp [World.setCell, Array.getElem?_modify, h]
      have h2 := ih (A ++ [x]) B C _ (by simpa using hB) h1
      rw [List.length_append] at h2
      simpa [World.setCells] using h2
theorem grown_setCellsG (w : World) (b o : Nat) (vs : List Value) : w.grownBy (w.setCells b o vs) (some b) := by
  have hs : ∀ (vs : List Value) (o : Nat) (w : World), (w.setCells b o vs).heap.size = w.heap.size ∧ (w.setCells b o vs).tape = w.tape := fun vs => by
    induction vs with
    | nil => intro o w; exact ⟨rfl, rfl⟩
    | cons x r ih =>
      intro o w
      have := ih (o + 1) (w.setCell ⟨b, o, none⟩ x)
      exact ⟨this.1.trans (by simp [World.setCell]), this.2.trans rfl⟩
  exact ⟨World.os_setCells w b o vs, (hs vs o w).2, World.output_setCells w b o vs, Nat.le_of_eq (hs vs o w).1.symm, fun k hk hne => World.heap_setCells_other w b o vs hk (fun e => hne (by rw [e]))⟩
theorem shape_of {w : World} {g et : Nat} {cs : List Value} (h : w.heap[g]? = some (.cells cs.toArray et (0, 0))) : w.shape? g = some (et, cs.length) := by
  unfold World.shape?
  rw [h]
  simp
theorem frozen_of {w : World} {g et o : Nat} {cs : Array Value} (h : w.heap[g]? = some (.cells cs et (0, 0))) : w.frozen? ⟨g, o, none⟩ = false := by simp [World.frozen?, h]
theorem cell_at {w : World} {g et o : Nat} {cs : List Value} (h : w.heap[g]? = some (.cells cs.toArray et (0, 0))) (ho : o < cs.length) : w.cell? ⟨g, o, none⟩ = some cs[o] := by
  rw [cell_of h, List.getElem?_toArray, List.getElem?_eq_getElem ho]
end Go.Proofs.YtnccefeehkcneaaGreatDoor.Jm
namespace Go.Proofs.YtnccefeehkcneaaGreatDoor.Jm
open Go Go.RowKit Go.Proofs.YtnccefeehkcneaaGreatDoor.Sx Go.Proofs.YtnccefeehkcneaaGreatDoor.Js Go.Proofs.YtnccefeehkcneaaGreatDoor.Gr
theorem ty_strs : GTy 37 9 1 16 (.string ⟨#[]⟩) := ⟨Tryz.underlying37, by kernel_rfl, rfl, by omega, by omega⟩
set_option maxRecDepth 100000 in
set_option maxHeartbeats 2000000 in
theorem clone_strs (A : Option Addr) (n c : Nat) (cs : List Value) (w : World) (hn : cs.length = n) (h1 : ∀ u ∈ cs, u.oneCell' = true) (h : CellsAt w A cs) (hsm : n ≤ 1048576) :
    Calls Tryz.prog 40 #[.slice A n c] w fun e w' => ∃ A' c', e = .returned (.slice A' n c') ∧ GRow 9 1 w.heap.size w' (.slice A' n c') (one cs) ∧ Ext w w' := by
  have q22 : ∀ (w : World) (a : Option Addr) (n c n' c' : Nat), (Go.binOp .eql 37 (.slice a n c) (.slice none n' c')).run Tryz.prog w = .ok (.bool a.isNone) w := fun w a n c n' c' => Lib.run_eql_slice_nil w _ _ a n c n' c' Tryz.underlying37
  cases A with
  | none =>
    have hcs : cs = [] := by
      cases cs with
      | nil => rfl
      | cons u r => obtain ⟨g, off, hA, _⟩ := h 0 (by simp); cases hA
    subst hcs
    obtain rfl : n = 0 := hn.symm
    go_enter Tryz.func40, Tryz.ntmps40
    go_wp2
    go_ret
    exact ⟨none, 0, rfl, GRow.nil, Below.refl _ _⟩
  | some ad =>
    have HS := Lib.hid (h.src (n := n) (c := c) hn h1 (fun e => by cases e) (.inr (.inr trivial)))
    have HN := Lib.hid hn
    clear h hn
    go_enter Tryz.func40, Tryz.ntmps40
    go_wp2_with (at_builtin; refine append_g ty_strs rfl _ _ (by rfl) w.heap.size 0 n _ (.slice (some ⟨w.heap.size, 0, none⟩) 0 0) (.slice (some ad) n c) [] (one cs) (by rfl) (by rfl) (grow_of (cs := []) (rest := []) (fun u hu => by cases hu) (Nat.le_refl _) (heap_new rfl) rfl rfl (by unfold maxLen; omega)) (HS.out.ext (new_ext _ _)) rfl (by rw [one_len]; exact HN.out) (by omega) (new_ext _ _).size ?_; intro A9 c9 w9 h9 g9 _)
    rw [Nat.zero_add] at h9
    have H9 : Hid (GRow 9 1 w.heap.size w9 (.slice A9 n c9) (one cs) ∧ Ext w w9) := by
      refine ⟨h9, ext_row (new_ext w (.cells #[] 9)) g9 fun g e => ?_⟩
      have : w.heap.size = g := by simpa [Value.ownBlock] using e
      omega
    clear h9 g9
    go_wp2
    go_ret
    exact ⟨A9, c9, by first | rfl | (rw [Nat.zero_add]; rfl), H9.out.1, H9.out.2⟩
/-- What Insert leaves. -/
def InsP_strs (base : Nat) (w : World) (v : Value) (cs : List Value) (e : Ending) (w' : World) : Prop := ∃ A' c', e = .returned (.slice A' cs.length c') ∧ GRow 9 1 base w' (.slice A' cs.length c') (one cs) ∧ w.grownBy w' v.ownBlock ∧ ((Value.slice A' cs.length c').ownBlock = v.ownBlock ∨ (Value.slice A' cs.length c').ownBlock = some w.heap.size)
set_option maxRecDepth 100000 in
set_option maxHeartbeats 4000000 in
/-- At the end. -/
theorem insert_end_strs (base : Nat) (A : Option Addr) (n c vb : Nat) (cs : List Value) (x : Value) (w : World) (hrow : GRow 9 1 base w (.slice A n c) (one cs)) (hx : x.oneCell' = true) (hvb : w.heap[vb]? = some (.cells #[x] 9 (0, 0))) (hbase : base ≤ w.heap.size) (hsm : n ≤ 1048576) :
    Calls Tryz.prog 89 #[.slice A n c, .int .i64 (n : Int), .slice (some ⟨vb, 0, none⟩) 1 1] w (InsP_strs base w (.slice A n c) (cs ++ [x])) := by
  have hn := (grow_to hrow).1
  have HR := Lib.hid hrow
  have HN := Lib.hid hn
  have HS : Hid (GSrc 1 w (.slice (some ⟨vb, 0, none⟩) 1 1) [[x]]) := GSrc.one rfl (fun u hu => by rw [List.mem_singleton] at hu; rw [hu]; exact hx) hvb
  have hcap : n ≤ c := by
    rcases (grow_to hrow).2 with ⟨_, h, _⟩ | ⟨g, rest, _, _, _, h, _⟩
    · rw [hn, h]; exact Nat.zero_le _
    · omega
  have hn0 : (0 : Int) ≤ (n : Int) := by omega
  have hnI : (n : Int) ≤ 1048576 := by omega
  have hsl : ∀ W, ∃ V, (Instr.slice 37 (.slice A n c) (some (.int .i64 (n : Int))) none none).run Tryz.prog W = .ok V W := fun W => by
    have h := run_slice_l (P := Tryz.prog) (w := W) 37 A n c Tryz.underlying37 .i64 (n : Int) (by omega) (by omega)
    rw [h]
    have e1 : (sizeOf (Tryz.prog.elem 37)).run Tryz.prog W = .ok 1 W := by kernel_rfl
    rw [e1]
    exact ⟨_, rfl⟩
  obtain ⟨V, hV⟩ : ∃ V, ∀ W, (Instr.slice 37 (.slice A n c) (some (.int .i64 (n : Int))) none none).run Tryz.prog W = .ok V W := by
    refine ⟨sliced A n n c 1, fun W => ?_⟩
    have h := run_slice_l (P := Tryz.prog) (w := W) 37 A n c Tryz.underlying37 .i64 (n : Int) (by omega) (by omega)
    rw [h]
    have e1 : (sizeOf (Tryz.prog.elem 37)).run Tryz.prog W = .ok 1 W := by kernel_rfl
    rw [e1]
    simp only [Result.andThen, Int.toNat_natCast]
  clear hrow hn hsl
  go_enter Tryz.func89, Tryz.ntmps89
  go_wp2_with (at_builtin; refine append_g ty_strs rfl _ _ (by rfl) base n 1 _ (.slice A n c) (.slice (some ⟨vb, 0, none⟩) 1 1) (one cs) [[x]] (by rfl) (by rfl) HR.out HS.out (by rw [one_len]; exact HN.out.symm) rfl (by omega) hbase ?_; intro A9 c9 w9 h9 g9 o9)
  have H9 := Lib.hid (And.intro h9 (And.intro g9 o9))
  clear h9 g9 o9
  go_wp2
  go_ret
  have e : (cs ++ [x]).length = n + 1 := by rw [List.length_append, ← HN.out]; rfl
  exact ⟨A9, c9, by rw [e]; rfl, by rw [e, one_app]; exact H9.out.1, H9.out.2.1, by rw [e]; exact H9.out.2.2⟩
set_option maxRecDepth 100000 in
set_option maxHeartbeats 4000000 in
/-- In the midst, where there is room. -/
theorem insert_shift_strs (base g n c i vb : Nat) (cs rest : List Value) (x : Value) (w : World) (h1 : ∀ u ∈ cs, u.oneCell' = true) (hb : base ≤ g) (hg : w.heap[g]? = some (.cells (cs ++ rest).toArray 9 (0, 0))) (hn : cs.length = n) (hc : n + rest.length = c) (hm : c ≤ maxLen) (hi : i < n) (hroom : n + 1 ≤ c) (hx : x.oneCell' = true) (hvb : w.heap[vb]? = some (.cells #[x] 9 (0, 0))) (hne : vb ≠ g) :
    Calls Tryz.prog 89 #[.slice (some ⟨g, 0, none⟩) n c, .int .i64 (i : Int), .slice (some ⟨vb, 0, none⟩) 1 1] w (InsP_strs base w (.slice (some ⟨g, 0, none⟩) n c) (cs.insertIdx i x)) := by
  have hlen : (cs ++ rest).length = c := by rw [List.length_append, hn]; exact hc
  have hm2 : c ≤ 9223372036854775807 := by unfold maxLen at hm; omega
  obtain ⟨r0, rest', hr⟩ : ∃ r0 r', rest = r0 :: r' := by
    cases rest with
    | nil => simp at hc; omega
    | cons a r => exact ⟨a, r, rfl⟩
  have hsz : (Tryz.prog.info? 9).map (·.size) = some 1 := by kernel_rfl
  have hov : ∀ lb cb, (callFunc 136 #[.slice (some ⟨vb, 0, none⟩) 1 1, .slice (some ⟨g, i + 1, none⟩) lb cb]).run Tryz.prog w = .ok (.value (.bool false)) w := fun lb cb => by
    have hz : ∀ w, (Go.sizeOf 9).run Tryz.prog w = .ok 1 w := fun w => by kernel_rfl
    have h := Lib.run_overlaps_apart w 37 4 9 Tryz.underlying37 1 hz ⟨vb, 0, none⟩ ⟨g, i + 1, none⟩ 1 1 lb cb hne _ _ _ _ (shape_of (cs := [x]) hvb) (shape_of hg) (by rw [hlen]; omega) (frozen_of hvb) (frozen_of hvb)
    rw [run_callFunc_extern Tryz.func136 (by kernel_rfl) (by kernel_rfl) (by kernel_rfl) (e := Extern.SlicesOverlaps.overlaps #[37, 37] #[4]) (by kernel_rfl), h]
    rfl
  -- the cells from i on move by one
  obtain ⟨W1, hW1⟩ : ∃ W1, W1 = w.drew.setCells g (i + 1) (cs.drop i) := ⟨_, rfl⟩
  have hA : (cs.take (i + 1)).length = i + 1 := by rw [List.length_take]; omega
  have hB : (cs.drop (i + 1) ++ [r0]).length = (cs.drop i).length := by rw [List.length_append, List.length_drop, List.length_drop]; simp; omega
  have g0 : w.drew.heap[g]? = some (.cells (cs.take (i + 1) ++ (cs.drop (i + 1) ++ [r0]) ++ rest').toArray 9 (0, 0)) := by
    have e : cs.take (i + 1) ++ (cs.drop (i + 1) ++ [r0]) ++ rest' = cs ++ rest := by rw [← List.append_assoc, List.take_append_drop, hr, List.append_assoc]; rfl
    rw [e]
    exact hg
  have g1 := heap_setCells (cs.drop i) _ _ _ _ hB g0
  rw [hA, ← hW1] at g1
  have hf1 : ∀ o, W1.frozen? ⟨g, o, none⟩ = false := fun o => frozen_of g1
  have hcp1 : ∀ ty dc sc, (Builtin.copy_ #[37, 37] ty #[.slice (some ⟨g, i + 1, none⟩) (n - i) dc, .slice (some ⟨g, i, none⟩) (n + 1 - i) sc]).run Tryz.prog w.drew = .ok (goInt (cs.drop i).length) W1 := fun ty dc sc => by
    rw [hW1]
    refine run_copy_cells w.drew _ _ ty 9 g (i + 1) (n - i) dc ⟨g, i, none⟩ (n + 1 - i) sc (cs.drop i) Tryz.underlying37 hsz (by rw [List.length_drop]; simp only [Nat.min_def]; split <;> omega) (fun j v hj => ?_) (fun j hj => ?_) (fun j _ => frozen_of (w := w.drew) hg) (fun u hu => h1 u (List.mem_of_mem_drop hu))
    · rw [List.getElem?_drop] at hj
      have hjl := (List.getElem?_eq_some_iff.1 hj).1
      rw [Addr.add_lit, cell_of (w := w.drew) hg, List.getElem?_toArray, List.getElem?_append_left hjl]
      exact hj
    · rw [List.length_drop] at hj
      rw [cell_at (w := w.drew) hg (by rw [hlen]; omega)]
      rfl
  have hvb1 : W1.heap[vb]? = some (.cells #[x] 9 (0, 0)) := by
    rw [hW1, World.heap_setCells_other _ _ _ _ (heap_lt (show w.drew.heap[vb]? = _ from hvb)) hne]
    exact hvb
  obtain ⟨W2, hW2⟩ : ∃ W2, W2 = W1.setCells g i [x] := ⟨_, rfl⟩
  have hcp2 : ∀ ty dc, (Builtin.copy_ #[37, 37] ty #[.slice (some ⟨g, i, none⟩) (n + 1 - i) dc, .slice (some ⟨vb, 0, none⟩) 1 1]).run Tryz.prog W1 = .ok (goInt 1) W2 := fun ty dc => by
    rw [hW2]
    refine run_copy_cells W1 _ _ ty 9 g i (n + 1 - i) dc ⟨vb, 0, none⟩ 1 1 [x] Tryz.underlying37 hsz (by simp only [Nat.min_def]; split <;> simp <;> omega) (fun j v hj => ?_) (fun j hj => ?_) (fun j _ => frozen_of g1) (fun u hu => by rw [List.mem_singleton] at hu; rw [hu]; exact hx)
    · have hjl := (List.getElem?_eq_some_iff.1 hj).1
      rw [Addr.add_lit, cell_of hvb1]
      simpa using hj
    · have hj0 : j = 0 := by simpa using hj
      rw [cell_at g1 (by rw [List.length_append, List.length_append, hA]; omega)]
      rfl
  have g2 : W2.heap[g]? = some (.cells (cs.insertIdx i x ++ rest').toArray 9 (0, 0)) := by
    have hi2 : (cs.take i).length = i := by rw [List.length_take]; omega
    have e0 : cs.take (i + 1) ++ cs.drop i ++ rest' = cs.take i ++ [cs[i]'(by omega)] ++ (cs.drop i ++ rest') := by
      rw [List.take_succ_eq_append_getElem (by omega), List.append_assoc]
    rw [e0] at g1
    have h := heap_setCells [x] _ _ _ _ (by rfl) g1
    rw [hi2, ← hW2] at h
    rw [h, ins_eq x cs i (by omega)]
    simp
  have HG : Hid (w.grownBy W2 (some g) ∧ W2.heap[g]? = some (.cells (cs.insertIdx i x ++ rest').toArray 9 (0, 0))) := by
    refine ⟨?_, g2⟩
    rw [hW2, hW1]
    have s : ∀ (V : World) (o : Nat) (vs : List Value), V.grownBy (V.setCells g o vs) (some g) := fun V o vs => grown_setCellsG V g o vs
    have a := s w.drew (i + 1) (cs.drop i)
    have b := s (w.drew.setCells g (i + 1) (cs.drop i)) i [x]
    exact ⟨b.os.trans a.os, b.tape.trans a.tape, b.output.trans a.output, Nat.le_trans a.size b.size, fun k hk hnk => (b.block k (Nat.lt_of_lt_of_le hk a.size) hnk).trans (a.block k hk hnk)⟩
  have HL : Hid ((cs.insertIdx i x).length = n + 1 ∧ (∀ u ∈ cs.insertIdx i x, u.oneCell' = true) ∧ n + 1 + rest'.length = c) := by
    refine ⟨by rw [List.length_insertIdx, if_pos (by omega), hn], fun u hu => ?_, by rw [← hc, hr, List.length_cons]; omega⟩
    rcases (List.mem_insertIdx (by omega)).1 hu with rfl | hu
    · exact hx
    · exact h1 u hu
  have hcI : (c : Int) ≤ 9223372036854775807 := by omega
  have hiI : (i : Int) < (n : Int) := by omega
  have hi0 : (0 : Int) ≤ (i : Int) := by omega
  have hz2 : ¬ ((i : Int) = (n : Int)) := by omega
  have hin : i ≤ n := by omega
  have hroI : (n : Int) + 1 ≤ (c : Int) := by omega
  have hw1 : IntKind.i64.wrap ((i : Int) + 1) = (i : Int) + 1 := IntWalk.i64_in _ (by omega)
  have hb1 : (0 : Int) ≤ (i : Int) + 1 := by omega
  have htn : ((i : Int) + 1).toNat = i + 1 := by omega
  have hb2 : ¬ (c = i + 1) := by omega
  have hb3 : (i : Int) ≤ (n : Int) + 1 := by omega
  have hb4 : ¬ (c = i) := by omega
  have hdl : (goInt (cs.drop i).length) = .int .i64 ((n - i : Nat) : Int) := by rw [List.length_drop, hn]; rfl
  have HM := Lib.hid hm
  clear hlen hr hsz hA hB g0 g1 g2 hf1 hvb1 hg hc hn hW1 hW2 h1 hm
  go_enter Tryz.func89, Tryz.ntmps89
  go_wp2_with (simp only [hov])
  go_region_law (refine Go.Proofs.step_copy_runI rfl _ _ 37 37 rfl _ _ (by simp [Act.eval, Act.put]) (by simp [Act.eval, Act.put]) (hcp1 _ _ _) ?_)
  go_wp2_with (at_builtin; refine Go.Proofs.wpList_copy_runI _ rfl _ _ 37 37 rfl _ _ rfl rfl (hcp2 _ _) ?_)
  go_ret
  refine ⟨some ⟨g, 0, none⟩, c, by rw [HL.out.1]; rfl, ?_, HG.out.1, .inl rfl⟩
  rw [HL.out.1]
  exact grow_of HL.out.2.1 hb HG.out.2 HL.out.1 HL.out.2.2 HM.out
set_option maxRecDepth 100000 in
set_option maxHeartbeats 4000000 in
/-- In the midst, where there is no room. -/
theorem insert_grow_strs (base g n c i vb : Nat) (cs rest : List Value) (x : Value) (w : World) (h1 : ∀ u ∈ cs, u.oneCell' = true) (hb : base ≤ w.heap.size) (hg : w.heap[g]? = some (.cells (cs ++ rest).toArray 9 (0, 0))) (hn : cs.length = n) (hc : n + rest.length = c) (hi : i < n) (hroom : c < n + 1) (hx : x.oneCell' = true) (hvb : w.heap[vb]? = some (.cells #[x] 9 (0, 0))) (hsm : n ≤ 1048576) :
    Calls Tryz.prog 89 #[.slice (some ⟨g, 0, none⟩) n c, .int .i64 (i : Int), .slice (some ⟨vb, 0, none⟩) 1 1] w (InsP_strs base w (.slice (some ⟨g, 0, none⟩) n c) (cs.insertIdx i x)) := by
  have hrest : rest = [] := List.length_eq_zero_iff.1 (by omega)
  subst hrest
  rw [List.append_nil] at hg
  obtain rfl : c = n := by simp at hc; exact hc.symm
  obtain ⟨i0, hi0, hz0, hzs, hzb⟩ := info_parts ty_strs.info
  have hsz : (Tryz.prog.info? 9).map (·.size) = some 1 := by kernel_rfl
  have hold : (Builtin.firstCells i0.size i (.slice (some ⟨g, 0, none⟩) i c)).run Tryz.prog w.drew = .ok (cs.take i).toArray w.drew := by
    rw [hzs]
    exact run_firstCells_some w.drew 1 i ⟨g, 0, none⟩ i c (cs.take i) (by rw [List.length_take]; omega) (fun j v hj => by
      rw [List.getElem?_take] at hj
      split at hj
      · rw [Addr.add_lit, cell_of (w := w.drew) hg, List.getElem?_toArray, Nat.zero_add]; exact hj
      · cases hj)
  obtain ⟨G, hG⟩ : ∃ G, G = grownCap w (c + 1) c 9 := ⟨_, rfl⟩
  have hGn : c + 1 ≤ G := by rw [hG]; exact grownCap_ge w _ _ _
  have hGm : G ≤ maxLen := by rw [hG]; exact grownCap_le_maxLen w _ _ _ (by unfold maxLen; omega)
  have hG63 : G ≤ 9223372036854775807 := by unfold maxLen at hGm; omega
  obtain ⟨Z1, hZ1⟩ : ∃ Z1, Z1 = (Builtin.zeroCells ((.string ⟨#[]⟩) : Value).cells (c + 1 - i)).toList := ⟨_, rfl⟩
  obtain ⟨Z2, hZ2⟩ : ∃ Z2, Z2 = (Builtin.zeroCells ((.string ⟨#[]⟩) : Value).cells (G - (c + 1))).toList := ⟨_, rfl⟩
  have hl1 : Z1.length = c + 1 - i := by
    have h := size_zeroCells ((.string ⟨#[]⟩) : Value).cells (c + 1 - i)
    rw [show ((.string ⟨#[]⟩) : Value).cells.size = 1 from rfl, Nat.mul_one] at h
    rw [hZ1]
    simpa using h
  have hl2 : Z2.length = G - (c + 1) := by
    have h := size_zeroCells ((.string ⟨#[]⟩) : Value).cells (G - (c + 1))
    rw [show ((.string ⟨#[]⟩) : Value).cells.size = 1 from rfl, Nat.mul_one] at h
    rw [hZ2]
    simpa using h
  obtain ⟨W1, hW1⟩ : ∃ W1, W1 = w.drew.alloc (.cells (cs.take i ++ Z1 ++ Z2).toArray 9) := ⟨_, rfl⟩
  have hkk : (c : Int) + 1 - (i : Int) = ((c + 1 - i : Nat) : Int) := by omega
  have hik : i + (c + 1 - i) = c + 1 := by omega
  have hrz : ∀ ty, (Builtin.append_ #[37, 3] ty #[.slice (some ⟨g, 0, none⟩) i c, .int .i64 ((c : Int) + 1 - (i : Int))]).run Tryz.prog w = .ok (.slice (some ⟨w.heap.size, 0, none⟩) (c + 1) G) W1 := fun ty => by
    have h := Lib.run_append_grow_zeros w 37 3 ty 9 i0 _ .i64 .i64 Tryz.underlying37 Tryz.underlying3 hi0 hz0 (some ⟨g, 0, none⟩) i c (cs.take i) hold (c + 1 - i) (by omega) (by omega) (by omega) (by omega) (by rw [hzb]; omega) (by rw [hzb, hik]; exact growslice_fits (by omega) (by omega))
    rw [hik, ← hG] at h
    rw [hkk, h, hW1]
    congr 3
    apply Array.ext'
    rw [hZ1, hZ2]
    simp
  obtain ⟨H, hH⟩ : ∃ H, H = w.heap.size := ⟨_, rfl⟩
  have hgH : g ≠ H := by have := heap_lt hg; omega
  have hvH : vb ≠ H := by have := heap_lt hvb; omega
  rw [← hH] at hrz
  have hti : (cs.take i).length = i := by rw [List.length_take]; omega
  have g1 : W1.heap[H]? = some (.cells (cs.take i ++ Z1.take 1 ++ (Z1.drop 1 ++ Z2)).toArray 9 (0, 0)) := by
    have e : cs.take i ++ Z1.take 1 ++ (Z1.drop 1 ++ Z2) = cs.take i ++ Z1 ++ Z2 := by
      rw [← List.append_assoc, List.append_assoc (cs.take i), List.take_append_drop]
    rw [e, hW1]
    exact heap_new (w := w.drew) hH
  have hx1 : Ext w W1 := by rw [hW1]; exact Below.trans ((Below.refl w.heap.size w).drew) (new_ext w.drew _)
  have hvb1 : W1.heap[vb]? = some (.cells #[x] 9 (0, 0)) := (hx1.block _ (heap_lt hvb)).trans hvb
  have hg1 : W1.heap[g]? = some (.cells cs.toArray 9 (0, 0)) := (hx1.block _ (heap_lt hg)).trans hg
  obtain ⟨W2, hW2⟩ : ∃ W2, W2 = W1.setCells H i [x] := ⟨_, rfl⟩
  have hcp1 : ∀ ty dc, (Builtin.copy_ #[37, 37] ty #[.slice (some ⟨H, i, none⟩) (c + 1 - i) dc, .slice (some ⟨vb, 0, none⟩) 1 1]).run Tryz.prog W1 = .ok (goInt 1) W2 := fun ty dc => by
    rw [hW2]
    refine run_copy_cells W1 _ _ ty 9 H i (c + 1 - i) dc ⟨vb, 0, none⟩ 1 1 [x] Tryz.underlying37 hsz (by simp only [Nat.min_def]; split <;> simp <;> omega) (fun j v hj => ?_) (fun j hj => ?_) (fun j _ => frozen_of g1) (fun u hu => by rw [List.mem_singleton] at hu; rw [hu]; exact hx)
    · rw [Addr.add_lit, cell_of hvb1]
      simpa using hj
    · have hj0 : j = 0 := by simpa using hj
      rw [cell_at g1 (by rw [List.length_append, List.length_append, List.length_append, hti, List.length_take, List.length_drop, hl1]; omega)]
      rfl
  have g2 : W2.heap[H]? = some (.cells ((cs.take i ++ [x]) ++ Z1.drop 1 ++ Z2).toArray 9 (0, 0)) := by
    have h := heap_setCells [x] _ _ _ _ (by rw [List.length_take, hl1]; simp; omega) g1
    rw [hti, ← hW2] at h
    rw [h, ← List.append_assoc]
  have hg2 : W2.heap[g]? = some (.cells cs.toArray 9 (0, 0)) := by
    rw [hW2, World.heap_setCells_other _ _ _ _ (heap_lt hg1) hgH]
    exact hg1
  obtain ⟨W3, hW3⟩ : ∃ W3, W3 = W2.drew.setCells H (i + 1) (cs.drop i) := ⟨_, rfl⟩
  have hcp2 : ∀ ty dc sc, (Builtin.copy_ #[37, 37] ty #[.slice (some ⟨H, i + 1, none⟩) (c - i) dc, .slice (some ⟨g, i, none⟩) (c - i) sc]).run Tryz.prog W2.drew = .ok (goInt (cs.drop i).length) W3 := fun ty dc sc => by
    rw [hW3]
    refine run_copy_cells W2.drew _ _ ty 9 H (i + 1) (c - i) dc ⟨g, i, none⟩ (c - i) sc (cs.drop i) Tryz.underlying37 hsz (by rw [List.length_drop, hn]; simp) (fun j v hj => ?_) (fun j hj => ?_) (fun j _ => frozen_of (w := W2.drew) g2) (fun u hu => h1 u (List.mem_of_mem_drop hu))
    · rw [List.getElem?_drop] at hj
      rw [Addr.add_lit, cell_of (w := W2.drew) hg2, List.getElem?_toArray]
      exact hj
    · rw [List.length_drop] at hj
      rw [cell_at (w := W2.drew) g2 (by simp only [List.length_append, hti, List.length_drop, hl1, List.length_singleton]; omega)]
      rfl
  have HG : Hid (W3.heap[H]? = some (.cells (cs.insertIdx i x ++ Z2).toArray 9 (0, 0)) ∧ Ext w W3) := by
    constructor
    · have h := heap_setCells (cs.drop i) _ _ _ W2.drew (by rw [List.length_drop, List.length_drop, hl1]; omega) g2
      rw [List.length_append, hti] at h
      rw [hW3]
      refine h.trans ?_
      rw [ins_eq x cs i (by omega)]
      simp
    · have a := grown_setCellsG W1 H i [x]
      rw [← hW2] at a
      have b := grown_setCellsG W2.drew H (i + 1) (cs.drop i)
      rw [← hW3] at b
      have c1 : W2.grownBy W3 (some H) := ⟨b.os, b.tape, b.output, b.size, fun k hk h => b.block k hk h⟩
      exact ext_row (ext_row hx1 a (fun g e => by injection e with e; omega)) c1 (fun g e => by injection e with e; omega)
  have HL : Hid ((cs.insertIdx i x).length = c + 1 ∧ (∀ u ∈ cs.insertIdx i x, u.oneCell' = true) ∧ c + 1 + Z2.length = G ∧ base ≤ H ∧ G ≤ maxLen ∧ H = w.heap.size) := by
    refine ⟨by rw [List.length_insertIdx, if_pos (by omega), hn], fun u hu => ?_, by omega, by omega, hGm, hH⟩
    rcases (List.mem_insertIdx (by omega)).1 hu with rfl | hu
    · exact hx
    · exact h1 u hu
  have hiI : (i : Int) < (c : Int) := by omega
  have hi00 : (0 : Int) ≤ (i : Int) := by omega
  have hz2 : ¬ ((i : Int) = (c : Int)) := by omega
  have hin : i ≤ c := by omega
  have hw1 : IntKind.i64.wrap ((i : Int) + 1) = (i : Int) + 1 := IntWalk.i64_in _ (by omega)
  have hb1 : (0 : Int) ≤ (i : Int) + 1 := by omega
  have htn : ((i : Int) + 1).toNat = i + 1 := by omega
  have hGi : ¬ (G = i) := by omega
  have hGim : ¬ (G = i + 1) := by omega
  have hci : ¬ (c = i) := by omega
  have hcI : (c : Int) ≤ 1048576 := by omega
  have hb3 : (i : Int) ≤ (c : Int) := by omega
  clear hi0 hz0 hzs hzb hsz hold hG hGm hZ1 hZ2 hl1 hl2 hW1 hkk hik hgH hvH hti g1 hx1 hvb1 hg1 hW2 g2 hg2 hW3 hg hvb hn hH
  go_enter Tryz.func89, Tryz.ntmps89
  go_wp2_with (first
    | (at_builtin; refine Lib.wpList_append_run _ rfl _ _ _ _ rfl _ _ rfl rfl _ _ (hrz _) ?_)
    | (at_builtin; refine Go.Proofs.wpList_copy_runI _ rfl _ _ 37 37 rfl _ _ rfl rfl (hcp1 _ _) ?_))
  go_region_law (refine Go.Proofs.step_copy_runI rfl _ _ 37 37 rfl _ _ (by simp [Act.eval, Act.put]) (by simp [Act.eval, Act.put]) (hcp2 _ _ _) ?_)
  go_wp2
  go_ret
  refine ⟨some ⟨H, 0, none⟩, G, by rw [HL.out.1]; rfl, ?_, grown_of_extB' HG.out.2, .inr (by rw [← HL.out.2.2.2.2.2]; rfl)⟩
  rw [HL.out.1]
  exact grow_of HL.out.2.1 HL.out.2.2.2.1 HG.out.1 HL.out.1 HL.out.2.2.1 HL.out.2.2.2.2.1
theorem insert_strs (base : Nat) (A : Option Addr) (n c i vb : Nat) (cs : List Value) (x : Value) (w : World) (hrow : GRow 9 1 base w (.slice A n c) (one cs)) (hx : x.oneCell' = true) (hvb : w.heap[vb]? = some (.cells #[x] 9 (0, 0))) (hne : (Value.slice A n c).ownBlock ≠ some vb) (hbase : base ≤ w.heap.size) (hsm : n ≤ 1048576) (hi : i ≤ n) :
    Calls Tryz.prog 89 #[.slice A n c, .int .i64 (i : Int), .slice (some ⟨vb, 0, none⟩) 1 1] w (InsP_strs base w (.slice A n c) (cs.insertIdx i x)) := by
  by_cases he : i = n
  · subst he
    have hn := (grow_to hrow).1
    have h := insert_end_strs base A i c vb cs x w hrow hx hvb hbase hsm
    have e : cs.insertIdx i x = cs ++ [x] := by rw [hn, ins_eq x cs _ (Nat.le_refl _), List.take_length, List.drop_length]
    rw [e]
    exact h
  · have h1 := one_cells hrow.1
    obtain ⟨hn, ⟨_, h0, _⟩ | ⟨g, rest, rfl, hb, hg, hc, hm⟩⟩ := grow_to hrow
    · rw [h0] at hn; simp at hn; omega
    · have hne2 : vb ≠ g := fun e => hne (by rw [e]; rfl)
      by_cases hr : n + 1 ≤ c
      · exact insert_shift_strs base g n c i vb cs rest x w h1 hb hg hn.symm hc hm (by omega) hr hx hvb hne2
      · exact insert_grow_strs base g n c i vb cs rest x w h1 hbase hg hn.symm hc (by omega) (by omega) hx hvb hsm
end Go.Proofs.YtnccefeehkcneaaGreatDoor.Jm
namespace Go.Proofs.YtnccefeehkcneaaGreatDoor.Jm
open Go Go.RowKit Go.Proofs.YtnccefeehkcneaaGreatDoor.Sx Go.Proofs.YtnccefeehkcneaaGreatDoor.Js Go.Proofs.YtnccefeehkcneaaGreatDoor.Gr
theorem ty_vals : GTy 95 63 1 16 .nilIface := ⟨Tryz.underlying95, by kernel_rfl, rfl, by omega, by omega⟩
set_option maxRecDepth 100000 in
set_option maxHeartbeats 2000000 in
theorem clone_vals (A : Option Addr) (n c : Nat) (cs : List Value) (w : World) (hn : cs.length = n) (h1 : ∀ u ∈ cs, u.oneCell' = true) (h : CellsAt w A cs) (hsm : n ≤ 1048576) :
    Calls Tryz.prog 87 #[.slice A n c] w fun e w' => ∃ A' c', e = .returned (.slice A' n c') ∧ GRow 63 1 w.heap.size w' (.slice A' n c') (one cs) ∧ Ext w w' := by
  have q22 : ∀ (w : World) (a : Option Addr) (n c n' c' : Nat), (Go.binOp .eql 95 (.slice a n c) (.slice none n' c')).run Tryz.prog w = .ok (.bool a.isNone) w := fun w a n c n' c' => Lib.run_eql_slice_nil w _ _ a n c n' c' Tryz.underlying95
  cases A with
  | none =>
    have hcs : cs = [] := by
      cases cs with
      | nil => rfl
      | cons u r => obtain ⟨g, off, hA, _⟩ := h 0 (by simp); cases hA
    subst hcs
    obtain rfl : n = 0 := hn.symm
    go_enter Tryz.func87, Tryz.ntmps87
    go_wp2
    go_ret
    exact ⟨none, 0, rfl, GRow.nil, Below.refl _ _⟩
  | some ad =>
    have HS := Lib.hid (h.src (n := n) (c := c) hn h1 (fun e => by cases e) (.inr (.inr trivial)))
    have HN := Lib.hid hn
    clear h hn
    go_enter Tryz.func87, Tryz.ntmps87
    go_wp2_with (at_builtin; refine append_g ty_vals rfl _ _ (by rfl) w.heap.size 0 n _ (.slice (some ⟨w.heap.size, 0, none⟩) 0 0) (.slice (some ad) n c) [] (one cs) (by rfl) (by rfl) (grow_of (cs := []) (rest := []) (fun u hu => by cases hu) (Nat.le_refl _) (heap_new rfl) rfl rfl (by unfold maxLen; omega)) (HS.out.ext (new_ext _ _)) rfl (by rw [one_len]; exact HN.out) (by omega) (new_ext _ _).size ?_; intro A9 c9 w9 h9 g9 _)
    rw [Nat.zero_add] at h9
    have H9 : Hid (GRow 63 1 w.heap.size w9 (.slice A9 n c9) (one cs) ∧ Ext w w9) := by
      refine ⟨h9, ext_row (new_ext w (.cells #[] 63)) g9 fun g e => ?_⟩
      have : w.heap.size = g := by simpa [Value.ownBlock] using e
      omega
    clear h9 g9
    go_wp2
    go_ret
    exact ⟨A9, c9, by first | rfl | (rw [Nat.zero_add]; rfl), H9.out.1, H9.out.2⟩
/-- What Insert leaves. -/
def InsP_vals (base : Nat) (w : World) (v : Value) (cs : List Value) (e : Ending) (w' : World) : Prop := ∃ A' c', e = .returned (.slice A' cs.length c') ∧ GRow 63 1 base w' (.slice A' cs.length c') (one cs) ∧ w.grownBy w' v.ownBlock ∧ ((Value.slice A' cs.length c').ownBlock = v.ownBlock ∨ (Value.slice A' cs.length c').ownBlock = some w.heap.size)
set_option maxRecDepth 100000 in
set_option maxHeartbeats 4000000 in
/-- At the end. -/
theorem insert_end_vals (base : Nat) (A : Option Addr) (n c vb : Nat) (cs : List Value) (x : Value) (w : World) (hrow : GRow 63 1 base w (.slice A n c) (one cs)) (hx : x.oneCell' = true) (hvb : w.heap[vb]? = some (.cells #[x] 63 (0, 0))) (hbase : base ≤ w.heap.size) (hsm : n ≤ 1048576) :
    Calls Tryz.prog 90 #[.slice A n c, .int .i64 (n : Int), .slice (some ⟨vb, 0, none⟩) 1 1] w (InsP_vals base w (.slice A n c) (cs ++ [x])) := by
  have hn := (grow_to hrow).1
  have HR := Lib.hid hrow
  have HN := Lib.hid hn
  have HS : Hid (GSrc 1 w (.slice (some ⟨vb, 0, none⟩) 1 1) [[x]]) := GSrc.one rfl (fun u hu => by rw [List.mem_singleton] at hu; rw [hu]; exact hx) hvb
  have hcap : n ≤ c := by
    rcases (grow_to hrow).2 with ⟨_, h, _⟩ | ⟨g, rest, _, _, _, h, _⟩
    · rw [hn, h]; exact Nat.zero_le _
    · omega
  have hn0 : (0 : Int) ≤ (n : Int) := by omega
  have hnI : (n : Int) ≤ 1048576 := by omega
  have hsl : ∀ W, ∃ V, (Instr.slice 95 (.slice A n c) (some (.int .i64 (n : Int))) none none).run Tryz.prog W = .ok V W := fun W => by
    have h := run_slice_l (P := Tryz.prog) (w := W) 95 A n c Tryz.underlying95 .i64 (n : Int) (by omega) (by omega)
    rw [h]
    have e1 : (sizeOf (Tryz.prog.elem 95)).run Tryz.prog W = .ok 1 W := by kernel_rfl
    rw [e1]
    exact ⟨_, rfl⟩
  obtain ⟨V, hV⟩ : ∃ V, ∀ W, (Instr.slice 95 (.slice A n c) (some (.int .i64 (n : Int))) none none).run Tryz.prog W = .ok V W := by
    refine ⟨sliced A n n c 1, fun W => ?_⟩
    have h := run_slice_l (P := Tryz.prog) (w := W) 95 A n c Tryz.underlying95 .i64 (n : Int) (by omega) (by omega)
    rw [h]
    have e1 : (sizeOf (Tryz.prog.elem 95)).run Tryz.prog W = .ok 1 W := by kernel_rfl
    rw [e1]
    simp only [Result.andThen, Int.toNat_natCast]
  clear hrow hn hsl
  go_enter Tryz.func90, Tryz.ntmps90
  go_wp2_with (at_builtin; refine append_g ty_vals rfl _ _ (by rfl) base n 1 _ (.slice A n c) (.slice (some ⟨vb, 0, none⟩) 1 1) (one cs) [[x]] (by rfl) (by rfl) HR.out HS.out (by rw [one_len]; exact HN.out.symm) rfl (by omega) hbase ?_; intro A9 c9 w9 h9 g9 o9)
  have H9 := Lib.hid (And.intro h9 (And.intro g9 o9))
  clear h9 g9 o9
  go_wp2
  go_ret
  have e : (cs ++ [x]).length = n + 1 := by rw [List.length_append, ← HN.out]; rfl
  exact ⟨A9, c9, by rw [e]; rfl, by rw [e, one_app]; exact H9.out.1, H9.out.2.1, by rw [e]; exact H9.out.2.2⟩
set_option maxRecDepth 100000 in
set_option maxHeartbeats 4000000 in
/-- In the midst, where there is room. -/
theorem insert_shift_vals (base g n c i vb : Nat) (cs rest : List Value) (x : Value) (w : World) (h1 : ∀ u ∈ cs, u.oneCell' = true) (hb : base ≤ g) (hg : w.heap[g]? = some (.cells (cs ++ rest).toArray 63 (0, 0))) (hn : cs.length = n) (hc : n + rest.length = c) (hm : c ≤ maxLen) (hi : i < n) (hroom : n + 1 ≤ c) (hx : x.oneCell' = true) (hvb : w.heap[vb]? = some (.cells #[x] 63 (0, 0))) (hne : vb ≠ g) :
    Calls Tryz.prog 90 #[.slice (some ⟨g, 0, none⟩) n c, .int .i64 (i : Int), .slice (some ⟨vb, 0, none⟩) 1 1] w (InsP_vals base w (.slice (some ⟨g, 0, none⟩) n c) (cs.insertIdx i x)) := by
  have hlen : (cs ++ rest).length = c := by rw [List.length_append, hn]; exact hc
  have hm2 : c ≤ 9223372036854775807 := by unfold maxLen at hm; omega
  obtain ⟨r0, rest', hr⟩ : ∃ r0 r', rest = r0 :: r' := by
    cases rest with
    | nil => simp at hc; omega
    | cons a r => exact ⟨a, r, rfl⟩
  have hsz : (Tryz.prog.info? 63).map (·.size) = some 1 := by kernel_rfl
  have hov : ∀ lb cb, (callFunc 138 #[.slice (some ⟨vb, 0, none⟩) 1 1, .slice (some ⟨g, i + 1, none⟩) lb cb]).run Tryz.prog w = .ok (.value (.bool false)) w := fun lb cb => by
    have hz : ∀ w, (Go.sizeOf 63).run Tryz.prog w = .ok 1 w := fun w => by kernel_rfl
    have h := Lib.run_overlaps_apart w 95 4 63 Tryz.underlying95 1 hz ⟨vb, 0, none⟩ ⟨g, i + 1, none⟩ 1 1 lb cb hne _ _ _ _ (shape_of (cs := [x]) hvb) (shape_of hg) (by rw [hlen]; omega) (frozen_of hvb) (frozen_of hvb)
    rw [run_callFunc_extern Tryz.func138 (by kernel_rfl) (by kernel_rfl) (by kernel_rfl) (e := Extern.SlicesOverlaps.overlaps #[95, 95] #[4]) (by kernel_rfl), h]
    rfl
  -- the cells from i on move by one
  obtain ⟨W1, hW1⟩ : ∃ W1, W1 = w.drew.setCells g (i + 1) (cs.drop i) := ⟨_, rfl⟩
  have hA : (cs.take (i + 1)).length = i + 1 := by rw [List.length_take]; omega
  have hB : (cs.drop (i + 1) ++ [r0]).length = (cs.drop i).length := by rw [List.length_append, List.length_drop, List.length_drop]; simp; omega
  have g0 : w.drew.heap[g]? = some (.cells (cs.take (i + 1) ++ (cs.drop (i + 1) ++ [r0]) ++ rest').toArray 63 (0, 0)) := by
    have e : cs.take (i + 1) ++ (cs.drop (i + 1) ++ [r0]) ++ rest' = cs ++ rest := by rw [← List.append_assoc, List.take_append_drop, hr, List.append_assoc]; rfl
    rw [e]
    exact hg
  have g1 := heap_setCells (cs.drop i) _ _ _ _ hB g0
  rw [hA, ← hW1] at g1
  have hf1 : ∀ o, W1.frozen? ⟨g, o, none⟩ = false := fun o => frozen_of g1
  have hcp1 : ∀ ty dc sc, (Builtin.copy_ #[95, 95] ty #[.slice (some ⟨g, i + 1, none⟩) (n - i) dc, .slice (some ⟨g, i, none⟩) (n + 1 - i) sc]).run Tryz.prog w.drew = .ok (goInt (cs.drop i).length) W1 := fun ty dc sc => by
    rw [hW1]
    refine run_copy_cells w.drew _ _ ty 63 g (i + 1) (n - i) dc ⟨g, i, none⟩ (n + 1 - i) sc (cs.drop i) Tryz.underlying95 hsz (by rw [List.length_drop]; simp only [Nat.min_def]; split <;> omega) (fun j v hj => ?_) (fun j hj => ?_) (fun j _ => frozen_of (w := w.drew) hg) (fun u hu => h1 u (List.mem_of_mem_drop hu))
    · rw [List.getElem?_drop] at hj
      have hjl := (List.getElem?_eq_some_iff.1 hj).1
      rw [Addr.add_lit, cell_of (w := w.drew) hg, List.getElem?_toArray, List.getElem?_append_left hjl]
      exact hj
    · rw [List.length_drop] at hj
      rw [cell_at (w := w.drew) hg (by rw [hlen]; omega)]
      rfl
  have hvb1 : W1.heap[vb]? = some (.cells #[x] 63 (0, 0)) := by
    rw [hW1, World.heap_setCells_other _ _ _ _ (heap_lt (show w.drew.heap[vb]? = _ from hvb)) hne]
    exact hvb
  obtain ⟨W2, hW2⟩ : ∃ W2, W2 = W1.setCells g i [x] := ⟨_, rfl⟩
  have hcp2 : ∀ ty dc, (Builtin.copy_ #[95, 95] ty #[.slice (some ⟨g, i, none⟩) (n + 1 - i) dc, .slice (some ⟨vb, 0, none⟩) 1 1]).run Tryz.prog W1 = .ok (goInt 1) W2 := fun ty dc => by
    rw [hW2]
    refine run_copy_cells W1 _ _ ty 63 g i (n + 1 - i) dc ⟨vb, 0, none⟩ 1 1 [x] Tryz.underlying95 hsz (by simp only [Nat.min_def]; split <;> simp <;> omega) (fun j v hj => ?_) (fun j hj => ?_) (fun j _ => frozen_of g1) (fun u hu => by rw [List.mem_singleton] at hu; rw [hu]; exact hx)
    · have hjl := (List.getElem?_eq_some_iff.1 hj).1
      rw [Addr.add_lit, cell_of hvb1]
      simpa using hj
    · have hj0 : j = 0 := by simpa using hj
      rw [cell_at g1 (by rw [List.length_append, List.length_append, hA]; omega)]
      rfl
  have g2 : W2.heap[g]? = some (.cells (cs.insertIdx i x ++ rest').toArray 63 (0, 0)) := by
    have hi2 : (cs.take i).length = i := by rw [List.length_take]; omega
    have e0 : cs.take (i + 1) ++ cs.drop i ++ rest' = cs.take i ++ [cs[i]'(by omega)] ++ (cs.drop i ++ rest') := by
      rw [List.take_succ_eq_append_getElem (by omega), List.append_assoc]
    rw [e0] at g1
    have h := heap_setCells [x] _ _ _ _ (by rfl) g1
    rw [hi2, ← hW2] at h
    rw [h, ins_eq x cs i (by omega)]
    simp
  have HG : Hid (w.grownBy W2 (some g) ∧ W2.heap[g]? = some (.cells (cs.insertIdx i x ++ rest').toArray 63 (0, 0))) := by
    refine ⟨?_, g2⟩
    rw [hW2, hW1]
    have s : ∀ (V : World) (o : Nat) (vs : List Value), V.grownBy (V.setCells g o vs) (some g) := fun V o vs => grown_setCellsG V g o vs
    have a := s w.drew (i + 1) (cs.drop i)
    have b := s (w.drew.setCells g (i + 1) (cs.drop i)) i [x]
    exact ⟨b.os.trans a.os, b.tape.trans a.tape, b.output.trans a.output, Nat.le_trans a.size b.size, fun k hk hnk => (b.block k (Nat.lt_of_lt_of_le hk a.size) hnk).trans (a.block k hk hnk)⟩
  have HL : Hid ((cs.insertIdx i x).length = n + 1 ∧ (∀ u ∈ cs.insertIdx i x, u.oneCell' = true) ∧ n + 1 + rest'.length = c) := by
    refine ⟨by rw [List.length_insertIdx, if_pos (by omega), hn], fun u hu => ?_, by rw [← hc, hr, List.length_cons]; omega⟩
    rcases (List.mem_insertIdx (by omega)).1 hu with rfl | hu
    · exact hx
    · exact h1 u hu
  have hcI : (c : Int) ≤ 9223372036854775807 := by omega
  have hiI : (i : Int) < (n : Int) := by omega
  have hi0 : (0 : Int) ≤ (i : Int) := by omega
  have hz2 : ¬ ((i : Int) = (n : Int)) := by omega
  have hin : i ≤ n := by omega
  have hroI : (n : Int) + 1 ≤ (c : Int) := by omega
  have hw1 : IntKind.i64.wrap ((i : Int) + 1) = (i : Int) + 1 := IntWalk.i64_in _ (by omega)
  have hb1 : (0 : Int) ≤ (i : Int) + 1 := by omega
  have htn : ((i : Int) + 1).toNat = i + 1 := by omega
  have hb2 : ¬ (c = i + 1) := by omega
  have hb3 : (i : Int) ≤ (n : Int) + 1 := by omega
  have hb4 : ¬ (c = i) := by omega
  have hdl : (goInt (cs.drop i).length) = .int .i64 ((n - i : Nat) : Int) := by rw [List.length_drop, hn]; rfl
  have HM := Lib.hid hm
  clear hlen hr hsz hA hB g0 g1 g2 hf1 hvb1 hg hc hn hW1 hW2 h1 hm
  go_enter Tryz.func90, Tryz.ntmps90
  go_wp2_with (simp only [hov])
  go_region_law (refine Go.Proofs.step_copy_runI rfl _ _ 95 95 rfl _ _ (by simp [Act.eval, Act.put]) (by simp [Act.eval, Act.put]) (hcp1 _ _ _) ?_)
  go_wp2_with (at_builtin; refine Go.Proofs.wpList_copy_runI _ rfl _ _ 95 95 rfl _ _ rfl rfl (hcp2 _ _) ?_)
  go_ret
  refine ⟨some ⟨g, 0, none⟩, c, by rw [HL.out.1]; rfl, ?_, HG.out.1, .inl rfl⟩
  rw [HL.out.1]
  exact grow_of HL.out.2.1 hb HG.out.2 HL.out.1 HL.out.2.2 HM.out
set_option maxRecDepth 100000 in
set_option maxHeartbeats 4000000 in
/-- In the midst, where there is no room. -/
theorem insert_grow_vals (base g n c i vb : Nat) (cs rest : List Value) (x : Value) (w : World) (h1 : ∀ u ∈ cs, u.oneCell' = true) (hb : base ≤ w.heap.size) (hg : w.heap[g]? = some (.cells (cs ++ rest).toArray 63 (0, 0))) (hn : cs.length = n) (hc : n + rest.length = c) (hi : i < n) (hroom : c < n + 1) (hx : x.oneCell' = true) (hvb : w.heap[vb]? = some (.cells #[x] 63 (0, 0))) (hsm : n ≤ 1048576) :
    Calls Tryz.prog 90 #[.slice (some ⟨g, 0, none⟩) n c, .int .i64 (i : Int), .slice (some ⟨vb, 0, none⟩) 1 1] w (InsP_vals base w (.slice (some ⟨g, 0, none⟩) n c) (cs.insertIdx i x)) := by
  have hrest : rest = [] := List.length_eq_zero_iff.1 (by omega)
  subst hrest
  rw [List.append_nil] at hg
  obtain rfl : c = n := by simp at hc; exact hc.symm
  obtain ⟨i0, hi0, hz0, hzs, hzb⟩ := info_parts ty_vals.info
  have hsz : (Tryz.prog.info? 63).map (·.size) = some 1 := by kernel_rfl
  have hold : (Builtin.firstCells i0.size i (.slice (some ⟨g, 0, none⟩) i c)).run Tryz.prog w.drew = .ok (cs.take i).toArray w.drew := by
    rw [hzs]
    exact run_firstCells_some w.drew 1 i ⟨g, 0, none⟩ i c (cs.take i) (by rw [List.length_take]; omega) (fun j v hj => by
      rw [List.getElem?_take] at hj
      split at hj
      · rw [Addr.add_lit, cell_of (w := w.drew) hg, List.getElem?_toArray, Nat.zero_add]; exact hj
      · cases hj)
  obtain ⟨G, hG⟩ : ∃ G, G = grownCap w (c + 1) c 63 := ⟨_, rfl⟩
  have hGn : c + 1 ≤ G := by rw [hG]; exact grownCap_ge w _ _ _
  have hGm : G ≤ maxLen := by rw [hG]; exact grownCap_le_maxLen w _ _ _ (by unfold maxLen; omega)
  have hG63 : G ≤ 9223372036854775807 := by unfold maxLen at hGm; omega
  obtain ⟨Z1, hZ1⟩ : ∃ Z1, Z1 = (Builtin.zeroCells (.nilIface : Value).cells (c + 1 - i)).toList := ⟨_, rfl⟩
  obtain ⟨Z2, hZ2⟩ : ∃ Z2, Z2 = (Builtin.zeroCells (.nilIface : Value).cells (G - (c + 1))).toList := ⟨_, rfl⟩
  have hl1 : Z1.length = c + 1 - i := by
    have h := size_zeroCells (.nilIface : Value).cells (c + 1 - i)
    rw [show (.nilIface : Value).cells.size = 1 from rfl, Nat.mul_one] at h
    rw [hZ1]
    simpa using h
  have hl2 : Z2.length = G - (c + 1) := by
    have h := size_zeroCells (.nilIface : Value).cells (G - (c + 1))
    rw [show (.nilIface : Value).cells.size = 1 from rfl, Nat.mul_one] at h
    rw [hZ2]
    simpa using h
  obtain ⟨W1, hW1⟩ : ∃ W1, W1 = w.drew.alloc (.cells (cs.take i ++ Z1 ++ Z2).toArray 63) := ⟨_, rfl⟩
  have hkk : (c : Int) + 1 - (i : Int) = ((c + 1 - i : Nat) : Int) := by omega
  have hik : i + (c + 1 - i) = c + 1 := by omega
  have hrz : ∀ ty, (Builtin.append_ #[95, 3] ty #[.slice (some ⟨g, 0, none⟩) i c, .int .i64 ((c : Int) + 1 - (i : Int))]).run Tryz.prog w = .ok (.slice (some ⟨w.heap.size, 0, none⟩) (c + 1) G) W1 := fun ty => by
    have h := Lib.run_append_grow_zeros w 95 3 ty 63 i0 _ .i64 .i64 Tryz.underlying95 Tryz.underlying3 hi0 hz0 (some ⟨g, 0, none⟩) i c (cs.take i) hold (c + 1 - i) (by omega) (by omega) (by omega) (by omega) (by rw [hzb]; omega) (by rw [hzb, hik]; exact growslice_fits (by omega) (by omega))
    rw [hik, ← hG] at h
    rw [hkk, h, hW1]
    congr 3
    apply Array.ext'
    rw [hZ1, hZ2]
    simp
  obtain ⟨H, hH⟩ : ∃ H, H = w.heap.size := ⟨_, rfl⟩
  have hgH : g ≠ H := by have := heap_lt hg; omega
  have hvH : vb ≠ H := by have := heap_lt hvb; omega
  rw [← hH] at hrz
  have hti : (cs.take i).length = i := by rw [List.length_take]; omega
  have g1 : W1.heap[H]? = some (.cells (cs.take i ++ Z1.take 1 ++ (Z1.drop 1 ++ Z2)).toArray 63 (0, 0)) := by
    have e : cs.take i ++ Z1.take 1 ++ (Z1.drop 1 ++ Z2) = cs.take i ++ Z1 ++ Z2 := by
      rw [← List.append_assoc, List.append_assoc (cs.take i), List.take_append_drop]
    rw [e, hW1]
    exact heap_new (w := w.drew) hH
  have hx1 : Ext w W1 := by rw [hW1]; exact Below.trans ((Below.refl w.heap.size w).drew) (new_ext w.drew _)
  have hvb1 : W1.heap[vb]? = some (.cells #[x] 63 (0, 0)) := (hx1.block _ (heap_lt hvb)).trans hvb
  have hg1 : W1.heap[g]? = some (.cells cs.toArray 63 (0, 0)) := (hx1.block _ (heap_lt hg)).trans hg
  obtain ⟨W2, hW2⟩ : ∃ W2, W2 = W1.setCells H i [x] := ⟨_, rfl⟩
  have hcp1 : ∀ ty dc, (Builtin.copy_ #[95, 95] ty #[.slice (some ⟨H, i, none⟩) (c + 1 - i) dc, .slice (some ⟨vb, 0, none⟩) 1 1]).run Tryz.prog W1 = .ok (goInt 1) W2 := fun ty dc => by
    rw [hW2]
    refine run_copy_cells W1 _ _ ty 63 H i (c + 1 - i) dc ⟨vb, 0, none⟩ 1 1 [x] Tryz.underlying95 hsz (by simp only [Nat.min_def]; split <;> simp <;> omega) (fun j v hj => ?_) (fun j hj => ?_) (fun j _ => frozen_of g1) (fun u hu => by rw [List.mem_singleton] at hu; rw [hu]; exact hx)
    · rw [Addr.add_lit, cell_of hvb1]
      simpa using hj
    · have hj0 : j = 0 := by simpa using hj
      rw [cell_at g1 (by rw [List.length_append, List.length_append, List.length_append, hti, List.length_take, List.length_drop, hl1]; omega)]
      rfl
  have g2 : W2.heap[H]? = some (.cells ((cs.take i ++ [x]) ++ Z1.drop 1 ++ Z2).toArray 63 (0, 0)) := by
    have h := heap_setCells [x] _ _ _ _ (by rw [List.length_take, hl1]; simp; omega) g1
    rw [hti, ← hW2] at h
    rw [h, ← List.append_assoc]
  have hg2 : W2.heap[g]? = some (.cells cs.toArray 63 (0, 0)) := by
    rw [hW2, World.heap_setCells_other _ _ _ _ (heap_lt hg1) hgH]
    exact hg1
  obtain ⟨W3, hW3⟩ : ∃ W3, W3 = W2.drew.setCells H (i + 1) (cs.drop i) := ⟨_, rfl⟩
  have hcp2 : ∀ ty dc sc, (Builtin.copy_ #[95, 95] ty #[.slice (some ⟨H, i + 1, none⟩) (c - i) dc, .slice (some ⟨g, i, none⟩) (c - i) sc]).run Tryz.prog W2.drew = .ok (goInt (cs.drop i).length) W3 := fun ty dc sc => by
    rw [hW3]
    refine run_copy_cells W2.drew _ _ ty 63 H (i + 1) (c - i) dc ⟨g, i, none⟩ (c - i) sc (cs.drop i) Tryz.underlying95 hsz (by rw [List.length_drop, hn]; simp) (fun j v hj => ?_) (fun j hj => ?_) (fun j _ => frozen_of (w := W2.drew) g2) (fun u hu => h1 u (List.mem_of_mem_drop hu))
    · rw [List.getElem?_drop] at hj
      rw [Addr.add_lit, cell_of (w := W2.drew) hg2, List.getElem?_toArray]
      exact hj
    · rw [List.length_drop] at hj
      rw [cell_at (w := W2.drew) g2 (by simp only [List.length_append, hti, List.length_drop, hl1, List.length_singleton]; omega)]
      rfl
  have HG : Hid (W3.heap[H]? = some (.cells (cs.insertIdx i x ++ Z2).toArray 63 (0, 0)) ∧ Ext w W3) := by
    constructor
    · have h := heap_setCells (cs.drop i) _ _ _ W2.drew (by rw [List.length_drop, List.length_drop, hl1]; omega) g2
      rw [List.length_append, hti] at h
      rw [hW3]
      refine h.trans ?_
      rw [ins_eq x cs i (by omega)]
      simp
    · have a := grown_setCellsG W1 H i [x]
      rw [← hW2] at a
      have b := grown_setCellsG W2.drew H (i + 1) (cs.drop i)
      rw [← hW3] at b
      have c1 : W2.grownBy W3 (some H) := ⟨b.os, b.tape, b.output, b.size, fun k hk h => b.block k hk h⟩
      exact ext_row (ext_row hx1 a (fun g e => by injection e with e; omega)) c1 (fun g e => by injection e with e; omega)
  have HL : Hid ((cs.insertIdx i x).length = c + 1 ∧ (∀ u ∈ cs.insertIdx i x, u.oneCell' = true) ∧ c + 1 + Z2.length = G ∧ base ≤ H ∧ G ≤ maxLen ∧ H = w.heap.size) := by
    refine ⟨by rw [List.length_insertIdx, if_pos (by omega), hn], fun u hu => ?_, by omega, by omega, hGm, hH⟩
    rcases (List.mem_insertIdx (by omega)).1 hu with rfl | hu
    · exact hx
    · exact h1 u hu
  have hiI : (i : Int) < (c : Int) := by omega
  have hi00 : (0 : Int) ≤ (i : Int) := by omega
  have hz2 : ¬ ((i : Int) = (c : Int)) := by omega
  have hin : i ≤ c := by omega
  have hw1 : IntKind.i64.wrap ((i : Int) + 1) = (i : Int) + 1 := IntWalk.i64_in _ (by omega)
  have hb1 : (0 : Int) ≤ (i : Int) + 1 := by omega
  have htn : ((i : Int) + 1).toNat = i + 1 := by omega
  have hGi : ¬ (G = i) := by omega
  have hGim : ¬ (G = i + 1) := by omega
  have hci : ¬ (c = i) := by omega
  have hcI : (c : Int) ≤ 1048576 := by omega
  have hb3 : (i : Int) ≤ (c : Int) := by omega
  clear hi0 hz0 hzs hzb hsz hold hG hGm hZ1 hZ2 hl1 hl2 hW1 hkk hik hgH hvH hti g1 hx1 hvb1 hg1 hW2 g2 hg2 hW3 hg hvb hn hH
  go_enter Tryz.func90, Tryz.ntmps90
  go_wp2_with (first
    | (at_builtin; refine Lib.wpList_append_run _ rfl _ _ _ _ rfl _ _ rfl rfl _ _ (hrz _) ?_)
    | (at_builtin; refine Go.Proofs.wpList_copy_runI _ rfl _ _ 95 95 rfl _ _ rfl rfl (hcp1 _ _) ?_))
  go_region_law (refine Go.Proofs.step_copy_runI rfl _ _ 95 95 rfl _ _ (by simp [Act.eval, Act.put]) (by simp [Act.eval, Act.put]) (hcp2 _ _ _) ?_)
  go_wp2
  go_ret
  refine ⟨some ⟨H, 0, none⟩, G, by rw [HL.out.1]; rfl, ?_, grown_of_extB' HG.out.2, .inr (by rw [← HL.out.2.2.2.2.2]; rfl)⟩
  rw [HL.out.1]
  exact grow_of HL.out.2.1 HL.out.2.2.2.1 HG.out.1 HL.out.1 HL.out.2.2.1 HL.out.2.2.2.2.1
theorem insert_vals (base : Nat) (A : Option Addr) (n c i vb : Nat) (cs : List Value) (x : Value) (w : World) (hrow : GRow 63 1 base w (.slice A n c) (one cs)) (hx : x.oneCell' = true) (hvb : w.heap[vb]? = some (.cells #[x] 63 (0, 0))) (hne : (Value.slice A n c).ownBlock ≠ some vb) (hbase : base ≤ w.heap.size) (hsm : n ≤ 1048576) (hi : i ≤ n) :
    Calls Tryz.prog 90 #[.slice A n c, .int .i64 (i : Int), .slice (some ⟨vb, 0, none⟩) 1 1] w (InsP_vals base w (.slice A n c) (cs.insertIdx i x)) := by
  by_cases he : i = n
  · subst he
    have hn := (grow_to hrow).1
    have h := insert_end_vals base A i c vb cs x w hrow hx hvb hbase hsm
    have e : cs.insertIdx i x = cs ++ [x] := by rw [hn, ins_eq x cs _ (Nat.le_refl _), List.take_length, List.drop_length]
    rw [e]
    exact h
  · have h1 := one_cells hrow.1
    obtain ⟨hn, ⟨_, h0, _⟩ | ⟨g, rest, rfl, hb, hg, hc, hm⟩⟩ := grow_to hrow
    · rw [h0] at hn; simp at hn; omega
    · have hne2 : vb ≠ g := fun e => hne (by rw [e]; rfl)
      by_cases hr : n + 1 ≤ c
      · exact insert_shift_vals base g n c i vb cs rest x w h1 hb hg hn.symm hc hm (by omega) hr hx hvb hne2
      · exact insert_grow_vals base g n c i vb cs rest x w h1 hbase hg hn.symm hc (by omega) (by omega) hx hvb hsm
end Go.Proofs.YtnccefeehkcneaaGreatDoor.Jm
