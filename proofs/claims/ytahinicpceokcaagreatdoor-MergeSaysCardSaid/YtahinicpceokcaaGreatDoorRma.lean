/-
  The reference's objects, in words of objects: Find of any value, Set.
  The reference's into (printed by gen/rm2.py).
-/
import Derived.Test.YtahinicpceokcaaGreatDoorJq9
import Derived.Test.YtahinicpceokcaaGreatDoorJqc
import Derived.Test.YtahinicpceokcaaGreatDoorMga
import Derived.Test.YtahinicpceokcaaGreatDoorJka
import Derived.Test.YtahinicpceokcaaGreatDoorUreg
import Derived.Test.YtahinicpceokcaaGreatDoorJba
namespace Go.Proofs.YtahinicpceokcaaGreatDoor.Jm
open Go Go.RowKit Go.Proofs.YtahinicpceokcaaGreatDoor.Sx Go.Proofs.YtahinicpceokcaaGreatDoor.Js Go.Proofs.YtahinicpceokcaaGreatDoor.Gr
/-- The reference's value, or none at all. -/
def RZ (F : Nat → Prop) (w : World) (j : J) (cs : List Value) : Prop := RV F w j cs ∨ (j = .null ∧ cs = noV)
section
variable {F F' : Nat → Prop} {w w' : World} {j : J} {cs : List Value}
theorem RZ.keep (h : RZ F w j cs) (hk : ∀ b, F b → b < w.heap.size → w'.heap[b]? = w.heap[b]?) (hF : ∀ b, F b → b < w.heap.size → F' b) : RZ F' w' j cs := h.imp (fun h => RV.keep hk hF _ _ h) id
theorem RZ.ext (h : RZ F w j cs) (hx : Ext w w') : RZ F w' j cs := h.keep (fun b _ hb => hx.block b hb) (fun _ h _ => h)
theorem RZ.null (F : Nat → Prop) (w : World) : RZ F w .null noV := .inr ⟨rfl, rfl⟩
/-- What the six cells are. -/
theorem RZ.shape (h : RZ F w j cs) : ∃ K B n s A1 n1 c1 A2 n2 c2, cs = v6 K B n s (.slice A1 n1 c1) (.slice A2 n2 c2) ∧
    (isObj j = true ∧ K = 6 ∧ B = false ∧ n = 0 ∧ s = ⟨#[]⟩ ∧ n1 = (objO j).1.length ∧ n2 = (objO j).2.length ∧ n1 ≤ c1 ∧ n2 ≤ c2 ∧ NamesAt F w A1 (objO j).1 ∧ RValsAt F w A2 (objO j).2 ∨
      isObj j = false ∧ K ≠ 6 ∧ A1 = none ∧ n1 = 0 ∧ c1 = 0) := by
  rcases h with h | ⟨rfl, rfl⟩
  · cases j with
    | null => exact ⟨_, _, _, _, _, _, _, _, _, _, RV_null.1 h, .inr ⟨rfl, by decide, rfl, rfl, rfl⟩⟩
    | bool b => exact ⟨_, _, _, _, _, _, _, _, _, _, RV_bool.1 h, .inr ⟨rfl, by decide, rfl, rfl, rfl⟩⟩
    | num n => exact ⟨_, _, _, _, _, _, _, _, _, _, (RV_num.1 h).1, .inr ⟨rfl, by decide, rfl, rfl, rfl⟩⟩
    | text s => exact ⟨_, _, _, _, _, _, _, _, _, _, RV_text.1 h, .inr ⟨rfl, by decide, rfl, rfl, rfl⟩⟩
    | list l => obtain ⟨A, c, e, _⟩ := RV_list.1 h; exact ⟨_, _, _, _, _, _, _, _, _, _, e, .inr ⟨rfl, by decide, rfl, rfl, rfl⟩⟩
    | obj ns l => obtain ⟨A, c, B, d, e, h1, h2, h3, h4⟩ := RV_obj.1 h; exact ⟨_, _, _, _, _, _, _, _, _, _, e, .inl ⟨rfl, rfl, rfl, rfl, rfl, rfl, rfl, h1, h2, h3, h4⟩⟩
  · exact ⟨0, false, 0, ⟨#[]⟩, none, 0, 0, none, 0, 0, rfl, .inr ⟨rfl, by decide, rfl, rfl, rfl⟩⟩
/-- The reference's object. -/
def RO (F : Nat → Prop) (w : World) (A : Option Addr) (c : Nat) (B : Option Addr) (d : Nat) (a : Ob) : Prop := a.1.length ≤ c ∧ a.2.length ≤ d ∧ NamesAt F w A a.1 ∧ RValsAt F w B a.2
theorem RO.keep {A : Option Addr} {c : Nat} {B : Option Addr} {d : Nat} {a : Ob} (h : RO F w A c B d a) (hk : ∀ b, F b → b < w.heap.size → w'.heap[b]? = w.heap[b]?) (hF : ∀ b, F b → b < w.heap.size → F' b) : RO F' w' A c B d a := ⟨h.1, h.2.1, h.2.2.1.keep hk hF, h.2.2.2.keep hk hF⟩
theorem RO.ext {A : Option Addr} {c : Nat} {B : Option Addr} {d : Nat} {a : Ob} (h : RO F w A c B d a) (hx : Ext w w') : RO F w' A c B d a := h.keep (fun b _ hb => hx.block b hb) (fun _ h _ => h)
theorem RO.nil : RO F w none 0 none 0 ([], []) := ⟨Nat.le_refl _, Nat.le_refl _, (fun q hq => by cases hq), (fun q hq => by cases hq)⟩
theorem RO.rv {A : Option Addr} {c : Nat} {B : Option Addr} {d : Nat} {a : Ob} (h : RO F w A c B d a) : RV F w (ofO a) (v6 6 false 0 ⟨#[]⟩ (.slice A a.1.length c) (.slice B a.2.length d)) := RV_obj.2 ⟨A, c, B, d, rfl, h⟩
theorem RO.of {A : Option Addr} {c : Nat} {B : Option Addr} {d n m : Nat} {a : Ob} (h : RV F w (ofO a) (v6 6 false 0 ⟨#[]⟩ (.slice A n c) (.slice B m d))) : n = a.1.length ∧ m = a.2.length ∧ RO F w A c B d a := by
  obtain ⟨h1, h2, h3, h4, h5, h6⟩ := RV_objs h
  exact ⟨h1, h2, h3, h4, h5, h6⟩
end
/-- What Find gives: the value's cells, and whether there is one. -/
def FindZ (F : Nat → Prop) (w : World) (a : Ob) (t : Tx) (e : Ending) (w' : World) : Prop := Ext w w' ∧ ∃ u, RZ F w (valO a t) u ∧ e = .returned (.tuple #[.agg u.toArray, .bool (getO a t).isSome]) ∧ ((getO a t).isSome = true → RV F w (valO a t) u)
set_option maxRecDepth 100000 in
set_option maxHeartbeats 4000000 in
theorem rfind_not (K : Int) (B : Bool) (z : Int) (s t : ByteArray) (A2 : Option Addr) (m2 c2 : Nat) (w : World) :
    Calls Tryz.prog 82 #[.agg #[.int .i64 K, .bool B, .int .i64 z, .string s, .slice none 0 0, .slice A2 m2 c2], .string t] w fun e w' => Ext w w' ∧ e = .returned (.tuple #[.agg noV.toArray, .bool false]) := by
  obtain ⟨g, hg⟩ : ∃ g, g = w.heap.size := ⟨_, rfl⟩
  obtain ⟨w1, hw1⟩ : ∃ w1, w1 = (w.alloc (.cells #[.int .i64 K, .bool B, .int .i64 z, .string s, .slice none 0 0, .slice A2 m2 c2] vT (0, 0))).alloc (.cells #[.int .i64 0, .bool false, .int .i64 0, .string ⟨#[]⟩, nilS, nilS] vT (0, 0)) := ⟨_, rfl⟩
  have HX1 : Hid (Ext w w1) := by rw [hw1]; exact (new_ext _ _).trans (new_ext _ _)
  have HV1 : Hid (VIn w1 g K B z s (.slice none 0 0) (.slice A2 m2 c2)) := by rw [hw1]; exact heap_old (heap_new hg)
  have HR1 : Hid (VIn w1 (g + 1) 0 false 0 ⟨#[]⟩ nilS nilS) := by rw [hw1]; exact heap_new (by rw [hg]; simp)
  have HGW : Hid (w.heap.size ≤ g + 1) := by rw [hg]; exact Nat.le_succ _
  go_enter Tryz.func82, Tryz.ntmps82
  go_wp2_with fail
  rw [← hw1, ← hg]
  clear hw1 hg
  obtain ⟨c0, c1, c2', c3, c4, c5⟩ := HV1.out.cells
  go_wp2_with fail
  clear c0 c1 c2' c3 c4 c5
  go_loopw [11] (fun ix wr => ix = .int .i64 0 ∧ w1 = wr) (fun _ _ => 0)
  case atStart => exact ⟨rfl, rfl⟩
  case round =>
    obtain ⟨rfl, rfl⟩ := hrel
    obtain ⟨d0, d1, d2, d3, d4, d5⟩ := HR1.out.cells
    have e0 := HR1.out.free 0
    have e1 := HR1.out.free 1
    have e2 := HR1.out.free 2
    have e3 := HR1.out.free 3
    have e4 := HR1.out.free 4
    have e5 := HR1.out.free 5
    go_wp2_with fail
    refine bodyPost_ret (results_v rfl _ _ (g + 1) rfl (put_in 0 false 0 ⟨#[]⟩ nilS nilS HR1.out)) rfl ?_
    exact ⟨put_ext 0 false 0 ⟨#[]⟩ nilS nilS HX1.out HGW.out, rfl⟩
theorem rfindO_any (F : Nat → Prop) (A : Option Addr) (c : Nat) (B : Option Addr) (d : Nat) (a : Ob) (t : Tx) (w : World) (h : RO F w A c B d a) (hw : WO a) (hb : bulkO a ≤ 500000) :
    Calls Tryz.prog 82 #[.agg #[.int .i64 6, .bool false, .int .i64 0, .string ⟨#[]⟩, .slice A a.1.length c, .slice B a.2.length d], .string (bx t)] w (FindZ F w a t) :=
  (rfind_any F A B c d a.1 a.2 (bx t) w h.2.2.1 h.2.2.2 hw.len h.2.1 (by have := len_bulkO a; have := hw.len; omega)).mono fun e w' ⟨hx, hr⟩ => by
    refine ⟨hx, ?_⟩
    rcases hr with ⟨i, hn, hl, u, e1, hu, he⟩ | ⟨hno, he⟩
    · rw [bx_data] at e1
      have hat := at_field hw hn hl
      rw [e1] at hat
      rw [val_some hat, hat]
      exact ⟨u, .inl hu, he, fun _ => hu⟩
    · rw [bx_data] at hno
      rw [val_none (get_none hno), get_none hno]
      exact ⟨noV, RZ.null F w, he, fun h => by cases h⟩
/-- Find of any value. -/
theorem rfindZ_any (F : Nat → Prop) (j : J) (K : Int) (B : Bool) (z : Int) (s : ByteArray) (A1 : Option Addr) (n1 c1 : Nat) (A2 : Option Addr) (n2 c2 : Nat) (t : Tx) (w : World) (h : RZ F w j (v6 K B z s (.slice A1 n1 c1) (.slice A2 n2 c2))) (hw : WJ j) (hb : bulkJ j ≤ 500000) :
    Calls Tryz.prog 82 #[.agg #[.int .i64 K, .bool B, .int .i64 z, .string s, .slice A1 n1 c1, .slice A2 n2 c2], .string (bx t)] w (FindZ F w (objO j) t) := by
  obtain ⟨K', B', z', s', A1', n1', c1', A2', n2', c2', e, h2⟩ := h.shape
  unfold v6 at e
  simp only [List.cons.injEq, Value.slice.injEq, Value.int.injEq, Value.bool.injEq, Value.string.injEq, and_true, true_and] at e
  obtain ⟨rfl, rfl, rfl, rfl, ⟨rfl, rfl, rfl⟩, rfl, rfl, rfl⟩ := e
  have hbo := bulk_obO j
  rcases h2 with ⟨_, rfl, rfl, rfl, rfl, rfl, rfl, h3, h4, h5, h6⟩ | ⟨h1, _, rfl, rfl, rfl⟩
  · exact rfindO_any F A1 c1 A2 c2 (objO j) t w ⟨h3, h4, h5, h6⟩ (WO.of hw) (by omega)
  · rw [objO_not h1]
    refine (rfind_not K B z s (bx t) A2 n2 c2 w).mono fun e w' ⟨hx, he⟩ => ⟨hx, noV, ?_, ?_, ?_⟩
    · rw [val_none (get_nil t)]; exact RZ.null F w
    · rw [get_nil]; exact he
    · rw [get_nil]; intro h; cases h
/-- What makes one of the reference's objects gives. -/
def RMadeO (F : Nat → Prop) (w : World) (a : Ob) (e : Ending) (w' : World) : Prop := Ext w w' ∧ ∃ A c B d, e = .returned (.agg #[.int .i64 6, .bool false, .int .i64 0, .string ⟨#[]⟩, .slice A a.1.length c, .slice B a.2.length d]) ∧ RO F w' A c B d a
theorem rsetO_any (F : Nat → Prop) (A : Option Addr) (c : Nat) (B : Option Addr) (d : Nat) (a : Ob) (t : Tx) (j : J) (K : Int) (Bb : Bool) (z : Int) (sv : ByteArray) (A1 : Option Addr) (m1 k1 : Nat) (A2 : Option Addr) (m2 k2 : Nat) (w : World) (h : RO F w A c B d a) (hw : WO a) (hb : bulkO a ≤ 500000)
    (hj : RV F w j (v6 K Bb z sv (.slice A1 m1 k1) (.slice A2 m2 k2))) (hF : ∀ b, w.heap.size ≤ b → F b) :
    Calls Tryz.prog 83 #[.agg #[.int .i64 6, .bool false, .int .i64 0, .string ⟨#[]⟩, .slice A a.1.length c, .slice B a.2.length d], .string (bx t), .agg #[.int .i64 K, .bool Bb, .int .i64 z, .string sv, .slice A1 m1 k1, .slice A2 m2 k2]] w (RMadeO F w (setO a t j)) :=
  (rset_any F A B c d a.1 a.2 t j K Bb z sv A1 m1 k1 A2 m2 k2 w h.2.2.1 h.2.2.2 hw.len hw.rise h.2.1 (by have := len_bulkO a; have := hw.len; omega) hj hF).mono fun e w' ⟨hx, A', c', B', d', he, hr⟩ =>
    ⟨hx, A', c', B', d', he, (RO.of (a := setO a t j) hr).2.2⟩
end Go.Proofs.YtahinicpceokcaaGreatDoor.Jm
namespace Go.Proofs.YtahinicpceokcaaGreatDoor.Jm
open Go Go.RowKit Go.Proofs.YtahinicpceokcaaGreatDoor.Sx Go.Proofs.YtahinicpceokcaaGreatDoor.Js Go.Proofs.YtahinicpceokcaaGreatDoor.Gr Go.Proofs.YtahinicpceokcaaGreatDoor.Ur
/-- Blocks that a walk's own boxes are not. -/
def NF (g m : Nat) (F : Nat → Prop) (b : Nat) : Prop := F b ∧ (b < g ∨ g + m ≤ b)
/-- An object that is being made, in box k. -/
def OutAt (g m k : Nat) (F : Nat → Prop) (w1 W : World) (a : Ob) : Prop := Ext w1 W ∧ g + m ≤ W.heap.size ∧ ∃ A c B d, VIn W k 6 false 0 ⟨#[]⟩ (.slice A a.1.length c) (.slice B a.2.length d) ∧ RO (NF g m F) W A c B d a
theorem put_size (W : World) (g : Nat) (K : Int) (B : Bool) (n : Int) (s : ByteArray) (a l : Value) : (putV W g K B n s a l).heap.size = W.heap.size := by simp [putV, World.setCell]
section
variable {g m k : Nat} {F : Nat → Prop} {w w1 W W' : World} {a o : Ob}
theorem OutAt.ext (h : OutAt g m k F w1 W a) (hx : Ext W W') : OutAt g m k F w1 W' a := by
  obtain ⟨h1, h2, A, c, B, d, h3, h4⟩ := h
  exact ⟨h1.trans hx, Nat.le_trans h2 hx.size, A, c, B, d, h3.ext hx, h4.ext hx⟩
theorem nf_put {A : Option Addr} {c : Nat} {B : Option Addr} {d : Nat} (h : RO (NF g m F) W A c B d o) (h1 : g ≤ k) (h2 : k < g + m) (K : Int) (Bb : Bool) (n : Int) (s : ByteArray) (x l : Value) : RO (NF g m F) (putV W k K Bb n s x l) A c B d o :=
  h.keep (fun b hb _ => put_heap W K Bb n s x l b (by have := hb.2; omega)) (fun _ h _ => h)
theorem OutAt.put {K : Int} {Bb : Bool} {n : Int} {s : ByteArray} {x l : Value} {A : Option Addr} {c : Nat} {B : Option Addr} {d : Nat} (h1 : Ext w1 W) (hs : g + m ≤ W.heap.size) (hk : w1.heap.size ≤ k) (hk1 : g ≤ k) (hk2 : k < g + m) (hv : VIn W k K Bb n s x l) (hr : RO (NF g m F) W A c B d o) :
    OutAt g m k F w1 (putV W k 6 false 0 ⟨#[]⟩ (.slice A o.1.length c) (.slice B o.2.length d)) o :=
  ⟨put_ext _ _ _ _ _ _ h1 hk, by rw [put_size]; exact hs, A, c, B, d, put_in _ _ _ _ _ _ hv, nf_put hr hk1 hk2 _ _ _ _ _ _⟩
theorem nf_old {j : J} {cs : List Value} (h : RZ F w j cs) (hg : w.heap.size ≤ g) (hx : Ext w W) : RZ (NF g m F) W j cs := h.keep (fun b _ hb => hx.block b hb) (fun b h hb => ⟨h, .inl (by omega)⟩)
theorem nf_old' {j : J} {cs : List Value} (h : RV F w j cs) (hg : w.heap.size ≤ g) (hx : Ext w W) : RV (NF g m F) W j cs := RV.keep (fun b _ hb => hx.block b hb) (fun b h hb => ⟨h, .inl (by omega)⟩) _ _ h
theorem nf_ro {A : Option Addr} {c : Nat} {B : Option Addr} {d : Nat} (h : RO F w A c B d o) (hg : w.heap.size ≤ g) (hx : Ext w W) : RO (NF g m F) W A c B d o := h.keep (fun b _ hb => hx.block b hb) (fun b h hb => ⟨h, .inl (by omega)⟩)
theorem nf_new (hF : ∀ b, w.heap.size ≤ b → F b) (hg : w.heap.size ≤ g) (hs : g + m ≤ W.heap.size) : ∀ b, W.heap.size ≤ b → NF g m F b := fun b hb => ⟨hF b (by omega), .inr (by omega)⟩
theorem RV_kind {j : J} {K : Int} {B : Bool} {z : Int} {s : ByteArray} {x l : Value} (h : RV F w j (v6 K B z s x l)) : K = kindJ j := by
  obtain ⟨A, c, B', d, e, _⟩ := h.parts
  unfold v6 at e
  simp only [List.cons.injEq, Value.int.injEq, true_and] at e
  exact e.1
theorem kind_null (j : J) : (kindJ j == 1) = isNull j := by cases j <;> rfl
end
/-- What makes one of the reference's values gives. -/
def RMade (F : Nat → Prop) (j : J) (w : World) (e : Ending) (w' : World) : Prop := Ext w w' ∧ ∃ K B z s A1 n1 c1 A2 n2 c2, RV F w' j (v6 K B z s (.slice A1 n1 c1) (.slice A2 n2 c2)) ∧ e = .returned (.agg #[.int .i64 K, .bool B, .int .i64 z, .string s, .slice A1 n1 c1, .slice A2 n2 c2])
def RIntoC (v : J) : Prop := ∀ (F : Nat → Prop) (d : J) (cs ds : List Value) (w : World), (∀ b, w.heap.size ≤ b → F b) → RZ F w d cs → RV F w v ds → WJ d → WJ v → bulkJ d + bulkJ v ≤ 400000 → Calls Tryz.prog 44 #[.agg cs.toArray, .agg ds.toArray] w (RMade F (mergeJ d v) w)
set_option maxRecDepth 100000 in
set_option maxHeartbeats 4000000 in
theorem rinto_flat (v : J) (hv : isObj v = false) : RIntoC v := by
  intro F d cs ds w hF hd hrv _ _ _
  rw [mergeJ_flat d hv]
  obtain ⟨K1, B1, z1, s1, A1, n1, c1, A2, n2, c2, rfl, -⟩ := hd.shape
  obtain ⟨K2, B2, z2, s2, A3, n3, c3, A4, n4, c4, rfl, hsh⟩ := RZ.shape (Or.inl hrv : RZ F w v ds)
  have hK : K2 ≠ 6 := by
    rcases hsh with ⟨h, _⟩ | ⟨_, h, _⟩
    · rw [hv] at h; cases h
    · exact h
  have HRV := Lib.hid hrv
  obtain ⟨g, hg⟩ : ∃ g, g = w.heap.size := ⟨_, rfl⟩
  obtain ⟨w1, hw1⟩ : ∃ w1, w1 = ((w.alloc (.cells #[.int .i64 K1, .bool B1, .int .i64 z1, .string s1, .slice A1 n1 c1, .slice A2 n2 c2] vT (0, 0))).alloc (.cells #[.int .i64 K2, .bool B2, .int .i64 z2, .string s2, .slice A3 n3 c3, .slice A4 n4 c4] vT (0, 0))).alloc (.cells #[.int .i64 0, .bool false, .int .i64 0, .string ⟨#[]⟩, nilS, nilS] vT (0, 0)) := ⟨_, rfl⟩
  have HX1 : Hid (Ext w w1) := by rw [hw1]; exact ((new_ext _ _).trans (new_ext _ _)).trans (new_ext _ _)
  have HVV : Hid (VIn w1 (g + 1) K2 B2 z2 s2 (.slice A3 n3 c3) (.slice A4 n4 c4)) := by rw [hw1]; exact heap_old (heap_new (by rw [hg]; simp))
  have HVR : Hid (VIn w1 (g + 2) 0 false 0 ⟨#[]⟩ nilS nilS) := by rw [hw1]; exact heap_new (by rw [hg]; simp)
  have HGW : Hid (w.heap.size ≤ g + 2) := by rw [hg]; exact Nat.le_add_right _ _
  have b1 : (K2 != 6) = true := by rw [bne_iff_ne]; exact hK
  unfold v6
  clear hd hrv hsh hK hv
  go_enter Tryz.func44, Tryz.ntmps44
  go_upto_region 1 with (fail)
  rw [← hw1, ← hg]
  clear hw1 hg
  obtain ⟨a0, a1, a2, a3, a4, a5⟩ := HVV.out.cells
  obtain ⟨e0, e1, e2, e3, e4, e5⟩ := HVR.out.cells
  have f0 := HVR.out.free 0
  have f1 := HVR.out.free 1
  have f2 := HVR.out.free 2
  have f3 := HVR.out.free 3
  have f4 := HVR.out.free 4
  have f5 := HVR.out.free 5
  go_wp2_with fail
  refine bodyPost_ret (results_v1 rfl _ _ (g + 2) rfl (put_in K2 B2 z2 s2 (.slice A3 n3 c3) (.slice A4 n4 c4) HVR.out)) rfl ?_
  have hx := put_ext K2 B2 z2 s2 (.slice A3 n3 c3) (.slice A4 n4 c4) HX1.out HGW.out
  exact ⟨hx, _, _, _, _, _, _, _, _, _, _, HRV.out.ext hx, rfl⟩
set_option maxRecDepth 100000 in
set_option maxHeartbeats 16000000 in
theorem rinto_obj (v : Ob) (ih : ∀ n x, getO v n = some x → RIntoC x) : RIntoC (ofO v) := by
  intro F d cs ds w hF hd hrv wd wv hb
  obtain ⟨K1, B1, z1, s1, A1, n1, c1, A2, n2, c2, rfl, hsh⟩ := hd.shape
  obtain ⟨VA, vc, VB, vd, rfl, hvo⟩ : ∃ VA vc VB vd, ds = v6 6 false 0 ⟨#[]⟩ (.slice VA v.1.length vc) (.slice VB v.2.length vd) ∧ RO F w VA vc VB vd v := by
    obtain ⟨A, c, B, d, e, h⟩ := RV_obj.1 hrv
    exact ⟨A, c, B, d, e, h⟩
  have hV : WO v := wv
  have hD : WO (objO d) := WO.of wd
  have hbv : bulkJ (ofO v) = 32 + bulkO v := bulk_of v
  have hbd := bulk_obO d
  have hlv := len_bulkO v
  have hVl := hV.len
  have hlD := len_bulkO (objO d)
  have hDl := hD.len
  obtain ⟨N, hN⟩ : ∃ N, N = v.1.length := ⟨_, rfl⟩
  have hNs : N ≤ 1048576 := by omega
  have HN : Hid (N = v.1.length ∧ N = v.2.length) := ⟨hN, by omega⟩
  obtain ⟨g, hg⟩ : ∃ g, g = w.heap.size := ⟨_, rfl⟩
  have hgw : w.heap.size ≤ g := by omega
  have HF := Lib.hid hF
  have HGW := Lib.hid hgw
  obtain ⟨w1, hw1⟩ : ∃ w1, w1 = ((w.alloc (.cells #[.int .i64 K1, .bool B1, .int .i64 z1, .string s1, .slice A1 n1 c1, .slice A2 n2 c2] vT (0, 0))).alloc (.cells #[.int .i64 6, .bool false, .int .i64 0, .string ⟨#[]⟩, .slice VA v.1.length vc, .slice VB v.2.length vd] vT (0, 0))).alloc (.cells #[.int .i64 0, .bool false, .int .i64 0, .string ⟨#[]⟩, nilS, nilS] vT (0, 0)) := ⟨_, rfl⟩
  have HX1 : Hid (Ext w w1) := by rw [hw1]; exact ((new_ext _ _).trans (new_ext _ _)).trans (new_ext _ _)
  have HVD : Hid (VIn w1 g K1 B1 z1 s1 (.slice A1 n1 c1) (.slice A2 n2 c2)) := by rw [hw1]; exact heap_old (heap_old (heap_new hg))
  have e0v : v.2.length = N := by omega
  rw [← hN, e0v]
  have HVV : Hid (VIn w1 (g + 1) 6 false 0 ⟨#[]⟩ (.slice VA N vc) (.slice VB N vd)) := by rw [hw1, e0v, ← hN]; exact heap_old (heap_new (by rw [hg]; simp))
  have HVR : Hid (VIn w1 (g + 2) 0 false 0 ⟨#[]⟩ nilS nilS) := by rw [hw1]; exact heap_new (by rw [hg]; simp)
  have HGS : Hid (w1.heap.size = g + 3) := by rw [hw1, hg]; simp [Hid]
  rw [e0v, ← hN] at hw1
  -- the object that is made
  obtain ⟨L, hL⟩ : ∃ L : Nat → Ob, ∀ q, L q = foldO (stepA v.1) (((objO d).1.zip (objO d).2).take q) ([], []) := ⟨_, fun _ => rfl⟩
  have HL : Hid (L 0 = ([], []) ∧ (∀ q (h1 : q < (objO d).1.length) (h2 : q < (objO d).2.length), L (q + 1) = if (objO d).1[q] ∈ v.1 then L q else setO (L q) (objO d).1[q] (objO d).2[q]) ∧ (∀ q, WO (L q) ∧ bulkO (L q) ≤ 400000) ∧ (∀ q, q = (objO d).1.length → L q = keptO (objO d) v)) := by
    refine ⟨by rw [hL]; rfl, fun q h1 h2 => by rw [hL, hL]; exact fold_take _ _ _ h1 h2, fun q => ⟨by rw [hL]; exact (kept_mid hD v q).1, by rw [hL]; have := (kept_mid hD v q).2; omega⟩, fun q h => ?_⟩
    rw [hL, List.take_of_length_le (by rw [List.length_zip]; omega)]
    rfl
  obtain ⟨K, hK⟩ : ∃ K : Nat → Ob, ∀ q, K q = foldO (stepB (objO d) mergeJ) ((v.1.zip v.2).take q) (keptO (objO d) v) := ⟨_, fun _ => rfl⟩
  have HK : Hid (K 0 = keptO (objO d) v ∧ (∀ q (h1 : q < v.1.length) (h2 : q < v.2.length), K (q + 1) = if isNull v.2[q] then K q else setO (K q) v.1[q] (mergeJ (valO (objO d) v.1[q]) v.2[q])) ∧ (∀ q, WO (K q) ∧ bulkO (K q) ≤ 400000) ∧ mergeJ d (ofO v) = ofO (K N)) := by
    refine ⟨by rw [hK]; rfl, fun q h1 h2 => by rw [hK, hK]; exact fold_take _ _ _ h1 h2, fun q => ⟨by rw [hK]; exact (merge_ref_mid wd hV q).1, by rw [hK]; have := (merge_ref_mid wd hV q).2; omega⟩, ?_⟩
    rw [merge_ref' wd hV, hK, List.take_of_length_le (by rw [List.length_zip]; omega)]
  -- what the callees do
  have CFV : Hid (∀ (n : Tx) (W : World), Ext w1 W → Calls Tryz.prog 82 #[.agg #[.int .i64 6, .bool false, .int .i64 0, .string ⟨#[]⟩, .slice VA N vc, .slice VB N vd], .string (bx n)] W (FindZ (NF g 4 F) W v n)) := fun n W hW => by
    have h := rfindO_any (NF g 4 F) VA vc VB vd v n W (nf_ro hvo hgw (HX1.out.trans hW)) hV (by omega)
    rw [e0v, ← hN] at h
    exact h
  have CFD : Hid (∀ (n : Tx) (W : World), Ext w1 W → Calls Tryz.prog 82 #[.agg #[.int .i64 K1, .bool B1, .int .i64 z1, .string s1, .slice A1 n1 c1, .slice A2 n2 c2], .string (bx n)] W (FindZ (NF g 4 F) W (objO d) n)) := fun n W hW =>
    rfindZ_any (NF g 4 F) d K1 B1 z1 s1 A1 n1 c1 A2 n2 c2 n W (nf_old hd hgw (HX1.out.trans hW)) wd (by omega)
  have CIN : Hid (∀ q (h1 : q < v.1.length) (h2 : q < v.2.length) (W : World) (u x : List Value), w1.heap.size + 1 ≤ W.heap.size → RZ (NF g 4 F) W (valO (objO d) v.1[q]) u → RV (NF g 4 F) W v.2[q] x → Calls Tryz.prog 44 #[.agg u.toArray, .agg x.toArray] W (RMade (NF g 4 F) (mergeJ (valO (objO d) v.1[q]) v.2[q]) W)) := fun q h1 h2 W u x hs hu hx => by
    have hat := at_field hV h1 h2
    refine ih _ _ hat (NF g 4 F) _ u x W (nf_new hF hgw (by have := HGS.out; omega)) hu hx (hD.val _) (hV.get hat) ?_
    have e1 := bulk_val (objO d) v.1[q]
    have e2 := bulk_get hat
    omega
  have HVO : Hid (RO F w VA vc VB vd v) := hvo
  have HVR0 : Hid (Rise v.1) := hV.rise
  have HWM : Hid (∀ q (h1 : q < v.2.length), WJ v.2[q]) := fun q h1 => hV.vals _ (List.getElem_mem h1)
  have hsz : w1.heap.size = g + 3 := HGS.out
  obtain ⟨w2, hw2⟩ : ∃ w2, w2 = w1.alloc (.cells #[.int .i64 6, .bool false, .int .i64 0, .string ⟨#[]⟩, nilS, nilS] vT (0, 0)) := ⟨_, rfl⟩
  have HX2 : Hid (Ext w1 w2) := by rw [hw2]; exact new_ext _ _
  have HO2 : Hid (OutAt g 4 (g + 3) F w1 w2 ([], [])) := ⟨HX2.out, by rw [hw2]; simp [hsz], none, 0, none, 0, by rw [hw2]; exact heap_new hsz.symm, RO.nil⟩
  have HD : Hid (isObj d = true ∧ K1 = 6 ∧ n1 = (objO d).1.length ∧ n2 = (objO d).2.length ∧ NamesAt F w A1 (objO d).1 ∧ RValsAt F w A2 (objO d).2 ∧ n1 ≤ 1048576 ∨ K1 ≠ 6 ∧ objO d = ([], [])) := by
    rcases hsh with ⟨h1, h2, _, _, _, h3, h4, _, _, h5, h6⟩ | ⟨h1, h2, _⟩
    · exact .inl ⟨h1, h2, h3, h4, h5, h6, by omega⟩
    · exact .inr ⟨h2, objO_not h1⟩
  have HDL : Hid ((objO d).1.length = (objO d).2.length) := hDl
  unfold v6
  clear hd hrv wd wv hb hsh hvo hV hD hbv hbd hlv hVl hlD hDl hN e0v ih hL hK hF hgw
  rcases HD.out with ⟨-, rfl, hM1, hM2, hDN, hDV, hn1s⟩ | ⟨hK6, hno⟩
  · have HM : Hid (n1 = (objO d).1.length ∧ n1 = (objO d).2.length) := ⟨hM1, by have := HDL.out; omega⟩
    have HDN := Lib.hid hDN
    have HDV := Lib.hid hDV
    obtain rfl : n2 = n1 := by have := HDL.out; omega
    clear hM1 hM2 hDN hDV HD
    go_enter Tryz.func44, Tryz.ntmps44
    go_upto_region 1 with (fail)
    rw [← hw1, ← hg]
    clear hw1 hg
    obtain ⟨a0, -, -, -, -, -⟩ := HVV.out.cells
    obtain ⟨b0, -, -, -, b4, -⟩ := HVD.out.cells
    go_upto_region 4 with (fail)
    rw [← hw2]
    clear hw2 hsz a0
    obtain ⟨b0, -, -, -, b4, -⟩ := (HVD.out.ext HX2.out).cells
    go_wp2_with fail
    clear b0 b4
    go_loopw [25] (fun ix wr => ∃ q : Nat, q ≤ n2 ∧ ix = .int .i64 (q : Int) ∧ Hid (OutAt g 4 (g + 3) F w1 wr (L q))) (fun ix _ => n2 - (intOf ix).toNat)
    case atStart => exact ⟨0, Nat.zero_le _, rfl, by rw [HL.out.1]; exact HO2.out⟩
    case round =>
      obtain ⟨q, hq, rfl, hR⟩ := hrel
      have hq0 : (0 : Int) ≤ (q : Int) := by omega
      have HXR := Lib.hid hR.out.1
      by_cases hlt : q < n2
      · have hqn : q < (objO d).1.length := by rw [← HM.out.1]; exact hlt
        have hql : q < (objO d).2.length := by rw [← HM.out.2]; exact hlt
        obtain ⟨ga, oa, rfl, -, hca0⟩ := HDN.out q hqn
        have hca := (cell_keep ((HX1.out.trans HXR.out).block ga (cell_lt hca0))).trans hca0
        have CF := Lib.hid (CFV.out (objO d).1[q] wr HXR.out)
        have HST := Lib.hid (HL.out.2.1 q hqn hql)
        have HLQ := Lib.hid (HL.out.2.2.1 q)
        obtain ⟨gb, ob, u, rfl, hFb, -, hu, hrv⟩ := HDV.out q hql
        obtain ⟨K3, B3, z3, s3, A5, n5, c5, A6, n6, c6, rfl⟩ := RV.shape hrv
        have HRV : Hid (RV F w (objO d).2[q] (v6 K3 B3 z3 s3 (.slice A5 n5 c5) (.slice A6 n6 c6))) := hrv
        have HSRC : Hid (∀ W, Ext w W → W.cell? ⟨gb, ob + q * 6, none⟩ = some (.int .i64 K3) ∧ W.cell? ⟨gb, ob + q * 6 + 1, none⟩ = some (.bool B3) ∧ W.cell? ⟨gb, ob + q * 6 + 2, none⟩ = some (.int .i64 z3) ∧ W.cell? ⟨gb, ob + q * 6 + 3, none⟩ = some (.string s3) ∧ W.cell? ⟨gb, ob + q * 6 + 4, none⟩ = some (.slice A5 n5 c5) ∧ W.cell? ⟨gb, ob + q * 6 + 5, none⟩ = some (.slice A6 n6 c6)) := fun W hW => by
          have hk : ∀ k x, (v6 K3 B3 z3 s3 (.slice A5 n5 c5) (.slice A6 n6 c6))[k]? = some x → W.cell? ⟨gb, ob + q * 6 + k, none⟩ = some x := fun k x h => (cell_keep (hW.block gb (cell_lt (hu k x h)))).trans (hu k x h)
          exact ⟨by have := hk 0 _ rfl; rwa [Nat.add_zero] at this, hk 1 _ rfl, hk 2 _ rfl, hk 3 _ rfl, hk 4 _ rfl, hk 5 _ rfl⟩
        have hltI : (q : Int) < (n2 : Int) := by omega
        obtain ⟨OA, oc, OB, od, hvo, hro⟩ := hR.out.2.2
        have HVO1 := Lib.hid hvo
        have HRO1 := Lib.hid hro
        have HSZ1 := Lib.hid hR.out.2.1
        have HMEM : Hid ((getO v (objO d).1[q]).isSome = true ↔ (objO d).1[q] ∈ v.1) := by
          have := HN.out
          unfold Hid getO getJ
          by_cases hm : (objO d).1[q] ∈ v.1
          · have hl : place v.1 (objO d).1[q] < v.2.length := by
              have h1 : place v.1 (objO d).1[q] < v.1.length := by
                obtain ⟨h1, _⟩ := (place_mem (HVR0.out) (objO d).1[q]).1 hm
                exact h1
              omega
            rw [if_pos hm, List.getElem?_eq_getElem hl]
            simp [hm]
          · rw [if_neg hm]; simp [hm]
        generalize hn : (objO d).1[q] = n at *
        generalize hx : (objO d).2[q] = x at *
        obtain ⟨nx, hnx⟩ : ∃ s, s = bx n := ⟨_, rfl⟩
        rw [← hnx] at hca CF
        have HNX := Lib.hid hnx
        clear hca0 hu hrv hvo hro hn hx hnx hFb
        obtain ⟨a0, a1, a2, a3, a4, a5⟩ := (HVV.out.ext HXR.out).cells
        go_wp2_with fail
        refine Calls.mono CF.out ?_
        rintro e w6 ⟨x6, u, hu, rfl, -⟩
        obtain ⟨K4, B4, z4, s4, A7, n7, c7, A8, n8, c8, rfl, -⟩ := hu.shape
        unfold v6
        have X6 := Lib.hid x6
        clear x6 hu a0 a1 a2 a3 a4 a5
        go_upto_region 9 with (fail)
        generalize hW : World.alloc w6 _ = w7
        have X7 : Hid (Ext wr w7) := by rw [← hW]; exact X6.out.trans (new_ext _ _)
        clear hW
        cases hin : (getO v n).isSome with
        | true =>
          have HS : Hid (L (q + 1) = L q) := by unfold Hid; rw [HST.out, if_pos (HMEM.out.1 hin)]
          have H7 : Hid (OutAt g 4 (g + 3) F w1 w7 (L (q + 1))) := by unfold Hid; rw [HS.out]; exact hR.out.ext X7.out
          clear hin
          go_wp2_with fail
          go_roundw
          case rel => exact ⟨q + 1, hlt, by go_num, H7⟩
          case measure => simp [intOf]; omega
        | false =>
          have HS : Hid (L (q + 1) = setO (L q) n x) := by unfold Hid; rw [HST.out, if_neg (fun h => by rw [HMEM.out.2 h] at hin; cases hin)]
          clear hin
          have HST7 : Hid (∀ W, Ext w7 W → W.cell? ⟨g + 3, 0, none⟩ = some (.int .i64 6) ∧ W.cell? ⟨g + 3, 1, none⟩ = some (.bool false) ∧ W.cell? ⟨g + 3, 2, none⟩ = some (.int .i64 0) ∧ W.cell? ⟨g + 3, 3, none⟩ = some (.string ⟨#[]⟩) ∧ W.cell? ⟨g + 3, 4, none⟩ = some (.slice OA (L q).1.length oc) ∧ W.cell? ⟨g + 3, 5, none⟩ = some (.slice OB (L q).2.length od) ∧ W.cell? ⟨g, 5, none⟩ = some (.slice (some ⟨gb, ob, none⟩) n2 c2) ∧ W.cell? ⟨gb, ob + q * 6, none⟩ = some (.int .i64 K3) ∧ W.cell? ⟨gb, ob + q * 6 + 1, none⟩ = some (.bool B3) ∧ W.cell? ⟨gb, ob + q * 6 + 2, none⟩ = some (.int .i64 z3) ∧ W.cell? ⟨gb, ob + q * 6 + 3, none⟩ = some (.string s3) ∧ W.cell? ⟨gb, ob + q * 6 + 4, none⟩ = some (.slice A5 n5 c5) ∧ W.cell? ⟨gb, ob + q * 6 + 5, none⟩ = some (.slice A6 n6 c6)) := fun W hW => by
            obtain ⟨o0, o1, o2, o3, o4, o5⟩ := (HVO1.out.ext (X7.out.trans hW)).cells
            obtain ⟨-, -, -, -, -, d5⟩ := (HVD.out.ext (HXR.out.trans (X7.out.trans hW))).cells
            exact ⟨o0, o1, o2, o3, o4, o5, d5, HSRC.out W (HX1.out.trans (HXR.out.trans (X7.out.trans hW)))⟩
          have CS : Hid (∀ W, Ext w7 W → Calls Tryz.prog 83 #[.agg #[.int .i64 6, .bool false, .int .i64 0, .string ⟨#[]⟩, .slice OA (L q).1.length oc, .slice OB (L q).2.length od], .string nx, .agg #[.int .i64 K3, .bool B3, .int .i64 z3, .string s3, .slice A5 n5 c5, .slice A6 n6 c6]] W (RMadeO (NF g 4 F) W (setO (L q) n x))) := fun W hW => by
            rw [HNX.out]
            exact rsetO_any (NF g 4 F) OA oc OB od (L q) n x K3 B3 z3 s3 A5 n5 c5 A6 n6 c6 W (HRO1.out.ext (X7.out.trans hW)) HLQ.out.1 (by have := HLQ.out.2; omega) (nf_old' HRV.out HGW.out (HX1.out.trans (HXR.out.trans (X7.out.trans hW)))) (nf_new HF.out HGW.out (Nat.le_trans HSZ1.out (X7.out.trans hW).size))
          have hxx : Ext w7 w7 := Below.refl _ _
          go_upto_region 10 with (fail)
          refine wp_region_split (fun w' => w'.cell? ⟨g + 3, 0, none⟩ = some (.int .i64 6) ∧ w'.cell? ⟨g + 3, 1, none⟩ = some (.bool false) ∧ w'.cell? ⟨g + 3, 2, none⟩ = some (.int .i64 0) ∧ w'.cell? ⟨g + 3, 3, none⟩ = some (.string ⟨#[]⟩) ∧ w'.cell? ⟨g + 3, 4, none⟩ = some (.slice OA (L q).1.length oc) ∧ w'.cell? ⟨g + 3, 5, none⟩ = some (.slice OB (L q).2.length od) ∧ w'.cell? ⟨g, 5, none⟩ = some (.slice (some ⟨gb, ob, none⟩) n2 c2) ∧ w'.cell? ⟨gb, ob + q * 6, none⟩ = some (.int .i64 K3) ∧ w'.cell? ⟨gb, ob + q * 6 + 1, none⟩ = some (.bool B3) ∧ w'.cell? ⟨gb, ob + q * 6 + 2, none⟩ = some (.int .i64 z3) ∧ w'.cell? ⟨gb, ob + q * 6 + 3, none⟩ = some (.string s3) ∧ w'.cell? ⟨gb, ob + q * 6 + 4, none⟩ = some (.slice A5 n5 c5) ∧ w'.cell? ⟨gb, ob + q * 6 + 5, none⟩ = some (.slice A6 n6 c6)) 7 (by kernel_rfl) (by kernel_rfl) (by exact HST7.out _ (by repeat (first | assumption | apply ext_al | apply ext_dr))) (fun hHeld => ?_)
          simp only [List.take_succ_cons, List.take_zero, List.drop_succ_cons, List.drop_zero]
          refine wpAnyH_take (i := 0) (v := ?_) rfl (by kernel_rfl) (by kernel_rfl) (by kernel_rfl) (fun _ _ _ h => h) (Or.inl ⟨by rfl, ?_⟩) (by assumption) ?_
          rotate_left
          · intro w hSw
            (try dsimp only at hSw)
            go_simp
            (try with_reducible rfl)
          (try simp only [Act.put, List.setIfInBounds_toArray])
          refine wpAnyH_take (i := 1) (v := ?_) rfl (by kernel_rfl) (by kernel_rfl) (by kernel_rfl) (fun _ _ _ h => h) (Or.inl ⟨by rfl, ?_⟩) (by assumption) ?_
          rotate_left
          · intro w hSw
            (try dsimp only at hSw)
            go_simp
            (try with_reducible rfl)
          (try simp only [Act.put])
          refine wpAnyH_take (i := 2) (v := ?_) rfl (by kernel_rfl) (by kernel_rfl) (by kernel_rfl) (fun _ _ _ h => h) (Or.inl ⟨by rfl, ?_⟩) (by assumption) ?_
          rotate_left
          · intro w hSw
            (try dsimp only at hSw)
            go_simp
            (try with_reducible rfl)
          (try simp only [Act.put])
          refine wpAnyH_take (i := 3) (v := ?_) rfl (by kernel_rfl) (by kernel_rfl) (by kernel_rfl) (fun _ _ _ h => h) (Or.inl ⟨by rfl, ?_⟩) (by assumption) ?_
          rotate_left
          · intro w hSw
            (try dsimp only at hSw)
            go_simp
            (try with_reducible rfl)
          (try simp only [Act.put])
          refine wpAnyH_take (i := 4) (v := ?_) rfl (by kernel_rfl) (by kernel_rfl) (by kernel_rfl) (fun _ _ _ h => h) (Or.inl ⟨by rfl, ?_⟩) (by assumption) ?_
          rotate_left
          · intro w hSw
            (try dsimp only at hSw)
            go_simp
            (try with_reducible rfl)
          (try simp only [Act.put])
          refine wpAnyH_take (i := 5) (v := ?_) rfl (by kernel_rfl) (by kernel_rfl) (by kernel_rfl) (fun _ _ _ h => h) (Or.inl ⟨by rfl, ?_⟩) (by assumption) ?_
          rotate_left
          · intro w hSw
            (try dsimp only at hSw)
            go_simp
            (try with_reducible rfl)
          (try simp only [Act.put])
          refine wpAnyH_take (i := 6) (v := ?_) rfl (by kernel_rfl) (by kernel_rfl) (by kernel_rfl) (fun _ _ _ h => h) (Or.inl ⟨by rfl, ?_⟩) (by assumption) ?_
          rotate_left
          · intro w hSw
            (try dsimp only at hSw)
            go_simp
            (try with_reducible rfl)
          (try simp only [Act.put])
          refine wpAnyH_done (by kernel_rfl) ?_ _
          refine TailQ.normal ?_
          go_upto_region 11 with (go_at_call 83; refine Calls.mono (CS.out _ (by repeat (first | assumption | apply ext_al | apply ext_dr))) ?_; rintro e w8 ⟨x8, A9, c9, B9, d9, rfl, hro8⟩; have X8 := Lib.hid x8; have HRO8 := Lib.hid hro8; have hb8 := HVO1.out.ext (X7.out.trans (((by repeat (first | assumption | apply ext_al | apply ext_dr)) : Ext w7 _).trans x8)); have HVO8 := Lib.hid hb8; have y0 := hb8.free 0; have y1 := hb8.free 1; have y2 := hb8.free 2; have y3 := hb8.free 3; have y4 := hb8.free 4; have y5 := hb8.free 5; obtain ⟨v0, v1, v2, v3, v4, v5⟩ := hb8.cells; have HX8 : Hid (Ext w7 w8) := ((by repeat (first | assumption | apply ext_al | apply ext_dr)) : Ext w7 _).trans x8; clear x8 hro8 hb8)
          generalize hW : World.setCell _ _ _ = w9
          have H9 : Hid (OutAt g 4 (g + 3) F w1 w9 (L (q + 1))) := by
            unfold Hid
            rw [← hW, HS.out]
            exact OutAt.put (HXR.out.trans (X7.out.trans HX8.out)) (Nat.le_trans HSZ1.out (X7.out.trans HX8.out).size) (by rw [HGS.out]; exact Nat.le_refl _) (by omega) (by omega) HVO8.out HRO8.out
          clear hW
          go_wp2_with fail
          go_roundw
          case rel => exact ⟨q + 1, hlt, by go_num, H9⟩
          case measure => simp [intOf]; omega
      · have bl : decide ((q : Int) < (n2 : Int)) = false := decide_eq_false (by omega)
        have bl2 : decide (q < n2) = false := decide_eq_false hlt
        have HS0 : Hid (OutAt g 4 (g + 3) F w1 wr (K 0)) := by
          unfold Hid
          rw [HK.out.1, ← HL.out.2.2.2 q (by have := HM.out.1; omega)]
          exact hR.out
        obtain ⟨w5, hw5⟩ : ∃ w5, w5 = wr := ⟨_, rfl⟩
        rw [← hw5]
        rw [← hw5] at HS0 HXR
        clear hlt hR hw5 hq hq0 HM HDN HDV
        obtain ⟨-, -, -, -, a4, -⟩ := (HVV.out.ext HXR.out).cells
        go_wp2_with fail
        clear a4
        go_loopw [50] (fun ix wr => ∃ q : Nat, q ≤ N ∧ ix = .int .i64 (q : Int) ∧ Hid (OutAt g 4 (g + 3) F w1 wr (K q))) (fun ix _ => N - (intOf ix).toNat)
        case atStart => exact ⟨0, Nat.zero_le _, rfl, HS0⟩
        case round =>
          obtain ⟨q, hq, rfl, hR⟩ := hrel
          have hq0 : (0 : Int) ≤ (q : Int) := by omega
          have HXR := Lib.hid hR.out.1
          by_cases hlt : q < N
          · have hqn : q < v.1.length := by rw [← HN.out.1]; exact hlt
            have hql : q < v.2.length := by rw [← HN.out.2]; exact hlt
            obtain ⟨ga, oa, rfl, -, hca0⟩ := HVO.out.2.2.1 q hqn
            have hca := (cell_keep ((HX1.out.trans HXR.out).block ga (cell_lt hca0))).trans hca0
            have CF := Lib.hid (CFD.out v.1[q] wr HXR.out)
            have HST := Lib.hid (HK.out.2.1 q hqn hql)
            have HLQ := Lib.hid (HK.out.2.2.1 q)
            have CI0 := Lib.hid (CIN.out q hqn hql)
            obtain ⟨gb, ob, u, rfl, hFb, -, hu, hrv⟩ := HVO.out.2.2.2 q hql
            obtain ⟨K3, B3, z3, s3, A5, n5, c5, A6, n6, c6, rfl⟩ := RV.shape hrv
            have HRV : Hid (RV F w v.2[q] (v6 K3 B3 z3 s3 (.slice A5 n5 c5) (.slice A6 n6 c6))) := hrv
            have HSRC : Hid (∀ W, Ext w W → W.cell? ⟨gb, ob + q * 6, none⟩ = some (.int .i64 K3) ∧ W.cell? ⟨gb, ob + q * 6 + 1, none⟩ = some (.bool B3) ∧ W.cell? ⟨gb, ob + q * 6 + 2, none⟩ = some (.int .i64 z3) ∧ W.cell? ⟨gb, ob + q * 6 + 3, none⟩ = some (.string s3) ∧ W.cell? ⟨gb, ob + q * 6 + 4, none⟩ = some (.slice A5 n5 c5) ∧ W.cell? ⟨gb, ob + q * 6 + 5, none⟩ = some (.slice A6 n6 c6)) := fun W hW => by
              have hk : ∀ k x, (v6 K3 B3 z3 s3 (.slice A5 n5 c5) (.slice A6 n6 c6))[k]? = some x → W.cell? ⟨gb, ob + q * 6 + k, none⟩ = some x := fun k x h => (cell_keep (hW.block gb (cell_lt (hu k x h)))).trans (hu k x h)
              exact ⟨by have := hk 0 _ rfl; rwa [Nat.add_zero] at this, hk 1 _ rfl, hk 2 _ rfl, hk 3 _ rfl, hk 4 _ rfl, hk 5 _ rfl⟩
            have hkd := (RV_kind hrv : K3 = kindJ v.2[q])
            have hltI : (q : Int) < (N : Int) := by omega
            obtain ⟨OA, oc, OB, od, hvo, hro⟩ := hR.out.2.2
            have HVO1 := Lib.hid hvo
            have HRO1 := Lib.hid hro
            have HSZ1 := Lib.hid hR.out.2.1
            generalize hn : v.1[q] = n at *
            generalize hx : v.2[q] = x at *
            obtain ⟨nx, hnx⟩ : ∃ s, s = bx n := ⟨_, rfl⟩
            rw [← hnx] at hca CF
            have HNX := Lib.hid hnx
            have hnul := kind_null x
            rw [← hkd] at hnul
            clear hca0 hu hrv hvo hro hn hx hnx hFb CIN hkd
            obtain ⟨-, -, -, -, -, a5⟩ := (HVV.out.ext HXR.out).cells
            obtain ⟨k0, -, -, -, -, -⟩ := HSRC.out wr (HX1.out.trans HXR.out)
            cases hnl : isNull x with
            | true =>
              have HS : Hid (K (q + 1) = K q) := by unfold Hid; rw [HST.out, if_pos hnl]
              rw [hnl] at hnul
              clear hnl
              go_wp2_with fail
              go_roundw
              case rel => exact ⟨q + 1, hlt, by go_num, by rw [HS.out]; exact hR⟩
              case measure => simp [intOf]; omega
            | false =>
              have HS : Hid (K (q + 1) = setO (K q) n (mergeJ (valO (objO d) n) x)) := by unfold Hid; rw [HST.out, if_neg (by simp [hnl])]
              rw [hnl] at hnul
              clear hnl
              obtain ⟨d0, d1, d2, d3, d4, d5⟩ := (HVD.out.ext HXR.out).cells
              go_wp2_with fail
              refine Calls.mono CF.out ?_
              rintro e w6 ⟨x6, u, hu, rfl, -⟩
              obtain ⟨K4, B4, z4, s4, A7, n7, c7, A8, n8, c8, rfl, -⟩ := hu.shape
              have HU := Lib.hid hu
              unfold v6
              have X6 := Lib.hid x6
              clear x6 hu d0 d1 d2 d3 d4 d5 a5 k0 hnul
              go_upto_region 17 with (fail)
              obtain ⟨tb, htb⟩ : ∃ t, t = w6.heap.size := ⟨_, rfl⟩
              rw [← htb]
              generalize hW : World.alloc w6 _ = w7
              have X7 : Hid (Ext wr w7) := by rw [← hW]; exact X6.out.trans (new_ext _ _)
              have HTB : Hid (VIn w7 tb K4 B4 z4 s4 (.slice A7 n7 c7) (.slice A8 n8 c8)) := by rw [← hW]; exact heap_new htb
              clear hW htb
              have HST7 : Hid (∀ W, Ext w7 W → W.cell? ⟨g + 3, 0, none⟩ = some (.int .i64 6) ∧ W.cell? ⟨g + 3, 1, none⟩ = some (.bool false) ∧ W.cell? ⟨g + 3, 2, none⟩ = some (.int .i64 0) ∧ W.cell? ⟨g + 3, 3, none⟩ = some (.string ⟨#[]⟩) ∧ W.cell? ⟨g + 3, 4, none⟩ = some (.slice OA (K q).1.length oc) ∧ W.cell? ⟨g + 3, 5, none⟩ = some (.slice OB (K q).2.length od) ∧ W.cell? ⟨tb, 0, none⟩ = some (.int .i64 K4) ∧ W.cell? ⟨tb, 1, none⟩ = some (.bool B4) ∧ W.cell? ⟨tb, 2, none⟩ = some (.int .i64 z4) ∧ W.cell? ⟨tb, 3, none⟩ = some (.string s4) ∧ W.cell? ⟨tb, 4, none⟩ = some (.slice A7 n7 c7) ∧ W.cell? ⟨tb, 5, none⟩ = some (.slice A8 n8 c8) ∧ W.cell? ⟨g + 1, 5, none⟩ = some (.slice (some ⟨gb, ob, none⟩) N vd) ∧ W.cell? ⟨gb, ob + q * 6, none⟩ = some (.int .i64 K3) ∧ W.cell? ⟨gb, ob + q * 6 + 1, none⟩ = some (.bool B3) ∧ W.cell? ⟨gb, ob + q * 6 + 2, none⟩ = some (.int .i64 z3) ∧ W.cell? ⟨gb, ob + q * 6 + 3, none⟩ = some (.string s3) ∧ W.cell? ⟨gb, ob + q * 6 + 4, none⟩ = some (.slice A5 n5 c5) ∧ W.cell? ⟨gb, ob + q * 6 + 5, none⟩ = some (.slice A6 n6 c6)) := fun W hW => by
                obtain ⟨o0, o1, o2, o3, o4, o5⟩ := (HVO1.out.ext (X7.out.trans hW)).cells
                obtain ⟨t0, t1, t2, t3, t4, t5⟩ := (HTB.out.ext hW).cells
                obtain ⟨-, -, -, -, -, d5⟩ := (HVV.out.ext (HXR.out.trans (X7.out.trans hW))).cells
                exact ⟨o0, o1, o2, o3, o4, o5, t0, t1, t2, t3, t4, t5, d5, HSRC.out W (HX1.out.trans (HXR.out.trans (X7.out.trans hW)))⟩
              have CI : Hid (∀ W, Ext w7 W → Calls Tryz.prog 44 #[.agg #[.int .i64 K4, .bool B4, .int .i64 z4, .string s4, .slice A7 n7 c7, .slice A8 n8 c8], .agg #[.int .i64 K3, .bool B3, .int .i64 z3, .string s3, .slice A5 n5 c5, .slice A6 n6 c6]] W (RMade (NF g 4 F) (mergeJ (valO (objO d) n) x) W)) := fun W hW =>
                CI0.out W (v6 K4 B4 z4 s4 (.slice A7 n7 c7) (.slice A8 n8 c8)) (v6 K3 B3 z3 s3 (.slice A5 n5 c5) (.slice A6 n6 c6)) (by have h1 := HGS.out; have h2 := HSZ1.out; have h3 := (X7.out.trans hW).size; omega) (HU.out.ext (X7.out.trans hW)) (nf_old' HRV.out HGW.out (HX1.out.trans (HXR.out.trans (X7.out.trans hW))))
              have CS : Hid (∀ W K9 B9 z9 s9 A9 n9 c9 A10 n10 c10, Ext w7 W → RV (NF g 4 F) W (mergeJ (valO (objO d) n) x) (v6 K9 B9 z9 s9 (.slice A9 n9 c9) (.slice A10 n10 c10)) → Calls Tryz.prog 83 #[.agg #[.int .i64 6, .bool false, .int .i64 0, .string ⟨#[]⟩, .slice OA (K q).1.length oc, .slice OB (K q).2.length od], .string nx, .agg #[.int .i64 K9, .bool B9, .int .i64 z9, .string s9, .slice A9 n9 c9, .slice A10 n10 c10]] W (RMadeO (NF g 4 F) W (setO (K q) n (mergeJ (valO (objO d) n) x)))) := fun W K9 B9 z9 s9 A9 n9 c9 A10 n10 c10 hW hr => by
                rw [HNX.out]
                exact rsetO_any (NF g 4 F) OA oc OB od (K q) n _ K9 B9 z9 s9 A9 n9 c9 A10 n10 c10 W (HRO1.out.ext (X7.out.trans hW)) HLQ.out.1 (by have := HLQ.out.2; omega) hr (nf_new HF.out HGW.out (Nat.le_trans HSZ1.out (X7.out.trans hW).size))
              have hxx : Ext w7 w7 := Below.refl _ _
              clear CI0
              refine wp_region_split (fun w' => w'.cell? ⟨g + 3, 0, none⟩ = some (.int .i64 6) ∧ w'.cell? ⟨g + 3, 1, none⟩ = some (.bool false) ∧ w'.cell? ⟨g + 3, 2, none⟩ = some (.int .i64 0) ∧ w'.cell? ⟨g + 3, 3, none⟩ = some (.string ⟨#[]⟩) ∧ w'.cell? ⟨g + 3, 4, none⟩ = some (.slice OA (K q).1.length oc) ∧ w'.cell? ⟨g + 3, 5, none⟩ = some (.slice OB (K q).2.length od) ∧ w'.cell? ⟨tb, 0, none⟩ = some (.int .i64 K4) ∧ w'.cell? ⟨tb, 1, none⟩ = some (.bool B4) ∧ w'.cell? ⟨tb, 2, none⟩ = some (.int .i64 z4) ∧ w'.cell? ⟨tb, 3, none⟩ = some (.string s4) ∧ w'.cell? ⟨tb, 4, none⟩ = some (.slice A7 n7 c7) ∧ w'.cell? ⟨tb, 5, none⟩ = some (.slice A8 n8 c8) ∧ w'.cell? ⟨g + 1, 5, none⟩ = some (.slice (some ⟨gb, ob, none⟩) N vd) ∧ w'.cell? ⟨gb, ob + q * 6, none⟩ = some (.int .i64 K3) ∧ w'.cell? ⟨gb, ob + q * 6 + 1, none⟩ = some (.bool B3) ∧ w'.cell? ⟨gb, ob + q * 6 + 2, none⟩ = some (.int .i64 z3) ∧ w'.cell? ⟨gb, ob + q * 6 + 3, none⟩ = some (.string s3) ∧ w'.cell? ⟨gb, ob + q * 6 + 4, none⟩ = some (.slice A5 n5 c5) ∧ w'.cell? ⟨gb, ob + q * 6 + 5, none⟩ = some (.slice A6 n6 c6)) 9 (by kernel_rfl) (by kernel_rfl) (by exact HST7.out _ (by repeat (first | assumption | apply ext_al | apply ext_dr))) (fun hHeld => ?_)
              simp only [List.take_succ_cons, List.take_zero, List.drop_succ_cons, List.drop_zero]
              refine wpAnyH_take (i := 0) (v := ?_) rfl (by kernel_rfl) (by kernel_rfl) (by kernel_rfl) (fun _ _ _ h => h) (Or.inl ⟨by rfl, ?_⟩) (by assumption) ?_
              rotate_left
              · intro w hSw
                (try dsimp only at hSw)
                go_simp
                (try with_reducible rfl)
              (try simp only [Act.put, List.setIfInBounds_toArray])
              refine wpAnyH_take (i := 1) (v := ?_) rfl (by kernel_rfl) (by kernel_rfl) (by kernel_rfl) (fun _ _ _ h => h) (Or.inl ⟨by rfl, ?_⟩) (by assumption) ?_
              rotate_left
              · intro w hSw
                (try dsimp only at hSw)
                go_simp
                (try with_reducible rfl)
              (try simp only [Act.put])
              refine wpAnyH_take (i := 2) (v := ?_) rfl (by kernel_rfl) (by kernel_rfl) (by kernel_rfl) (fun _ _ _ h => h) (Or.inl ⟨by rfl, ?_⟩) (by assumption) ?_
              rotate_left
              · intro w hSw
                (try dsimp only at hSw)
                go_simp
                (try with_reducible rfl)
              (try simp only [Act.put])
              refine wpAnyH_take (i := 3) (v := ?_) rfl (by kernel_rfl) (by kernel_rfl) (by kernel_rfl) (fun _ _ _ h => h) (Or.inl ⟨by rfl, ?_⟩) (by assumption) ?_
              rotate_left
              · intro w hSw
                (try dsimp only at hSw)
                go_simp
                (try with_reducible rfl)
              (try simp only [Act.put])
              refine wpAnyH_take (i := 4) (v := ?_) rfl (by kernel_rfl) (by kernel_rfl) (by kernel_rfl) (fun _ _ _ h => h) (Or.inl ⟨by rfl, ?_⟩) (by assumption) ?_
              rotate_left
              · intro w hSw
                (try dsimp only at hSw)
                go_simp
                (try with_reducible rfl)
              (try simp only [Act.put])
              refine wpAnyH_take (i := 5) (v := ?_) rfl (by kernel_rfl) (by kernel_rfl) (by kernel_rfl) (fun _ _ _ h => h) (Or.inl ⟨by rfl, ?_⟩) (by assumption) ?_
              rotate_left
              · intro w hSw
                (try dsimp only at hSw)
                go_simp
                (try with_reducible rfl)
              (try simp only [Act.put])
              refine wpAnyH_take (i := 6) (v := ?_) rfl (by kernel_rfl) (by kernel_rfl) (by kernel_rfl) (fun _ _ _ h => h) (Or.inl ⟨by rfl, ?_⟩) (by assumption) ?_
              rotate_left
              · intro w hSw
                (try dsimp only at hSw)
                go_simp
                (try with_reducible rfl)
              (try simp only [Act.put])
              refine wpAnyH_take (i := 7) (v := ?_) rfl (by kernel_rfl) (by kernel_rfl) (by kernel_rfl) (fun _ _ _ h => h) (Or.inl ⟨by rfl, ?_⟩) (by assumption) ?_
              rotate_left
              · intro w hSw
                (try dsimp only at hSw)
                go_simp
                (try with_reducible rfl)
              (try simp only [Act.put])
              refine wpAnyH_ready (rs := [8]) (by kernel_rfl) (by simp) ?_
              refine AllReadyH.cons rfl (fun KQ hKQ => ?_) AllReadyH.nil
              go_simp; (refine Calls.mono (CI.out _ (by repeat (first | assumption | apply ext_al | apply ext_dr))) ?_); rintro e w8 ⟨x8, K9, B9, z9, s9, A9, n9, c9, A10, n10, c10, hr9, rfl⟩; (try dsimp only); have X8 : Ext w7 w8 := Below.trans (by repeat (first | assumption | apply ext_al | apply ext_dr)) x8
              refine hKQ.out _ _ (by exact HST7.out _ (by repeat (first | assumption | apply ext_al | apply ext_dr))) (fun hHeld => ?_)
              clear hKQ KQ
              (try simp only [Act.put, List.setIfInBounds_toArray, List.set_cons_zero, List.set_cons_succ])
              refine wpAnyH_done (by kernel_rfl) ?_ _
              refine TailQ.normal ?_
              go_upto_region 18 with (go_at_call 83; refine Calls.mono (CS.out _ _ _ _ _ _ _ _ _ _ _ (by repeat (first | assumption | apply ext_al | apply ext_dr)) (by first | assumption | exact RV.ext (by assumption) (by repeat (first | assumption | apply ext_al | apply ext_dr)))) ?_; rintro e w10 ⟨x10, A11, c11, B11, d11, rfl, hro11⟩; have HRO11 := Lib.hid hro11; have HX10 : Hid (Ext w7 w10) := ((by repeat (first | assumption | apply ext_al | apply ext_dr)) : Ext w7 _).trans x10; have hb10 := HVO1.out.ext (X7.out.trans HX10.out); have HVO10 := Lib.hid hb10; have y0 := hb10.free 0; have y1 := hb10.free 1; have y2 := hb10.free 2; have y3 := hb10.free 3; have y4 := hb10.free 4; have y5 := hb10.free 5; obtain ⟨v0, v1, v2, v3, v4, v5⟩ := hb10.cells; clear x10 hro11 hb10)
              generalize hW : World.setCell _ _ _ = w11
              have H11 : Hid (OutAt g 4 (g + 3) F w1 w11 (K (q + 1))) := by
                unfold Hid
                rw [← hW, HS.out]
                exact OutAt.put (HXR.out.trans (X7.out.trans HX10.out)) (Nat.le_trans HSZ1.out (X7.out.trans HX10.out).size) (by rw [HGS.out]; exact Nat.le_refl _) (by omega) (by omega) HVO10.out HRO11.out
              clear hW
              go_wp2_with fail
              go_roundw
              case rel => exact ⟨q + 1, hlt, by go_num, H11⟩
              case measure => simp [intOf]; omega
          · have bl : decide ((q : Int) < (N : Int)) = false := decide_eq_false (by omega)
            have bl2 : decide (q < N) = false := decide_eq_false hlt
            obtain rfl : q = N := by omega
            obtain ⟨OA, oc, OB, od, hvo, hro⟩ := hR.out.2.2
            have HRO1 := Lib.hid hro
            obtain ⟨o0, o1, o2, o3, o4, o5⟩ := hvo.cells
            have hr := HVR.out.ext HXR.out
            have HVR1 := Lib.hid hr
            obtain ⟨r0, r1, r2, r3, r4, r5⟩ := hr.cells
            have f0 := hr.free 0
            have f1 := hr.free 1
            have f2 := hr.free 2
            have f3 := hr.free 3
            have f4 := hr.free 4
            have f5 := hr.free 5
            clear hlt hvo hro hr
            go_wp2_with fail
            refine bodyPost_ret (results_v1 rfl _ _ (g + 2) rfl (put_in 6 false 0 ⟨#[]⟩ (.slice OA (K q).1.length oc) (.slice OB (K q).2.length od) HVR1.out)) rfl ?_
            refine ⟨put_ext 6 false 0 ⟨#[]⟩ (.slice OA (K q).1.length oc) (.slice OB (K q).2.length od) (HX1.out.trans HXR.out) (by have := HGW.out; omega), _, _, _, _, _, _, _, _, _, _, ?_, rfl⟩
            rw [HK.out.2.2.2]
            exact ((nf_put HRO1.out (by omega) (by omega) _ _ _ _ _ _).keep (fun _ _ _ => rfl) (fun b h _ => h.1)).rv
  · have b1 : (K1 == 6) = false := by rw [beq_eq_false_iff_ne]; exact hK6
    have HS0 : Hid (OutAt g 4 (g + 3) F w1 w2 (K 0)) := by
      unfold Hid
      rw [HK.out.1, ← HL.out.2.2.2 0 (by rw [hno]; rfl), HL.out.1]
      exact HO2.out
    clear HD hK6 hno
    go_enter Tryz.func44, Tryz.ntmps44
    go_upto_region 1 with (fail)
    rw [← hw1, ← hg]
    clear hw1 hg
    obtain ⟨a0, -, -, -, -, -⟩ := HVV.out.cells
    obtain ⟨b0, -, -, -, -, -⟩ := HVD.out.cells
    go_upto_region 4 with (fail)
    rw [← hw2]
    clear hw2 hsz a0
    obtain ⟨w5, hw5⟩ : ∃ w5, w5 = w2 := ⟨_, rfl⟩
    rw [← hw5]
    rw [← hw5] at HS0
    have HXR : Hid (Ext w1 w5) := HS0.out.1
    clear hw5 b0
    obtain ⟨b0, -, -, -, -, -⟩ := (HVD.out.ext HXR.out).cells
    obtain ⟨-, -, -, -, a4, -⟩ := (HVV.out.ext HXR.out).cells
    go_wp2_with fail
    clear a4 b0 b1
    go_loopw [50] (fun ix wr => ∃ q : Nat, q ≤ N ∧ ix = .int .i64 (q : Int) ∧ Hid (OutAt g 4 (g + 3) F w1 wr (K q))) (fun ix _ => N - (intOf ix).toNat)
    case atStart => exact ⟨0, Nat.zero_le _, rfl, HS0⟩
    case round =>
      obtain ⟨q, hq, rfl, hR⟩ := hrel
      have hq0 : (0 : Int) ≤ (q : Int) := by omega
      have HXR := Lib.hid hR.out.1
      by_cases hlt : q < N
      · have hqn : q < v.1.length := by rw [← HN.out.1]; exact hlt
        have hql : q < v.2.length := by rw [← HN.out.2]; exact hlt
        obtain ⟨ga, oa, rfl, -, hca0⟩ := HVO.out.2.2.1 q hqn
        have hca := (cell_keep ((HX1.out.trans HXR.out).block ga (cell_lt hca0))).trans hca0
        have CF := Lib.hid (CFD.out v.1[q] wr HXR.out)
        have HST := Lib.hid (HK.out.2.1 q hqn hql)
        have HLQ := Lib.hid (HK.out.2.2.1 q)
        have CI0 := Lib.hid (CIN.out q hqn hql)
        obtain ⟨gb, ob, u, rfl, hFb, -, hu, hrv⟩ := HVO.out.2.2.2 q hql
        obtain ⟨K3, B3, z3, s3, A5, n5, c5, A6, n6, c6, rfl⟩ := RV.shape hrv
        have HRV : Hid (RV F w v.2[q] (v6 K3 B3 z3 s3 (.slice A5 n5 c5) (.slice A6 n6 c6))) := hrv
        have HSRC : Hid (∀ W, Ext w W → W.cell? ⟨gb, ob + q * 6, none⟩ = some (.int .i64 K3) ∧ W.cell? ⟨gb, ob + q * 6 + 1, none⟩ = some (.bool B3) ∧ W.cell? ⟨gb, ob + q * 6 + 2, none⟩ = some (.int .i64 z3) ∧ W.cell? ⟨gb, ob + q * 6 + 3, none⟩ = some (.string s3) ∧ W.cell? ⟨gb, ob + q * 6 + 4, none⟩ = some (.slice A5 n5 c5) ∧ W.cell? ⟨gb, ob + q * 6 + 5, none⟩ = some (.slice A6 n6 c6)) := fun W hW => by
          have hk : ∀ k x, (v6 K3 B3 z3 s3 (.slice A5 n5 c5) (.slice A6 n6 c6))[k]? = some x → W.cell? ⟨gb, ob + q * 6 + k, none⟩ = some x := fun k x h => (cell_keep (hW.block gb (cell_lt (hu k x h)))).trans (hu k x h)
          exact ⟨by have := hk 0 _ rfl; rwa [Nat.add_zero] at this, hk 1 _ rfl, hk 2 _ rfl, hk 3 _ rfl, hk 4 _ rfl, hk 5 _ rfl⟩
        have hkd := (RV_kind hrv : K3 = kindJ v.2[q])
        have hltI : (q : Int) < (N : Int) := by omega
        obtain ⟨OA, oc, OB, od, hvo, hro⟩ := hR.out.2.2
        have HVO1 := Lib.hid hvo
        have HRO1 := Lib.hid hro
        have HSZ1 := Lib.hid hR.out.2.1
        generalize hn : v.1[q] = n at *
        generalize hx : v.2[q] = x at *
        obtain ⟨nx, hnx⟩ : ∃ s, s = bx n := ⟨_, rfl⟩
        rw [← hnx] at hca CF
        have HNX := Lib.hid hnx
        have hnul := kind_null x
        rw [← hkd] at hnul
        clear hca0 hu hrv hvo hro hn hx hnx hFb CIN hkd
        obtain ⟨-, -, -, -, -, a5⟩ := (HVV.out.ext HXR.out).cells
        obtain ⟨k0, -, -, -, -, -⟩ := HSRC.out wr (HX1.out.trans HXR.out)
        cases hnl : isNull x with
        | true =>
          have HS : Hid (K (q + 1) = K q) := by unfold Hid; rw [HST.out, if_pos hnl]
          rw [hnl] at hnul
          clear hnl
          go_wp2_with fail
          go_roundw
          case rel => exact ⟨q + 1, hlt, by go_num, by rw [HS.out]; exact hR⟩
          case measure => simp [intOf]; omega
        | false =>
          have HS : Hid (K (q + 1) = setO (K q) n (mergeJ (valO (objO d) n) x)) := by unfold Hid; rw [HST.out, if_neg (by simp [hnl])]
          rw [hnl] at hnul
          clear hnl
          obtain ⟨d0, d1, d2, d3, d4, d5⟩ := (HVD.out.ext HXR.out).cells
          go_wp2_with fail
          refine Calls.mono CF.out ?_
          rintro e w6 ⟨x6, u, hu, rfl, -⟩
          obtain ⟨K4, B4, z4, s4, A7, n7, c7, A8, n8, c8, rfl, -⟩ := hu.shape
          have HU := Lib.hid hu
          unfold v6
          have X6 := Lib.hid x6
          clear x6 hu d0 d1 d2 d3 d4 d5 a5 k0 hnul
          go_upto_region 17 with (fail)
          obtain ⟨tb, htb⟩ : ∃ t, t = w6.heap.size := ⟨_, rfl⟩
          rw [← htb]
          generalize hW : World.alloc w6 _ = w7
          have X7 : Hid (Ext wr w7) := by rw [← hW]; exact X6.out.trans (new_ext _ _)
          have HTB : Hid (VIn w7 tb K4 B4 z4 s4 (.slice A7 n7 c7) (.slice A8 n8 c8)) := by rw [← hW]; exact heap_new htb
          clear hW htb
          have HST7 : Hid (∀ W, Ext w7 W → W.cell? ⟨g + 3, 0, none⟩ = some (.int .i64 6) ∧ W.cell? ⟨g + 3, 1, none⟩ = some (.bool false) ∧ W.cell? ⟨g + 3, 2, none⟩ = some (.int .i64 0) ∧ W.cell? ⟨g + 3, 3, none⟩ = some (.string ⟨#[]⟩) ∧ W.cell? ⟨g + 3, 4, none⟩ = some (.slice OA (K q).1.length oc) ∧ W.cell? ⟨g + 3, 5, none⟩ = some (.slice OB (K q).2.length od) ∧ W.cell? ⟨tb, 0, none⟩ = some (.int .i64 K4) ∧ W.cell? ⟨tb, 1, none⟩ = some (.bool B4) ∧ W.cell? ⟨tb, 2, none⟩ = some (.int .i64 z4) ∧ W.cell? ⟨tb, 3, none⟩ = some (.string s4) ∧ W.cell? ⟨tb, 4, none⟩ = some (.slice A7 n7 c7) ∧ W.cell? ⟨tb, 5, none⟩ = some (.slice A8 n8 c8) ∧ W.cell? ⟨g + 1, 5, none⟩ = some (.slice (some ⟨gb, ob, none⟩) N vd) ∧ W.cell? ⟨gb, ob + q * 6, none⟩ = some (.int .i64 K3) ∧ W.cell? ⟨gb, ob + q * 6 + 1, none⟩ = some (.bool B3) ∧ W.cell? ⟨gb, ob + q * 6 + 2, none⟩ = some (.int .i64 z3) ∧ W.cell? ⟨gb, ob + q * 6 + 3, none⟩ = some (.string s3) ∧ W.cell? ⟨gb, ob + q * 6 + 4, none⟩ = some (.slice A5 n5 c5) ∧ W.cell? ⟨gb, ob + q * 6 + 5, none⟩ = some (.slice A6 n6 c6)) := fun W hW => by
            obtain ⟨o0, o1, o2, o3, o4, o5⟩ := (HVO1.out.ext (X7.out.trans hW)).cells
            obtain ⟨t0, t1, t2, t3, t4, t5⟩ := (HTB.out.ext hW).cells
            obtain ⟨-, -, -, -, -, d5⟩ := (HVV.out.ext (HXR.out.trans (X7.out.trans hW))).cells
            exact ⟨o0, o1, o2, o3, o4, o5, t0, t1, t2, t3, t4, t5, d5, HSRC.out W (HX1.out.trans (HXR.out.trans (X7.out.trans hW)))⟩
          have CI : Hid (∀ W, Ext w7 W → Calls Tryz.prog 44 #[.agg #[.int .i64 K4, .bool B4, .int .i64 z4, .string s4, .slice A7 n7 c7, .slice A8 n8 c8], .agg #[.int .i64 K3, .bool B3, .int .i64 z3, .string s3, .slice A5 n5 c5, .slice A6 n6 c6]] W (RMade (NF g 4 F) (mergeJ (valO (objO d) n) x) W)) := fun W hW =>
            CI0.out W (v6 K4 B4 z4 s4 (.slice A7 n7 c7) (.slice A8 n8 c8)) (v6 K3 B3 z3 s3 (.slice A5 n5 c5) (.slice A6 n6 c6)) (by have h1 := HGS.out; have h2 := HSZ1.out; have h3 := (X7.out.trans hW).size; omega) (HU.out.ext (X7.out.trans hW)) (nf_old' HRV.out HGW.out (HX1.out.trans (HXR.out.trans (X7.out.trans hW))))
          have CS : Hid (∀ W K9 B9 z9 s9 A9 n9 c9 A10 n10 c10, Ext w7 W → RV (NF g 4 F) W (mergeJ (valO (objO d) n) x) (v6 K9 B9 z9 s9 (.slice A9 n9 c9) (.slice A10 n10 c10)) → Calls Tryz.prog 83 #[.agg #[.int .i64 6, .bool false, .int .i64 0, .string ⟨#[]⟩, .slice OA (K q).1.length oc, .slice OB (K q).2.length od], .string nx, .agg #[.int .i64 K9, .bool B9, .int .i64 z9, .string s9, .slice A9 n9 c9, .slice A10 n10 c10]] W (RMadeO (NF g 4 F) W (setO (K q) n (mergeJ (valO (objO d) n) x)))) := fun W K9 B9 z9 s9 A9 n9 c9 A10 n10 c10 hW hr => by
            rw [HNX.out]
            exact rsetO_any (NF g 4 F) OA oc OB od (K q) n _ K9 B9 z9 s9 A9 n9 c9 A10 n10 c10 W (HRO1.out.ext (X7.out.trans hW)) HLQ.out.1 (by have := HLQ.out.2; omega) hr (nf_new HF.out HGW.out (Nat.le_trans HSZ1.out (X7.out.trans hW).size))
          have hxx : Ext w7 w7 := Below.refl _ _
          clear CI0
          refine wp_region_split (fun w' => w'.cell? ⟨g + 3, 0, none⟩ = some (.int .i64 6) ∧ w'.cell? ⟨g + 3, 1, none⟩ = some (.bool false) ∧ w'.cell? ⟨g + 3, 2, none⟩ = some (.int .i64 0) ∧ w'.cell? ⟨g + 3, 3, none⟩ = some (.string ⟨#[]⟩) ∧ w'.cell? ⟨g + 3, 4, none⟩ = some (.slice OA (K q).1.length oc) ∧ w'.cell? ⟨g + 3, 5, none⟩ = some (.slice OB (K q).2.length od) ∧ w'.cell? ⟨tb, 0, none⟩ = some (.int .i64 K4) ∧ w'.cell? ⟨tb, 1, none⟩ = some (.bool B4) ∧ w'.cell? ⟨tb, 2, none⟩ = some (.int .i64 z4) ∧ w'.cell? ⟨tb, 3, none⟩ = some (.string s4) ∧ w'.cell? ⟨tb, 4, none⟩ = some (.slice A7 n7 c7) ∧ w'.cell? ⟨tb, 5, none⟩ = some (.slice A8 n8 c8) ∧ w'.cell? ⟨g + 1, 5, none⟩ = some (.slice (some ⟨gb, ob, none⟩) N vd) ∧ w'.cell? ⟨gb, ob + q * 6, none⟩ = some (.int .i64 K3) ∧ w'.cell? ⟨gb, ob + q * 6 + 1, none⟩ = some (.bool B3) ∧ w'.cell? ⟨gb, ob + q * 6 + 2, none⟩ = some (.int .i64 z3) ∧ w'.cell? ⟨gb, ob + q * 6 + 3, none⟩ = some (.string s3) ∧ w'.cell? ⟨gb, ob + q * 6 + 4, none⟩ = some (.slice A5 n5 c5) ∧ w'.cell? ⟨gb, ob + q * 6 + 5, none⟩ = some (.slice A6 n6 c6)) 9 (by kernel_rfl) (by kernel_rfl) (by exact HST7.out _ (by repeat (first | assumption | apply ext_al | apply ext_dr))) (fun hHeld => ?_)
          simp only [List.take_succ_cons, List.take_zero, List.drop_succ_cons, List.drop_zero]
          refine wpAnyH_take (i := 0) (v := ?_) rfl (by kernel_rfl) (by kernel_rfl) (by kernel_rfl) (fun _ _ _ h => h) (Or.inl ⟨by rfl, ?_⟩) (by assumption) ?_
          rotate_left
          · intro w hSw
            (try dsimp only at hSw)
            go_simp
            (try with_reducible rfl)
          (try simp only [Act.put, List.setIfInBounds_toArray])
          refine wpAnyH_take (i := 1) (v := ?_) rfl (by kernel_rfl) (by kernel_rfl) (by kernel_rfl) (fun _ _ _ h => h) (Or.inl ⟨by rfl, ?_⟩) (by assumption) ?_
          rotate_left
          · intro w hSw
            (try dsimp only at hSw)
            go_simp
            (try with_reducible rfl)
          (try simp only [Act.put])
          refine wpAnyH_take (i := 2) (v := ?_) rfl (by kernel_rfl) (by kernel_rfl) (by kernel_rfl) (fun _ _ _ h => h) (Or.inl ⟨by rfl, ?_⟩) (by assumption) ?_
          rotate_left
          · intro w hSw
            (try dsimp only at hSw)
            go_simp
            (try with_reducible rfl)
          (try simp only [Act.put])
          refine wpAnyH_take (i := 3) (v := ?_) rfl (by kernel_rfl) (by kernel_rfl) (by kernel_rfl) (fun _ _ _ h => h) (Or.inl ⟨by rfl, ?_⟩) (by assumption) ?_
          rotate_left
          · intro w hSw
            (try dsimp only at hSw)
            go_simp
            (try with_reducible rfl)
          (try simp only [Act.put])
          refine wpAnyH_take (i := 4) (v := ?_) rfl (by kernel_rfl) (by kernel_rfl) (by kernel_rfl) (fun _ _ _ h => h) (Or.inl ⟨by rfl, ?_⟩) (by assumption) ?_
          rotate_left
          · intro w hSw
            (try dsimp only at hSw)
            go_simp
            (try with_reducible rfl)
          (try simp only [Act.put])
          refine wpAnyH_take (i := 5) (v := ?_) rfl (by kernel_rfl) (by kernel_rfl) (by kernel_rfl) (fun _ _ _ h => h) (Or.inl ⟨by rfl, ?_⟩) (by assumption) ?_
          rotate_left
          · intro w hSw
            (try dsimp only at hSw)
            go_simp
            (try with_reducible rfl)
          (try simp only [Act.put])
          refine wpAnyH_take (i := 6) (v := ?_) rfl (by kernel_rfl) (by kernel_rfl) (by kernel_rfl) (fun _ _ _ h => h) (Or.inl ⟨by rfl, ?_⟩) (by assumption) ?_
          rotate_left
          · intro w hSw
            (try dsimp only at hSw)
            go_simp
            (try with_reducible rfl)
          (try simp only [Act.put])
          refine wpAnyH_take (i := 7) (v := ?_) rfl (by kernel_rfl) (by kernel_rfl) (by kernel_rfl) (fun _ _ _ h => h) (Or.inl ⟨by rfl, ?_⟩) (by assumption) ?_
          rotate_left
          · intro w hSw
            (try dsimp only at hSw)
            go_simp
            (try with_reducible rfl)
          (try simp only [Act.put])
          refine wpAnyH_ready (rs := [8]) (by kernel_rfl) (by simp) ?_
          refine AllReadyH.cons rfl (fun KQ hKQ => ?_) AllReadyH.nil
          go_simp; (refine Calls.mono (CI.out _ (by repeat (first | assumption | apply ext_al | apply ext_dr))) ?_); rintro e w8 ⟨x8, K9, B9, z9, s9, A9, n9, c9, A10, n10, c10, hr9, rfl⟩; (try dsimp only); have X8 : Ext w7 w8 := Below.trans (by repeat (first | assumption | apply ext_al | apply ext_dr)) x8
          refine hKQ.out _ _ (by exact HST7.out _ (by repeat (first | assumption | apply ext_al | apply ext_dr))) (fun hHeld => ?_)
          clear hKQ KQ
          (try simp only [Act.put, List.setIfInBounds_toArray, List.set_cons_zero, List.set_cons_succ])
          refine wpAnyH_done (by kernel_rfl) ?_ _
          refine TailQ.normal ?_
          go_upto_region 18 with (go_at_call 83; refine Calls.mono (CS.out _ _ _ _ _ _ _ _ _ _ _ (by repeat (first | assumption | apply ext_al | apply ext_dr)) (by first | assumption | exact RV.ext (by assumption) (by repeat (first | assumption | apply ext_al | apply ext_dr)))) ?_; rintro e w10 ⟨x10, A11, c11, B11, d11, rfl, hro11⟩; have HRO11 := Lib.hid hro11; have HX10 : Hid (Ext w7 w10) := ((by repeat (first | assumption | apply ext_al | apply ext_dr)) : Ext w7 _).trans x10; have hb10 := HVO1.out.ext (X7.out.trans HX10.out); have HVO10 := Lib.hid hb10; have y0 := hb10.free 0; have y1 := hb10.free 1; have y2 := hb10.free 2; have y3 := hb10.free 3; have y4 := hb10.free 4; have y5 := hb10.free 5; obtain ⟨v0, v1, v2, v3, v4, v5⟩ := hb10.cells; clear x10 hro11 hb10)
          generalize hW : World.setCell _ _ _ = w11
          have H11 : Hid (OutAt g 4 (g + 3) F w1 w11 (K (q + 1))) := by
            unfold Hid
            rw [← hW, HS.out]
            exact OutAt.put (HXR.out.trans (X7.out.trans HX10.out)) (Nat.le_trans HSZ1.out (X7.out.trans HX10.out).size) (by rw [HGS.out]; exact Nat.le_refl _) (by omega) (by omega) HVO10.out HRO11.out
          clear hW
          go_wp2_with fail
          go_roundw
          case rel => exact ⟨q + 1, hlt, by go_num, H11⟩
          case measure => simp [intOf]; omega
      · have bl : decide ((q : Int) < (N : Int)) = false := decide_eq_false (by omega)
        have bl2 : decide (q < N) = false := decide_eq_false hlt
        obtain rfl : q = N := by omega
        obtain ⟨OA, oc, OB, od, hvo, hro⟩ := hR.out.2.2
        have HRO1 := Lib.hid hro
        obtain ⟨o0, o1, o2, o3, o4, o5⟩ := hvo.cells
        have hr := HVR.out.ext HXR.out
        have HVR1 := Lib.hid hr
        obtain ⟨r0, r1, r2, r3, r4, r5⟩ := hr.cells
        have f0 := hr.free 0
        have f1 := hr.free 1
        have f2 := hr.free 2
        have f3 := hr.free 3
        have f4 := hr.free 4
        have f5 := hr.free 5
        clear hlt hvo hro hr
        go_wp2_with fail
        refine bodyPost_ret (results_v1 rfl _ _ (g + 2) rfl (put_in 6 false 0 ⟨#[]⟩ (.slice OA (K q).1.length oc) (.slice OB (K q).2.length od) HVR1.out)) rfl ?_
        refine ⟨put_ext 6 false 0 ⟨#[]⟩ (.slice OA (K q).1.length oc) (.slice OB (K q).2.length od) (HX1.out.trans HXR.out) (by have := HGW.out; omega), _, _, _, _, _, _, _, _, _, _, ?_, rfl⟩
        rw [HK.out.2.2.2]
        exact ((nf_put HRO1.out (by omega) (by omega) _ _ _ _ _ _).keep (fun _ _ _ => rfl) (fun b h _ => h.1)).rv
theorem rinto_all : ∀ (m : Nat) (v : J), SizeOf.sizeOf v ≤ m → RIntoC v
  | m, v, hm => by
    cases h : isObj v with
    | false => exact rinto_flat v h
    | true =>
      rw [obj_of h] at hm ⊢
      generalize objO v = b at hm
      cases m with
      | zero => unfold ofO at hm; rw [J.obj.sizeOf_spec] at hm; omega
      | succ m => exact rinto_obj b fun n x hx => rinto_all m x (by have := kid_size hx; omega)
theorem rinto_val (v : J) : RIntoC v := rinto_all _ v (Nat.le_refl _)
end Go.Proofs.YtahinicpceokcaaGreatDoor.Jm
