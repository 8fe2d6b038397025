/- Thinned out of Rma by thin.py. -/
import Derived.Test.YtnccefeehkcneaaGreatDoorJq9
import Derived.Test.YtnccefeehkcneaaGreatDoorJqf
import Derived.Test.YtnccefeehkcneaaGreatDoorMga
import Derived.Test.YtnccefeehkcneaaGreatDoorJkc
import Derived.Test.YtnccefeehkcneaaGreatDoorUreg
import Derived.Test.YtnccefeehkcneaaGreatDoorJba
/-
  The reference's objects, in words of objects: Find of any value, Set.
  The reference's into (printed by gen/rm2.py).
-/
namespace Go.Proofs.YtnccefeehkcneaaGreatDoor.Jm
open Go Go.RowKit Go.Proofs.YtnccefeehkcneaaGreatDoor.Sx Go.Proofs.YtnccefeehkcneaaGreatDoor.Js Go.Proofs.YtnccefeehkcneaaGreatDoor.Gr
/-- The reference's value, or none at all. -/
def RZ (F : Nat → Prop) (w : World) (j : J) (cs : List Value) : Prop := RV F w j cs ∨ (j = .null ∧ cs = noV)
section
variable {F F' : Nat → Prop} {w w' : World} {j : J} {cs : List Value}
theorem RZ.keep (h : RZ F w j cs) (hk : ∀ b, F b → b < w.heap.size → w'.heap[b]? = w.heap[b]?) (hF : ∀ b, F b → b < w.heap.size → F' b) : RZ F' w' j cs := h.imp (fun h => RV.keep hk hF _ _ h) id
theorem RZ.ext (h : RZ F w j cs) (hx : Ext w w') : RZ F w' j cs := h.keep (fun b _ hb => hx.block b hb) (fun _ h _ => h)
theorem RZ.null (F : Nat → Prop) (w : World) : RZ F w .null noV := .inr ⟨rfl, rfl⟩
/-- What the six cells are. -/
theorem RZ.shape (h : RZ F w j cs) : ∃ K B n s A1 n1 c1 A2 n2 c2, cs = v6 K B n s (.slice A1 n1 c1) (.slice A2 n2 c2) ∧
    (isObj j = true ∧ K = 6 ∧ B = false ∧ n = 0 ∧ s = ⟨#[]⟩ ∧ n1 = (objO j).1.length ∧ n2 = (objO j).2.length ∧ n1 ≤ c1 ∧ n2 ≤ c2 ∧ NamesAt F w A1 (objO j).1 ∧ RValsAt F w A2 (objO j).2 ∨
      isObj j = false ∧ K ≠ 6 ∧ A1 = none ∧ n1 = 0 ∧ c1 = 0) := by
  rcases h with h | ⟨rfl, rfl⟩
  · cases j with
    | null => exact ⟨_, _, _, _, _, _, _, _, _, _, RV_null.1 h, .inr ⟨rfl, by decide, rfl, rfl, rfl⟩⟩
    | bool b => exact ⟨_, _, _, _, _, _, _, _, _, _, RV_bool.1 h, .inr ⟨rfl, by decide, rfl, rfl, rfl⟩⟩
    | num n => exact ⟨_, _, _, _, _, _, _, _, _, _, (RV_num.1 h).1, .inr ⟨rfl, by decide, rfl, rfl, rfl⟩⟩
    | text s => exact ⟨_, _, _, _, _, _, _, _, _, _, RV_text.1 h, .inr ⟨rfl, by decide, rfl, rfl, rfl⟩⟩
    | list l => obtain ⟨A, c, e, _⟩ := RV_list.1 h; exact ⟨_, _, _, _, _, _, _, _, _, _, e, .inr ⟨rfl, by decide, rfl, rfl, rfl⟩⟩
    | obj ns l => obtain ⟨A, c, B, d, e, h1, h2, h3, h4⟩ := RV_obj.1 h; exact ⟨_, _, _, _, _, _, _, _, _, _, e, .inl ⟨rfl, rfl, rfl, rfl, rfl, rfl, rfl, h1, h2, h3, h4⟩⟩
  · exact ⟨0, false, 0, ⟨#[]⟩, none, 0, 0, none, 0, 0, rfl, .inr ⟨rfl, by decide, rfl, rfl, rfl⟩⟩
/-- The reference's object. -/
def RO (F : Nat → Prop) (w : World) (A : Option Addr) (c : Nat) (B : Option Addr) (d : Nat) (a : Ob) : Prop := a.1.length ≤ c ∧ a.2.length ≤ d ∧ NamesAt F w A a.1 ∧ RValsAt F w B a.2
theorem RO.keep {A : Option Addr} {c : Nat} {B : Option Addr} {d : Nat} {a : Ob} (h : RO F w A c B d a) (hk : ∀ b, F b → b < w.heap.size → w'.heap[b]? = w.heap[b]?) (hF : ∀ b, F b → b < w.heap.size → F' b) : RO F' w' A c B d a := ⟨h.1, h.2.1, h.2.2.1.keep hk hF, h.2.2.2.keep hk hF⟩
theorem RO.ext {A : Option Addr} {c : Nat} {B : Option Addr} {d : Nat} {a : Ob} (h : RO F w A c B d a) (hx : Ext w w') : RO F w' A c B d a := h.keep (fun b _ hb => hx.block b hb) (fun _ h _ => h)
theorem RO.nil : RO F w none 0 none 0 ([], []) := ⟨Nat.le_refl _, Nat.le_refl _, (fun q hq => by cases hq), (fun q hq => by cases hq)⟩
theorem RO.rv {A : Option Addr} {c : Nat} {B : Option Addr} {d : Nat} {a : Ob} (h : RO F w A c B d a) : RV F w (ofO a) (v6 6 false 0 ⟨#[]⟩ (.slice A a.1.length c) (.slice B a.2.length d)) := RV_obj.2 ⟨A, c, B, d, rfl, h⟩
theorem RO.of {A : Option Addr} {c : Nat} {B : Option Addr} {d n m : Nat} {a : Ob} (h : RV F w (ofO a) (v6 6 false 0 ⟨#[]⟩ (.slice A n c) (.slice B m d))) : n = a.1.length ∧ m = a.2.length ∧ RO F w A c B d a := by
  obtain ⟨h1, h2, h3, h4, h5, h6⟩ := RV_objs h
  exact ⟨h1, h2, h3, h4, h5, h6⟩
end
/-- What Find gives: the value's cells, and whether there is one. -/
def FindZ (F : Nat → Prop) (w : World) (a : Ob) (t : Tx) (e : Ending) (w' : World) : Prop := Ext w w' ∧ ∃ u, RZ F w (valO a t) u ∧ e = .returned (.tuple #[.agg u.toArray, .bool (getO a t).isSome]) ∧ ((getO a t).isSome = true → RV F w (valO a t) u)
set_option maxRecDepth 100000 in
set_option maxHeartbeats 4000000 in
theorem rfind_not (K : Int) (B : Bool) (z : Int) (s t : ByteArray) (A2 : Option Addr) (m2 c2 : Nat) (w : World) :
    Calls Tryz.prog 101 #[.agg #[.int .i64 K, .bool B, .int .i64 z, .string s, .slice none 0 0, .slice A2 m2 c2], .string t] w fun e w' => Ext w w' ∧ e = .returned (.tuple #[.agg noV.toArray, .bool false]) := by
  obtain ⟨g, hg⟩ : ∃ g, g = w.heap.size := ⟨_, rfl⟩
  obtain ⟨w1, hw1⟩ : ∃ w1, w1 = (w.alloc (.cells #[.int .i64 K, .bool B, .int .i64 z, .string s, .slice none 0 0, .slice A2 m2 c2] vT (0, 0))).alloc (.cells #[.int .i64 0, .bool false, .int .i64 0, .string ⟨#[]⟩, nilS, nilS] vT (0, 0)) := ⟨_, rfl⟩
  have HX1 : Hid (Ext w w1) := by rw [hw1]; exact (new_ext _ _).trans (new_ext _ _)
  have HV1 : Hid (VIn w1 g K B z s (.slice none 0 0) (.slice A2 m2 c2)) := by rw [hw1]; exact heap_old (heap_new hg)
  have HR1 : Hid (VIn w1 (g + 1) 0 false 0 ⟨#[]⟩ nilS nilS) := by rw [hw1]; exact heap_new (by rw [hg]; simp)
  have HGW : Hid (w.heap.size ≤ g + 1) := by rw [hg]; exact Nat.le_succ _
  go_enter Tryz.func101, Tryz.ntmps101
  go_wp2_with fail
  rw [← hw1, ← hg]
  clear hw1 hg
  obtain ⟨c0, c1, c2', c3, c4, c5⟩ := HV1.out.cells
  go_wp2_with fail
  clear c0 c1 c2' c3 c4 c5
  go_loopw [11] (fun ix wr => ix = .int .i64 0 ∧ w1 = wr) (fun _ _ => 0)
  case atStart => exact ⟨rfl, rfl⟩
  case round =>
    obtain ⟨rfl, rfl⟩ := hrel
    obtain ⟨d0, d1, d2, d3, d4, d5⟩ := HR1.out.cells
    have e0 := HR1.out.free 0
    have e1 := HR1.out.free 1
    have e2 := HR1.out.free 2
    have e3 := HR1.out.free 3
    have e4 := HR1.out.free 4
    have e5 := HR1.out.free 5
    go_wp2_with fail
    refine bodyPost_ret (results_v rfl _ _ (g + 1) rfl (put_in 0 false 0 ⟨#[]⟩ nilS nilS HR1.out)) rfl ?_
    exact ⟨put_ext 0 false 0 ⟨#[]⟩ nilS nilS HX1.out HGW.out, rfl⟩
theorem rfindO_any (F : Nat → Prop) (A : Option Addr) (c : Nat) (B : Option Addr) (d : Nat) (a : Ob) (t : Tx) (w : World) (h : RO F w A c B d a) (hw : WO a) (hb : bulkO a ≤ 16000000) :
    Calls Tryz.prog 101 #[.agg #[.int .i64 6, .bool false, .int .i64 0, .string ⟨#[]⟩, .slice A a.1.length c, .slice B a.2.length d], .string (bx t)] w (FindZ F w a t) :=
  (rfind_any F A B c d a.1 a.2 (bx t) w h.2.2.1 h.2.2.2 hw.len h.2.1 (by have := len_bulkO a; have := hw.len; omega)).mono fun e w' ⟨hx, hr⟩ => by
    refine ⟨hx, ?_⟩
    rcases hr with ⟨i, hn, hl, u, e1, hu, he⟩ | ⟨hno, he⟩
    · rw [bx_data] at e1
      have hat := at_field hw hn hl
      rw [e1] at hat
      rw [val_some hat, hat]
      exact ⟨u, .inl hu, he, fun _ => hu⟩
    · rw [bx_data] at hno
      rw [val_none (get_none hno), get_none hno]
      exact ⟨noV, RZ.null F w, he, fun h => by cases h⟩
/-- Find of any value. -/
theorem rfindZ_any (F : Nat → Prop) (j : J) (K : Int) (B : Bool) (z : Int) (s : ByteArray) (A1 : Option Addr) (n1 c1 : Nat) (A2 : Option Addr) (n2 c2 : Nat) (t : Tx) (w : World) (h : RZ F w j (v6 K B z s (.slice A1 n1 c1) (.slice A2 n2 c2))) (hw : WJ j) (hb : bulkJ j ≤ 16000000) :
    Calls Tryz.prog 101 #[.agg #[.int .i64 K, .bool B, .int .i64 z, .string s, .slice A1 n1 c1, .slice A2 n2 c2], .string (bx t)] w (FindZ F w (objO j) t) := by
  obtain ⟨K', B', z', s', A1', n1', c1', A2', n2', c2', e, h2⟩ := h.shape
  unfold v6 at e
  simp only [List.cons.injEq, Value.slice.injEq, Value.int.injEq, Value.bool.injEq, Value.string.injEq, and_true, true_and] at e
  obtain ⟨rfl, rfl, rfl, rfl, ⟨rfl, rfl, rfl⟩, rfl, rfl, rfl⟩ := e
  have hbo := bulk_obO j
  rcases h2 with ⟨_, rfl, rfl, rfl, rfl, rfl, rfl, h3, h4, h5, h6⟩ | ⟨h1, _, rfl, rfl, rfl⟩
  · exact rfindO_any F A1 c1 A2 c2 (objO j) t w ⟨h3, h4, h5, h6⟩ (WO.of hw) (by omega)
  · rw [objO_not h1]
    refine (rfind_not K B z s (bx t) A2 n2 c2 w).mono fun e w' ⟨hx, he⟩ => ⟨hx, noV, ?_, ?_, ?_⟩
    · rw [val_none (get_nil t)]; exact RZ.null F w
    · rw [get_nil]; exact he
    · rw [get_nil]; intro h; cases h
/-- What makes one of the reference's objects gives. -/
def RMadeO (F : Nat → Prop) (w : World) (a : Ob) (e : Ending) (w' : World) : Prop := Ext w w' ∧ ∃ A c B d, e = .returned (.agg #[.int .i64 6, .bool false, .int .i64 0, .string ⟨#[]⟩, .slice A a.1.length c, .slice B a.2.length d]) ∧ RO F w' A c B d a
theorem rsetO_any (F : Nat → Prop) (A : Option Addr) (c : Nat) (B : Option Addr) (d : Nat) (a : Ob) (t : Tx) (j : J) (K : Int) (Bb : Bool) (z : Int) (sv : ByteArray) (A1 : Option Addr) (m1 k1 : Nat) (A2 : Option Addr) (m2 k2 : Nat) (w : World) (h : RO F w A c B d a) (hw : WO a) (hb : bulkO a ≤ 16000000)
    (hj : RV F w j (v6 K Bb z sv (.slice A1 m1 k1) (.slice A2 m2 k2))) (hF : ∀ b, w.heap.size ≤ b → F b) :
    Calls Tryz.prog 93 #[.agg #[.int .i64 6, .bool false, .int .i64 0, .string ⟨#[]⟩, .slice A a.1.length c, .slice B a.2.length d], .string (bx t), .agg #[.int .i64 K, .bool Bb, .int .i64 z, .string sv, .slice A1 m1 k1, .slice A2 m2 k2]] w (RMadeO F w (setO a t j)) :=
  (rset_any F A B c d a.1 a.2 t j K Bb z sv A1 m1 k1 A2 m2 k2 w h.2.2.1 h.2.2.2 hw.len hw.rise h.2.1 (by have := len_bulkO a; have := hw.len; omega) hj hF).mono fun e w' ⟨hx, A', c', B', d', he, hr⟩ =>
    ⟨hx, A', c', B', d', he, (RO.of (a := setO a t j) hr).2.2⟩
end Go.Proofs.YtnccefeehkcneaaGreatDoor.Jm
namespace Go.Proofs.YtnccefeehkcneaaGreatDoor.Jm
open Go Go.RowKit Go.Proofs.YtnccefeehkcneaaGreatDoor.Sx Go.Proofs.YtnccefeehkcneaaGreatDoor.Js Go.Proofs.YtnccefeehkcneaaGreatDoor.Gr Go.Proofs.YtnccefeehkcneaaGreatDoor.Ur
/-- Blocks that a walk's own boxes are not. -/
def NF (g m : Nat) (F : Nat → Prop) (b : Nat) : Prop := F b ∧ (b < g ∨ g + m ≤ b)
/-- An object that is being made, in box k. -/
def OutAt (g m k : Nat) (F : Nat → Prop) (w1 W : World) (a : Ob) : Prop := Ext w1 W ∧ g + m ≤ W.heap.size ∧ ∃ A c B d, VIn W k 6 false 0 ⟨#[]⟩ (.slice A a.1.length c) (.slice B a.2.length d) ∧ RO (NF g m F) W A c B d a
theorem put_size (W : World) (g : Nat) (K : Int) (B : Bool) (n : Int) (s : ByteArray) (a l : Value) : (putV W g K B n s a l).heap.size = W.heap.size := by simp [putV, World.setCell]
section
variable {g m k : Nat} {F : Nat → Prop} {w w1 W W' : World} {a o : Ob}
theorem OutAt.ext (h : OutAt g m k F w1 W a) (hx : Ext W W') : OutAt g m k F w1 W' a := by
  obtain ⟨h1, h2, A, c, B, d, h3, h4⟩ := h
  exact ⟨h1.trans hx, Nat.le_trans h2 hx.size, A, c, B, d, h3.ext hx, h4.ext hx⟩
theorem nf_put {A : Option Addr} {c : Nat} {B : Option Addr} {d : Nat} (h : RO (NF g m F) W A c B d o) (h1 : g ≤ k) (h2 : k < g + m) (K : Int) (Bb : Bool) (n : Int) (s : ByteArray) (x l : Value) : RO (NF g m F) (putV W k K Bb n s x l) A c B d o :=
  h.keep (fun b hb _ => put_heap W K Bb n s x l b (by have := hb.2; omega)) (fun _ h _ => h)
theorem OutAt.put {K : Int} {Bb : Bool} {n : Int} {s : ByteArray} {x l : Value} {A : Option Addr} {c : Nat} {B : Option Addr} {d : Nat} (h1 : Ext w1 W) (hs : g + m ≤ W.heap.size) (hk : w1.heap.size ≤ k) (hk1 : g ≤ k) (hk2 : k < g + m) (hv : VIn W k K Bb n s x l) (hr : RO (NF g m F) W A c B d o) :
    OutAt g m k F w1 (putV W k 6 false 0 ⟨#[]⟩ (.slice A o.1.length c) (.slice B o.2.length d)) o :=
  ⟨put_ext _ _ _ _ _ _ h1 hk, by rw [put_size]; exact hs, A, c, B, d, put_in _ _ _ _ _ _ hv, nf_put hr hk1 hk2 _ _ _ _ _ _⟩
end
end Go.Proofs.YtnccefeehkcneaaGreatDoor.Jm
