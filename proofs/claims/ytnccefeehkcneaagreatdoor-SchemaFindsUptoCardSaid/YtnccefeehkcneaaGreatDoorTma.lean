/- Thinned out of Rma by thin.py. -/
import Derived.Test.YtnccefeehkcneaaGreatDoorJq9
import Derived.Test.YtnccefeehkcneaaGreatDoorJqf
import Derived.Test.YtnccefeehkcneaaGreatDoorMga
import Derived.Test.YtnccefeehkcneaaGreatDoorJkc
import Derived.Test.YtnccefeehkcneaaGreatDoorUreg
import Derived.Test.YtnccefeehkcneaaGreatDoorJba
/-
  The reference's objects, in words of objects: Find of any value, Set.
  The reference's into (printed by gen/rm2.py).
-/
namespace Go.Proofs.YtnccefeehkcneaaGreatDoor.Jm
open Go Go.RowKit Go.Proofs.YtnccefeehkcneaaGreatDoor.Sx Go.Proofs.YtnccefeehkcneaaGreatDoor.Js Go.Proofs.YtnccefeehkcneaaGreatDoor.Gr
/-- The reference's value, or none at all. -/
def RZ (F : Nat → Prop) (w : World) (j : J) (cs : List Value) : Prop := RV F w j cs ∨ (j = .null ∧ cs = noV)
section
variable {F F' : Nat → Prop} {w w' : World} {j : J} {cs : List Value}
theorem RZ.keep (h : RZ F w j cs) (hk : ∀ b, F b → b < w.heap.size → w'.heap[b]? = w.heap[b]?) (hF : ∀ b, F b → b < w.heap.size → F' b) : RZ F' w' j cs := h.imp (fun h => RV.keep hk hF _ _ h) id
theorem RZ.ext (h : RZ F w j cs) (hx : Ext w w') : RZ F w' j cs := h.keep (fun b _ hb => hx.block b hb) (fun _ h _ => h)
theorem RZ.null (F : Nat → Prop) (w : World) : RZ F w .null noV := .inr ⟨rfl, rfl⟩
/-- What the six cells are. -/
theorem RZ.shape (h : RZ F w j cs) : ∃ K B n s A1 n1 c1 A2 n2 c2, cs = v6 K B n s (.slice A1 n1 c1) (.slice A2 n2 c2) ∧
    (isObj j = true ∧ K = 6 ∧ B = false ∧ n = 0 ∧ s = ⟨#[]⟩ ∧ n1 = (objO j).1.length ∧ n2 = (objO j).2.length ∧ n1 ≤ c1 ∧ n2 ≤ c2 ∧ NamesAt F w A1 (objO j).1 ∧ RValsAt F w A2 (objO j).2 ∨
      isObj j = false ∧ K ≠ 6 ∧ A1 = none ∧ n1 = 0 ∧ c1 = 0) := by
  rcases h with h | ⟨rfl, rfl⟩
  · cases j with
    | null => exact ⟨_, _, _, _, _, _, _, _, _, _, RV_null.1 h, .inr ⟨rfl, by decide, rfl, rfl, rfl⟩⟩
    | bool b => exact ⟨_, _, _, _, _, _, _, _, _, _, RV_bool.1 h, .inr ⟨rfl, by decide, rfl, rfl, rfl⟩⟩
    | num n => exact ⟨_, _, _, _, _, _, _, _, _, _, (RV_num.1 h).1, .inr ⟨rfl, by decide, rfl, rfl, rfl⟩⟩
    | text s => exact ⟨_, _, _, _, _, _, _, _, _, _, RV_text.1 h, .inr ⟨rfl, by decide, rfl, rfl, rfl⟩⟩
    | list l => obtain ⟨A, c, e, _⟩ := RV_list.1 h; exact ⟨_, _, _, _, _, _, _, _, _, _, e, .inr ⟨rfl, by decide, rfl, rfl, rfl⟩⟩
    | obj ns l => obtain ⟨A, c, B, d, e, h1, h2, h3, h4⟩ := RV_obj.1 h; exact ⟨_, _, _, _, _, _, _, _, _, _, e, .inl ⟨rfl, rfl, rfl, rfl, rfl, rfl, rfl, h1, h2, h3, h4⟩⟩
  · exact ⟨0, false, 0, ⟨#[]⟩, none, 0, 0, none, 0, 0, rfl, .inr ⟨rfl, by decide, rfl, rfl, rfl⟩⟩
/-- The reference's object. -/
def RO (F : Nat → Prop) (w : World) (A : Option Addr) (c : Nat) (B : Option Addr) (d : Nat) (a : Ob) : Prop := a.1.length ≤ c ∧ a.2.length ≤ d ∧ NamesAt F w A a.1 ∧ RValsAt F w B a.2
theorem RO.keep {A : Option Addr} {c : Nat} {B : Option Addr} {d : Nat} {a : Ob} (h : RO F w A c B d a) (hk : ∀ b, F b → b < w.heap.size → w'.heap[b]? = w.heap[b]?) (hF : ∀ b, F b → b < w.heap.size → F' b) : RO F' w' A c B d a := ⟨h.1, h.2.1, h.2.2.1.keep hk hF, h.2.2.2.keep hk hF⟩
theorem RO.ext {A : Option Addr} {c : Nat} {B : Option Addr} {d : Nat} {a : Ob} (h : RO F w A c B d a) (hx : Ext w w') : RO F w' A c B d a := h.keep (fun b _ hb => hx.block b hb) (fun _ h _ => h)
theorem RO.nil : RO F w none 0 none 0 ([], []) := ⟨Nat.le_refl _, Nat.le_refl _, (fun q hq => by cases hq), (fun q hq => by cases hq)⟩
theorem RO.of {A : Option Addr} {c : Nat} {B : Option Addr} {d n m : Nat} {a : Ob} (h : RV F w (ofO a) (v6 6 false 0 ⟨#[]⟩ (.slice A n c) (.slice B m d))) : n = a.1.length ∧ m = a.2.length ∧ RO F w A c B d a := by
  obtain ⟨h1, h2, h3, h4, h5, h6⟩ := RV_objs h
  exact ⟨h1, h2, h3, h4, h5, h6⟩
end
end Go.Proofs.YtnccefeehkcneaaGreatDoor.Jm
namespace Go.Proofs.YtnccefeehkcneaaGreatDoor.Jm
open Go Go.RowKit Go.Proofs.YtnccefeehkcneaaGreatDoor.Sx Go.Proofs.YtnccefeehkcneaaGreatDoor.Js Go.Proofs.YtnccefeehkcneaaGreatDoor.Gr Go.Proofs.YtnccefeehkcneaaGreatDoor.Ur
/-- Blocks that a walk's own boxes are not. -/
def NF (g m : Nat) (F : Nat → Prop) (b : Nat) : Prop := F b ∧ (b < g ∨ g + m ≤ b)
/-- An object that is being made, in box k. -/
def OutAt (g m k : Nat) (F : Nat → Prop) (w1 W : World) (a : Ob) : Prop := Ext w1 W ∧ g + m ≤ W.heap.size ∧ ∃ A c B d, VIn W k 6 false 0 ⟨#[]⟩ (.slice A a.1.length c) (.slice B a.2.length d) ∧ RO (NF g m F) W A c B d a
theorem put_size (W : World) (g : Nat) (K : Int) (B : Bool) (n : Int) (s : ByteArray) (a l : Value) : (putV W g K B n s a l).heap.size = W.heap.size := by simp [putV, World.setCell]
section
variable {g m k : Nat} {F : Nat → Prop} {w w1 W W' : World} {a o : Ob}
theorem OutAt.ext (h : OutAt g m k F w1 W a) (hx : Ext W W') : OutAt g m k F w1 W' a := by
  obtain ⟨h1, h2, A, c, B, d, h3, h4⟩ := h
  exact ⟨h1.trans hx, Nat.le_trans h2 hx.size, A, c, B, d, h3.ext hx, h4.ext hx⟩
theorem nf_put {A : Option Addr} {c : Nat} {B : Option Addr} {d : Nat} (h : RO (NF g m F) W A c B d o) (h1 : g ≤ k) (h2 : k < g + m) (K : Int) (Bb : Bool) (n : Int) (s : ByteArray) (x l : Value) : RO (NF g m F) (putV W k K Bb n s x l) A c B d o :=
  h.keep (fun b hb _ => put_heap W K Bb n s x l b (by have := hb.2; omega)) (fun _ h _ => h)
theorem OutAt.put {K : Int} {Bb : Bool} {n : Int} {s : ByteArray} {x l : Value} {A : Option Addr} {c : Nat} {B : Option Addr} {d : Nat} (h1 : Ext w1 W) (hs : g + m ≤ W.heap.size) (hk : w1.heap.size ≤ k) (hk1 : g ≤ k) (hk2 : k < g + m) (hv : VIn W k K Bb n s x l) (hr : RO (NF g m F) W A c B d o) :
    OutAt g m k F w1 (putV W k 6 false 0 ⟨#[]⟩ (.slice A o.1.length c) (.slice B o.2.length d)) o :=
  ⟨put_ext _ _ _ _ _ _ h1 hk, by rw [put_size]; exact hs, A, c, B, d, put_in _ _ _ _ _ _ hv, nf_put hr hk1 hk2 _ _ _ _ _ _⟩
end
end Go.Proofs.YtnccefeehkcneaaGreatDoor.Jm
