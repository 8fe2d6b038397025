/-
  slices.Delete of one thing out of a row of strs of one's own (printed by gen/jd.py).
  slices.Delete of one thing out of a row of vals of one's own (printed by gen/jd.py).
  The program's objects: Names, Get, With, Without, in words of objects.
-/
import Derived.Test.YtnccefeehkcneaaGreatDoorJca
import Derived.Lib.SliceRun
import Derived.Deep.RegionLaw
import Derived.Test.YtnccefeehkcneaaGreatDoorJpa
import Derived.Test.YtnccefeehkcneaaGreatDoorMga
namespace Go.Proofs.YtnccefeehkcneaaGreatDoor.Jm
open Go Go.RowKit Go.Proofs.YtnccefeehkcneaaGreatDoor.Sx Go.Proofs.YtnccefeehkcneaaGreatDoor.Js Go.Proofs.YtnccefeehkcneaaGreatDoor.Gr Go.Proofs.YtnccefeehkcneaaGreatDoor.Ur
/-- The program's object at block b is a. -/
def OA (w : World) (b : Nat) (a : Ob) : Prop := ObjAt (fun _ => True) w b a.1 a.2
/-- The program's value. -/
def PJ (w : World) (j : J) (u : Value) : Prop := PV (fun _ => True) w j u
section
variable {w w' : World}
theorem OA.ext {b : Nat} {a : Ob} (h : OA w b a) (hx : Ext w w') : OA w' b a := ObjAt.keep h trivial (fun b _ hb => hx.block b hb) (fun _ _ _ => trivial)
theorem PJ.ext {j : J} {u : Value} (h : PJ w j u) (hx : Ext w w') : PJ w' j u := PV.ext h hx
theorem PJ.of {F : Nat → Prop} {j : J} {u : Value} (h : PV F w j u) : PJ w j u := h.all
theorem OA.of {F : Nat → Prop} {b : Nat} {ns : List Tx} {l : List J} (h : ObjAt F w b ns l) : OA w b (ns, l) := by
  obtain ⟨A, c, B, d, hh, hc, hd, hn, hi⟩ := h
  exact ⟨A, c, B, d, hh, hc, hd, hn.keep (fun _ _ _ => rfl) (fun _ _ _ => trivial), hi.keep (fun _ _ _ => rfl) (fun _ _ _ => trivial)⟩
theorem PJ_null {u : Value} : PJ w .null u ↔ u = .nilIface := PV_null
theorem PJ.null : PJ w .null .nilIface := PJ_null.2 rfl
theorem OA.lt {b : Nat} {a : Ob} (h : OA w b a) : b < w.heap.size := by
  obtain ⟨A, c, B, d, hh, _⟩ := h
  exact heap_lt hh
/-- A new object without fields. -/
theorem OA.new {A B : Value} (hA : A = .slice none 0 0) (hB : B = .slice none 0 0) {b : Nat} (hb : b = w.heap.size) : OA (w.alloc (.cells #[A, B] objT (0, 0))) b ([], []) := by
  subst hA hB hb
  exact ⟨none, 0, none, 0, heap_new rfl, Nat.le_refl _, Nat.le_refl _, fun i hi => absurd hi (Nat.not_lt_zero _), fun i hi => absurd hi (Nat.not_lt_zero _)⟩
end
end Go.Proofs.YtnccefeehkcneaaGreatDoor.Jm
