/- Thinned out of Jkb Mpb Rmc by thin.py. -/
import Derived.Test.YtnccefeehkcneaaGreatDoorJta
import Derived.Test.YtnccefeehkcneaaGreatDoorJtb
import Derived.Test.YtnccefeehkcneaaGreatDoorJkc
import Derived.OwnWalk
import Derived.Test.YtnccefeehkcneaaGreatDoorTmp
import Derived.Test.YtnccefeehkcneaaGreatDoorJpb
import Derived.Test.YtnccefeehkcneaaGreatDoorTmb
import Derived.Test.YtnccefeehkcneaaGreatDoorJqf
/-
  Quote of a text: the program's and the reference's (printed by gen/jk5.py).
  Kind, Size and Same of documents: the program's.
-/
namespace Go.Proofs.YtnccefeehkcneaaGreatDoor.Jm
open Go Go.RowKit Go.Proofs.YtnccefeehkcneaaGreatDoor.Sx Go.Proofs.YtnccefeehkcneaaGreatDoor.Js Go.Proofs.YtnccefeehkcneaaGreatDoor.Gr
set_option maxRecDepth 100000 in
set_option maxHeartbeats 2000000 in
theorem tsame_val (F F' : Nat → Prop) (u v : Value) (w : World) (a b : J) (h : PV F w a u) (h' : PV F' w b v) (ha : IJ a) (hb : IJ b) (ht : Tab10 w) (sa : bulkJ a ≤ 1048576) (sb : bulkJ b ≤ 1048576) :
    Calls Tryz.prog 72 #[u, v] w fun e w' => e = .returned (.bool (textJ a == textJ b)) ∧ Ext w w' := by
  have C1 := Lib.hid (text_val a F u w h ha ht (by omega))
  have C2 : Hid (∀ W, Ext w W → Calls Tryz.prog 55 #[v] W fun e w' => e = .returned (.string (bx (textJ b))) ∧ Ext W w') := fun W hx => text_val b F' v W (h'.ext hx) hb (ht.ext hx) (by omega)
  have HE : Hid (((bx (textJ a)).toList == (bx (textJ b)).toList) = (textJ a == textJ b)) := by unfold Hid; rw [bx_list, bx_list]
  obtain ⟨r, hr⟩ : ∃ r, r = (textJ a == textJ b) := ⟨_, rfl⟩
  rw [← hr] at HE ⊢
  obtain ⟨x, hx⟩ : ∃ x, x = bx (textJ a) := ⟨_, rfl⟩
  obtain ⟨y, hy⟩ : ∃ y, y = bx (textJ b) := ⟨_, rfl⟩
  rw [← hx, ← hy] at HE
  rw [← hx] at C1
  rw [← hy] at C2
  have hxx : Ext w w := Below.refl _ _
  clear h h' ha hb ht sa sb hr hx hy
  go_enter Tryz.func72, Tryz.ntmps72
  go_wp2_with fail
  refine Calls.mono C1.out ?_
  rintro e w2 ⟨rfl, x2⟩
  have X2 := Lib.hid x2
  clear x2
  go_wp2_with fail
  refine Calls.mono (C2.out w2 X2.out) ?_
  rintro e w3 ⟨rfl, x3⟩
  have X3 := Lib.hid (X2.out.trans x3)
  clear x3
  have he := HE.out
  go_wp2_with fail
  go_ret
  exact ⟨rfl, X3.out⟩
end Go.Proofs.YtnccefeehkcneaaGreatDoor.Jm
