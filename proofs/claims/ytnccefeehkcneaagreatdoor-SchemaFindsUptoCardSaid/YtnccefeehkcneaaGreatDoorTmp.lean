/- Thinned out of Mpa by thin.py. -/
import Derived.Test.YtnccefeehkcneaaGreatDoorOba
import Derived.Test.YtnccefeehkcneaaGreatDoorMga
import Derived.Test.YtnccefeehkcneaaGreatDoorJkc
import Derived.Test.YtnccefeehkcneaaGreatDoorJtb
/-
  The program's values: are all texts sound, and what may be told.
  The program's Tell; merge.told, merge.Into.
-/
namespace Go.Proofs.YtnccefeehkcneaaGreatDoor.Jm
open Go Go.RowKit Go.Proofs.YtnccefeehkcneaaGreatDoor.Sx Go.Proofs.YtnccefeehkcneaaGreatDoor.Js
theorem PJ.some_ {w : World} {j : J} {u : Value} (h : PJ w j u) (hn : isNull j = false) : ∃ t x, u = .iface t x := by
  rcases PV.shape h with rfl | h2
  · cases j with
    | null => cases hn
    | bool b => have := PV_bool.1 h; cases this
    | num n => have := (PV_num.1 h).1; cases this
    | text s => have := PV_text.1 h; cases this
    | list l => obtain ⟨A, c, e, _⟩ := PV_list.1 h; cases e
    | obj ns l => obtain ⟨b, e, _⟩ := PV_obj.1 h; cases e
  · exact h2
end Go.Proofs.YtnccefeehkcneaaGreatDoor.Jm
