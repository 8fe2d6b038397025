/- Thinned out of Rmb by thin.py. -/
import Derived.Test.YtnccefeehkcneaaGreatDoorTma
import Derived.Test.YtnccefeehkcneaaGreatDoorQrs
/-
  The reference's plain, both (printed by gen/rm3.py).
  The reference's between (printed by gen/rm4.py).
-/
namespace Go.Proofs.YtnccefeehkcneaaGreatDoor.Jm
open Go Go.RowKit Go.Proofs.YtnccefeehkcneaaGreatDoor.Sx Go.Proofs.YtnccefeehkcneaaGreatDoor.Js Go.Proofs.YtnccefeehkcneaaGreatDoor.Gr Go.Proofs.YtnccefeehkcneaaGreatDoor.Ur
theorem names_long (a : Ob) : ∀ n ∈ a.1, n.length ≤ bulkO a := fun n hn => by
  have : ∀ (ns : List Tx) (n : Tx), n ∈ ns → 2 * n.length + 8 ≤ namesB ns := fun ns n => by
    unfold namesB
    induction ns with
    | nil => intro h; cases h
    | cons a r ih =>
      intro h
      rw [List.map_cons, List.sum_cons]
      rcases List.mem_cons.1 h with rfl | h
      · omega
      · have := ih h; omega
  have := this a.1 n hn
  unfold bulkO
  omega
end Go.Proofs.YtnccefeehkcneaaGreatDoor.Jm
