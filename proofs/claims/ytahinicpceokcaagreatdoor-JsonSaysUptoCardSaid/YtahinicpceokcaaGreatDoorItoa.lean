/-
  strconv.Itoa, where its table is laid.
-/
import Derived.Test.YtahinicpceokcaaGreatDoorDig
import Derived.Test.YtahinicpceokcaaGreatDoorShelf
import Derived.Lib.SmallJoins
import Derived.Lib.ItoaMem
namespace Go.Proofs.YtahinicpceokcaaGreatDoor.Sx
open Go Go.RowKit Go.Proofs.YtahinicpceokcaaGreatDoor.Dc

/-- The table that Itoa reads is laid. -/
def Tab10 (w : World) : Prop := Lib.TabIs Tryz.prog w "internal/strconv.uint64pow10" .u64 Lib.pow10Tab
set_option maxRecDepth 100000 in
theorem Tab10.ext {w w' : World} (h : Tab10 w) (he : Ext w w') : Tab10 w' := Go.Joins.tab_stays (g := 0) (by kernel_rfl) h he (Nat.le_refl _)
theorem ext_grow (w : World) (k : Nat) (os : Array Obj) : Ext w (Go.Sort.grow (w.drewN k) os) := by
  have h : Ext w (w.drewN k) := ⟨rfl, rfl, rfl, Nat.le_refl _, fun _ _ => rfl⟩
  exact h.trans ⟨rfl, rfl, rfl, by simp [Go.Sort.grow], fun j hj => by
    have hj2 : j < w.heap.size := hj
    simp [Go.Sort.grow, Array.getElem?_append, hj2]⟩
theorem itoa_any (u : Nat) (w : World) (ht : Tab10 w) (h : u ≤ 1125899906842624) : Calls Tryz.prog 127 #[.int .i64 (u : Int)] w fun e w' => e = .returned (.string (decS u)) ∧ Ext w w' :=
  (Tryz.strconv_Itoa (u : Int) (by omega) (by omega) w ht).mono fun e w' ⟨he, k, os, hw⟩ => ⟨by rw [he, Lib.itoa_nonneg]; rfl, by rw [hw]; exact ext_grow w k os⟩
end Go.Proofs.YtahinicpceokcaaGreatDoor.Sx
