/-
  The reference's chr.
-/
import Derived.Test.YtnccefeehkcneaaGreatDoorBrow
import Derived.Lib.Hide
namespace Go.Proofs.YtnccefeehkcneaaGreatDoor.Sx
open Go Go.RowKit
def sgn (c : UInt8) : ByteArray := ⟨#[c]⟩
set_option maxRecDepth 100000 in
theorem chr_one (c : UInt8) (w : World) : Calls Tryz.prog 126 #[.int .i64 (c.toNat : Int)] w fun e w' => e = .returned (.string (sgn c)) ∧ Ext w w' := by
  have hc : (c.toNat : Int) < 256 := by have := c.toNat_lt; omega
  have hcv : (convert 211 9 (.slice (some ⟨w.heap.size, 0, none⟩) 1 1)).run Tryz.prog (w.alloc (.cells #[.int .u8 (c.toNat : Int)] 5)) = .ok (.string (sgn c)) (w.alloc (.cells #[.int .u8 (c.toNat : Int)] 5)) :=
    run_string (SrcB.of_block (ys := [c]) (heap_new rfl))
  have HX : Hid (Ext w (w.alloc (.cells #[.int .u8 (c.toNat : Int)] 5))) := (Below.refl _ _).alloc (Nat.le_refl _) _
  go_enter Tryz.func126, Tryz.ntmps126
  go_wp2
  go_ret
  exact ⟨rfl, HX.out⟩
theorem chr_at (x : Int) (c : UInt8) (h : x = (c.toNat : Int)) (w : World) : Calls Tryz.prog 126 #[.int .i64 x] w fun e w' => e = .returned (.string (sgn c)) ∧ Ext w w' := by
  rw [h]
  exact chr_one c w
end Go.Proofs.YtnccefeehkcneaaGreatDoor.Sx
