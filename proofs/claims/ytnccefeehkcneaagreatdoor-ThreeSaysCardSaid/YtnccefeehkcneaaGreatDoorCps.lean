/-
  The reference's Copy of strings.
-/
import Derived.Test.YtnccefeehkcneaaGreatDoorSrsA
namespace Go.Proofs.YtnccefeehkcneaaGreatDoor.Sx
open Go Go.RowKit
set_option maxRecDepth 100000 in
theorem copyS_any (base : Nat) (x : Value) (ys : List ByteArray) (w : World) (hx : SrcS w x ys) (hs : ys.length ≤ 1099511627776) (hbase : base ≤ w.heap.size) :
    Calls Tryz.prog 83 #[x] w fun e w' => ∃ A c, e = .returned (.slice A ys.length c) ∧ SRow base w' (.slice A ys.length c) ys ∧ Ext w w' ∧ ((Value.slice A ys.length c).ownBlock = none ∨ (Value.slice A ys.length c).ownBlock = some w.heap.size) := by
  have HX := Lib.hid hx
  obtain ⟨A0, c0, rfl⟩ := hx.slice
  clear hx
  go_enter Tryz.func83, Tryz.ntmps83
  go_wp2_with (at_builtin; refine append_srs rfl _ _ (by rfl) base 0 ys.length _ _ _ [] ys (by rfl) (by rfl) SRow.nil HX.out rfl rfl (by omega) hs hbase ?_)
  intro A c w' h1 h2 h3
  have H := Lib.hid (And.intro h1 (And.intro h2 h3))
  clear h1 h2 h3
  go_wp2
  go_ret
  refine ⟨A, c, by simp, by simpa using H.out.1, ?_, by simpa [Value.ownBlock] using H.out.2.2⟩
  exact ⟨H.out.2.1.os, H.out.2.1.tape, H.out.2.1.output, H.out.2.1.size, fun k hk => H.out.2.1.block k hk (by simp [Value.ownBlock])⟩
end Go.Proofs.YtnccefeehkcneaaGreatDoor.Sx
