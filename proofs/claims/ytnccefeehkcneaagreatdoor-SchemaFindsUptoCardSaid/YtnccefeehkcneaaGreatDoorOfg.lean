/-
  Objects in memory with the blocks that they may lie in: Get, With, Without.
-/
import Derived.Test.YtnccefeehkcneaaGreatDoorOba
namespace Go.Proofs.YtnccefeehkcneaaGreatDoor.Jm
open Go Go.RowKit Go.Proofs.YtnccefeehkcneaaGreatDoor.Sx Go.Proofs.YtnccefeehkcneaaGreatDoor.Js Go.Proofs.YtnccefeehkcneaaGreatDoor.Gr Go.Proofs.YtnccefeehkcneaaGreatDoor.Ur
/-- The program's object at block b is a; all of it lies in F. -/
def OF (F : Nat → Prop) (w : World) (b : Nat) (a : Ob) : Prop := F b ∧ ObjAt F w b a.1 a.2
section
variable {F F' : Nat → Prop} {w w' : World} {b : Nat} {a : Ob}
theorem OF.keep (h : OF F w b a) (hk : ∀ g, F g → g < w.heap.size → w'.heap[g]? = w.heap[g]?) (hF : ∀ g, F g → g < w.heap.size → F' g) : OF F' w' b a := by
  have hl : b < w.heap.size := by
    obtain ⟨A, c, B, d, hh, _⟩ := h.2
    exact heap_lt hh
  exact ⟨hF b h.1 hl, ObjAt.keep h.2 h.1 hk hF⟩
theorem OF.ext (h : OF F w b a) (hx : Ext w w') : OF F w' b a := h.keep (fun g _ hg => hx.block g hg) (fun _ h _ => h)
theorem OF.new {A B : Value} (hA : A = .slice none 0 0) (hB : B = .slice none 0 0) (hb : b = w.heap.size) (hF : F b) : OF F (w.alloc (.cells #[A, B] objT (0, 0))) b ([], []) := by
  subst hA hB hb
  exact ⟨hF, none, 0, none, 0, heap_new rfl, Nat.le_refl _, Nat.le_refl _, fun i hi => absurd hi (Nat.not_lt_zero _), fun i hi => absurd hi (Nat.not_lt_zero _)⟩
end
set_option maxRecDepth 100000 in
set_option maxHeartbeats 2000000 in
theorem namesF_any (F : Nat → Prop) (b : Nat) (a : Ob) (w : World) (ho : OF F w b a) : Calls Tryz.prog 41 #[.pointer (some ⟨b, 0, none⟩)] w fun e w' => ∃ A c, e = .returned (.slice A a.1.length c) ∧ a.1.length ≤ c ∧ NamesAt F w A a.1 ∧ w = w' := by
  obtain ⟨-, A, c, B, d, hh, hc, hd, hN, hV⟩ := ho
  have z0 : w.cell? ⟨b, 0, none⟩ = some (.slice A a.1.length c) := cell_of hh 0
  have HE : Hid (a.1.length ≤ c ∧ NamesAt F w A a.1) := ⟨hc, hN⟩
  clear hh hc hd hN hV
  go_enter Tryz.func41, Tryz.ntmps41
  go_wp2_with fail
  go_ret
  exact ⟨A, c, rfl, HE.out.1, HE.out.2, rfl⟩
theorem getF_any (F : Nat → Prop) (b : Nat) (a : Ob) (t : Tx) (w : World) (ho : OF F w b a) (hw : WO a) (hsm : bulkO a ≤ 33000000) :
    Calls Tryz.prog 34 #[.pointer (some ⟨b, 0, none⟩), .string (bx t)] w fun e w' => ∃ u, e = .returned (.tuple #[u, .bool (getO a t).isSome]) ∧ PV F w (valO a t) u ∧ w = w' :=
  (get_any F b a.1 a.2 t w ho.2 hw.len hw.rise (by have := len_bulkO a; omega)).mono fun e w' h => by
    obtain ⟨h1, ⟨h2, h3⟩ | ⟨h2, u, h3, h4, h5⟩⟩ := h
    · refine ⟨.nilIface, ?_, ?_, h1⟩
      · rw [get_none h2]; exact h3
      · rw [val_none (get_none h2)]; exact PV_null.2 rfl
    · have hg : getO a t = some (a.2[place a.1 t]'h2) := by unfold getO; rw [getJ_at h3, List.getElem?_eq_getElem h2]
      refine ⟨u, ?_, ?_, h1⟩
      · rw [hg]; exact h5
      · rw [val_some hg]; exact h4
theorem ObjAt.mono {F F' : Nat → Prop} {w : World} {b : Nat} {ns : List Tx} {l : List J} (h : ObjAt F w b ns l) (hF : ∀ g, F g → F' g) : ObjAt F' w b ns l := by
  obtain ⟨A, c, B, d, hh, hc, hd, hn, hi⟩ := h
  exact ⟨A, c, B, d, hh, hc, hd, hn.keep (fun _ _ _ => rfl) (fun g hg _ => hF g hg), hi.keep (fun _ _ _ => rfl) (fun g hg _ => hF g hg)⟩
end Go.Proofs.YtnccefeehkcneaaGreatDoor.Jm
