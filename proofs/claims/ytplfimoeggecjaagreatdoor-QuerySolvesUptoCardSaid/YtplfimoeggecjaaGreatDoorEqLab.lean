/-
  The reference's Eq of labels, where both lists read the same: it returns true.
-/
import Derived.Test.YtplfimoeggecjaaGreatDoorSame
import Derived.Test.YtplfimoeggecjaaGreatDoorLab
import Derived.Deep.QuietTactic
import Derived.BigQuiet
namespace Go.Proofs.YtplfimoeggecjaaGreatDoor.Sx
open Go Go.RowKit

theorem ext_drewN' (w : World) (n : Nat) : Ext w (w.drewN n) := ⟨rfl, rfl, rfl, Nat.le_refl _, fun _ _ => rfl⟩
theorem cells2q {w : World} {k : Nat} {x y : Value} {t : TypeId} {f : Nat × Nat} (h : w.heap[k]? = some (.cells #[x, y] t f)) : w.cell? ⟨k, 0, none⟩ = some x ∧ w.cell? ⟨k, 1, none⟩ = some y := ⟨cell_of h 0, cell_of h 1⟩

set_option maxRecDepth 100000 in
set_option maxHeartbeats 1000000 in
theorem eq_labs {B : Nat} {v v' : Value} {l : List Lab} {w : World} (hB : B ≤ w.heap.size) (h : LabsR B w v l) (h' : LabsR B w v' l) :
    Calls Tryz.prog 10 #[v, v'] w fun e w' => e = .returned (.bool true) ∧ Ext w w' := by
  have hn := h.1
  have H := Lib.hid (And.intro h h')
  obtain ⟨_, A, c, rfl, _⟩ := h
  obtain ⟨_, A', c', rfl, _⟩ := h'
  have hE : Hid (∀ a : ByteArray, (a.toList != a.toList) = false ∧ (a.toList == a.toList) = true) := fun a => by simp
  go_enter Tryz.func10, Tryz.ntmps10
  go_wp2
  go_loopw [14] (fun k wr => ∃ j : Nat, j ≤ l.length ∧ k = .int .i64 (j : Int) ∧ Hid (Ext w wr)) (fun k _ => l.length - (intOf k).toNat)
  case atStart => exact ⟨0, Nat.zero_le _, rfl, Below.refl _ _⟩
  case round =>
    obtain ⟨j, hj, rfl, hX⟩ := hrel
    by_cases hlt : j < l.length
    · have hbl := hX.out.mono hB
      obtain ⟨b, off, rfl, hbB, x0, x1, _, _⟩ := (H.out.1.below hbl (Nat.le_refl _)).at_ hlt
      obtain ⟨b', off', rfl, hbB', y0, y1, _, _⟩ := (H.out.2.below hbl (Nat.le_refl _)).at_ hlt
      obtain ⟨x, hx⟩ : ∃ x, x = l[j] := ⟨_, rfl⟩
      rw [← hx] at x0 x1 y0 y1
      have hbz : B ≤ wr.heap.size := Nat.le_trans hB hX.out.size
      obtain ⟨kb, hkb⟩ : ∃ kb, kb = wr.heap.size := ⟨_, rfl⟩
      obtain ⟨w2, hw2⟩ : ∃ w2, w2 = wr.alloc (.cells #[.string x.key, .string x.val] 31) := ⟨_, rfl⟩
      have hx2 : Ext wr w2 := by rw [hw2]; exact (Below.refl _ _).alloc (Nat.le_refl _) _
      obtain ⟨k0, k1⟩ := cells2q (w := w2) (k := kb) (x := .string x.key) (y := .string x.val) (t := 31) (f := (0, 0)) (by rw [hw2]; exact heap_new hkb)
      have z0 := ((hx2.mono hbz).cell (p := ⟨b', off' + j * 2, none⟩) hbB').trans y0
      have z1 := ((hx2.mono hbz).cell (p := ⟨b', off' + j * 2 + 1, none⟩) hbB').trans y1
      have HX2 := Lib.hid (hX.out.trans hx2)
      have f1 := (hE.out x.key).1
      have f2 := (hE.out x.key).2
      have f3 := (hE.out x.val).1
      have f4 := (hE.out x.val).2
      have hl1 : (0 : Int) ≤ (j : Int) := by omega
      have hl2 : (j : Int) < (l.length : Int) := by omega
      clear hx hx2 hbz hbl
      go_wp2
      rw [← hw2, ← hkb]
      clear hw2 hkb x0 x1 y0 y1
      go_quiet (fail)
      go_wp2
      go_roundw
      case rel => exact ⟨j + 1, hlt, by go_num, HX2.out.trans (ext_drewN' w2 _)⟩
      case measure => simp [intOf]; omega
    · go_wp2
      go_ret
      exact ⟨rfl, hX.out⟩
end Go.Proofs.YtplfimoeggecjaaGreatDoor.Sx
