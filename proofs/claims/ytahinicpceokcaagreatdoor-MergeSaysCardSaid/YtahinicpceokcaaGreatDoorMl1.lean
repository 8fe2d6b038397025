/-
  The law MergeSays: the program's three merges answer as the reference's.
-/
import Derived.Test.YtahinicpceokcaaGreatDoorRmc
namespace Go.Proofs.YtahinicpceokcaaGreatDoor.Jm
open Go Go.RowKit Go.Proofs.YtahinicpceokcaaGreatDoor.Sx Go.Proofs.YtahinicpceokcaaGreatDoor.Js Go.Proofs.YtahinicpceokcaaGreatDoor.Gr
set_option maxRecDepth 100000 in
set_option maxHeartbeats 4000000 in
theorem mergeSays_walk (s t : ByteArray) (w : World) (hm : MaxC w) (ht : Tab10 w) : Calls Tryz.prog 5 #[.string s, .string t] w fun e w' => e = .returned (.bool true) ∧ Ext w w' := by
  obtain ⟨T, hT⟩ : ∃ T, T = twoR (readS s.data.toList) (readS t.data.toList) := ⟨_, rfl⟩
  have P0 : Hid (∀ W, Ext w W → Calls Tryz.prog 17 #[.string s, .string t] W fun e w' => e = .returned (.tuple #[.string (bx (outR applyS T).1), .int .i64 (outR applyS T).2]) ∧ Ext W w') := fun W hx => by rw [hT]; exact mapply_any s t W (ht.ext hx)
  have R0 : Hid (∀ W, Ext w W → Calls Tryz.prog 18 #[.string s, .string t] W fun e w' => e = .returned (.tuple #[.string (bx (outR applyS T).1), .int .i64 (outR applyS T).2]) ∧ Ext W w') := fun W hx => by rw [hT]; exact rmapply_any s t W (hm.ext hx)
  obtain ⟨x0, hx0⟩ : ∃ x, x = bx (outR applyS T).1 := ⟨_, rfl⟩
  obtain ⟨y0, hy0⟩ : ∃ y, y = (outR applyS T).2 := ⟨_, rfl⟩
  rw [← hx0, ← hy0] at P0 R0
  have e0 : (x0.toList == x0.toList) = true := beq_self_eq_true _
  have P1 : Hid (∀ W, Ext w W → Calls Tryz.prog 19 #[.string s, .string t] W fun e w' => e = .returned (.tuple #[.string (bx (outR diffS T).1), .int .i64 (outR diffS T).2]) ∧ Ext W w') := fun W hx => by rw [hT]; exact mdiff_any s t W (ht.ext hx)
  have R1 : Hid (∀ W, Ext w W → Calls Tryz.prog 20 #[.string s, .string t] W fun e w' => e = .returned (.tuple #[.string (bx (outR diffS T).1), .int .i64 (outR diffS T).2]) ∧ Ext W w') := fun W hx => by rw [hT]; exact rmdiff_any s t W (hm.ext hx)
  obtain ⟨x1, hx1⟩ : ∃ x, x = bx (outR diffS T).1 := ⟨_, rfl⟩
  obtain ⟨y1, hy1⟩ : ∃ y, y = (outR diffS T).2 := ⟨_, rfl⟩
  rw [← hx1, ← hy1] at P1 R1
  have e1 : (x1.toList == x1.toList) = true := beq_self_eq_true _
  have P2 : Hid (∀ W, Ext w W → Calls Tryz.prog 21 #[.string s, .string t] W fun e w' => e = .returned (.tuple #[.string (bx (outR composeS T).1), .int .i64 (outR composeS T).2]) ∧ Ext W w') := fun W hx => by rw [hT]; exact mcompose_any s t W (ht.ext hx)
  have R2 : Hid (∀ W, Ext w W → Calls Tryz.prog 22 #[.string s, .string t] W fun e w' => e = .returned (.tuple #[.string (bx (outR composeS T).1), .int .i64 (outR composeS T).2]) ∧ Ext W w') := fun W hx => by rw [hT]; exact rmcompose_any s t W (hm.ext hx)
  obtain ⟨x2, hx2⟩ : ∃ x, x = bx (outR composeS T).1 := ⟨_, rfl⟩
  obtain ⟨y2, hy2⟩ : ∃ y, y = (outR composeS T).2 := ⟨_, rfl⟩
  rw [← hx2, ← hy2] at P2 R2
  have e2 : (x2.toList == x2.toList) = true := beq_self_eq_true _
  clear hx0 hx1 hx2 hy0 hy1 hy2 hT hm ht
  go_enter Tryz.func5, Tryz.ntmps5
  go_wp2_with fail
  refine Calls.mono (P0.out w (Below.refl _ _)) ?_
  rintro e w1 ⟨rfl, q1⟩
  have Q1 := Lib.hid q1
  clear q1
  go_wp2_with fail
  refine Calls.mono (R0.out w1 Q1.out) ?_
  rintro e w2 ⟨rfl, q2⟩
  have Q2 := Lib.hid (Q1.out.trans q2)
  clear q2
  go_wp2_with fail
  refine Calls.mono (P1.out w2 Q2.out) ?_
  rintro e w3 ⟨rfl, q3⟩
  have Q3 := Lib.hid (Q2.out.trans q3)
  clear q3
  go_wp2_with fail
  refine Calls.mono (R1.out w3 Q3.out) ?_
  rintro e w4 ⟨rfl, q4⟩
  have Q4 := Lib.hid (Q3.out.trans q4)
  clear q4
  go_wp2_with fail
  refine Calls.mono (P2.out w4 Q4.out) ?_
  rintro e w5 ⟨rfl, q5⟩
  have Q5 := Lib.hid (Q4.out.trans q5)
  clear q5
  go_wp2_with fail
  refine Calls.mono (R2.out w5 Q5.out) ?_
  rintro e w6 ⟨rfl, q6⟩
  have Q6 := Lib.hid (Q5.out.trans q6)
  clear q6
  go_wp2_with fail
  go_ret
  exact ⟨by simp, Q6.out⟩
end Go.Proofs.YtahinicpceokcaaGreatDoor.Jm
