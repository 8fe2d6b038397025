/-
  Words of 32 bits: how the walk spells them; turned to the right by the counts that SHA-256 uses (the program's and the reference's).
-/
import Derived.Test.YtplfimoeggecjaaGreatDoorBase
import Derived.Test.YtplfimoeggecjaaGreatDoorChecked
import Derived.Test.YtplfimoeggecjaaGreatDoorSh0
import Derived.Lib.Hide
import Derived.WalkLawsBesides
import Derived.Laws.BitsAllLaws
import Derived.Deep.QuietTactic
import Derived.BigQuiet
namespace Go.Proofs.YtplfimoeggecjaaGreatDoor.Sx
open Go Go.RowKit

theorem ofInt_w (x : W32) : BitVec.ofInt 32 (x.toNat : Int) = x := by simp
theorem wrap_w (x : W32) : IntKind.u32.wrap (x.toNat : Int) = (x.toNat : Int) := by rw [IntKind.wrap_u32']; have := x.isLt; omega
theorem w_or (x y : W32) : bits BinOp.or IntKind.u32 (x.toNat : Int) (y.toNat : Int) = ((x ||| y).toNat : Int) := by
  show IntKind.u32.wrap ((BitVec.ofInt 32 (x.toNat : Int) ||| BitVec.ofInt 32 (y.toNat : Int)).toNat : Int) = _
  rw [ofInt_w, ofInt_w, wrap_w]
theorem w_and (x y : W32) : bits BinOp.and IntKind.u32 (x.toNat : Int) (y.toNat : Int) = ((x &&& y).toNat : Int) := by
  show IntKind.u32.wrap ((BitVec.ofInt 32 (x.toNat : Int) &&& BitVec.ofInt 32 (y.toNat : Int)).toNat : Int) = _
  rw [ofInt_w, ofInt_w, wrap_w]
theorem w_xor (x y : W32) : bits BinOp.xor IntKind.u32 (x.toNat : Int) (y.toNat : Int) = ((x ^^^ y).toNat : Int) := by
  show IntKind.u32.wrap ((BitVec.ofInt 32 (x.toNat : Int) ^^^ BitVec.ofInt 32 (y.toNat : Int)).toNat : Int) = _
  rw [ofInt_w, ofInt_w, wrap_w]
theorem w_shr (x : W32) (k m : Nat) (h : m = 2 ^ k) : (x.toNat : Int) / (m : Int) = ((x >>> k).toNat : Int) := by
  subst h
  rw [BitVec.toNat_ushiftRight, Nat.shiftRight_eq_div_pow]
  simp
theorem w_shl (x : W32) (k m : Nat) (h : m = 2 ^ k) : (x.toNat : Int) * (m : Int) % 4294967296 = ((x <<< k).toNat : Int) := by
  subst h
  rw [BitVec.toNat_shiftLeft, Nat.shiftLeft_eq]
  simp
theorem w_add (x y : W32) : ((x.toNat : Int) + (y.toNat : Int)) % 4294967296 = ((x + y).toNat : Int) := by
  rw [BitVec.toNat_add]
  simp

set_option maxRecDepth 100000 in
theorem rotl_2 (x : W32) (w : World) : Calls Tryz.prog 189 #[.int .u32 (x.toNat : Int), .int .i64 (-2)] w fun e w' => e = .returned (.int .u32 ((rotr x 2).toNat : Int)) ∧ w = w' := by
  have hx : (x.toNat : Int) < 4294967296 := by have := x.isLt; omega
  have hk : bits BinOp.and IntKind.u64 (IntKind.u64.wrap (-2)) 31 = 30 := by decide +kernel
  have h1 : (x.toNat : Int) * (1073741824 : Int) % (4294967296 : Int) = ((x <<< 30).toNat : Int) := w_shl x 30 1073741824 rfl
  have H1 := Lib.hid h1
  have h2 : (x.toNat : Int) / (4 : Int) = ((x >>> 2).toNat : Int) := w_shr x 2 4 rfl
  have H2 := Lib.hid h2
  clear h1 h2
  go_enter Tryz.func189, Tryz.ntmps189
  go_wp2
  go_ret
  exact ⟨congrArg (fun z => Ending.returned (.int .u32 z)) (by rw [H1.out, H2.out, w_or, BitVec.or_comm]; rfl), rfl⟩
set_option maxRecDepth 100000 in
theorem turned_2 (x : W32) (w : World) : Calls Tryz.prog 162 #[.int .u32 (x.toNat : Int), .int .i64 2] w fun e w' => e = .returned (.int .u32 ((rotr x 2).toNat : Int)) ∧ w = w' := by
  go_enter Tryz.func162, Tryz.ntmps162
  go_wp2_with (go_at_call 189; refine (rotl_2 x _).mono ?_; rintro e w' ⟨rfl, rfl⟩)
  go_ret
  exact ⟨rfl, rfl⟩
set_option maxRecDepth 100000 in
theorem turn_2 (x : W32) (w : World) : Calls Tryz.prog 87 #[.int .u32 (x.toNat : Int), .int .i64 2] w fun e w' => e = .returned (.int .u32 ((rotr x 2).toNat : Int)) ∧ ∃ k, w' = w.drewN k := by
  have hx : (x.toNat : Int) < 4294967296 := by have := x.isLt; omega
  have h1 : (x.toNat : Int) * (1073741824 : Int) % (4294967296 : Int) = ((x <<< 30).toNat : Int) := w_shl x 30 1073741824 rfl
  have H1 := Lib.hid h1
  have h2 : (x.toNat : Int) / (4 : Int) = ((x >>> 2).toNat : Int) := w_shr x 2 4 rfl
  have H2 := Lib.hid h2
  clear h1 h2
  go_enter Tryz.func87, Tryz.ntmps87
  go_wp2_with fail
  go_quiet (fail)
  go_wp2
  go_ret
  exact ⟨congrArg (fun z => Ending.returned (.int .u32 z)) (by rw [H1.out, H2.out, w_or]; rfl), _, rfl⟩
set_option maxRecDepth 100000 in
theorem rotl_6 (x : W32) (w : World) : Calls Tryz.prog 189 #[.int .u32 (x.toNat : Int), .int .i64 (-6)] w fun e w' => e = .returned (.int .u32 ((rotr x 6).toNat : Int)) ∧ w = w' := by
  have hx : (x.toNat : Int) < 4294967296 := by have := x.isLt; omega
  have hk : bits BinOp.and IntKind.u64 (IntKind.u64.wrap (-6)) 31 = 26 := by decide +kernel
  have h1 : (x.toNat : Int) * (67108864 : Int) % (4294967296 : Int) = ((x <<< 26).toNat : Int) := w_shl x 26 67108864 rfl
  have H1 := Lib.hid h1
  have h2 : (x.toNat : Int) / (64 : Int) = ((x >>> 6).toNat : Int) := w_shr x 6 64 rfl
  have H2 := Lib.hid h2
  clear h1 h2
  go_enter Tryz.func189, Tryz.ntmps189
  go_wp2
  go_ret
  exact ⟨congrArg (fun z => Ending.returned (.int .u32 z)) (by rw [H1.out, H2.out, w_or, BitVec.or_comm]; rfl), rfl⟩
set_option maxRecDepth 100000 in
theorem turned_6 (x : W32) (w : World) : Calls Tryz.prog 162 #[.int .u32 (x.toNat : Int), .int .i64 6] w fun e w' => e = .returned (.int .u32 ((rotr x 6).toNat : Int)) ∧ w = w' := by
  go_enter Tryz.func162, Tryz.ntmps162
  go_wp2_with (go_at_call 189; refine (rotl_6 x _).mono ?_; rintro e w' ⟨rfl, rfl⟩)
  go_ret
  exact ⟨rfl, rfl⟩
set_option maxRecDepth 100000 in
theorem turn_6 (x : W32) (w : World) : Calls Tryz.prog 87 #[.int .u32 (x.toNat : Int), .int .i64 6] w fun e w' => e = .returned (.int .u32 ((rotr x 6).toNat : Int)) ∧ ∃ k, w' = w.drewN k := by
  have hx : (x.toNat : Int) < 4294967296 := by have := x.isLt; omega
  have h1 : (x.toNat : Int) * (67108864 : Int) % (4294967296 : Int) = ((x <<< 26).toNat : Int) := w_shl x 26 67108864 rfl
  have H1 := Lib.hid h1
  have h2 : (x.toNat : Int) / (64 : Int) = ((x >>> 6).toNat : Int) := w_shr x 6 64 rfl
  have H2 := Lib.hid h2
  clear h1 h2
  go_enter Tryz.func87, Tryz.ntmps87
  go_wp2_with fail
  go_quiet (fail)
  go_wp2
  go_ret
  exact ⟨congrArg (fun z => Ending.returned (.int .u32 z)) (by rw [H1.out, H2.out, w_or]; rfl), _, rfl⟩
set_option maxRecDepth 100000 in
theorem rotl_7 (x : W32) (w : World) : Calls Tryz.prog 189 #[.int .u32 (x.toNat : Int), .int .i64 (-7)] w fun e w' => e = .returned (.int .u32 ((rotr x 7).toNat : Int)) ∧ w = w' := by
  have hx : (x.toNat : Int) < 4294967296 := by have := x.isLt; omega
  have hk : bits BinOp.and IntKind.u64 (IntKind.u64.wrap (-7)) 31 = 25 := by decide +kernel
  have h1 : (x.toNat : Int) * (33554432 : Int) % (4294967296 : Int) = ((x <<< 25).toNat : Int) := w_shl x 25 33554432 rfl
  have H1 := Lib.hid h1
  have h2 : (x.toNat : Int) / (128 : Int) = ((x >>> 7).toNat : Int) := w_shr x 7 128 rfl
  have H2 := Lib.hid h2
  clear h1 h2
  go_enter Tryz.func189, Tryz.ntmps189
  go_wp2
  go_ret
  exact ⟨congrArg (fun z => Ending.returned (.int .u32 z)) (by rw [H1.out, H2.out, w_or, BitVec.or_comm]; rfl), rfl⟩
set_option maxRecDepth 100000 in
theorem turned_7 (x : W32) (w : World) : Calls Tryz.prog 162 #[.int .u32 (x.toNat : Int), .int .i64 7] w fun e w' => e = .returned (.int .u32 ((rotr x 7).toNat : Int)) ∧ w = w' := by
  go_enter Tryz.func162, Tryz.ntmps162
  go_wp2_with (go_at_call 189; refine (rotl_7 x _).mono ?_; rintro e w' ⟨rfl, rfl⟩)
  go_ret
  exact ⟨rfl, rfl⟩
set_option maxRecDepth 100000 in
theorem turn_7 (x : W32) (w : World) : Calls Tryz.prog 87 #[.int .u32 (x.toNat : Int), .int .i64 7] w fun e w' => e = .returned (.int .u32 ((rotr x 7).toNat : Int)) ∧ ∃ k, w' = w.drewN k := by
  have hx : (x.toNat : Int) < 4294967296 := by have := x.isLt; omega
  have h1 : (x.toNat : Int) * (33554432 : Int) % (4294967296 : Int) = ((x <<< 25).toNat : Int) := w_shl x 25 33554432 rfl
  have H1 := Lib.hid h1
  have h2 : (x.toNat : Int) / (128 : Int) = ((x >>> 7).toNat : Int) := w_shr x 7 128 rfl
  have H2 := Lib.hid h2
  clear h1 h2
  go_enter Tryz.func87, Tryz.ntmps87
  go_wp2_with fail
  go_quiet (fail)
  go_wp2
  go_ret
  exact ⟨congrArg (fun z => Ending.returned (.int .u32 z)) (by rw [H1.out, H2.out, w_or]; rfl), _, rfl⟩
set_option maxRecDepth 100000 in
theorem rotl_11 (x : W32) (w : World) : Calls Tryz.prog 189 #[.int .u32 (x.toNat : Int), .int .i64 (-11)] w fun e w' => e = .returned (.int .u32 ((rotr x 11).toNat : Int)) ∧ w = w' := by
  have hx : (x.toNat : Int) < 4294967296 := by have := x.isLt; omega
  have hk : bits BinOp.and IntKind.u64 (IntKind.u64.wrap (-11)) 31 = 21 := by decide +kernel
  have h1 : (x.toNat : Int) * (2097152 : Int) % (4294967296 : Int) = ((x <<< 21).toNat : Int) := w_shl x 21 2097152 rfl
  have H1 := Lib.hid h1
  have h2 : (x.toNat : Int) / (2048 : Int) = ((x >>> 11).toNat : Int) := w_shr x 11 2048 rfl
  have H2 := Lib.hid h2
  clear h1 h2
  go_enter Tryz.func189, Tryz.ntmps189
  go_wp2
  go_ret
  exact ⟨congrArg (fun z => Ending.returned (.int .u32 z)) (by rw [H1.out, H2.out, w_or, BitVec.or_comm]; rfl), rfl⟩
set_option maxRecDepth 100000 in
theorem turned_11 (x : W32) (w : World) : Calls Tryz.prog 162 #[.int .u32 (x.toNat : Int), .int .i64 11] w fun e w' => e = .returned (.int .u32 ((rotr x 11).toNat : Int)) ∧ w = w' := by
  go_enter Tryz.func162, Tryz.ntmps162
  go_wp2_with (go_at_call 189; refine (rotl_11 x _).mono ?_; rintro e w' ⟨rfl, rfl⟩)
  go_ret
  exact ⟨rfl, rfl⟩
set_option maxRecDepth 100000 in
theorem turn_11 (x : W32) (w : World) : Calls Tryz.prog 87 #[.int .u32 (x.toNat : Int), .int .i64 11] w fun e w' => e = .returned (.int .u32 ((rotr x 11).toNat : Int)) ∧ ∃ k, w' = w.drewN k := by
  have hx : (x.toNat : Int) < 4294967296 := by have := x.isLt; omega
  have h1 : (x.toNat : Int) * (2097152 : Int) % (4294967296 : Int) = ((x <<< 21).toNat : Int) := w_shl x 21 2097152 rfl
  have H1 := Lib.hid h1
  have h2 : (x.toNat : Int) / (2048 : Int) = ((x >>> 11).toNat : Int) := w_shr x 11 2048 rfl
  have H2 := Lib.hid h2
  clear h1 h2
  go_enter Tryz.func87, Tryz.ntmps87
  go_wp2_with fail
  go_quiet (fail)
  go_wp2
  go_ret
  exact ⟨congrArg (fun z => Ending.returned (.int .u32 z)) (by rw [H1.out, H2.out, w_or]; rfl), _, rfl⟩
set_option maxRecDepth 100000 in
theorem rotl_13 (x : W32) (w : World) : Calls Tryz.prog 189 #[.int .u32 (x.toNat : Int), .int .i64 (-13)] w fun e w' => e = .returned (.int .u32 ((rotr x 13).toNat : Int)) ∧ w = w' := by
  have hx : (x.toNat : Int) < 4294967296 := by have := x.isLt; omega
  have hk : bits BinOp.and IntKind.u64 (IntKind.u64.wrap (-13)) 31 = 19 := by decide +kernel
  have h1 : (x.toNat : Int) * (524288 : Int) % (4294967296 : Int) = ((x <<< 19).toNat : Int) := w_shl x 19 524288 rfl
  have H1 := Lib.hid h1
  have h2 : (x.toNat : Int) / (8192 : Int) = ((x >>> 13).toNat : Int) := w_shr x 13 8192 rfl
  have H2 := Lib.hid h2
  clear h1 h2
  go_enter Tryz.func189, Tryz.ntmps189
  go_wp2
  go_ret
  exact ⟨congrArg (fun z => Ending.returned (.int .u32 z)) (by rw [H1.out, H2.out, w_or, BitVec.or_comm]; rfl), rfl⟩
set_option maxRecDepth 100000 in
theorem turned_13 (x : W32) (w : World) : Calls Tryz.prog 162 #[.int .u32 (x.toNat : Int), .int .i64 13] w fun e w' => e = .returned (.int .u32 ((rotr x 13).toNat : Int)) ∧ w = w' := by
  go_enter Tryz.func162, Tryz.ntmps162
  go_wp2_with (go_at_call 189; refine (rotl_13 x _).mono ?_; rintro e w' ⟨rfl, rfl⟩)
  go_ret
  exact ⟨rfl, rfl⟩
set_option maxRecDepth 100000 in
theorem turn_13 (x : W32) (w : World) : Calls Tryz.prog 87 #[.int .u32 (x.toNat : Int), .int .i64 13] w fun e w' => e = .returned (.int .u32 ((rotr x 13).toNat : Int)) ∧ ∃ k, w' = w.drewN k := by
  have hx : (x.toNat : Int) < 4294967296 := by have := x.isLt; omega
  have h1 : (x.toNat : Int) * (524288 : Int) % (4294967296 : Int) = ((x <<< 19).toNat : Int) := w_shl x 19 524288 rfl
  have H1 := Lib.hid h1
  have h2 : (x.toNat : Int) / (8192 : Int) = ((x >>> 13).toNat : Int) := w_shr x 13 8192 rfl
  have H2 := Lib.hid h2
  clear h1 h2
  go_enter Tryz.func87, Tryz.ntmps87
  go_wp2_with fail
  go_quiet (fail)
  go_wp2
  go_ret
  exact ⟨congrArg (fun z => Ending.returned (.int .u32 z)) (by rw [H1.out, H2.out, w_or]; rfl), _, rfl⟩
set_option maxRecDepth 100000 in
theorem rotl_17 (x : W32) (w : World) : Calls Tryz.prog 189 #[.int .u32 (x.toNat : Int), .int .i64 (-17)] w fun e w' => e = .returned (.int .u32 ((rotr x 17).toNat : Int)) ∧ w = w' := by
  have hx : (x.toNat : Int) < 4294967296 := by have := x.isLt; omega
  have hk : bits BinOp.and IntKind.u64 (IntKind.u64.wrap (-17)) 31 = 15 := by decide +kernel
  have h1 : (x.toNat : Int) * (32768 : Int) % (4294967296 : Int) = ((x <<< 15).toNat : Int) := w_shl x 15 32768 rfl
  have H1 := Lib.hid h1
  have h2 : (x.toNat : Int) / (131072 : Int) = ((x >>> 17).toNat : Int) := w_shr x 17 131072 rfl
  have H2 := Lib.hid h2
  clear h1 h2
  go_enter Tryz.func189, Tryz.ntmps189
  go_wp2
  go_ret
  exact ⟨congrArg (fun z => Ending.returned (.int .u32 z)) (by rw [H1.out, H2.out, w_or, BitVec.or_comm]; rfl), rfl⟩
set_option maxRecDepth 100000 in
theorem turned_17 (x : W32) (w : World) : Calls Tryz.prog 162 #[.int .u32 (x.toNat : Int), .int .i64 17] w fun e w' => e = .returned (.int .u32 ((rotr x 17).toNat : Int)) ∧ w = w' := by
  go_enter Tryz.func162, Tryz.ntmps162
  go_wp2_with (go_at_call 189; refine (rotl_17 x _).mono ?_; rintro e w' ⟨rfl, rfl⟩)
  go_ret
  exact ⟨rfl, rfl⟩
set_option maxRecDepth 100000 in
theorem turn_17 (x : W32) (w : World) : Calls Tryz.prog 87 #[.int .u32 (x.toNat : Int), .int .i64 17] w fun e w' => e = .returned (.int .u32 ((rotr x 17).toNat : Int)) ∧ ∃ k, w' = w.drewN k := by
  have hx : (x.toNat : Int) < 4294967296 := by have := x.isLt; omega
  have h1 : (x.toNat : Int) * (32768 : Int) % (4294967296 : Int) = ((x <<< 15).toNat : Int) := w_shl x 15 32768 rfl
  have H1 := Lib.hid h1
  have h2 : (x.toNat : Int) / (131072 : Int) = ((x >>> 17).toNat : Int) := w_shr x 17 131072 rfl
  have H2 := Lib.hid h2
  clear h1 h2
  go_enter Tryz.func87, Tryz.ntmps87
  go_wp2_with fail
  go_quiet (fail)
  go_wp2
  go_ret
  exact ⟨congrArg (fun z => Ending.returned (.int .u32 z)) (by rw [H1.out, H2.out, w_or]; rfl), _, rfl⟩
set_option maxRecDepth 100000 in
theorem rotl_18 (x : W32) (w : World) : Calls Tryz.prog 189 #[.int .u32 (x.toNat : Int), .int .i64 (-18)] w fun e w' => e = .returned (.int .u32 ((rotr x 18).toNat : Int)) ∧ w = w' := by
  have hx : (x.toNat : Int) < 4294967296 := by have := x.isLt; omega
  have hk : bits BinOp.and IntKind.u64 (IntKind.u64.wrap (-18)) 31 = 14 := by decide +kernel
  have h1 : (x.toNat : Int) * (16384 : Int) % (4294967296 : Int) = ((x <<< 14).toNat : Int) := w_shl x 14 16384 rfl
  have H1 := Lib.hid h1
  have h2 : (x.toNat : Int) / (262144 : Int) = ((x >>> 18).toNat : Int) := w_shr x 18 262144 rfl
  have H2 := Lib.hid h2
  clear h1 h2
  go_enter Tryz.func189, Tryz.ntmps189
  go_wp2
  go_ret
  exact ⟨congrArg (fun z => Ending.returned (.int .u32 z)) (by rw [H1.out, H2.out, w_or, BitVec.or_comm]; rfl), rfl⟩
set_option maxRecDepth 100000 in
theorem turned_18 (x : W32) (w : World) : Calls Tryz.prog 162 #[.int .u32 (x.toNat : Int), .int .i64 18] w fun e w' => e = .returned (.int .u32 ((rotr x 18).toNat : Int)) ∧ w = w' := by
  go_enter Tryz.func162, Tryz.ntmps162
  go_wp2_with (go_at_call 189; refine (rotl_18 x _).mono ?_; rintro e w' ⟨rfl, rfl⟩)
  go_ret
  exact ⟨rfl, rfl⟩
set_option maxRecDepth 100000 in
theorem turn_18 (x : W32) (w : World) : Calls Tryz.prog 87 #[.int .u32 (x.toNat : Int), .int .i64 18] w fun e w' => e = .returned (.int .u32 ((rotr x 18).toNat : Int)) ∧ ∃ k, w' = w.drewN k := by
  have hx : (x.toNat : Int) < 4294967296 := by have := x.isLt; omega
  have h1 : (x.toNat : Int) * (16384 : Int) % (4294967296 : Int) = ((x <<< 14).toNat : Int) := w_shl x 14 16384 rfl
  have H1 := Lib.hid h1
  have h2 : (x.toNat : Int) / (262144 : Int) = ((x >>> 18).toNat : Int) := w_shr x 18 262144 rfl
  have H2 := Lib.hid h2
  clear h1 h2
  go_enter Tryz.func87, Tryz.ntmps87
  go_wp2_with fail
  go_quiet (fail)
  go_wp2
  go_ret
  exact ⟨congrArg (fun z => Ending.returned (.int .u32 z)) (by rw [H1.out, H2.out, w_or]; rfl), _, rfl⟩
set_option maxRecDepth 100000 in
theorem rotl_19 (x : W32) (w : World) : Calls Tryz.prog 189 #[.int .u32 (x.toNat : Int), .int .i64 (-19)] w fun e w' => e = .returned (.int .u32 ((rotr x 19).toNat : Int)) ∧ w = w' := by
  have hx : (x.toNat : Int) < 4294967296 := by have := x.isLt; omega
  have hk : bits BinOp.and IntKind.u64 (IntKind.u64.wrap (-19)) 31 = 13 := by decide +kernel
  have h1 : (x.toNat : Int) * (8192 : Int) % (4294967296 : Int) = ((x <<< 13).toNat : Int) := w_shl x 13 8192 rfl
  have H1 := Lib.hid h1
  have h2 : (x.toNat : Int) / (524288 : Int) = ((x >>> 19).toNat : Int) := w_shr x 19 524288 rfl
  have H2 := Lib.hid h2
  clear h1 h2
  go_enter Tryz.func189, Tryz.ntmps189
  go_wp2
  go_ret
  exact ⟨congrArg (fun z => Ending.returned (.int .u32 z)) (by rw [H1.out, H2.out, w_or, BitVec.or_comm]; rfl), rfl⟩
set_option maxRecDepth 100000 in
theorem turned_19 (x : W32) (w : World) : Calls Tryz.prog 162 #[.int .u32 (x.toNat : Int), .int .i64 19] w fun e w' => e = .returned (.int .u32 ((rotr x 19).toNat : Int)) ∧ w = w' := by
  go_enter Tryz.func162, Tryz.ntmps162
  go_wp2_with (go_at_call 189; refine (rotl_19 x _).mono ?_; rintro e w' ⟨rfl, rfl⟩)
  go_ret
  exact ⟨rfl, rfl⟩
set_option maxRecDepth 100000 in
theorem turn_19 (x : W32) (w : World) : Calls Tryz.prog 87 #[.int .u32 (x.toNat : Int), .int .i64 19] w fun e w' => e = .returned (.int .u32 ((rotr x 19).toNat : Int)) ∧ ∃ k, w' = w.drewN k := by
  have hx : (x.toNat : Int) < 4294967296 := by have := x.isLt; omega
  have h1 : (x.toNat : Int) * (8192 : Int) % (4294967296 : Int) = ((x <<< 13).toNat : Int) := w_shl x 13 8192 rfl
  have H1 := Lib.hid h1
  have h2 : (x.toNat : Int) / (524288 : Int) = ((x >>> 19).toNat : Int) := w_shr x 19 524288 rfl
  have H2 := Lib.hid h2
  clear h1 h2
  go_enter Tryz.func87, Tryz.ntmps87
  go_wp2_with fail
  go_quiet (fail)
  go_wp2
  go_ret
  exact ⟨congrArg (fun z => Ending.returned (.int .u32 z)) (by rw [H1.out, H2.out, w_or]; rfl), _, rfl⟩
set_option maxRecDepth 100000 in
theorem rotl_22 (x : W32) (w : World) : Calls Tryz.prog 189 #[.int .u32 (x.toNat : Int), .int .i64 (-22)] w fun e w' => e = .returned (.int .u32 ((rotr x 22).toNat : Int)) ∧ w = w' := by
  have hx : (x.toNat : Int) < 4294967296 := by have := x.isLt; omega
  have hk : bits BinOp.and IntKind.u64 (IntKind.u64.wrap (-22)) 31 = 10 := by decide +kernel
  have h1 : (x.toNat : Int) * (1024 : Int) % (4294967296 : Int) = ((x <<< 10).toNat : Int) := w_shl x 10 1024 rfl
  have H1 := Lib.hid h1
  have h2 : (x.toNat : Int) / (4194304 : Int) = ((x >>> 22).toNat : Int) := w_shr x 22 4194304 rfl
  have H2 := Lib.hid h2
  clear h1 h2
  go_enter Tryz.func189, Tryz.ntmps189
  go_wp2
  go_ret
  exact ⟨congrArg (fun z => Ending.returned (.int .u32 z)) (by rw [H1.out, H2.out, w_or, BitVec.or_comm]; rfl), rfl⟩
set_option maxRecDepth 100000 in
theorem turned_22 (x : W32) (w : World) : Calls Tryz.prog 162 #[.int .u32 (x.toNat : Int), .int .i64 22] w fun e w' => e = .returned (.int .u32 ((rotr x 22).toNat : Int)) ∧ w = w' := by
  go_enter Tryz.func162, Tryz.ntmps162
  go_wp2_with (go_at_call 189; refine (rotl_22 x _).mono ?_; rintro e w' ⟨rfl, rfl⟩)
  go_ret
  exact ⟨rfl, rfl⟩
set_option maxRecDepth 100000 in
theorem turn_22 (x : W32) (w : World) : Calls Tryz.prog 87 #[.int .u32 (x.toNat : Int), .int .i64 22] w fun e w' => e = .returned (.int .u32 ((rotr x 22).toNat : Int)) ∧ ∃ k, w' = w.drewN k := by
  have hx : (x.toNat : Int) < 4294967296 := by have := x.isLt; omega
  have h1 : (x.toNat : Int) * (1024 : Int) % (4294967296 : Int) = ((x <<< 10).toNat : Int) := w_shl x 10 1024 rfl
  have H1 := Lib.hid h1
  have h2 : (x.toNat : Int) / (4194304 : Int) = ((x >>> 22).toNat : Int) := w_shr x 22 4194304 rfl
  have H2 := Lib.hid h2
  clear h1 h2
  go_enter Tryz.func87, Tryz.ntmps87
  go_wp2_with fail
  go_quiet (fail)
  go_wp2
  go_ret
  exact ⟨congrArg (fun z => Ending.returned (.int .u32 z)) (by rw [H1.out, H2.out, w_or]; rfl), _, rfl⟩
set_option maxRecDepth 100000 in
theorem rotl_25 (x : W32) (w : World) : Calls Tryz.prog 189 #[.int .u32 (x.toNat : Int), .int .i64 (-25)] w fun e w' => e = .returned (.int .u32 ((rotr x 25).toNat : Int)) ∧ w = w' := by
  have hx : (x.toNat : Int) < 4294967296 := by have := x.isLt; omega
  have hk : bits BinOp.and IntKind.u64 (IntKind.u64.wrap (-25)) 31 = 7 := by decide +kernel
  have h1 : (x.toNat : Int) * (128 : Int) % (4294967296 : Int) = ((x <<< 7).toNat : Int) := w_shl x 7 128 rfl
  have H1 := Lib.hid h1
  have h2 : (x.toNat : Int) / (33554432 : Int) = ((x >>> 25).toNat : Int) := w_shr x 25 33554432 rfl
  have H2 := Lib.hid h2
  clear h1 h2
  go_enter Tryz.func189, Tryz.ntmps189
  go_wp2
  go_ret
  exact ⟨congrArg (fun z => Ending.returned (.int .u32 z)) (by rw [H1.out, H2.out, w_or, BitVec.or_comm]; rfl), rfl⟩
set_option maxRecDepth 100000 in
theorem turned_25 (x : W32) (w : World) : Calls Tryz.prog 162 #[.int .u32 (x.toNat : Int), .int .i64 25] w fun e w' => e = .returned (.int .u32 ((rotr x 25).toNat : Int)) ∧ w = w' := by
  go_enter Tryz.func162, Tryz.ntmps162
  go_wp2_with (go_at_call 189; refine (rotl_25 x _).mono ?_; rintro e w' ⟨rfl, rfl⟩)
  go_ret
  exact ⟨rfl, rfl⟩
set_option maxRecDepth 100000 in
theorem turn_25 (x : W32) (w : World) : Calls Tryz.prog 87 #[.int .u32 (x.toNat : Int), .int .i64 25] w fun e w' => e = .returned (.int .u32 ((rotr x 25).toNat : Int)) ∧ ∃ k, w' = w.drewN k := by
  have hx : (x.toNat : Int) < 4294967296 := by have := x.isLt; omega
  have h1 : (x.toNat : Int) * (128 : Int) % (4294967296 : Int) = ((x <<< 7).toNat : Int) := w_shl x 7 128 rfl
  have H1 := Lib.hid h1
  have h2 : (x.toNat : Int) / (33554432 : Int) = ((x >>> 25).toNat : Int) := w_shr x 25 33554432 rfl
  have H2 := Lib.hid h2
  clear h1 h2
  go_enter Tryz.func87, Tryz.ntmps87
  go_wp2_with fail
  go_quiet (fail)
  go_wp2
  go_ret
  exact ⟨congrArg (fun z => Ending.returned (.int .u32 z)) (by rw [H1.out, H2.out, w_or]; rfl), _, rfl⟩
def turns (n : Nat) : Prop := n = 2 ∨ n = 6 ∨ n = 7 ∨ n = 11 ∨ n = 13 ∨ n = 17 ∨ n = 18 ∨ n = 19 ∨ n = 22 ∨ n = 25
theorem turned_any (x : W32) (n : Nat) (w : World) (hn : turns n) : Calls Tryz.prog 162 #[.int .u32 (x.toNat : Int), .int .i64 (n : Int)] w fun e w' => e = .returned (.int .u32 ((rotr x n).toNat : Int)) ∧ w = w' := by
  rcases hn with rfl | rfl | rfl | rfl | rfl | rfl | rfl | rfl | rfl | rfl
  · exact turned_2 x w
  · exact turned_6 x w
  · exact turned_7 x w
  · exact turned_11 x w
  · exact turned_13 x w
  · exact turned_17 x w
  · exact turned_18 x w
  · exact turned_19 x w
  · exact turned_22 x w
  · exact turned_25 x w
theorem turn_any (x : W32) (n : Nat) (w : World) (hn : turns n) : Calls Tryz.prog 87 #[.int .u32 (x.toNat : Int), .int .i64 (n : Int)] w fun e w' => e = .returned (.int .u32 ((rotr x n).toNat : Int)) ∧ ∃ k, w' = w.drewN k := by
  rcases hn with rfl | rfl | rfl | rfl | rfl | rfl | rfl | rfl | rfl | rfl
  · exact turn_2 x w
  · exact turn_6 x w
  · exact turn_7 x w
  · exact turn_11 x w
  · exact turn_13 x w
  · exact turn_17 x w
  · exact turn_18 x w
  · exact turn_19 x w
  · exact turn_22 x w
  · exact turn_25 x w
end Go.Proofs.YtplfimoeggecjaaGreatDoor.Sx
