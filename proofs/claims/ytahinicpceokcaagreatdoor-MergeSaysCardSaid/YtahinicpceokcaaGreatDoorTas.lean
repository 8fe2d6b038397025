/-
  Type assertions of values, kind against kind (printed by gen/tas.py).
-/
import Derived.Test.YtahinicpceokcaaGreatDoorJm0
namespace Go.Proofs.YtahinicpceokcaaGreatDoor.Jm
open Go Go.RowKit
theorem ta_nil_bool (w : World) : (Instr.typeAssert .nilIface valT 4 true).run Tryz.prog w = .ok (.tuple #[.bool false, .bool false]) w := by kernel_rfl
theorem ta_nil_int (w : World) : (Instr.typeAssert .nilIface valT 2 true).run Tryz.prog w = .ok (.tuple #[.int .i64 0, .bool false]) w := by kernel_rfl
theorem ta_nil_str (w : World) : (Instr.typeAssert .nilIface valT 9 true).run Tryz.prog w = .ok (.tuple #[.string ⟨#[]⟩, .bool false]) w := by kernel_rfl
theorem ta_nil_vals (w : World) : (Instr.typeAssert .nilIface valT valsT true).run Tryz.prog w = .ok (.tuple #[.slice none 0 0, .bool false]) w := by kernel_rfl
theorem ta_nil_obj (w : World) : (Instr.typeAssert .nilIface valT objPT true).run Tryz.prog w = .ok (.tuple #[.pointer none, .bool false]) w := by kernel_rfl
theorem ta_bool_bool (x : Value) (w : World) : (Instr.typeAssert (.iface 4 x) valT 4 true).run Tryz.prog w = .ok (.tuple #[x, .bool true]) w := by kernel_rfl
theorem ta_bool_str (x : Value) (w : World) : (Instr.typeAssert (.iface 4 x) valT 9 true).run Tryz.prog w = .ok (.tuple #[.string ⟨#[]⟩, .bool false]) w := by kernel_rfl
theorem ta_bool_vals (x : Value) (w : World) : (Instr.typeAssert (.iface 4 x) valT valsT true).run Tryz.prog w = .ok (.tuple #[.slice none 0 0, .bool false]) w := by kernel_rfl
theorem ta_bool_obj (x : Value) (w : World) : (Instr.typeAssert (.iface 4 x) valT objPT true).run Tryz.prog w = .ok (.tuple #[.pointer none, .bool false]) w := by kernel_rfl
theorem ta_int_bool (x : Value) (w : World) : (Instr.typeAssert (.iface 2 x) valT 4 true).run Tryz.prog w = .ok (.tuple #[.bool false, .bool false]) w := by kernel_rfl
theorem ta_int_int (x : Value) (w : World) : (Instr.typeAssert (.iface 2 x) valT 2 true).run Tryz.prog w = .ok (.tuple #[x, .bool true]) w := by kernel_rfl
theorem ta_int_str (x : Value) (w : World) : (Instr.typeAssert (.iface 2 x) valT 9 true).run Tryz.prog w = .ok (.tuple #[.string ⟨#[]⟩, .bool false]) w := by kernel_rfl
theorem ta_int_vals (x : Value) (w : World) : (Instr.typeAssert (.iface 2 x) valT valsT true).run Tryz.prog w = .ok (.tuple #[.slice none 0 0, .bool false]) w := by kernel_rfl
theorem ta_int_obj (x : Value) (w : World) : (Instr.typeAssert (.iface 2 x) valT objPT true).run Tryz.prog w = .ok (.tuple #[.pointer none, .bool false]) w := by kernel_rfl
theorem ta_str_bool (x : Value) (w : World) : (Instr.typeAssert (.iface 9 x) valT 4 true).run Tryz.prog w = .ok (.tuple #[.bool false, .bool false]) w := by kernel_rfl
theorem ta_str_int (x : Value) (w : World) : (Instr.typeAssert (.iface 9 x) valT 2 true).run Tryz.prog w = .ok (.tuple #[.int .i64 0, .bool false]) w := by kernel_rfl
theorem ta_str_str (x : Value) (w : World) : (Instr.typeAssert (.iface 9 x) valT 9 true).run Tryz.prog w = .ok (.tuple #[x, .bool true]) w := by kernel_rfl
theorem ta_str_vals (x : Value) (w : World) : (Instr.typeAssert (.iface 9 x) valT valsT true).run Tryz.prog w = .ok (.tuple #[.slice none 0 0, .bool false]) w := by kernel_rfl
theorem ta_str_obj (x : Value) (w : World) : (Instr.typeAssert (.iface 9 x) valT objPT true).run Tryz.prog w = .ok (.tuple #[.pointer none, .bool false]) w := by kernel_rfl
theorem ta_vals_bool (x : Value) (w : World) : (Instr.typeAssert (.iface valsT x) valT 4 true).run Tryz.prog w = .ok (.tuple #[.bool false, .bool false]) w := by kernel_rfl
theorem ta_vals_int (x : Value) (w : World) : (Instr.typeAssert (.iface valsT x) valT 2 true).run Tryz.prog w = .ok (.tuple #[.int .i64 0, .bool false]) w := by kernel_rfl
theorem ta_vals_str (x : Value) (w : World) : (Instr.typeAssert (.iface valsT x) valT 9 true).run Tryz.prog w = .ok (.tuple #[.string ⟨#[]⟩, .bool false]) w := by kernel_rfl
theorem ta_vals_vals (x : Value) (w : World) : (Instr.typeAssert (.iface valsT x) valT valsT true).run Tryz.prog w = .ok (.tuple #[x, .bool true]) w := by kernel_rfl
theorem ta_vals_obj (x : Value) (w : World) : (Instr.typeAssert (.iface valsT x) valT objPT true).run Tryz.prog w = .ok (.tuple #[.pointer none, .bool false]) w := by kernel_rfl
theorem ta_obj_bool (x : Value) (w : World) : (Instr.typeAssert (.iface objPT x) valT 4 true).run Tryz.prog w = .ok (.tuple #[.bool false, .bool false]) w := by kernel_rfl
theorem ta_obj_int (x : Value) (w : World) : (Instr.typeAssert (.iface objPT x) valT 2 true).run Tryz.prog w = .ok (.tuple #[.int .i64 0, .bool false]) w := by kernel_rfl
theorem ta_obj_str (x : Value) (w : World) : (Instr.typeAssert (.iface objPT x) valT 9 true).run Tryz.prog w = .ok (.tuple #[.string ⟨#[]⟩, .bool false]) w := by kernel_rfl
theorem ta_obj_vals (x : Value) (w : World) : (Instr.typeAssert (.iface objPT x) valT valsT true).run Tryz.prog w = .ok (.tuple #[.slice none 0 0, .bool false]) w := by kernel_rfl
theorem ta_obj_obj (x : Value) (w : World) : (Instr.typeAssert (.iface objPT x) valT objPT true).run Tryz.prog w = .ok (.tuple #[x, .bool true]) w := by kernel_rfl
end Go.Proofs.YtahinicpceokcaaGreatDoor.Jm
