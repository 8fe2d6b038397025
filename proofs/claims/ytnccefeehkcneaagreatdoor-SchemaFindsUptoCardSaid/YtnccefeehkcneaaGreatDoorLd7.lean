/-
  A world for the witness of a row that lists the tables of math/bits, the powers of ten, the tables of unicode/utf8 and strconv's two errors: the settled one, all of them laid.
-/
import Derived.Test.YtnccefeehkcneaaGreatDoorCards
import Derived.Test.YtnccefeehkcneaaGreatDoorTie
import Derived.Test.YtnccefeehkcneaaGreatDoorFop
import Derived.Test.YtnccefeehkcneaaGreatDoorBase
import Derived.Test.YtnccefeehkcneaaGreatDoorErs
import Derived.Test.YtnccefeehkcneaaGreatDoorDit
import Derived.WalkKit
import Derived.ProofKit
import Derived.OpenShut
import Derived.Deep.DeepHandedRow
import Derived.Deep.DeepWitnessRowRef
import Derived.Lib.LaidTab
import Derived.Stop.LaidErr
namespace Go.Proofs.YtnccefeehkcneaaGreatDoor.Ld
open Go Go.ChangeShapes Go.WideShapes Go.ChangeAt Go.RowKit
def tab32 : List Int := [0, 1, 28, 2, 29, 14, 24, 3, 30, 22, 20, 15, 25, 17, 4, 8, 31, 27, 13, 23, 21, 19, 16, 7, 26, 12, 18, 6, 11, 5, 10, 9]
def tab64 : List Int := [0, 1, 56, 2, 57, 49, 28, 3, 61, 58, 42, 50, 38, 29, 17, 4, 62, 47, 59, 36, 45, 43, 51, 22, 53, 39, 33, 30, 24, 18, 12, 5, 63, 55, 48, 27, 60, 41, 37, 16, 46, 35, 44, 21, 52, 32, 23, 11, 54, 26, 40, 15, 34, 20, 31, 10, 25, 14, 19, 9, 13, 8, 7, 6]
def tabTen : List Int := [1, 10, 100, 1000, 10000, 100000, 1000000, 10000000, 100000000, 1000000000, 10000000000, 100000000000, 1000000000000, 10000000000000, 100000000000000, 1000000000000000, 10000000000000000, 100000000000000000, 1000000000000000000, 10000000000000000000]
def intsV (k : IntKind) (l : List Int) : Array Value := (l.map fun n => Value.int k n).toArray
def putCells (cs : Array Value) : Obj → Obj
  | .cells _ t frozen => .cells cs t frozen
  | o => o
def ranges : List Int := [128, 191, 160, 191, 128, 159, 144, 191, 128, 143, 0, 0, 0, 0, 0, 0, 0, 0, 0, 0, 0, 0, 0, 0, 0, 0, 0, 0, 0, 0, 0, 0]
def rangeText : ByteArray := ⟨#[118, 97, 108, 117, 101, 32, 111, 117, 116, 32, 111, 102, 32, 114, 97, 110, 103, 101]⟩
def syntaxText : ByteArray := ⟨#[105, 110, 118, 97, 108, 105, 100, 32, 115, 121, 110, 116, 97, 120]⟩
noncomputable def bareWorld (os : Os) : World := World.holding Tryz.prog os ⟨#[], #[], []⟩
noncomputable def tabWorld (os : Os) : World :=
  { bareWorld os with heap := (((((((bareWorld os).heap.modify 4 (putCells (intsV .u8 tab32))).modify 5 (putCells (intsV .u8 tab64))).modify 0 (putCells (intsV .u64 tabTen))).modify 3 (putCells (intsV .u8 ranges))).modify 2 (putCells (intsV .u8 (Go.Pinned.utf8FirstZ.map Int.ofNat)))).modify 7 (putCells #[.iface 280 (.pointer (some ⟨(bareWorld os).heap.size, 0, none⟩))])).modify 6 (putCells #[.iface 280 (.pointer (some ⟨(bareWorld os).heap.size + 1, 0, none⟩))]) }
noncomputable def laidWorld (os : Os) : World := ((tabWorld os).alloc (.cells #[.string rangeText] 282 (0, 0))).alloc (.cells #[.string syntaxText] 282 (0, 0))
def laids : List (String × DataW Unit) := [("math/bits.deBruijn32tab", Rows.laid_math_bits_deBruijn32tab), ("math/bits.deBruijn64tab", Rows.laid_math_bits_deBruijn64tab), ("internal/strconv.uint64pow10", Rows.laid_internal_strconv_uint64pow10), ("unicode/utf8.acceptRanges", Rows.laid_unicode_utf8_acceptRanges), ("strconv.ErrRange", Rows.laid_strconv_ErrRange), ("strconv.ErrSyntax", Rows.laid_strconv_ErrSyntax), ("unicode/utf8.first", Rows.laid_unicode_utf8_first)]
set_option maxRecDepth 100000 in
theorem laid_met (os : Os) (args : Array Value) : laidMet Tryz.prog laids ((laidWorld os).forCall (fun _ _ => 0) ⟨#[], args, []⟩).memory :=
  laidMet_of_run' 8 (by kernel_rfl) (by kernel_rfl)
theorem star : "*" ++ "errors.errorString" = "*errors.errorString" := by decide
theorem err_row (u : TypeId) (h : Tryz.prog.typeName? 3 u = some "*errors.errorString") : u = 280 :=
  typeName_ptr_named (nm := "errors.errorString") (by rw [star]; kernel_rfl) (by kernel_rfl) (by decide) u (by rw [star]; exact h)
set_option maxRecDepth 100000 in
theorem laid_facts {W : World} (h : laidMetH Tryz.prog laids W) : Sx.Tab10 W ∧ Sx.Errs W := by
  have e : laidMetH Tryz.prog laids W = laidMet Tryz.prog laids W := by kernel_rfl
  rw [e] at h
  have h3 := h.tail.tail
  have h5 := h3.tail.tail
  have h6 := h5.tail
  have ed : (Rows.laid_internal_strconv_uint64pow10 : DataW Unit) = Lib.tabData .u64 Lib.pow10Tab := by kernel_rfl
  rw [ed] at h3
  obtain ⟨a0, s0, hv0, -, -, -⟩ := laid_sentinel h5 (g := 7) (ti := 217) (te := 282) (ts := 9) (by kernel_rfl) (by kernel_rfl) Tryz.underlying217 err_row Tryz.underlying280 Tryz.underlying282 rfl rfl Tryz.underlying9 (by kernel_rfl) (by kernel_rfl)
  obtain ⟨a1, s1, hv1, -, -, -⟩ := laid_sentinel h6 (g := 6) (ti := 217) (te := 282) (ts := 9) (by kernel_rfl) (by kernel_rfl) Tryz.underlying217 err_row Tryz.underlying280 Tryz.underlying282 rfl rfl Tryz.underlying9 (by kernel_rfl) (by kernel_rfl)
  exact ⟨Lib.tabIs_of_head (g := 0) (t := 255) (e := 194) (n := 20) (by kernel_rfl) (by kernel_rfl) Tryz.underlying255 Tryz.underlying194 (by kernel_rfl) (by kernel_rfl) h3, ⟨_, _, hv1⟩, _, _, hv0⟩
end Go.Proofs.YtnccefeehkcneaaGreatDoor.Ld
