/-
  slices.Delete of one string of a row of the call's own.
-/
import Derived.Test.YtpbbohinhbboaaaFfr
namespace Go.Proofs.Ytpbbohinhbboaaa.Sx
open Go Go.RowKit Go.Sort

theorem del_vals (xs : List ByteArray) (k : Nat) (_hk : k < xs.length) :
    ((Lib.strsOf (fun i => xs.getD i ByteArray.empty) xs.length).take k ++ (Lib.strsOf (fun i => xs.getD i ByteArray.empty) xs.length).drop (k + 1) ++ List.replicate (k + 1 - k) []).map encStr = strVals (xs.take k ++ xs.drop (k + 1)) ++ [.string ⟨#[]⟩] := by
  have e : (Lib.strsOf (fun i => xs.getD i ByteArray.empty) xs.length).map encStr = strVals xs := by
    apply List.ext_getElem
    · simp [Lib.strsOf, strVals]
    · intro i h1 h2
      have hi : i < xs.length := by simpa [strVals] using h2
      simp [Lib.strsOf, strVals, encStr, List.getD, hi]
  have e2 : k + 1 - k = 1 := by omega
  rw [List.map_append, List.map_append, List.map_take, List.map_drop, e, e2]
  simp [strVals, encStr]

theorem delete_row {base g n c k : Nat} {w : World} {xs : List ByteArray} (h : SRow base w (.slice (some ⟨g, 0, none⟩) n c) xs) (hn : n = xs.length) (hk : k < n) :
    Calls Try.prog 74 #[.slice (some ⟨g, 0, none⟩) n c, .int .i64 (k : Int), .int .i64 ((k : Int) + 1)] w fun e w' => e = .returned (.slice (some ⟨g, 0, none⟩) (n - 1) c) ∧ SRow base w' (.slice (some ⟨g, 0, none⟩) (n - 1) c) (xs.take k ++ xs.drop (k + 1)) ∧ w.grownBy w' (some g) := by
  rcases h with ⟨e, _⟩ | ⟨g', rest, hv, hb, hg, hm⟩
  · cases e
  · injection hv with e1 e2 e3
    injection e1 with e1
    injection e1 with e1 _
    subst e1 hn e3
    have hm' : xs.length + rest.length ≤ 9223372036854775807 := hm
    have hcell : ∀ i, i < xs.length → w.cell? ⟨g, 0 + i, none⟩ = some (.string (xs.getD i ByteArray.empty)) := fun i hi => by
      rw [Nat.zero_add, cell_of hg]
      have : i < (strVals xs).length := by rw [strVals_len]; exact hi
      rw [List.getElem?_toArray, List.getElem?_append_left this]
      simp [strVals, hi, List.getD]
    have hfree : ∀ j, j < xs.length → w.frozen? ⟨g, 0 + j, none⟩ = false := fun j _ => free_of hg (0 + j)
    refine (Try.slices_Delete_string_cells g 0 xs.length (xs.length + rest.length) k (k + 1) (fun i => xs.getD i ByteArray.empty) w (by omega) hm' (by omega) (by omega) hcell hfree).mono fun e w' ⟨he, q, hw⟩ => ?_
    have hl : k + 1 - k = 1 := by omega
    rw [hl] at he
    refine ⟨he, ?_, ?_⟩
    · have hlen : (xs.take k ++ xs.drop (k + 1)).length = xs.length - 1 := by simp; omega
      refine .inr ⟨g, .string ⟨#[]⟩ :: rest, ?_, hb, ?_, ?_⟩
      · rw [hlen]
        congr 1
        simp only [List.length_cons]
        omega
      · rw [hw, del_vals xs k hk]
        have hg2 : (w.drewN q).heap[g]? = some (.cells (([] : List Value) ++ strVals xs ++ rest).toArray strT (0, 0)) := hg
        have := heap_setCells (strVals (xs.take k ++ xs.drop (k + 1)) ++ [.string ⟨#[]⟩]) [] (strVals xs) rest (w.drewN q) (by rw [List.length_append, strVals_len, strVals_len, hlen]; simp; omega) hg2
        rw [List.length_nil] at this
        rw [this]
        simp
      · rw [hlen]
        simp only [List.length_cons]
        omega
    · rw [hw]
      have h1 : w.grownBy (w.drewN q) (some g) := ⟨rfl, rfl, rfl, Nat.le_refl _, fun _ _ _ => rfl⟩
      exact grown_trans h1 (grown_setCells _ _ _ _)
end Go.Proofs.Ytpbbohinhbboaaa.Sx
