/-
  Pointers: the library's Split and ReplaceAll as they are used; a row of strings, one of them changed; the reference's chr.
-/
import Derived.Test.YtpbbohinhbboaaaDoorPt1
import Derived.Test.YtpbbohinhbboaaaDoorKey
import Derived.Test.YtpbbohinhbboaaaDoorSpl
import Derived.Test.YtpbbohinhbboaaaDoorSrow
import Derived.Lib.Hide
namespace Go.Proofs.YtpbbohinhbboaaaDoor.Sx
open Go Go.RowKit Go.Proofs.YtpbbohinhbboaaaDoor.Pt

theorem heap_set {w : World} {g i : Nat} {cs : List Value} {t : TypeId} {z : Nat × Nat} {v : Value} (h : w.heap[g]? = some (.cells cs.toArray t z)) : (w.setCell ⟨g, i, none⟩ v).heap[g]? = some (.cells (cs.set i v).toArray t z) := by
  simp [World.setCell, Array.getElem?_modify, h]
/-- One of them changed. -/
theorem SRow.set {base : Nat} {w : World} {g n c : Nat} {xs : List ByteArray} (h : SRow base w (.slice (some ⟨g, 0, none⟩) n c) xs) {i : Nat} (hi : i < xs.length) (t : ByteArray) :
    SRow base (w.setCell ⟨g, i, none⟩ (.string t)) (.slice (some ⟨g, 0, none⟩) n c) (xs.set i t) ∧ w.grownBy (w.setCell ⟨g, i, none⟩ (.string t)) (some g) ∧ w.frozen? ⟨g, i, none⟩ = false ∧ w.cell? ⟨g, i, none⟩ = some (.string xs[i]) := by
  rcases h with ⟨hv, _⟩ | ⟨g', rest, hv, hb, hg, hm⟩
  · cases hv
  · injection hv with e1 e2 e3
    injection e1 with e1
    injection e1 with e1
    subst e1 e2 e3
    refine ⟨.inr ⟨g, rest, by simp, hb, ?_, by simpa using hm⟩, ⟨rfl, rfl, rfl, by simp, fun k hk hne => ?_⟩, free_of hg i, ?_⟩
    · rw [heap_set hg]
      congr 2
      simp only [strVals]
      rw [List.set_append_left _ _ (by simpa using hi), List.map_set]
    · exact Below.heap_setCell _ _ _ _ (fun e => hne (by simp at e; rw [e]))
    · rw [cell_of hg i, List.getElem?_toArray, List.getElem?_append_left (by rw [strVals_len]; exact hi)]
      simp [strVals, hi]

/-- All but the first. -/
theorem SRow.rest1 {base : Nat} {w : World} {g n c : Nat} {xs : List ByteArray} (h : SRow base w (.slice (some ⟨g, 0, none⟩) n c) xs) (h1 : 1 ≤ xs.length) :
    n = xs.length ∧ n ≤ c ∧ ∃ o2, sliced (some ⟨g, 0, none⟩) 1 n c 1 = .slice (some ⟨g, o2, none⟩) (n - 1) (c - 1) ∧ ∀ k (hk : k < xs.tail.length), w.cell? ⟨g, o2 + k, none⟩ = some (.string xs.tail[k]) := by
  obtain ⟨g', hA, _, _, hc, hn, hat⟩ := h.cells (by omega)
  injection hA with e
  injection e with e
  subst e
  refine ⟨hn, by omega, ?_⟩
  unfold sliced
  by_cases hc1 : c = 1
  · rw [if_pos hc1]
    exact ⟨0, rfl, fun k hk => by simp at hk; omega⟩
  · rw [if_neg hc1]
    refine ⟨1, rfl, fun k hk => ?_⟩
    have hk' : k + 1 < xs.length := by simpa using Nat.add_lt_of_lt_sub (by simpa using hk)
    have := hat (k + 1) hk'
    rw [Nat.zero_add] at this
    rw [Nat.add_comm 1 k, this, List.getElem_tail]
theorem indexByte_none {c : UInt8} : ∀ {l : List UInt8}, Lib.indexByte l c = -1 → c ∉ l
  | [], _ => by simp
  | b :: l, h => by
    unfold Lib.indexByte at h
    by_cases hb : (b == c) = true
    · rw [if_pos hb] at h; cases h
    · rw [if_neg hb] at h
      have hbc : ¬ c = b := fun e => hb (by simp [e])
      by_cases h1 : (Lib.indexByte l c == -1) = true
      · simp [hbc, indexByte_none (beq_iff_eq.1 h1)]
      · rw [if_neg h1] at h
        have h2 := Lib.indexByte_ge l c
        have h3 : Lib.indexByte l c ≠ -1 := fun e => h1 (by simp [e])
        omega
theorem indexByte_some {c : UInt8} : ∀ {l : List UInt8} {i : Nat}, Lib.indexByte l c = i → ∃ r, l = l.take i ++ c :: r ∧ c ∉ l.take i ∧ r = l.drop (i + 1)
  | [], i, h => by simp [Lib.indexByte] at h
  | b :: l, i, h => by
    unfold Lib.indexByte at h
    by_cases hb : (b == c) = true
    · rw [if_pos hb] at h
      obtain rfl : i = 0 := by omega
      have hbc : b = c := by simpa using hb
      subst hbc
      exact ⟨l, by simp, by simp, by simp⟩
    · rw [if_neg hb] at h
      have hbc : ¬ c = b := fun e => hb (by simp [e])
      by_cases h1 : (Lib.indexByte l c == -1) = true
      · rw [if_pos h1] at h; omega
      · rw [if_neg h1] at h
        cases i with
        | zero => have h2 := Lib.indexByte_ge l c; have h3 : Lib.indexByte l c ≠ -1 := fun e => h1 (by simp [e]); omega
        | succ i =>
          obtain ⟨r, h2, h3, h4⟩ := indexByte_some (c := c) (l := l) (i := i) (by omega)
          refine ⟨r, ?_, by simp [hbc, h3], by simpa using h4⟩
          rw [List.take_succ_cons, List.cons_append, ← h2]
theorem parts_segs (c : UInt8) : ∀ (n : Nat) (s : ByteArray), s.size ≤ n → (parts c s).map (·.data.toList) = segs c s.data.toList := by
  intro n
  induction n with
  | zero =>
    intro s hn
    rcases parts_ways c s with ⟨h, hp⟩ | ⟨i, _, hi, _⟩
    · rw [hp, segs_free (indexByte_none h)]; rfl
    · omega
  | succ n ih =>
    intro s hn
    rcases parts_ways c s with ⟨h, hp⟩ | ⟨i, h, hi, hp⟩
    · rw [hp, segs_free (indexByte_none h)]; rfl
    · obtain ⟨r, h1, h2, h3⟩ := indexByte_some h
      rw [hp, List.map_cons, ih _ (by simp; omega)]
      have e1 : (s.extract 0 i).data.toList = s.data.toList.take i := by simp [List.extract_eq_take_drop]
      have e2 : (s.extract (i + 1) s.size).data.toList = r := by
        rw [h3]
        simp [List.extract_eq_take_drop]
        rw [List.take_of_length_le]
        simp
      rw [e1, e2]
      conv => rhs; rw [h1]
      rw [segs_hit h2]

theorem parts_len (c : UInt8) : ∀ (n : Nat) (s : ByteArray), s.size ≤ n → (parts c s).length = Lib.countB s (oneS c) + 1 := by
  intro n
  induction n with
  | zero =>
    intro s hn
    rcases Lib.indexB_cases s (oneS c) with h | ⟨i, h, hi⟩
    · rw [parts_miss h, Lib.countB_miss _ _ h]; rfl
    · have : (oneS c).size = 1 := rfl
      omega
  | succ n ih =>
    intro s hn
    rcases Lib.indexB_cases s (oneS c) with h | ⟨i, h, hi⟩
    · rw [parts_miss h, Lib.countB_miss _ _ h]; rfl
    · have h1 : (oneS c).size = 1 := rfl
      rw [parts_hit h, Lib.countB_hit s (oneS c) i (Nat.le_refl 1) h, List.length_cons, ih _ (by simp; omega), h1]
      omega
theorem parts_le (c : UInt8) : ∀ (n : Nat) (s : ByteArray), s.size ≤ n → (parts c s).length ≤ s.size + 1 ∧ ∀ x ∈ parts c s, x.size ≤ s.size := by
  intro n
  induction n with
  | zero =>
    intro s hn
    rcases parts_ways c s with ⟨h, hp⟩ | ⟨i, _, hi, _⟩
    · rw [hp]; simp
    · omega
  | succ n ih =>
    intro s hn
    rcases parts_ways c s with ⟨h, hp⟩ | ⟨i, h, hi, hp⟩
    · rw [hp]; simp
    · obtain ⟨h1, h2⟩ := ih (s.extract (i + 1) s.size) (by simp; omega)
      rw [hp]
      refine ⟨by simp at h1 ⊢; omega, fun x hx => ?_⟩
      cases List.mem_cons.1 hx with
      | inl e => subst e; simp; omega
      | inr e => have := h2 x e; simp at this; omega
theorem split_any (s : ByteArray) (c : UInt8) (w : World) (hm : MaxC w) (hs : s.size ≤ 1048576) :
    Calls Tryd.prog 38 #[.string s, .string (oneS c)] w fun e w' => e = .returned (.slice (some ⟨w.heap.size, 0, none⟩) (parts c s).length (parts c s).length) ∧ SRow w.heap.size w' (.slice (some ⟨w.heap.size, 0, none⟩) (parts c s).length (parts c s).length) (parts c s) ∧ Ext w w' := by
  obtain ⟨m, hm⟩ := hm
  refine (Tryd.strings_Split s (oneS c) m w (by omega) hm (Nat.le_refl _)).mono fun e w' ⟨he, hw⟩ => ?_
  have hl : (parts c s).length = Lib.countB s (oneS c) + 1 := parts_len c s.size s (Nat.le_refl _)
  subst hw
  refine ⟨by rw [he, hl], .inr ⟨w.heap.size, [], by simp, Nat.le_refl _, ?_, ?_⟩, (Below.refl _ _).alloc (Nat.le_refl _) _⟩
  · rw [heap_new rfl]
    simp [strVals, parts, strT]
  · have : Lib.countB s (oneS c) ≤ s.size := Lib.countB_le (oneS c) (Nat.le_refl 1) s.size s (Nat.le_refl _)
    rw [hl]; unfold maxLen; simp; omega
theorem replace_any (s old new : ByteArray) (w : World) (hm : MaxC w) (hs : s.size ≤ 4194304) (h1 : 1 ≤ old.size) (hn : new.size ≤ 2) (hne : old.data.toList ≠ new.data.toList) :
    Calls Tryd.prog 39 #[.string s, .string old, .string new] w fun e w' => e = .returned (.string ⟨(rep old.data.toList new.data.toList s.data.toList).toArray⟩) ∧ Ext w w' := by
  obtain ⟨m, hm⟩ := hm
  have hc : Lib.countB s old ≤ s.size := Lib.countB_le old h1 s.size s (Nat.le_refl _)
  have hmul : Lib.countB s old * new.size ≤ 4194304 * 2 := Nat.mul_le_mul (by omega) hn
  refine (Tryd.strings_ReplaceAll s old new m w (by omega) hm h1 (by omega)).mono fun e w' ⟨he, hw⟩ => ⟨?_, hw⟩
  rw [he, replaceAll_rep hne]

set_option maxRecDepth 100000 in
theorem chr_any (c : UInt8) (w : World) : Calls Tryd.prog 40 #[.int .i64 (c.toNat : Int)] w fun e w' => e = .returned (.string (oneS c)) ∧ Ext w w' := by
  have hc : (c.toNat : Int) < 256 := by have := c.toNat_lt; omega
  have hcv : (convert 79 9 (.slice (some ⟨w.heap.size, 0, none⟩) 1 1)).run Tryd.prog (w.alloc (.cells #[.int .u8 (c.toNat : Int)] 5)) = .ok (.string (oneS c)) (w.alloc (.cells #[.int .u8 (c.toNat : Int)] 5)) :=
    run_convert_bytes_back _ _ _ 5 ⟨w.heap.size, 0, none⟩ 1 [c] Tryd.underlying79 Tryd.underlying5 Tryd.underlying9 fun j hj => by
      obtain rfl : j = 0 := by simpa using hj
      exact cell_of (heap_new rfl) 0
  have HX : Hid (Ext w (w.alloc (.cells #[.int .u8 (c.toNat : Int)] 5))) := (Below.refl _ _).alloc (Nat.le_refl _) _
  go_enter Tryd.func40, Tryd.ntmps40
  go_wp2
  go_ret
  exact ⟨rfl, HX.out⟩
end Go.Proofs.YtpbbohinhbboaaaDoor.Sx
