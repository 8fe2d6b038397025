/-
  What strings.Split gives at a byte, in plain words; its contract.
-/
import Derived.Test.YtplfimoeggecjaaGreatDoorPt1
import Derived.Test.YtplfimoeggecjaaGreatDoorSpl
import Derived.Test.YtplfimoeggecjaaGreatDoorSlr
import Derived.Test.YtplfimoeggecjaaGreatDoorMxc
import Derived.Lib.Hide
namespace Go.Proofs.YtplfimoeggecjaaGreatDoor.Sx
open Go Go.RowKit Go.Proofs.YtplfimoeggecjaaGreatDoor.Pt

theorem indexByte_none {c : UInt8} : ∀ {l : List UInt8}, Lib.indexByte l c = -1 → c ∉ l
  | [], _ => by simp
  | b :: l, h => by
    unfold Lib.indexByte at h
    by_cases hb : (b == c) = true
    · rw [if_pos hb] at h; cases h
    · rw [if_neg hb] at h
      have hbc : ¬ c = b := fun e => hb (by simp [e])
      by_cases h1 : (Lib.indexByte l c == -1) = true
      · simp [hbc, indexByte_none (beq_iff_eq.1 h1)]
      · rw [if_neg h1] at h
        have h2 := Lib.indexByte_ge l c
        have h3 : Lib.indexByte l c ≠ -1 := fun e => h1 (by simp [e])
        omega
theorem indexByte_some {c : UInt8} : ∀ {l : List UInt8} {i : Nat}, Lib.indexByte l c = i → ∃ r, l = l.take i ++ c :: r ∧ c ∉ l.take i ∧ r = l.drop (i + 1)
  | [], i, h => by simp [Lib.indexByte] at h
  | b :: l, i, h => by
    unfold Lib.indexByte at h
    by_cases hb : (b == c) = true
    · rw [if_pos hb] at h
      obtain rfl : i = 0 := by omega
      have hbc : b = c := by simpa using hb
      subst hbc
      exact ⟨l, by simp, by simp, by simp⟩
    · rw [if_neg hb] at h
      have hbc : ¬ c = b := fun e => hb (by simp [e])
      by_cases h1 : (Lib.indexByte l c == -1) = true
      · rw [if_pos h1] at h; omega
      · rw [if_neg h1] at h
        cases i with
        | zero => have h2 := Lib.indexByte_ge l c; have h3 : Lib.indexByte l c ≠ -1 := fun e => h1 (by simp [e]); omega
        | succ i =>
          obtain ⟨r, h2, h3, h4⟩ := indexByte_some (c := c) (l := l) (i := i) (by omega)
          refine ⟨r, ?_, by simp [hbc, h3], by simpa using h4⟩
          rw [List.take_succ_cons, List.cons_append, ← h2]
theorem parts_segs (c : UInt8) : ∀ (n : Nat) (s : ByteArray), s.size ≤ n → (parts c s).map (·.data.toList) = segs c s.data.toList := by
  intro n
  induction n with
  | zero =>
    intro s hn
    rcases parts_ways c s with ⟨h, hp⟩ | ⟨i, _, hi, _⟩
    · rw [hp, segs_free (indexByte_none h)]; rfl
    · omega
  | succ n ih =>
    intro s hn
    rcases parts_ways c s with ⟨h, hp⟩ | ⟨i, h, hi, hp⟩
    · rw [hp, segs_free (indexByte_none h)]; rfl
    · obtain ⟨r, h1, h2, h3⟩ := indexByte_some h
      rw [hp, List.map_cons, ih _ (by simp; omega)]
      have e1 : (s.extract 0 i).data.toList = s.data.toList.take i := by simp [List.extract_eq_take_drop]
      have e2 : (s.extract (i + 1) s.size).data.toList = r := by
        rw [h3]
        simp [List.extract_eq_take_drop]
        rw [List.take_of_length_le]
        simp
      rw [e1, e2]
      conv => rhs; rw [h1]
      rw [segs_hit h2]

theorem parts_len (c : UInt8) : ∀ (n : Nat) (s : ByteArray), s.size ≤ n → (parts c s).length = Lib.countB s (oneS c) + 1 := by
  intro n
  induction n with
  | zero =>
    intro s hn
    rcases Lib.indexB_cases s (oneS c) with h | ⟨i, h, hi⟩
    · rw [parts_miss h, Lib.countB_miss _ _ h]; rfl
    · have : (oneS c).size = 1 := rfl
      omega
  | succ n ih =>
    intro s hn
    rcases Lib.indexB_cases s (oneS c) with h | ⟨i, h, hi⟩
    · rw [parts_miss h, Lib.countB_miss _ _ h]; rfl
    · have h1 : (oneS c).size = 1 := rfl
      rw [parts_hit h, Lib.countB_hit s (oneS c) i (Nat.le_refl 1) h, List.length_cons, ih _ (by simp; omega), h1]
      omega
theorem parts_le (c : UInt8) : ∀ (n : Nat) (s : ByteArray), s.size ≤ n → (parts c s).length ≤ s.size + 1 ∧ ∀ x ∈ parts c s, x.size ≤ s.size := by
  intro n
  induction n with
  | zero =>
    intro s hn
    rcases parts_ways c s with ⟨h, hp⟩ | ⟨i, _, hi, _⟩
    · rw [hp]; simp
    · omega
  | succ n ih =>
    intro s hn
    rcases parts_ways c s with ⟨h, hp⟩ | ⟨i, h, hi, hp⟩
    · rw [hp]; simp
    · obtain ⟨h1, h2⟩ := ih (s.extract (i + 1) s.size) (by simp; omega)
      rw [hp]
      refine ⟨by simp at h1 ⊢; omega, fun x hx => ?_⟩
      cases List.mem_cons.1 hx with
      | inl e => subst e; simp; omega
      | inr e => have := h2 x e; simp at this; omega
/-- strings.Split at a byte: a new row of the parts. -/
theorem spl_any (s : ByteArray) (c : UInt8) (w : World) (hm : MaxC w) (hs : s.size ≤ 1048575) :
    Calls Tryz.prog 41 #[.string s, .string (oneS c)] w fun e w' => e = .returned (.slice (some ⟨w.heap.size, 0, none⟩) (parts c s).length (parts c s).length) ∧ w'.heap[w.heap.size]? = some (.cells ((parts c s).map Value.string).toArray 9 (0, 0)) ∧ StrsAt w'.heap.size w' (.slice (some ⟨w.heap.size, 0, none⟩) (parts c s).length (parts c s).length) (parts c s) ∧ Ext w w' := by
  obtain ⟨m, hm⟩ := hm
  refine (Tryz.strings_Split s (oneS c) m w (by omega) hm (Nat.le_refl 1)).mono fun e w' ⟨he, hw⟩ => ?_
  have hl : (parts c s).length = Lib.countB s (oneS c) + 1 := parts_len c s.size s (Nat.le_refl _)
  have hle := parts_le c s.size s (Nat.le_refl _)
  have hh : w'.heap[w.heap.size]? = some (.cells ((parts c s).map Value.string).toArray 9 (0, 0)) := by rw [hw]; exact heap_new rfl
  refine ⟨by rw [he, hl], hh, ⟨by omega, _, _, rfl, Nat.le_refl _, by omega, fun i hi => ⟨w.heap.size, 0, [.string (parts c s)[i]], rfl, heap_lt hh, rfl, ⟨rfl, ?_⟩, fun j u hj => ?_⟩⟩, by rw [hw]; exact (Below.refl _ _).alloc (Nat.le_refl _) _⟩
  · have := hle.2 _ (List.getElem_mem hi)
    omega
  · have hj0 : j = 0 := by
      have := (List.getElem?_eq_some_iff.1 hj).1
      simpa using this
    subst hj0
    simp at hj
    subst hj
    rw [cell_of hh]
    simp [hi]
end Go.Proofs.YtplfimoeggecjaaGreatDoor.Sx
