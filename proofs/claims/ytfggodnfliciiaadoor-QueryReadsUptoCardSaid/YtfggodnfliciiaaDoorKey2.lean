/-
  strings.Split at a byte; the reference's NameKey: it answers as the program's name.CheckKey.
-/
import Derived.Test.YtfggodnfliciiaaDoorKey
import Derived.Test.YtfggodnfliciiaaDoorSlr
import Derived.BigGuardPart
namespace Go.Proofs.YtfggodnfliciiaaDoor.Sx
open Go Go.RowKit

theorem parts_length (c : UInt8) (s : ByteArray) : (parts c s).length = Lib.countB s (oneS c) + 1 := Lib.splitB_all (oneS c) (Nat.le_refl 1) 0 _ s rfl
theorem split_any (c : UInt8) (s : ByteArray) (w : World) (hm : MaxC w) (hs : s.size ≤ 1048576) :
    Calls Tryd.prog 33 #[.string s, .string (oneS c)] w fun e w' => e = .returned (.slice (some ⟨w.heap.size, 0, none⟩) (parts c s).length (parts c s).length) ∧ w'.heap[w.heap.size]? = some (.cells ((parts c s).map Value.string).toArray 9 (0, 0)) ∧ Ext w w' := by
  obtain ⟨m, hm⟩ := hm
  refine (Tryd.strings_Split s (oneS c) m w (by omega) hm (Nat.le_refl 1)).mono fun e w' ⟨he, hw⟩ => ⟨by rw [he, parts_length], by rw [hw]; exact heap_new rfl, by rw [hw]; exact (Below.refl _ _).alloc (Nat.le_refl _) _⟩

theorem parts_size (c : UInt8) (n : Nat) : ∀ s : ByteArray, s.size ≤ n → ∀ p ∈ parts c s, p.size ≤ s.size := by
  induction n with
  | zero =>
    intro s hs p hp
    rcases parts_ways c s with ⟨_, h⟩ | ⟨i, _, hi, _⟩
    · rw [h] at hp; simp at hp; rw [hp]; omega
    · omega
  | succ n ih =>
    intro s hs p hp
    rcases parts_ways c s with ⟨_, h⟩ | ⟨i, _, hi, h⟩
    · rw [h] at hp; simp at hp; rw [hp]; omega
    · rw [h] at hp
      simp at hp
      rcases hp with rfl | hp
      · simp; omega
      · have := ih (s.extract (i + 1) s.size) (by simp; omega) p hp
        simp at this
        omega

theorem nameI_part (p : ByteArray) : nameI p = 0 ↔ partB p = true := by
  unfold nameI judgeI partB
  by_cases h : 63 < p.size
  · rw [if_pos h]
    simp
    omega
  · rw [if_neg h]
    have : decide (p.size ≤ 63) = true := decide_eq_true (by omega)
    rw [this]
    cases madeB lowB dashB p.data.toList <;> simp
theorem lastB_slash {b : ByteArray} {j : Nat} (h : Lib.indexByte b.data.toList 47 = j) : lastB b = false := by
  obtain ⟨h1, _⟩ := Lib.indexByte_some h
  have hl := (List.getElem?_eq_some_iff.1 h1).1
  have hx := (List.getElem?_eq_some_iff.1 h1).2
  unfold lastB
  rw [not_made (k := j) hl (by rw [hx]; decide) (.inr (.inr (by rw [hx]; decide))), Bool.and_false]

/-- What the parts at '/' say of a key that is short enough. -/
theorem keyI_ways (s : ByteArray) (hs : ¬ 64 < s.size) : (parts 47 s = [s] ∧ keyI s = if lastB s then 0 else 6) ∨ (∃ a b, parts 47 s = [a, b] ∧ a.size ≤ s.size ∧ b.size ≤ s.size ∧ keyI s = if (parts 46 a).all partB && lastB b then 0 else 6) ∨ (2 < (parts 47 s).length ∧ keyI s = 6) := by
  have hj : ∀ b, judgeI s.size 64 b = if b then 0 else 6 := fun b => by unfold judgeI; rw [if_neg hs]
  rcases parts_ways 47 s with ⟨h, hp⟩ | ⟨i, h, hi, hp⟩
  · exact .inl ⟨hp, by unfold keyI; rw [keyB_miss h, hj]⟩
  · rcases parts_ways 47 (s.extract (i + 1) s.size) with ⟨_, hp2⟩ | ⟨j, h2, _, hp2⟩
    · refine .inr (.inl ⟨_, _, by rw [hp, hp2], by simp; omega, by simp, ?_⟩)
      unfold keyI
      rw [keyB_hit h, hj]
    · refine .inr (.inr ⟨?_, ?_⟩)
      · rw [hp, hp2]
        have := parts_length 47 ((s.extract (i + 1) s.size).extract (j + 1) (s.extract (i + 1) s.size).size)
        simp only [List.length_cons]
        omega
      · unfold keyI
        rw [keyB_hit h, lastB_slash h2, Bool.and_false, hj]
        rfl

def allTo (l : List ByteArray) (k : Nat) : Prop := ∀ i (h : i < l.length), i < k → partB l[i] = true
theorem allTo_all {l : List ByteArray} {k : Nat} (h : allTo l k) (hk : l.length ≤ k) : l.all partB = true := by
  rw [List.all_eq_true]
  intro x hx
  obtain ⟨i, hi, rfl⟩ := List.mem_iff_getElem.1 hx
  exact h i hi (by omega)
theorem not_allTo {l : List ByteArray} {k : Nat} (hk : k < l.length) (h : partB l[k] = false) : l.all partB = false := by
  rw [List.all_eq_false]
  exact ⟨l[k], List.getElem_mem hk, by rw [h]; simp⟩

set_option maxRecDepth 100000 in
set_option maxHeartbeats 2000000 in
theorem rkey_any (s : ByteArray) (w : World) (hs : s.size ≤ 1048576) (hm : MaxC w) : Calls Tryd.prog 25 #[.string s] w fun e w' => e = .returned (.int .i64 (keyI s)) ∧ Ext w w' := by
  by_cases h64 : 64 < s.size
  · have hf : Hid (keyI s = 2) := by unfold Hid keyI judgeI; rw [if_pos h64]
    go_enter Tryd.func25, Tryd.ntmps25
    go_wp2
    go_ret
    exact ⟨ret_int hf.out.symm, Below.refl _ _⟩
  rcases keyI_ways s h64 with ⟨hp, hk⟩ | ⟨a, b, hp, ha, hb, hk⟩ | ⟨hp, hk⟩
  · have CS : Hid (Calls Tryd.prog 33 #[.string s, .string (oneS 47)] w fun e w' => e = .returned (.slice (some ⟨w.heap.size, 0, none⟩) 1 1) ∧ w'.cell? ⟨w.heap.size, 0, none⟩ = some (.string s) ∧ Ext w w') :=
      (split_any 47 s w hm hs).mono fun e w' ⟨he, hc, hx⟩ => ⟨by rw [he, hp]; rfl, by rw [hp] at hc; exact cell_of hc 0, hx⟩
    have HK := Lib.hid hk
    clear hp hk
    by_cases hl : 63 < s.size
    · have hd : decide (63 < (s.size : Int)) = true := decide_eq_true (by omega)
      have hf : Hid (keyI s = 6) := by unfold Hid; rw [HK.out, lastB, decide_eq_false (by omega)]; rfl
      clear hl
      go_enter Tryd.func25, Tryd.ntmps25
      go_wp2_with (go_at_call 33; refine CS.out.mono ?_; rintro e w1 ⟨rfl, c0, hx1⟩)
      go_ret
      exact ⟨ret_int hf.out.symm, hx1⟩
    · have hd : decide (63 < (s.size : Int)) = false := decide_eq_false (by omega)
      have hf : Hid (keyI s = namedI ⟨#[97, 98, 99, 100, 101, 102, 103, 104, 105, 106, 107, 108, 109, 110, 111, 112, 113, 114, 115, 116, 117, 118, 119, 120, 121, 122, 48, 49, 50, 51, 52, 53, 54, 55, 56, 57, 65, 66, 67, 68, 69, 70, 71, 72, 73, 74, 75, 76, 77, 78, 79, 80, 81, 82, 83, 84, 85, 86, 87, 88, 89, 90]⟩ ⟨#[45, 95, 46]⟩ s) := by
        unfold Hid namedI
        rw [HK.out, lastB, decide_eq_true (by omega), high_str, word_str]
        rfl
      clear hl
      go_enter Tryd.func25, Tryd.ntmps25
      go_wp2_with (first | (go_at_call 33; refine CS.out.mono ?_; rintro e w1 ⟨rfl, c0, hx1⟩) | (go_at_call 35; refine (named_any _ _ _ _ (by unfold maxLen; omega)).mono ?_; rintro e w' ⟨rfl, rfl⟩))
      go_ret
      exact ⟨ret_int hf.out.symm, hx1⟩
  · have CS : Hid (Calls Tryd.prog 33 #[.string s, .string (oneS 47)] w fun e w' => e = .returned (.slice (some ⟨w.heap.size, 0, none⟩) 2 2) ∧ w'.heap[w.heap.size]? = some (.cells #[.string a, .string b] 9 (0, 0)) ∧ Ext w w') :=
      (split_any 47 s w hm hs).mono fun e w' ⟨he, hc, hx⟩ => ⟨by rw [he, hp]; rfl, by rw [hp] at hc; exact hc, hx⟩
    have HK := Lib.hid hk
    have HM := Lib.hid hm
    clear hp hk hm
    by_cases hl : 63 < b.size
    · have hd : decide (63 < (b.size : Int)) = true := decide_eq_true (by omega)
      have hf : Hid (keyI s = 6) := by unfold Hid; rw [HK.out, lastB, decide_eq_false (by omega), Bool.false_and, Bool.and_false]; rfl
      clear hl
      go_enter Tryd.func25, Tryd.ntmps25
      go_wp2_with (go_at_call 33; refine CS.out.mono ?_; rintro e w1 ⟨rfl, hh, hx1⟩; have c0 := cell_of hh 0; have c1 := cell_of hh 1; simp at c0 c1; clear hh)
      go_ret
      exact ⟨ret_int hf.out.symm, hx1⟩
    · have hd : decide (63 < (b.size : Int)) = false := decide_eq_false (by omega)
      have hf : Hid (∀ x, (parts 46 a).all partB = x → keyI s = if x then namedI ⟨#[97, 98, 99, 100, 101, 102, 103, 104, 105, 106, 107, 108, 109, 110, 111, 112, 113, 114, 115, 116, 117, 118, 119, 120, 121, 122, 48, 49, 50, 51, 52, 53, 54, 55, 56, 57, 65, 66, 67, 68, 69, 70, 71, 72, 73, 74, 75, 76, 77, 78, 79, 80, 81, 82, 83, 84, 85, 86, 87, 88, 89, 90]⟩ ⟨#[45, 95, 46]⟩ b else 6) := fun x hx => by
        rw [HK.out, hx]
        cases x
        · rfl
        · unfold namedI
          rw [lastB, decide_eq_true (by omega), high_str, word_str]
          rfl
      clear hl
      go_enter Tryd.func25, Tryd.ntmps25
      go_wp2_with fail
      refine CS.out.mono ?_
      rintro e w1 ⟨rfl, hh, hx1⟩
      have HH := Lib.hid hh
      have HX1 := Lib.hid hx1
      have c0 := cell_of hh 0
      have c1 := cell_of hh 1
      simp at c0 c1
      clear hh hx1
      go_wp2_with fail
      refine Calls.mono (split_any 46 a _ (HM.out.ext HX1.out) (by omega)) ?_
      rintro e w2 ⟨rfl, hh2, hx2⟩
      have HX2 := Lib.hid (HX1.out.trans hx2)
      have c1 := cell_of ((hx2.block _ (heap_lt HH.out)).trans HH.out) 1
      simp at c1
      have HC : Hid (∀ j (h : j < (parts 46 a).length), w2.cell? ⟨w1.heap.size, j, none⟩ = some (.string (parts 46 a)[j])) := fun j h => by rw [cell_of hh2]; simp [h]
      have HS : Hid (∀ j (h : j < (parts 46 a).length), (parts 46 a)[j].size ≤ maxLen) := fun j h => by
        have := parts_size 46 a.size a (Nat.le_refl _) _ (List.getElem_mem h)
        unfold maxLen
        omega
      have hln : (parts 46 a).length ≤ 1048577 := by
        rw [parts_length]
        have := Lib.countB_le (oneS 46) (Nat.le_refl 1) a.size a (Nat.le_refl _)
        omega
      clear hh2 hx2 c0
      go_wp2
      go_loopw [5, 32] (fun _ k wr => ∃ j : Nat, j ≤ (parts 46 a).length ∧ k = .int .i64 j ∧ Hid (allTo (parts 46 a) j) ∧ wr = w2) (fun _ k _ => (parts 46 a).length - (intOf k).toNat)
      case atStart => exact ⟨0, Nat.zero_le _, rfl, fun i hi h => by omega, rfl⟩
      case round =>
        obtain ⟨j, hj, rfl, hN, rfl⟩ := hrel
        by_cases hlt : j < (parts 46 a).length
        · have cj := HC.out j hlt
          have HSJ := Lib.hid (HS.out j hlt)
          have HY : Hid (partB (parts 46 a)[j] = true → allTo (parts 46 a) (j + 1)) := fun h i hi hi2 => by
            rcases Nat.lt_or_ge i j with h1 | h1
            · exact hN.out i hi h1
            · obtain rfl : i = j := by omega
              exact h
          have HNO : Hid (partB (parts 46 a)[j] = false → (parts 46 a).all partB = false) := fun h => not_allTo hlt h
          obtain ⟨x, hx⟩ : ∃ x, x = (parts 46 a)[j] := ⟨_, rfl⟩
          rw [← hx] at cj HSJ HY HNO
          clear hx
          by_cases h0 : nameI x = 0
          · have hb : (nameI x != 0) = false := by simp [h0]
            have HT := Lib.hid (HY.out ((nameI_part x).1 h0))
            clear h0
            go_wp2_with (go_at_call 34; refine (rname_any _ _ HSJ.out).mono ?_; rintro e w' ⟨rfl, rfl⟩)
            go_roundw
            case rel => exact ⟨j + 1, hlt, by go_num, HT, (by first | rfl | trivial)⟩
            case measure => simp [intOf]; omega
          · have hb : (nameI x != 0) = true := by simp [h0]
            have HT := Lib.hid (hf.out false (HNO.out (by rw [Bool.eq_false_iff]; exact fun h => h0 ((nameI_part x).2 h))))
            clear h0
            go_wp2_with (go_at_call 34; refine (rname_any _ _ HSJ.out).mono ?_; rintro e w' ⟨rfl, rfl⟩)
            go_ret
            exact ⟨ret_int HT.out.symm, HX2.out⟩
        · have HT := Lib.hid (hf.out true (allTo_all hN.out (by omega)))
          go_wp2_with (go_at_call 35; refine (named_any _ _ _ _ (by unfold maxLen; omega)).mono ?_; rintro e w' ⟨rfl, rfl⟩)
          go_ret
          exact ⟨ret_int HT.out.symm, HX2.out⟩
  · have CS : Hid (Calls Tryd.prog 33 #[.string s, .string (oneS 47)] w fun e w' => e = .returned (.slice (some ⟨w.heap.size, 0, none⟩) (parts 47 s).length (parts 47 s).length) ∧ Ext w w') :=
      (split_any 47 s w hm hs).mono fun e w' ⟨he, hc, hx⟩ => ⟨he, hx⟩
    have HK := Lib.hid hk
    have hd : decide (2 < ((parts 47 s).length : Int)) = true := decide_eq_true (by omega)
    clear hp hk
    go_enter Tryd.func25, Tryd.ntmps25
    go_wp2_with (go_at_call 33; refine CS.out.mono ?_; rintro e w1 ⟨rfl, hx1⟩)
    go_ret
    exact ⟨ret_int HK.out.symm, hx1⟩
end Go.Proofs.YtfggodnfliciiaaDoor.Sx
