/-
  The reference's Name: strings.Contains at one byte, named, Name: Name returns just what the program's name.Check returns.
-/
import Derived.Test.YtfggodnfliciiaaDoorName1
import Derived.Test.YtfggodnfliciiaaDoorShelf
import Derived.Lib.IndexAny
namespace Go.Proofs.YtfggodnfliciiaaDoor.Sx
open Go Go.RowKit

/-- Is the byte among these? -/
def inB (t : ByteArray) (c : UInt8) : Bool := t.data.toList.contains c

theorem contains_one (t : ByteArray) (c : UInt8) (w : World) : Calls Tryd.prog 21 #[.string t, .string ⟨#[c]⟩] w fun e w' => e = .returned (.bool (inB t c)) ∧ w = w' :=
  (Tryd.strings_Contains_one t c w).mono fun _ _ ⟨h, k⟩ => ⟨by unfold inB; rw [h, Lib.contains_iff_indexByte], k.symm⟩

theorem extract_one (s : ByteArray) (j : Nat) (h : j < s.size) : s.extract j (j + 1) = ⟨#[s[j]]⟩ := by
  apply ByteArray.ext
  apply Array.ext'
  rw [get_list]
  have hl : j < s.data.toList.length := by simpa using h
  simp only [ByteArray.data_extract, Array.toList_extract, List.extract_eq_take_drop, Nat.add_sub_cancel_left]
  rw [List.drop_eq_getElem_cons hl]
  simp

theorem slice_one (s : ByteArray) (j : Nat) (h : j < s.size) (w : World) : (Instr.slice 9 (.string s) (some (.int .i64 (j : Int))) (some (.int .i64 ((j : Int) + 1))) none).run Tryd.prog w = .ok (.string ⟨#[s[j]]⟩) w := by
  rw [run_slice_string w 9 s .i64 .i64 j (j + 1) Tryd.underlying9 (by omega) (by omega) (by omega), ← extract_one s j h]
  rfl

def namedTo (e wi : UInt8 → Bool) (l : List UInt8) (k : Nat) : Prop := ∀ i (h : i < l.length), i < k → e l[i] = true ∨ (i ≠ 0 ∧ i ≠ l.length - 1 ∧ wi l[i] = true)

theorem namedTo_succ {e wi : UInt8 → Bool} {l : List UInt8} {k : Nat} (h : namedTo e wi l k) (hk : k < l.length) (hc : e l[k] = true ∨ (k ≠ 0 ∧ k ≠ l.length - 1 ∧ wi l[k] = true)) : namedTo e wi l (k + 1) := by
  intro i hi hlt
  rcases Nat.lt_or_ge i k with h1 | h1
  · exact h i hi h1
  · obtain rfl : i = k := by omega
    exact hc
theorem made_of_named {e wi : UInt8 → Bool} {l : List UInt8} {k : Nat} (h : namedTo e wi l k) (hk : l.length ≤ k) (h0 : 0 < l.length) : madeB e wi l = true := by
  unfold madeB
  rw [getD_lt _ _ h0, getD_lt _ _ (by omega)]
  simp only [Bool.and_eq_true, Bool.not_eq_true', List.isEmpty_eq_false_iff, List.all_eq_true, Bool.or_eq_true]
  refine ⟨⟨⟨fun e => by rw [e] at h0; simp at h0, ?_⟩, ?_⟩, fun x hx => ?_⟩
  · rcases h 0 h0 (by omega) with h1 | h1
    · exact h1
    · exact absurd rfl h1.1
  · rcases h (l.length - 1) (by omega) (by omega) with h1 | h1
    · exact h1
    · exact absurd rfl h1.2.1
  · obtain ⟨i, hi, rfl⟩ := List.mem_iff_getElem.1 hx
    rcases h i hi (by omega) with h1 | h1
    · exact .inl h1
    · exact .inr h1.2.2
theorem not_made {e wi : UInt8 → Bool} {l : List UInt8} {k : Nat} (hk : k < l.length) (h1 : e l[k] = false) (h2 : k = 0 ∨ k = l.length - 1 ∨ wi l[k] = false) : madeB e wi l = false := by
  unfold madeB
  rw [getD_lt _ _ (by omega), getD_lt _ _ (by omega)]
  rcases h2 with h2 | h2 | h2
  · subst h2; simp [h1]
  · subst h2; simp [h1]
  · rw [not_all hk (by rw [h1, h2]; rfl)]; simp

/-- 0 (a name) or 6 (none). -/
def namedI (E Wi s : ByteArray) : Int := if madeB (inB E) (inB Wi) s.data.toList then 0 else 6

set_option maxRecDepth 100000 in
set_option maxHeartbeats 400000 in
theorem named_any (s E Wi : ByteArray) (w : World) (hs : s.size ≤ maxLen) : Calls Tryd.prog 35 #[.string s, .string E, .string Wi] w
    fun e w' => e = .returned (.int .i64 (namedI E Wi s)) ∧ w = w' := by
  unfold maxLen at hs
  by_cases h0 : s.size = 0
  · have e1 := isEmpty_of_zero h0
    have hf := Lib.hid (made_zero (e := (inB E)) (wi := (inB Wi)) h0)
    clear h0
    go_enter Tryd.func35, Tryd.ntmps35
    go_wp2
    go_ret
    exact ⟨ret_int (by unfold namedI; rw [hf.out]; rfl), rfl⟩
  · have hp : 0 < s.size := by omega
    have e1 := isEmpty_of_pos hp
    have hl : Hid (s.data.toList.length = s.size) := by simp [Hid]
    have hend : ∀ b : Bool, Hid (madeB (inB E) (inB Wi) s.data.toList = b) → ∀ n : Int, n = (if b then 0 else 6) → Ending.returned (.int .i64 n) = .returned (.int .i64 (namedI E Wi s)) := fun b hb n hn => by unfold namedI; rw [hb.out, hn]
    have HE := Lib.hid hend
    clear hend
    go_enter Tryd.func35, Tryd.ntmps35
    go_wp2
    go_loop [7, 8, 13] (fun i c k => ∃ j : Nat, j ≤ s.size ∧ k = .int .i64 j ∧ Hid (namedTo (inB E) (inB Wi) s.data.toList j)) (fun _ _ k => s.size - (intOf k).toNat)
    case atStart => exact ⟨0, Nat.zero_le _, rfl, fun i hi h => by omega⟩
    case round =>
      obtain ⟨j, hj, rfl, hN⟩ := hrel
      by_cases hlt : j < s.size
      · have hlt' : j < s.data.toList.length := by rw [hl.out]; exact hlt
        have hx := fun wx => slice_one s j hlt wx
        have hgl := Lib.hid (get_list s j hlt)
        cases hc : inB E s[j] with
        | true =>
          have hS := Lib.hid (namedTo_succ hN.out hlt' (.inl (by rw [← hgl.out]; exact hc)))
          go_wp2_with (go_at_call 21; refine (contains_one _ _ _).mono ?_; rintro e w' ⟨rfl, rfl⟩)
          go_round
          case rel => exact ⟨j + 1, hlt, by go_num, hS⟩
          case measure => simp [intOf]; omega
        | false =>
          by_cases hz : j = 0 ∨ j = s.size - 1
          · have hB := not_made (e := (inB E)) (wi := (inB Wi)) hlt' (by rw [← hgl.out]; exact hc) (by rw [hl.out]; rcases hz with h | h; exact .inl h; exact .inr (.inl h))
            have hB' := Lib.hid hB
            clear hB
            have hcase : j = 0 ∨ (0 < j ∧ j + 1 = s.size) := by omega
            clear hz
            rcases hcase with hz | ⟨hz1, hz2⟩
            · have hb0 : ((j : Int) == 0) = true := beq_iff_eq.2 (by omega)
              clear hz
              go_wp2_with (go_at_call 21; refine (contains_one _ _ _).mono ?_; rintro e w' ⟨rfl, rfl⟩)
              go_ret
              exact ⟨HE.out false hB' _ rfl, rfl⟩
            · have hb0 : ((j : Int) == 0) = false := beq_eq_false_iff_ne.2 (by omega)
              have hb1 : ((j : Int) == (s.size : Int) - 1) = true := beq_iff_eq.2 (by omega)
              clear hz2
              go_wp2_with (go_at_call 21; refine (contains_one _ _ _).mono ?_; rintro e w' ⟨rfl, rfl⟩)
              go_ret
              exact ⟨HE.out false hB' _ rfl, rfl⟩
          · have hz1 : 0 < j := by omega
            have hz2 : j + 1 < s.size := by omega
            have hb0 : ((j : Int) == 0) = false := beq_eq_false_iff_ne.2 (by omega)
            have hb1 : ((j : Int) == (s.size : Int) - 1) = false := beq_eq_false_iff_ne.2 (by omega)
            cases hd : inB Wi s[j] with
            | true =>
              have hS := Lib.hid (namedTo_succ hN.out hlt' (.inr ⟨by omega, by rw [hl.out]; omega, by rw [← hgl.out]; exact hd⟩))
              clear hz
              go_wp2_with (go_at_call 21; refine (contains_one _ _ _).mono ?_; rintro e w' ⟨rfl, rfl⟩)
              go_round
              case rel => exact ⟨j + 1, hlt, by go_num, hS⟩
              case measure => simp [intOf]; omega
            | false =>
              have hB := Lib.hid (not_made (e := (inB E)) (wi := (inB Wi)) hlt' (by rw [← hgl.out]; exact hc) (.inr (.inr (by rw [← hgl.out]; exact hd))))
              clear hz
              go_wp2_with (go_at_call 21; refine (contains_one _ _ _).mono ?_; rintro e w' ⟨rfl, rfl⟩)
              go_ret
              exact ⟨HE.out false hB _ rfl, rfl⟩
      · have hB := Lib.hid (made_of_named hN.out (by rw [hl.out]; omega) (by rw [hl.out]; exact hp))
        go_wp2
        go_ret
        exact ⟨HE.out true hB _ rfl, rfl⟩

theorem low_str : inB ⟨#[97, 98, 99, 100, 101, 102, 103, 104, 105, 106, 107, 108, 109, 110, 111, 112, 113, 114, 115, 116, 117, 118, 119, 120, 121, 122, 48, 49, 50, 51, 52, 53, 54, 55, 56, 57]⟩ = lowB := by
  funext c
  have h : ∀ n : Fin 256, List.contains [97, 98, 99, 100, 101, 102, 103, 104, 105, 106, 107, 108, 109, 110, 111, 112, 113, 114, 115, 116, 117, 118, 119, 120, 121, 122, 48, 49, 50, 51, 52, 53, 54, 55, 56, 57] (UInt8.ofFin n) = lowB (UInt8.ofFin n) := by decide +kernel
  exact h c.toFin
theorem dash_str : inB ⟨#[45]⟩ = dashB := by
  funext c
  have h : ∀ n : Fin 256, List.contains [45] (UInt8.ofFin n) = dashB (UInt8.ofFin n) := by decide +kernel
  exact h c.toFin

set_option maxRecDepth 100000 in
theorem rname_any (s : ByteArray) (w : World) (hs : s.size ≤ maxLen) : Calls Tryd.prog 34 #[.string s] w fun e w' => e = .returned (.int .i64 (nameI s)) ∧ w = w' := by
  have hs' := hs
  unfold maxLen at hs'
  by_cases h : 63 < s.size
  · have hf : Hid (nameI s = 2) := by unfold Hid nameI judgeI; rw [if_pos h]
    go_enter Tryd.func34, Tryd.ntmps34
    go_wp2
    go_ret
    exact ⟨ret_int hf.out.symm, rfl⟩
  · have hf : Hid (nameI s = if madeB lowB dashB s.data.toList then 0 else 6) := by unfold Hid nameI judgeI; rw [if_neg h]
    go_enter Tryd.func34, Tryd.ntmps34
    go_wp2_with (go_at_call 35; refine (named_any _ _ _ _ hs).mono ?_; rintro e w' ⟨rfl, rfl⟩)
    go_ret
    refine ⟨ret_int ?_, rfl⟩
    unfold namedI
    rw [hf.out, low_str, dash_str]
end Go.Proofs.YtfggodnfliciiaaDoor.Sx
