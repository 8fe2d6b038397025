/-
  A user, checked by the program (token.CheckUser) and by the reference (TokenUser): both answer the same.
-/
import Derived.Test.YtplfimoeggecjaaGreatDoorCor
import Derived.BigGuardPart
namespace Go.Proofs.YtplfimoeggecjaaGreatDoor.Sx
open Go Go.RowKit

structure User where
  name : ByteArray
  groups : List ByteArray

/-- A name of at most 20 bytes. -/
def shortI (s : ByteArray) : Int := say (nameI s) (if 20 < s.size then 2 else 0)
def groupI (l : List ByteArray) (j : Nat) (s : ByteArray) : Int := say (shortI s) (if hasS (l.take j) s then 5 else 0)
def groupsTo (l : List ByteArray) : Nat → Int
  | 0 => 0
  | k + 1 => say (groupsTo l k) (groupI l k (l.getD k ByteArray.empty))
def userI (u : User) : Int := say (say (shortI u.name) (if 6 < u.groups.length then 2 else 0)) (groupsTo u.groups u.groups.length)

theorem groupsTo_go {l : List ByteArray} {j : Nat} (h : groupsTo l j = 0) (hj : j < l.length) (he : groupI l j l[j] = 0) : groupsTo l (j + 1) = 0 := by
  simp only [groupsTo, h, List.getD, hj, List.getElem?_eq_getElem, Option.getD_some, he, say_none]
theorem groupsTo_stop {l : List ByteArray} {j : Nat} {e : Int} (h : groupsTo l j = 0) (hj : j < l.length) (he : groupI l j l[j] = e) (h0 : e ≠ 0) : ∀ n, j < n → groupsTo l n = e
  | 0, hn => absurd hn (by omega)
  | n + 1, hn => by
    rcases Nat.lt_or_ge j n with h1 | h1
    · rw [groupsTo, groupsTo_stop h hj he h0 n h1, say_ne h0]
    · obtain rfl : j = n := by omega
      simp only [groupsTo, h, List.getD, hj, List.getElem?_eq_getElem, Option.getD_some, he, say_zero]
theorem groupI_name {l : List ByteArray} {j : Nat} {s : ByteArray} {n : Int} (h : shortI s = n) (h0 : n ≠ 0) : groupI l j s = n := by
  unfold groupI; rw [h, say_ne h0]
theorem groupI_has {l : List ByteArray} {j : Nat} {s : ByteArray} {b : Bool} (h : shortI s = 0) (hb : hasS (l.take j) s = b) : groupI l j s = if b then 5 else 0 := by
  unfold groupI; rw [h, hb, say_zero]
theorem shortI_name {s : ByteArray} {n : Int} (h : nameI s = n) (h0 : n ≠ 0) : shortI s = n := by
  unfold shortI; rw [h, say_ne h0]
theorem shortI_long {s : ByteArray} (h : nameI s = 0) (h1 : 20 < s.size) : shortI s = 2 := by
  unfold shortI; rw [h, if_pos h1, say_zero]
theorem shortI_good {s : ByteArray} (h : nameI s = 0) (h1 : ¬ 20 < s.size) : shortI s = 0 := by
  unfold shortI; rw [h, if_neg h1, say_zero]
theorem userI_name {u : User} {n : Int} (h : shortI u.name = n) (h0 : n ≠ 0) : userI u = n := by
  unfold userI; rw [h, say_ne h0, say_ne h0]
theorem userI_many {u : User} (h : shortI u.name = 0) (h1 : 6 < u.groups.length) : userI u = 2 := by
  unfold userI; rw [h, if_pos h1, say_zero, say_ne (by decide)]
theorem userI_few {u : User} (h : shortI u.name = 0) (h1 : ¬ 6 < u.groups.length) : userI u = groupsTo u.groups u.groups.length := by
  unfold userI; rw [h, if_neg h1, say_zero, say_zero]

set_option maxRecDepth 100000 in
theorem short_any (s : ByteArray) (w : World) (hs : s.size ≤ 1048576) : Calls Tryz.prog 57 #[.string s] w fun e w' => e = .returned (.int .i64 (shortI s)) ∧ w = w' := by
  by_cases h0 : nameI s = 0
  · have hb : (nameI s != 0) = false := by simp [h0]
    by_cases h2 : 20 < s.size
    · have hf := Lib.hid (shortI_long h0 h2)
      clear h0
      go_enter Tryz.func57, Tryz.ntmps57
      go_wp2_with (go_at_call 69; refine (check_any _ _ (by unfold maxLen; omega)).mono ?_; rintro e w' ⟨rfl, rfl⟩)
      go_ret
      exact ⟨ret_int hf.out.symm, rfl⟩
    · have hf := Lib.hid (shortI_good h0 h2)
      clear h0
      go_enter Tryz.func57, Tryz.ntmps57
      go_wp2_with (go_at_call 69; refine (check_any _ _ (by unfold maxLen; omega)).mono ?_; rintro e w' ⟨rfl, rfl⟩)
      go_ret
      exact ⟨ret_int hf.out.symm, rfl⟩
  · have hb : (nameI s != 0) = true := by simp [h0]
    have hf := Lib.hid (shortI_name rfl h0)
    clear h0
    go_enter Tryz.func57, Tryz.ntmps57
    go_wp2_with (go_at_call 69; refine (check_any _ _ (by unfold maxLen; omega)).mono ?_; rintro e w' ⟨rfl, rfl⟩)
    go_ret
    exact ⟨ret_int hf.out.symm, rfl⟩

/-- What both walks need of the user's box. -/
def UserIn (B : Nat) (w0 : World) (A : Option Addr) (c : Nat) (u : User) : Prop :=
  StrsAt B w0 (.slice A u.groups.length c) u.groups
theorem UserIn.elem {B : Nat} {w0 : World} {A : Option Addr} {c : Nat} {u : User} (h : UserIn B w0 A c u) {j : Nat} (hj : j < u.groups.length) :
    ∃ b off, A = some ⟨b, off, none⟩ ∧ w0.cell? ⟨b, off + j, none⟩ = some (.string u.groups[j]) ∧ u.groups[j].size ≤ 1048576 ∧ StrsR B w0 (.slice A j c) (u.groups.take j) := by
  have ht := (SlAt.take h (Nat.le_of_lt hj))
  obtain ⟨b, off, c', hv, _, hc⟩ := (StrsAt.toR h).cells (by omega)
  injection hv with h1 h2 h3
  subst h1 h3
  exact ⟨b, off, rfl, (hc j hj).1, (hc j hj).2, StrsAt.toR ht⟩

set_option maxRecDepth 100000 in
set_option maxHeartbeats 1000000 in
theorem user_any (B : Nat) (v : Value) (u : User) (w : World) (hB : B ≤ w.heap.size) (h1 : u.name.size ≤ 1048576) (h : StrsAt B w v u.groups) : Calls Tryz.prog 22 #[.agg #[.string u.name, v]] w (CheckPost w (userI u)) := by
  have hn := h.1
  have HV := Lib.hid h
  obtain ⟨_, A, c, rfl, hc1, hc2, _⟩ := h
  go_enter Tryz.func22, Tryz.ntmps22
  go_wp2_with fail
  obtain ⟨w0, hw0⟩ : ∃ w0, w0 = w.alloc (.cells #[.string u.name, .slice A u.groups.length c] 45) := ⟨_, rfl⟩
  have hx0 : Ext w w0 := by rw [hw0]; exact (Below.refl _ _).alloc (Nat.le_refl _) _
  have hg0 : w0.heap[w.heap.size]? = some (.cells #[.string u.name, .slice A u.groups.length c] 45 (0, 0)) := by rw [hw0]; exact heap_new rfl
  obtain ⟨g0, g1⟩ := cells2 hg0
  rw [← hw0]
  have HX0 := Lib.hid hx0
  have HS : Hid (UserIn B w0 A c u) := StrsAt.below HV.out (hx0.mono hB)
  clear hw0 hg0 hx0
  refine Calls.mono (short_any _ _ h1) ?_
  rintro e w' ⟨rfl, rfl⟩
  by_cases h0 : shortI u.name = 0
  · have hb : (shortI u.name != 0) = false := by simp [h0]
    by_cases h6 : 6 < u.groups.length
    · have hf := Lib.hid (userI_many h0 h6)
      clear h0
      go_wp2
      go_ret
      exact ⟨ret_int hf.out.symm, HX0.out⟩
    · have hf := Lib.hid (userI_few h0 h6)
      clear h0
      go_wp2
      go_loopw [4, 5, 6, 20] (fun _ _ _ k wr => ∃ j : Nat, j ≤ u.groups.length ∧ k = .int .i64 j ∧ Hid (groupsTo u.groups j = 0) ∧ wr = w0) (fun _ _ _ k _ => u.groups.length - (intOf k).toNat)
      case atStart => exact ⟨0, Nat.zero_le _, rfl, rfl, rfl⟩
      case round =>
        obtain ⟨j, hj, rfl, hN, rfl⟩ := hrel
        by_cases hlt : j < u.groups.length
        · obtain ⟨b, off, rfl, hcell, hz, ht⟩ := HS.out.elem hlt
          have HT := Lib.hid ht
          have hlen : (u.groups.take j).length = j := by rw [List.length_take]; omega
          have HGO := Lib.hid (fun he => groupsTo_go hN.out hlt he)
          have HST := Lib.hid (fun (e : Int) he (h0 : e ≠ 0) => groupsTo_stop hN.out hlt he h0 _ hlt)
          obtain ⟨x, hx⟩ : ∃ x, x = u.groups[j] := ⟨_, rfl⟩
          rw [← hx] at hcell hz HGO HST
          clear hx ht hlen
          by_cases h0 : shortI x = 0
          · have hb1 : (shortI x != 0) = false := by simp [h0]
            cases hh : hasS (u.groups.take j) x with
            | true =>
              have he := Lib.hid (HST.out _ (groupI_has h0 hh) (by decide))
              have HH := Lib.hid hh
              clear h0 hh
              go_wp2_with (first | (go_at_call 57; refine (short_any _ _ hz).mono ?_; rintro e w' ⟨rfl, rfl⟩) | (go_at_call 58; refine (contains_strs _ HT.out).mono ?_; rintro e w' ⟨rfl, rfl⟩; rw [HH.out]))
              go_ret
              exact ⟨ret_int (by rw [hf.out, he.out]; rfl), HX0.out⟩
            | false =>
              have he := Lib.hid (HGO.out ((groupI_has h0 hh).trans rfl))
              have HH := Lib.hid hh
              clear h0 hh
              go_wp2_with (first | (go_at_call 57; refine (short_any _ _ hz).mono ?_; rintro e w' ⟨rfl, rfl⟩) | (go_at_call 58; refine (contains_strs _ HT.out).mono ?_; rintro e w' ⟨rfl, rfl⟩; rw [HH.out]))
              go_roundw
              case rel => exact ⟨j + 1, hlt, by go_num, he, trivial⟩
              case measure => simp [intOf]; omega
          · have hb1 : (shortI x != 0) = true := by simp [h0]
            have he := Lib.hid (HST.out _ (groupI_name rfl h0) h0)
            clear h0
            go_wp2_with (go_at_call 57; refine (short_any _ _ hz).mono ?_; rintro e w' ⟨rfl, rfl⟩)
            go_ret
            exact ⟨ret_int (by rw [hf.out, he.out]), HX0.out⟩
        · obtain rfl : j = u.groups.length := by omega
          go_wp2
          go_ret
          exact ⟨ret_int (by rw [hf.out, hN.out]), HX0.out⟩
  · have hb : (shortI u.name != 0) = true := by simp [h0]
    have hf := Lib.hid (userI_name rfl h0)
    clear h0
    go_wp2
    go_ret
    exact ⟨ret_int hf.out.symm, HX0.out⟩
end Go.Proofs.YtplfimoeggecjaaGreatDoor.Sx
