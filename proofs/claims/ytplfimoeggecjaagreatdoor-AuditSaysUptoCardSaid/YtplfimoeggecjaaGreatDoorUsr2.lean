/-
  The reference's TokenUser: it answers as the program's token.CheckUser.
-/
import Derived.Test.YtplfimoeggecjaaGreatDoorUsr
namespace Go.Proofs.YtplfimoeggecjaaGreatDoor.Sx
open Go Go.RowKit

theorem userI_long {u : User} (h : nameI u.name = 0) (h1 : 20 < u.name.size) : userI u = 2 := userI_name (shortI_long h h1) (by decide)

set_option maxRecDepth 100000 in
set_option maxHeartbeats 1000000 in
theorem ruser_any (B : Nat) (v : Value) (u : User) (w : World) (hB : B ≤ w.heap.size) (h1 : u.name.size ≤ 1048576) (h : StrsAt B w v u.groups) : Calls Tryz.prog 23 #[.agg #[.string u.name, v]] w (CheckPost w (userI u)) := by
  have hn := h.1
  have HV := Lib.hid h
  obtain ⟨_, A, c, rfl, hc1, hc2, _⟩ := h
  go_enter Tryz.func23, Tryz.ntmps23
  go_wp2_with fail
  obtain ⟨w0, hw0⟩ : ∃ w0, w0 = w.alloc (.cells #[.string u.name, .slice A u.groups.length c] 45) := ⟨_, rfl⟩
  have hx0 : Ext w w0 := by rw [hw0]; exact (Below.refl _ _).alloc (Nat.le_refl _) _
  have hg0 : w0.heap[w.heap.size]? = some (.cells #[.string u.name, .slice A u.groups.length c] 45 (0, 0)) := by rw [hw0]; exact heap_new rfl
  obtain ⟨g0, g1⟩ := cells2 hg0
  rw [← hw0]
  have HX0 := Lib.hid hx0
  have HS : Hid (UserIn B w0 A c u) := StrsAt.below HV.out (hx0.mono hB)
  clear hw0 hg0 hx0
  refine Calls.mono (rname_any _ _ (by unfold maxLen; omega)) ?_
  rintro e w' ⟨rfl, rfl⟩
  by_cases h0 : nameI u.name = 0
  · have hb : (nameI u.name != 0) = false := by simp [h0]
    by_cases h2 : 20 < u.name.size
    · have hf := Lib.hid (userI_long h0 h2)
      clear h0
      go_wp2
      all_goals try (exfalso; omega)
      go_ret
      exact ⟨ret_int hf.out.symm, HX0.out⟩
    by_cases h6 : 6 < u.groups.length
    · have hf := Lib.hid (userI_many (shortI_good h0 h2) h6)
      clear h0
      go_wp2
      all_goals try (exfalso; omega)
      go_wp2
      all_goals try (exfalso; omega)
      go_ret
      exact ⟨ret_int hf.out.symm, HX0.out⟩
    · have hf := Lib.hid (userI_few (shortI_good h0 h2) h6)
      clear h0
      go_wp2
      all_goals try (exfalso; omega)
      go_wp2
      all_goals try (exfalso; omega)
      go_wp2
      go_loopw [4, 5, 6, 26] (fun _ _ _ k wr => ∃ j : Nat, j ≤ u.groups.length ∧ k = .int .i64 j ∧ Hid (groupsTo u.groups j = 0) ∧ wr = w0) (fun _ _ _ k _ => u.groups.length - (intOf k).toNat)
      case atStart => exact ⟨0, Nat.zero_le _, rfl, rfl, rfl⟩
      case round =>
        obtain ⟨j, hj, rfl, hN, rfl⟩ := hrel
        by_cases hlt : j < u.groups.length
        · obtain ⟨b, off, rfl, hcell, hz, ht⟩ := HS.out.elem hlt
          have HT := Lib.hid ht
          have HGO := Lib.hid (fun he => groupsTo_go hN.out hlt he)
          have HST := Lib.hid (fun (e : Int) he (h0 : e ≠ 0) => groupsTo_stop hN.out hlt he h0 _ hlt)
          obtain ⟨x, hx⟩ : ∃ x, x = u.groups[j] := ⟨_, rfl⟩
          rw [← hx] at hcell hz HGO HST
          clear hx ht
          by_cases h0 : nameI x = 0
          · have hb1 : (nameI x != 0) = false := by simp [h0]
            by_cases hl : 20 < x.size
            · have he := Lib.hid (HST.out _ (groupI_name (shortI_long h0 hl) (by decide)) (by decide))
              clear h0
              go_wp2_with (go_at_call 36; refine (rname_any _ _ (by unfold maxLen; omega)).mono ?_; rintro e w' ⟨rfl, rfl⟩)
              go_ret
              exact ⟨ret_int (by rw [hf.out, he.out]), HX0.out⟩
            have h3 := shortI_good h0 hl
            cases hh : hasS (u.groups.take j) x with
            | true =>
              have he := Lib.hid (HST.out _ (groupI_has h3 hh) (by decide))
              have HH := Lib.hid hh
              clear h0 hh h3
              go_wp2_with (first | (go_at_call 36; refine (rname_any _ _ (by unfold maxLen; omega)).mono ?_; rintro e w' ⟨rfl, rfl⟩) | (go_at_call 59; refine (rhas_any _ HT.out).mono ?_; rintro e w' ⟨rfl, rfl⟩; rw [HH.out]))
              go_ret
              exact ⟨ret_int (by rw [hf.out, he.out]; rfl), HX0.out⟩
            | false =>
              have he := Lib.hid (HGO.out ((groupI_has h3 hh).trans rfl))
              have HH := Lib.hid hh
              clear h0 hh h3
              go_wp2_with (first | (go_at_call 36; refine (rname_any _ _ (by unfold maxLen; omega)).mono ?_; rintro e w' ⟨rfl, rfl⟩) | (go_at_call 59; refine (rhas_any _ HT.out).mono ?_; rintro e w' ⟨rfl, rfl⟩; rw [HH.out]))
              go_roundw
              case rel => exact ⟨j + 1, hlt, by go_num, he, trivial⟩
              case measure => simp [intOf]; omega
          · have hb1 : (nameI x != 0) = true := by simp [h0]
            have he := Lib.hid (HST.out _ (groupI_name (shortI_name rfl h0) h0) h0)
            clear h0
            go_wp2_with (go_at_call 36; refine (rname_any _ _ (by unfold maxLen; omega)).mono ?_; rintro e w' ⟨rfl, rfl⟩)
            go_ret
            exact ⟨ret_int (by rw [hf.out, he.out]), HX0.out⟩
        · obtain rfl : j = u.groups.length := by omega
          go_wp2
          go_ret
          exact ⟨ret_int (by rw [hf.out, hN.out]), HX0.out⟩
  · have hb : (nameI u.name != 0) = true := by simp [h0]
    have hf := Lib.hid (userI_name (shortI_name rfl h0) h0)
    clear h0
    go_wp2
    go_ret
    exact ⟨ret_int hf.out.symm, HX0.out⟩
end Go.Proofs.YtplfimoeggecjaaGreatDoor.Sx
