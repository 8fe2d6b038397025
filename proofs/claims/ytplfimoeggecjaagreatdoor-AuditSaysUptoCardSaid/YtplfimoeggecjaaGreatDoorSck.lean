/-
  The program's store.checker (says, names, space) and store.CheckKey.
-/
import Derived.Test.YtplfimoeggecjaaGreatDoorCor
import Derived.Test.YtplfimoeggecjaaGreatDoorBrow
namespace Go.Proofs.YtplfimoeggecjaaGreatDoor.Sx
open Go Go.RowKit

/-- The checker in block b holds c. -/
def SChk (w : World) (b : Nat) (c : Int) : Prop := w.heap[b]? = some (.cells #[.int .i64 c] 131 (0, 0))
def SChkPost (w : World) (b : Nat) (c : Int) (e : Ending) (w' : World) : Prop := e = .returned (.tuple #[]) ∧ SChk w' b c ∧ Mod eT b w w'
theorem SChk.set {w : World} {b : Nat} {c : Int} (h : SChk w b c) (e : Int) : SChk (w.setCell ⟨b, 0, none⟩ (.int .i64 e)) b e := by
  unfold SChk at *
  simp [World.setCell, Array.getElem?_modify, h]
theorem SChk.old {w : World} {b : Nat} {c : Int} (h : SChk w b c) (o : Obj) : SChk (w.alloc o) b c := heap_old h

set_option maxRecDepth 100000 in
theorem ssays_any (b : Nat) (c e : Int) (w : World) (h : SChk w b c) : Calls Tryz.prog 148 #[.pointer (some ⟨b, 0, none⟩), .int .i64 e] w (SChkPost w b (say c e)) := by
  have hc := cell_of h 0
  have hf := free_of h 0
  have hset := Lib.hid (h.set e)
  have H := Lib.hid h
  clear h
  simp at hc
  by_cases h0 : c = 0
  · have hb : (c == 0) = true := by simp [h0]
    have hs : Hid (say c e = e) := by unfold Hid; rw [h0]; exact say_zero e
    clear h0
    go_enter Tryz.func148, Tryz.ntmps148
    go_wp2
    go_end0
    exact ⟨rfl, by rw [hs.out]; exact hset.out, Mod.refl.setCell ⟨b, 0, none⟩ (.inl rfl) _⟩
  · have hb : (c == 0) = false := by simp [h0]
    have hs : Hid (say c e = c) := say_ne h0 e
    clear h0
    go_enter Tryz.func148, Tryz.ntmps148
    go_wp2
    go_end0
    exact ⟨rfl, by rw [hs.out]; exact H.out, Mod.refl⟩

set_option maxRecDepth 100000 in
set_option maxHeartbeats 400000 in
theorem snames_any (b : Nat) (c : Int) (A : Option Addr) (cap : Nat) (xs : List ByteArray) (w : World) (h : SChk w b c) (hx : StrsS b w A xs) :
    Calls Tryz.prog 107 #[.pointer (some ⟨b, 0, none⟩), .slice A xs.length cap] w (SChkPost w b (namesI c xs false)) := by
  have hn := hx.1
  have H := Lib.hid h
  have HX := Lib.hid hx
  clear h hx
  go_enter Tryz.func107, Tryz.ntmps107
  go_wp2
  go_loopw [5, 8] (fun s k wr => ∃ j : Nat, j ≤ xs.length ∧ k = .int .i64 j ∧ Hid (SChk wr b (namesTo c xs false j)) ∧ Hid (Mod eT b w wr)) (fun _ k _ => xs.length - (intOf k).toNat)
  case atStart => exact ⟨0, Nat.zero_le _, rfl, H.out, Mod.refl⟩
  case round =>
    obtain ⟨j, hj, rfl, hC, hM⟩ := hrel
    by_cases hlt : j < xs.length
    · obtain ⟨blk, off, rfl, _, _, hcell, hz⟩ := (HX.out.mod hM.out).2 j hlt
      have HS := Lib.hid (namesTo_succ c xs false j hlt)
      obtain ⟨s, hs⟩ : ∃ s, s = xs[j] := ⟨_, rfl⟩
      rw [← hs] at hcell hz HS
      clear hs
      have hfin : ∀ w', SChk w' b (nameI1 false (namesTo c xs false j) s) → Mod eT b wr w' → Hid (SChk w' b (namesTo c xs false (j + 1))) ∧ Hid (Mod eT b w w') := fun w' h1 h2 => ⟨by unfold Hid; rw [HS.out]; exact h1, hM.out.trans h2⟩
      have HF := Lib.hid hfin
      clear hfin
      have hv : Hid (nameI1 false (namesTo c xs false j) s = say (namesTo c xs false j) (nameI s)) := rfl
      go_wp2_with (first | (go_at_call 69; refine (check_any _ _ (by unfold maxLen; omega)).mono ?_; rintro e w' ⟨rfl, rfl⟩) | (go_at_call 148; refine (ssays_any _ _ _ _ hC.out).mono ?_; rintro e w' ⟨rfl, h1, h2⟩; have H1 := Lib.hid h1; have H2 := Lib.hid h2; clear h1 h2))
      go_roundw
      case rel => exact ⟨j + 1, hlt, by go_num, HF.out _ (by rw [hv.out]; exact H1.out) H2.out⟩
      case measure => simp [intOf]; omega
    · have HA := Lib.hid (namesTo_all c xs false j (by omega))
      go_wp2
      go_end0
      exact ⟨rfl, by rw [← HA.out]; exact hC.out, hM.out⟩

theorem namesI_one (c : Int) (s : ByteArray) : namesI c [s] false = say c (nameI s) := rfl

set_option maxRecDepth 100000 in
theorem sspace_any (b : Nat) (c : Int) (s : ByteArray) (w : World) (h : SChk w b c) (hs : s.size ≤ 1048576) : Calls Tryz.prog 108 #[.pointer (some ⟨b, 0, none⟩), .string s] w (SChkPost w b (spaceI c s)) := by
  have hb : b < w.heap.size := heap_lt h
  have H := Lib.hid h
  have HB := Lib.hid hb
  clear h hb
  by_cases h0 : s.size = 0
  · have e1 := isEmpty_of_zero h0
    have hf : Hid (spaceI c s = c) := if_pos h0
    clear h0
    go_enter Tryz.func108, Tryz.ntmps108
    go_wp2
    go_end0
    exact ⟨rfl, by rw [hf.out]; exact H.out, Mod.refl⟩
  · have e1 := isEmpty_of_pos (s := s) (by omega)
    have hf : Hid (spaceI c s = say c (nameI s)) := if_neg h0
    clear h0
    go_enter Tryz.func108, Tryz.ntmps108
    go_wp2_with fail
    refine Calls.mono (snames_any b c _ 1 [s] _ (H.out.old _) (one_strs HB.out hs)) ?_
    rintro e w' ⟨rfl, h1, h2⟩
    have H1 := Lib.hid h1
    have H2 := Lib.hid h2
    clear h1 h2
    go_wp2_with fail
    go_end0
    exact ⟨rfl, by rw [hf.out, ← namesI_one]; exact H1.out, (Mod.refl.alloc _).trans H2.out⟩

/-- What CheckKey finds. -/
def keyE (k s n : ByteArray) : Int := say (spaceI (say 0 (nameI k)) s) (nameI n)

set_option maxRecDepth 100000 in
set_option maxHeartbeats 2000000 in
theorem ckey_any (k s n : ByteArray) (w : World) (h1 : k.size ≤ 1048576) (h2 : s.size ≤ 1048576) (h3 : n.size ≤ 1048576) : Calls Tryz.prog 70 #[.agg #[.string k, .string s, .string n]] w (CheckPost w (keyE k s n)) := by
  go_enter Tryz.func70, Tryz.ntmps70
  go_wp2_with fail
  obtain ⟨g, hg⟩ : ∃ g, g = w.heap.size := ⟨_, rfl⟩
  obtain ⟨w2, hw2⟩ : ∃ w2, w2 = (w.alloc (.cells #[.string k, .string s, .string n] 34)).alloc (.cells #[.int .i64 0] 131) := ⟨_, rfl⟩
  rw [← hw2, ← hg]
  have HX2 : Hid (Ext w w2) := by rw [hw2]; exact (new_ext _ _).trans (new_ext _ _)
  have HK2 : Hid (w2.heap[g]? = some (.cells #[.string k, .string s, .string n] 34 (0, 0))) := by rw [hw2]; exact heap_old (heap_new hg)
  have HC2 : Hid (SChk w2 (g + 1) 0) := by rw [hw2]; exact heap_new (by rw [hg]; simp)
  have HGW : Hid (w.heap.size ≤ g) := by rw [hg]; exact Nat.le_refl _
  have HSZ : Hid (w2.heap.size = g + 1 + 1) := by unfold Hid; rw [hw2, hg]; simp
  have HB2 : Hid (g + 1 < w2.heap.size) := heap_lt HC2.out
  clear hw2 hg
  refine Calls.mono (snames_any (g + 1) 0 _ 1 [k] _ (HC2.out.old _) (by rw [← HSZ.out]; exact one_strs HB2.out h1)) ?_
  rintro e w3 ⟨rfl, hc3, hm3⟩
  have HM3 := Lib.hid ((Mod.refl.alloc _).trans hm3 : Mod eT (g + 1) w2 w3)
  have HC3 : Hid (SChk w3 (g + 1) (say 0 (nameI k))) := hc3
  clear hc3 hm3
  have hk3 := HM3.out.heap (.inl (by omega)) HK2.out
  have y1 : w3.cell? ⟨g, 1, none⟩ = some (.string s) := by rw [cell_of hk3]; rfl
  go_wp2_with fail
  refine Calls.mono (sspace_any (g + 1) _ s _ HC3.out h2) ?_
  rintro e w4 ⟨rfl, hc4, hm4⟩
  have HM4 := Lib.hid (HM3.out.trans hm4)
  have HC4 := Lib.hid hc4
  clear hc4 hm4 hk3 y1
  have hk4 := HM4.out.heap (.inl (by omega)) HK2.out
  have y2 : w4.cell? ⟨g, 2, none⟩ = some (.string n) := by rw [cell_of hk4]; rfl
  have HB4 : Hid (g + 1 < w4.heap.size) := heap_lt HC4.out
  go_wp2_with fail
  refine Calls.mono (snames_any (g + 1) _ _ 1 [n] _ (HC4.out.old _) (one_strs HB4.out h3)) ?_
  rintro e w5 ⟨rfl, hc5, hm5⟩
  have HM5 := Lib.hid (HM4.out.trans ((Mod.refl.alloc _).trans hm5))
  have HC5 : Hid (SChk w5 (g + 1) (keyE k s n)) := hc5
  clear hc5 hm5 hk4 y2
  have hcc : w5.cell? ⟨g + 1, 0, none⟩ = some (.int .i64 (keyE k s n)) := by rw [cell_of HC5.out]; rfl
  go_wp2_with fail
  go_ret
  exact ⟨rfl, Below.trans HX2.out ((HM5.out.below (Nat.le_of_lt HB2.out)).mono (by have := HGW.out; omega))⟩
end Go.Proofs.YtplfimoeggecjaaGreatDoor.Sx
