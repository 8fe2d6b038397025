/-
  The reference's reader: its block; skip, look, eat (printed by gen/jq1.py).
  The reference's reader: text (printed by gen/jq2.py).
  The reference's reader: boxes of a value, word (printed by gen/jq3.py).
-/
import Derived.Test.YtnccefeehkcneaaGreatDoorJrd
import Derived.Test.YtnccefeehkcneaaGreatDoorChr
namespace Go.Proofs.YtnccefeehkcneaaGreatDoor.Jm
open Go Go.RowKit Go.Proofs.YtnccefeehkcneaaGreatDoor.Sx Go.Proofs.YtnccefeehkcneaaGreatDoor.Js Go.Proofs.YtnccefeehkcneaaGreatDoor.Gr
abbrev inT : Nat := 139
/-- The block of the reader: the text, the place, how many values. -/
def QIn (w : World) (k : Nat) (s : ByteArray) (i many : Nat) : Prop := w.heap[k]? = some (.cells #[.string s, .int .i64 (i : Int), .int .i64 (many : Int)] inT (0, 0))
section
variable {w w' : World} {k : Nat} {s : ByteArray} {i many : Nat}
theorem QIn.cells (h : QIn w k s i many) : w.cell? ⟨k, 0, none⟩ = some (.string s) ∧ w.cell? ⟨k, 1, none⟩ = some (.int .i64 (i : Int)) ∧ w.cell? ⟨k, 2, none⟩ = some (.int .i64 (many : Int)) := ⟨cell_of h 0, cell_of h 1, cell_of h 2⟩
theorem QIn.free (h : QIn w k s i many) (o : Nat) : w.frozen? ⟨k, o, none⟩ = false := by simp [World.frozen?, show w.heap[k]? = _ from h]
theorem QIn.kept {row : Option Nat} (h : QIn w k s i many) (hg : w.grownBy w' row) (hne : row ≠ some k) : QIn w' k s i many := (hg.block _ (heap_lt h) (fun e => hne e.symm)).trans h
theorem QIn.ext (h : QIn w k s i many) (hx : Ext w w') : QIn w' k s i many := (hx.block _ (heap_lt h)).trans h
theorem QIn.lt (h : QIn w k s i many) : k < w.heap.size := heap_lt h
theorem QIn.setAt (h : QIn w k s i many) (j : Nat) (z : Int) (hz : z = (j : Int)) : QIn (w.setCell ⟨k, 1, none⟩ (.int .i64 z)) k s j many := by subst hz; exact heap_setCell_same w k 1 _ inT _ h
theorem QIn.setMany (h : QIn w k s i many) (j : Nat) (z : Int) (hz : z = (j : Int)) : QIn (w.setCell ⟨k, 2, none⟩ (.int .i64 z)) k s i j := by subst hz; exact heap_setCell_same w k 2 _ inT _ h
theorem QIn.atOf (h : QIn w k s i many) : Jm.atOf w k = i := by
  unfold Jm.atOf
  rw [h.cells.2.1]
  exact Int.toNat_natCast i
end
def SkipPost (w : World) (k : Nat) (s : ByteArray) (i many : Nat) (e : Ending) (w' : World) : Prop :=
  ∃ j, e = .returned (.tuple #[]) ∧ QIn w' k s j many ∧ i ≤ j ∧ j ≤ s.size ∧ sfx s j = skipW (sfx s i) ∧ w.grownBy w' (some k)
set_option maxRecDepth 100000 in
set_option maxHeartbeats 4000000 in
theorem skip_any (k : Nat) (s : ByteArray) (i many : Nat) (w : World) (h : QIn w k s i many) (hs : s.size ≤ 2000) (hi : i ≤ s.size) :
    Calls Tryz.prog 132 #[.pointer (some ⟨k, 0, none⟩)] w (SkipPost w k s i many) := by
  have H := Lib.hid h
  clear h
  go_enter Tryz.func132, Tryz.ntmps132
  go_wp2_with fail
  go_loopw [54] (fun _ wr => ∃ j, i ≤ j ∧ j ≤ s.size ∧ Hid (QIn wr k s j many ∧ skipW (sfx s j) = skipW (sfx s i) ∧ w.grownBy wr (some k))) (fun _ wr => s.size - atOf wr k)
  case atStart => exact ⟨i, Nat.le_refl _, hi, H.out, rfl, grown_refl _ _⟩
  case round =>
    obtain ⟨j, hij, hjs, hR⟩ := hrel
    obtain ⟨z0, z1, _⟩ := hR.out.1.cells
    have hj0 : (0 : Int) ≤ (j : Int) := by omega
    by_cases hlt : j < s.size
    · have hby := run_byte s j hlt
      obtain ⟨c, hcc⟩ : ∃ c, c = byteAt s j := ⟨_, rfl⟩
      have HSX : Hid (sfx s j = c :: sfx s (j + 1)) := by rw [hcc]; exact sfx_cons hlt
      rw [← hcc] at hby
      have hltI : (j : Int) < (s.size : Int) := by omega
      have f1 := hR.out.1.free 1
      clear hcc
      by_cases h32 : c = 32
      · have HN : Hid (skipW (sfx s (j + 1)) = skipW (sfx s i)) := by unfold Hid; rw [← hR.out.2.1, HSX.out, skipW_cons (by rw [h32]; rfl)]
        have b32 : ((c.toNat : Int) == 32) = true := by rw [h32]; rfl
        clear h32
        go_wp2_with fail
        go_quiet (fail)
        go_wp2_with fail
        go_roundw
        case rel =>
          exact ⟨j + 1, by omega, hlt, QIn.setAt (w := World.drewN _ _) (hR.out.1.ext (ext_drewN' _ _)) (j + 1) _ (by omega), HN.out, grown_trans hR.out.2.2 (grown_trans (grown_ext (ext_drewN' _ _)) (grown_set _ k 1 _))⟩
        case measure =>
          rw [hR.out.1.atOf, (QIn.setAt (w := World.drewN _ _) (hR.out.1.ext (ext_drewN' _ _)) (j + 1) _ (by omega)).atOf]
          omega
      · by_cases h10 : c = 10
        · have HN : Hid (skipW (sfx s (j + 1)) = skipW (sfx s i)) := by unfold Hid; rw [← hR.out.2.1, HSX.out, skipW_cons (by rw [h10]; rfl)]
          have b32 : ((c.toNat : Int) == 32) = false := by rw [h10]; rfl
          have b10 : ((c.toNat : Int) == 10) = true := by rw [h10]; rfl
          clear h32 h10
          go_wp2_with fail
          go_quiet (fail)
          go_wp2_with fail
          go_roundw
          case rel =>
            exact ⟨j + 1, by omega, hlt, QIn.setAt (w := World.drewN _ _) (hR.out.1.ext (ext_drewN' _ _)) (j + 1) _ (by omega), HN.out, grown_trans hR.out.2.2 (grown_trans (grown_ext (ext_drewN' _ _)) (grown_set _ k 1 _))⟩
          case measure =>
            rw [hR.out.1.atOf, (QIn.setAt (w := World.drewN _ _) (hR.out.1.ext (ext_drewN' _ _)) (j + 1) _ (by omega)).atOf]
            omega
        · by_cases h9 : c = 9
          · have HN : Hid (skipW (sfx s (j + 1)) = skipW (sfx s i)) := by unfold Hid; rw [← hR.out.2.1, HSX.out, skipW_cons (by rw [h9]; rfl)]
            have b32 : ((c.toNat : Int) == 32) = false := by rw [h9]; rfl
            have b10 : ((c.toNat : Int) == 10) = false := by rw [h9]; rfl
            have b9 : ((c.toNat : Int) == 9) = true := by rw [h9]; rfl
            clear h32 h10 h9
            go_wp2_with fail
            go_quiet (fail)
            go_wp2_with fail
            go_roundw
            case rel =>
              exact ⟨j + 1, by omega, hlt, QIn.setAt (w := World.drewN _ _) (hR.out.1.ext (ext_drewN' _ _)) (j + 1) _ (by omega), HN.out, grown_trans hR.out.2.2 (grown_trans (grown_ext (ext_drewN' _ _)) (grown_set _ k 1 _))⟩
            case measure =>
              rw [hR.out.1.atOf, (QIn.setAt (w := World.drewN _ _) (hR.out.1.ext (ext_drewN' _ _)) (j + 1) _ (by omega)).atOf]
              omega
          · have hw : isWs c = false := by
              unfold isWs
              rw [beq_eq_false_iff_ne.2 h32, beq_eq_false_iff_ne.2 h9, beq_eq_false_iff_ne.2 h10]; rfl
            have HST : Hid (skipW (sfx s i) = sfx s j) := by unfold Hid; rw [← hR.out.2.1, HSX.out, skipW_stop hw]
            have b32 : ((c.toNat : Int) == 32) = false := by rw [show (32 : Int) = ((32 : Nat) : Int) from rfl, byte_lit c 32 (by omega)]; simp [h32]
            have b10 : ((c.toNat : Int) == 10) = false := by rw [show (10 : Int) = ((10 : Nat) : Int) from rfl, byte_lit c 10 (by omega)]; simp [h10]
            have b9 : ((c.toNat : Int) == 9) = false := by rw [show (9 : Int) = ((9 : Nat) : Int) from rfl, byte_lit c 9 (by omega)]; simp [h9]
            clear h32 h9 h10 hw
            go_wp2_with fail
            go_quiet (fail)
            go_wp2_with fail
            go_end0
            exact ⟨j, rfl, hR.out.1.ext (ext_drewN' _ _), hij, hjs, HST.out.symm, grown_trans hR.out.2.2 (grown_ext (ext_drewN' _ _))⟩
    · have HST : Hid (skipW (sfx s i) = sfx s j) := by
        have e : sfx s j = [] := sfx_end (by omega)
        unfold Hid
        rw [← hR.out.2.1, e]; rfl
      have bl : decide ((j : Int) < (s.size : Int)) = false := decide_eq_false (by omega)
      have bl2 : decide (j < s.size) = false := decide_eq_false hlt
      clear hlt
      go_wp2_with fail
      go_quiet (fail)
      go_wp2_with fail
      go_end0
      exact ⟨j, rfl, hR.out.1.ext (ext_drewN' _ _), hij, hjs, HST.out.symm, grown_trans hR.out.2.2 (grown_ext (ext_drewN' _ _))⟩
theorem wrap_byte (c : UInt8) : wrap64 (c.toNat : Int) = (c.toNat : Int) := by
  have := c.toNat_lt
  unfold wrap64
  omega
/-- The next byte as a number; -1: the end. -/
def headI (t : Tx) : Int := match t with | [] => -1 | c :: _ => (c.toNat : Int)
def LookPost (w : World) (k : Nat) (s : ByteArray) (i many : Nat) (e : Ending) (w' : World) : Prop :=
  ∃ j, e = .returned (.int .i64 (headI (skipW (sfx s i)))) ∧ QIn w' k s j many ∧ i ≤ j ∧ j ≤ s.size ∧ sfx s j = skipW (sfx s i) ∧ w.grownBy w' (some k)
set_option maxRecDepth 100000 in
set_option maxHeartbeats 4000000 in
theorem look_any (k : Nat) (s : ByteArray) (i many : Nat) (w : World) (h : QIn w k s i many) (hs : s.size ≤ 2000) (hi : i ≤ s.size) :
    Calls Tryz.prog 79 #[.pointer (some ⟨k, 0, none⟩)] w (LookPost w k s i many) := by
  have CS := Lib.hid (skip_any k s i many w h hs hi)
  clear h
  go_enter Tryz.func79, Tryz.ntmps79
  go_wp2_with fail
  refine Calls.mono CS.out ?_
  rintro e w2 ⟨j, rfl, h2, hij, hjs, hsk, g2⟩
  obtain ⟨z0, z1, _⟩ := h2.cells
  have H2 := Lib.hid (And.intro h2 (And.intro hsk g2))
  have hj0 : (0 : Int) ≤ (j : Int) := by omega
  clear h2 hsk g2 CS
  by_cases hlt : j < s.size
  · have hby := run_byte s j hlt
    obtain ⟨c, hcc⟩ : ∃ c, c = byteAt s j := ⟨_, rfl⟩
    have HHD : Hid (headI (skipW (sfx s i)) = (c.toNat : Int)) := by
      unfold Hid
      rw [← H2.out.2.1, sfx_cons hlt, ← hcc]
      rfl
    rw [← hcc] at hby
    have hltI : (j : Int) < (s.size : Int) := by omega
    have be : ((j : Int) == (s.size : Int)) = false := by rw [beq_eq_false_iff_ne]; omega
    clear hcc
    go_wp2_with fail
    go_quiet (fail)
    go_wp2_with fail
    go_quiet (fail)
    go_wp2_with fail
    go_ret
    have hx2 : ∀ a b, Ext w2 ((w2.drewN a).drewN b) := fun a b => (ext_drewN' _ _).trans (ext_drewN' _ _)
    exact ⟨j, ret_int (by rw [HHD.out]; exact wrap_byte c), H2.out.1.ext (hx2 _ _), hij, hjs, H2.out.2.1, grown_trans H2.out.2.2 (grown_ext (hx2 _ _))⟩
  · have HHD : Hid (headI (skipW (sfx s i)) = -1) := by
      unfold Hid
      rw [← H2.out.2.1, sfx_end (by omega)]
      rfl
    have be : ((j : Int) == (s.size : Int)) = true := by rw [beq_iff_eq]; omega
    go_wp2_with fail
    go_quiet (fail)
    go_wp2_with fail
    go_ret
    exact ⟨j, by rw [HHD.out]; rfl, H2.out.1.ext (ext_drewN' _ _), hij, hjs, H2.out.2.1, grown_trans H2.out.2.2 (grown_ext (ext_drewN' _ _))⟩
def EatPost (w : World) (k : Nat) (s : ByteArray) (i many : Nat) (c : UInt8) (e : Ending) (w' : World) : Prop :=
  ∃ j, QIn w' k s j many ∧ j ≤ s.size ∧ w.grownBy w' (some k) ∧ ((e = .returned (.bool true) ∧ skipW (sfx s i) = c :: sfx s j) ∨ (e = .returned (.bool false) ∧ (∀ r, skipW (sfx s i) ≠ c :: r) ∧ sfx s j = skipW (sfx s i)))
set_option maxRecDepth 100000 in
set_option maxHeartbeats 4000000 in
theorem eat_any (k : Nat) (s : ByteArray) (i many : Nat) (c : UInt8) (z : Int) (hz : z = (c.toNat : Int)) (w : World) (h : QIn w k s i many) (hs : s.size ≤ 2000) (hi : i ≤ s.size) :
    Calls Tryz.prog 175 #[.pointer (some ⟨k, 0, none⟩), .int .i64 z] w (EatPost w k s i many c) := by
  have CS := Lib.hid (look_any k s i many w h hs hi)
  have HZ := Lib.hid hz
  clear h hz
  go_enter Tryz.func175, Tryz.ntmps175
  go_wp2_with fail
  refine Calls.mono CS.out ?_
  rintro e w2 ⟨j, rfl, h2, hij, hjs, hsk, g2⟩
  obtain ⟨z0, z1, _⟩ := h2.cells
  have f1 := h2.free 1
  have H2 := Lib.hid (And.intro h2 (And.intro hsk g2))
  obtain ⟨x, hx⟩ : ∃ x, x = headI (skipW (sfx s i)) := ⟨_, rfl⟩
  rw [← hx]
  clear h2 hsk g2 CS
  by_cases he : x = z
  · have HR : Hid (∃ r, skipW (sfx s i) = c :: r ∧ j < s.size ∧ sfx s (j + 1) = r) := by
      rw [hx, HZ.out] at he
      cases hs2 : skipW (sfx s i) with
      | nil => rw [hs2] at he; simp only [headI] at he; omega
      | cons d r =>
        rw [hs2] at he
        have hd : d = c := UInt8.toNat_inj.1 (by simp only [headI] at he; omega)
        obtain ⟨a, b, _⟩ := sfx_step (H2.out.2.1.trans hs2)
        exact ⟨r, by rw [hd], a, b⟩
    have b1 : (x != z) = false := by simp [he]
    clear he hx
    go_wp2_with fail
    go_ret
    obtain ⟨r, h1, h3, h4⟩ := HR.out
    exact ⟨j + 1, H2.out.1.setAt _ _ (by omega), h3, grown_trans H2.out.2.2 (grown_set _ k 1 _), .inl ⟨rfl, by rw [h4]; exact h1⟩⟩
  · have HR : Hid (∀ r, skipW (sfx s i) ≠ c :: r) := fun r e => he (by rw [hx, e, HZ.out]; rfl)
    have b1 : (x != z) = true := by simp [he]
    clear he hx
    go_wp2_with fail
    go_ret
    exact ⟨j, H2.out.1, hjs, H2.out.2.2, .inr ⟨rfl, HR.out, H2.out.2.1⟩⟩
end Go.Proofs.YtnccefeehkcneaaGreatDoor.Jm
namespace Go.Proofs.YtnccefeehkcneaaGreatDoor.Jm
open Go Go.RowKit Go.Proofs.YtnccefeehkcneaaGreatDoor.Sx Go.Proofs.YtnccefeehkcneaaGreatDoor.Js Go.Proofs.YtnccefeehkcneaaGreatDoor.Gr
theorem esc_idx {d x : UInt8} (h : esc d = some x) : ∃ k : Int, Lib.indexByte [34, 92, 110, 116] d = k ∧ 0 ≤ k ∧ ∀ W, (Instr.index 9 (.string ⟨#[34, 92, 10, 9]⟩) (.int .i64 k)).run Tryz.prog W = .ok (.int .u8 (x.toNat : Int)) W := by
  unfold esc at h
  split at h
  · rename_i e; injection h with h; subst e h; exact ⟨0, by decide, by omega, fun W => by kernel_rfl⟩
  · split at h
    · rename_i e; injection h with h; subst e h; exact ⟨1, by decide, by omega, fun W => by kernel_rfl⟩
    · split at h
      · rename_i e; injection h with h; subst e h; exact ⟨2, by decide, by omega, fun W => by kernel_rfl⟩
      · split at h
        · rename_i e; injection h with h; subst e h; exact ⟨3, by decide, by omega, fun W => by kernel_rfl⟩
        · cases h
theorem esc_no {d : UInt8} (h : esc d = none) : Lib.indexByte [34, 92, 110, 116] d = -1 := by
  unfold esc at h
  split at h
  · cases h
  · rename_i h1
    split at h
    · cases h
    · rename_i h2
      split at h
      · cases h
      · rename_i h3
        split at h
        · cases h
        · rename_i h4
          simp [Lib.indexByte, Ne.symm h1, Ne.symm h2, Ne.symm h3, Ne.symm h4]
theorem idx_byte (d : UInt8) (w : World) : Calls Tryz.prog 176 #[.string ⟨#[34, 92, 110, 116]⟩, .int .u8 (d.toNat : Int)] w fun e w' => e = .returned (.int .i64 (Lib.indexByte [34, 92, 110, 116] d)) ∧ w = w' :=
  (Tryz.strings_IndexByte ⟨#[34, 92, 110, 116]⟩ (d.toNat : Int) w).mono fun e w' ⟨h1, h2⟩ => ⟨by rw [h1]; simp, h2.symm⟩
theorem bx_snoc (a : Tx) (c : UInt8) : bx a ++ sgn c = bx (a ++ [c]) := by
  have h : (bx a ++ sgn c).data.toList = (bx (a ++ [c])).data.toList := by simp [bx, sgn]
  have e1 := of_bx (bx a ++ sgn c)
  have e2 := of_bx (bx (a ++ [c]))
  rw [← e1, ← e2, h]
def RTextPost (w : World) (k : Nat) (s : ByteArray) (U : Tx) (_i many : Nat) (e : Ending) (w' : World) : Prop :=
  ∃ j, w.grownBy w' (some k) ∧ QIn w' k s j many ∧ j ≤ s.size ∧ ((∃ t, textS U = some (t, sfx s j) ∧ e = .returned (.tuple #[.string (bx t), .int .i64 0])) ∨ (textS U = none ∧ e = .returned (.tuple #[.string ⟨#[]⟩, .int .i64 3])))
set_option maxRecDepth 100000 in
set_option maxHeartbeats 4000000 in
theorem rtext_any (k : Nat) (s : ByteArray) (i many : Nat) (w : World) (h : QIn w k s i many) (hs : s.size ≤ 2000) (hi : i < s.size) :
    Calls Tryz.prog 129 #[.pointer (some ⟨k, 0, none⟩)] w (RTextPost w k s (sfx s (i + 1)) i many) := by
  obtain ⟨z0, z1, _⟩ := h.cells
  have H := Lib.hid h
  have hi0 : (0 : Int) ≤ (i : Int) := by omega
  have hiI : (i : Int) ≤ 2000 := by omega
  clear h
  go_enter Tryz.func129, Tryz.ntmps129
  go_wp2_with fail
  clear z0 z1
  go_loopw [4, 5] (fun o ix wr => ∃ (acc : Tx) (a : ByteArray) (j : Nat), i + 1 ≤ j ∧ j ≤ s.size + 2 ∧ a.size ≤ j ∧ ix = .int .i64 (j : Int) ∧ o = .string a ∧ Hid (a = bx acc ∧ textS (sfx s (i + 1)) = (textS (sfx s j)).map (fun p => (acc ++ p.1, p.2)) ∧ Ext w wr)) (fun _ ix _ => s.size + 5 - (intOf ix).toNat)
  case atStart => exact ⟨[], ⟨#[]⟩, i + 1, by omega, by omega, Nat.zero_le _, by rw [show ((i + 1 : Nat) : Int) = (i : Int) + 1 by omega], rfl, rfl, by cases textS (sfx s (i + 1)) <;> rfl, Below.refl _ _⟩
  case round =>
    obtain ⟨acc, a, j, hij, hj, haj, rfl, rfl, hR⟩ := hrel
    obtain ⟨z0, z1, _⟩ := (H.out.ext hR.out.2.2).cells
    have f1 := (H.out.ext hR.out.2.2).free 1
    have hj0 : (0 : Int) ≤ (j : Int) := by omega
    by_cases hlt : j < s.size
    · have hby := run_byte s j hlt
      obtain ⟨c, hcc⟩ : ∃ c, c = byteAt s j := ⟨_, rfl⟩
      have HSX : Hid (sfx s j = c :: sfx s (j + 1)) := by rw [hcc]; exact sfx_cons hlt
      rw [← hcc] at hby
      have hltI : (j : Int) < (s.size : Int) := by omega
      clear hcc
      by_cases h34 : c = 34
      · have b34 : ((c.toNat : Int) == 34) = true := by rw [h34]; rfl
        have HT : Hid (textS (sfx s (i + 1)) = some (acc, sfx s (j + 1))) := by
          unfold Hid
          rw [hR.out.2.1, HSX.out, textS_cons, if_pos h34]
          simp
        clear h34
        go_wp2_with fail
        go_ret2
        exact ⟨j + 1, grown_trans (grown_ext hR.out.2.2) (grown_set _ k 1 _), (H.out.ext hR.out.2.2).setAt _ _ (by omega), hlt, .inl ⟨acc, HT.out, by rw [← hR.out.1]; rfl⟩⟩
      · by_cases hodd : c < 32 ∨ 126 < c
        · have HT : Hid (textS (sfx s (i + 1)) = none) := by
            unfold Hid
            rw [hR.out.2.1, HSX.out, textS_cons, if_neg h34, if_pos hodd]
            rfl
          have b34 : ((c.toNat : Int) == 34) = false := by rw [show (34 : Int) = ((34 : Nat) : Int) from rfl, byte_lit c 34 (by omega)]; simp [h34]
          by_cases hlow : c < 32
          · have hlt32 : c.toNat < 32 := UInt8.lt_iff_toNat_lt.1 hlow
            have b32 : decide ((c.toNat : Int) < 32) = true := decide_eq_true (by omega)
            clear h34 hodd hlow hlt32
            go_wp2_with fail
            go_ret2
            exact ⟨i, grown_ext hR.out.2.2, H.out.ext hR.out.2.2, by omega, .inr ⟨HT.out, rfl⟩⟩
          · have hhi : 126 < c := hodd.resolve_left hlow
            have hhi2 : 126 < c.toNat := UInt8.lt_iff_toNat_lt.1 hhi
            have hl2 : ¬ c.toNat < 32 := fun e => hlow (UInt8.lt_iff_toNat_lt.2 e)
            have b32 : decide ((c.toNat : Int) < 32) = false := decide_eq_false (by omega)
            have b126 : decide (126 < (c.toNat : Int)) = true := decide_eq_true (by omega)
            clear h34 hodd hlow hhi hhi2 hl2
            go_wp2_with fail
            go_ret2
            exact ⟨i, grown_ext hR.out.2.2, H.out.ext hR.out.2.2, by omega, .inr ⟨HT.out, rfl⟩⟩
        · have hl2 : ¬ c.toNat < 32 := fun e => hodd (.inl (UInt8.lt_iff_toNat_lt.2 e))
          have hh2 : ¬ 126 < c.toNat := fun e => hodd (.inr (UInt8.lt_iff_toNat_lt.2 e))
          have b32 : decide ((c.toNat : Int) < 32) = false := decide_eq_false (by omega)
          have b126 : decide (126 < (c.toNat : Int)) = false := decide_eq_false (by omega)
          have b34 : ((c.toNat : Int) == 34) = false := by rw [show (34 : Int) = ((34 : Nat) : Int) from rfl, byte_lit c 34 (by omega)]; simp [h34]
          have HTS : Hid (textS (sfx s j) = if c = 92 then (match sfx s (j + 1) with | [] => none | d :: r2 => match esc d with | none => none | some x => (textS r2).map fun p => (x :: p.1, p.2)) else (textS (sfx s (j + 1))).map fun p => (c :: p.1, p.2)) := by
            unfold Hid
            rw [HSX.out, textS_cons, if_neg h34, if_neg hodd]
            rfl
          clear hl2 hh2 hodd h34
          by_cases h92 : c = 92
          · have b92 : ((c.toNat : Int) == 92) = true := by rw [h92]; rfl
            rw [if_pos h92] at HTS
            clear h92
            by_cases hl1 : j + 1 < s.size
            · have hby1 := run_byte s (j + 1) hl1
              rw [show ((j + 1 : Nat) : Int) = (j : Int) + 1 by omega] at hby1
              obtain ⟨d, hdd⟩ : ∃ d, d = byteAt s (j + 1) := ⟨_, rfl⟩
              have HSD : Hid (sfx s (j + 1) = d :: sfx s (j + 2)) := by rw [hdd]; exact sfx_cons hl1
              rw [← hdd] at hby1
              have hl1I : (j : Int) + 1 < (s.size : Int) := by omega
              clear hdd
              cases he : esc d with
              | some x =>
                obtain ⟨q, hq, hq0, hqx⟩ := esc_idx he
                have HTX : Hid (textS (sfx s (i + 1)) = (textS (sfx s (j + 2))).map fun p => ((acc ++ [x]) ++ p.1, p.2)) := by
                  unfold Hid
                  rw [hR.out.2.1, HTS.out, HSD.out]
                  simp only [he]
                  rw [Option.map_map]
                  simp [Function.comp_def]
                have CI : Hid (∀ wk, Calls Tryz.prog 176 #[.string ⟨#[34, 92, 110, 116]⟩, .int .u8 (d.toNat : Int)] wk fun e w' => e = .returned (.int .i64 q) ∧ wk = w') := fun wk => by have h := idx_byte d wk; rw [hq] at h; exact h
                have bq : decide (q < 0) = false := decide_eq_false (by omega)
                have hsum : (9223372036854775807 < a.size + (sgn x).size) = False := eq_false (by rw [show (sgn x).size = 1 from rfl]; omega)
                clear he hq
                go_wp2_with (first
                  | (go_at_call 176; refine (CI.out _).mono ?_; rintro e w' ⟨rfl, rfl⟩)
                  | (go_at_call 126; refine (chr_at _ x (by first | rfl | exact wrap_byte x) _).mono ?_; rintro e w7 ⟨rfl, x7⟩))
                have HX := Lib.hid (hR.out.2.2.trans x7)
                clear x7
                go_wp2_with fail
                go_roundw
                case rel => exact ⟨acc ++ [x], a ++ sgn x, j + 2, by omega, by omega, by rw [ByteArray.size_append, show (sgn x).size = 1 from rfl]; omega, by rw [show ((j + 2 : Nat) : Int) = (j : Int) + 1 + 1 by omega], rfl, by rw [hR.out.1, bx_snoc], HTX.out, HX.out⟩
                case measure => simp [intOf]; omega
              | none =>
                have HT : Hid (textS (sfx s (i + 1)) = none) := by
                  unfold Hid
                  rw [hR.out.2.1, HTS.out, HSD.out]
                  simp only [he]
                  rfl
                have CI : Hid (∀ wk, Calls Tryz.prog 176 #[.string ⟨#[34, 92, 110, 116]⟩, .int .u8 (d.toNat : Int)] wk fun e w' => e = .returned (.int .i64 (-1)) ∧ wk = w') := fun wk => by have h := idx_byte d wk; rw [esc_no he] at h; exact h
                clear he
                go_wp2_with (go_at_call 176; refine (CI.out _).mono ?_; rintro e w' ⟨rfl, rfl⟩)
                go_ret2
                exact ⟨i, grown_ext hR.out.2.2, H.out.ext hR.out.2.2, by omega, .inr ⟨HT.out, rfl⟩⟩
            · have HT : Hid (textS (sfx s (i + 1)) = none) := by
                unfold Hid
                rw [hR.out.2.1, HTS.out, sfx_end (s := s) (i := j + 1) (by omega)]
                rfl
              have bl : decide ((j : Int) + 1 < (s.size : Int)) = false := decide_eq_false (by omega)
              clear hl1
              go_wp2_with fail
              go_ret2
              exact ⟨i, grown_ext hR.out.2.2, H.out.ext hR.out.2.2, by omega, .inr ⟨HT.out, rfl⟩⟩
          · have b92 : ((c.toNat : Int) == 92) = false := by rw [show (92 : Int) = ((92 : Nat) : Int) from rfl, byte_lit c 92 (by omega)]; simp [h92]
            rw [if_neg h92] at HTS
            have HTX : Hid (textS (sfx s (i + 1)) = (textS (sfx s (j + 1))).map fun p => ((acc ++ [c]) ++ p.1, p.2)) := by
              unfold Hid
              rw [hR.out.2.1, HTS.out, Option.map_map]
              simp [Function.comp_def]
            have hsum : (9223372036854775807 < a.size + (sgn c).size) = False := eq_false (by rw [show (sgn c).size = 1 from rfl]; omega)
            clear h92
            go_wp2_with (go_at_call 126; refine (chr_at _ c (by first | rfl | exact wrap_byte c) _).mono ?_; rintro e w7 ⟨rfl, x7⟩)
            have HX := Lib.hid (hR.out.2.2.trans x7)
            clear x7
            go_wp2_with fail
            go_roundw
            case rel => exact ⟨acc ++ [c], a ++ sgn c, j + 1, by omega, by omega, by rw [ByteArray.size_append, show (sgn c).size = 1 from rfl]; omega, by rw [show ((j + 1 : Nat) : Int) = (j : Int) + 1 by omega], rfl, by rw [hR.out.1, bx_snoc], HTX.out, HX.out⟩
            case measure => simp [intOf]; omega
    · have HT : Hid (textS (sfx s (i + 1)) = none) := by
        unfold Hid
        rw [hR.out.2.1, sfx_end (s := s) (i := j) (by omega)]
        rfl
      have bl : decide ((j : Int) < (s.size : Int)) = false := decide_eq_false (by omega)
      have bl2 : decide (j < s.size) = false := decide_eq_false hlt
      clear hlt
      go_wp2_with fail
      go_ret2
      exact ⟨i, grown_ext hR.out.2.2, H.out.ext hR.out.2.2, by omega, .inr ⟨HT.out, rfl⟩⟩
end Go.Proofs.YtnccefeehkcneaaGreatDoor.Jm
namespace Go.Proofs.YtnccefeehkcneaaGreatDoor.Jm
open Go Go.RowKit Go.Proofs.YtnccefeehkcneaaGreatDoor.Sx Go.Proofs.YtnccefeehkcneaaGreatDoor.Js Go.Proofs.YtnccefeehkcneaaGreatDoor.Gr
def v6 (K : Int) (B : Bool) (n : Int) (s : ByteArray) (a l : Value) : List Value := [.int .i64 K, .bool B, .int .i64 n, .string s, a, l]
abbrev nilS : Value := .slice none 0 0
def noV : List Value := v6 0 false 0 ⟨#[]⟩ nilS nilS
/-- A block that holds one value. -/
def VIn (w : World) (g : Nat) (K : Int) (B : Bool) (n : Int) (s : ByteArray) (a l : Value) : Prop := w.heap[g]? = some (.cells #[.int .i64 K, .bool B, .int .i64 n, .string s, a, l] vT (0, 0))
theorem VIn.ext {w w' : World} {g : Nat} {K : Int} {B : Bool} {n : Int} {s : ByteArray} {a l : Value} (h : VIn w g K B n s a l) (hx : Ext w w') : VIn w' g K B n s a l := (hx.block _ (heap_lt h)).trans h
theorem VIn.kept {w w' : World} {g : Nat} {K : Int} {B : Bool} {n : Int} {s : ByteArray} {a l : Value} {row : Option Nat} (h : VIn w g K B n s a l) (hg : w.grownBy w' row) (hne : row ≠ some g) : VIn w' g K B n s a l := (hg.block _ (heap_lt h) (fun e => hne e.symm)).trans h
theorem VIn.cells {w : World} {g : Nat} {K : Int} {B : Bool} {n : Int} {s : ByteArray} {a l : Value} (h : VIn w g K B n s a l) :
    w.cell? ⟨g, 0, none⟩ = some (.int .i64 K) ∧ w.cell? ⟨g, 1, none⟩ = some (.bool B) ∧ w.cell? ⟨g, 2, none⟩ = some (.int .i64 n) ∧ w.cell? ⟨g, 3, none⟩ = some (.string s) ∧ w.cell? ⟨g, 4, none⟩ = some a ∧ w.cell? ⟨g, 5, none⟩ = some l := by
  refine ⟨?_, ?_, ?_, ?_, ?_, ?_⟩ <;> rw [cell_of h] <;> rfl
theorem VIn.free {w : World} {g : Nat} {K : Int} {B : Bool} {n : Int} {s : ByteArray} {a l : Value} (h : VIn w g K B n s a l) (o : Nat) : w.frozen? ⟨g, o, none⟩ = false := by simp [World.frozen?, show w.heap[g]? = _ from h]
def putV (W : World) (g : Nat) (K : Int) (B : Bool) (n : Int) (s : ByteArray) (a l : Value) : World := (((((W.setCell ⟨g, 0, none⟩ (.int .i64 K)).setCell ⟨g, 1, none⟩ (.bool B)).setCell ⟨g, 2, none⟩ (.int .i64 n)).setCell ⟨g, 3, none⟩ (.string s)).setCell ⟨g, 4, none⟩ a).setCell ⟨g, 5, none⟩ l
theorem put_in {W : World} {g : Nat} {x0 x1 x2 x3 x4 x5 : Value} (K : Int) (B : Bool) (n : Int) (s : ByteArray) (a l : Value) (hg : W.heap[g]? = some (.cells #[x0, x1, x2, x3, x4, x5] vT (0, 0))) : VIn (putV W g K B n s a l) g K B n s a l := by
  unfold VIn putV
  simp [World.setCell, Array.getElem?_modify, hg]
theorem put_ext {w W : World} {g : Nat} (K : Int) (B : Bool) (n : Int) (s : ByteArray) (a l : Value) (hx : Ext w W) (hb : w.heap.size ≤ g) : Ext w (putV W g K B n s a l) :=
  Below.setCell (Below.setCell (Below.setCell (Below.setCell (Below.setCell (Below.setCell hx (by exact hb) _) (by exact hb) _) (by exact hb) _) (by exact hb) _) (by exact hb) _) (by exact hb) _
theorem grown_high {w w' : World} {row : Option Nat} {g o : Nat} {v : Value} (h : w.grownBy w' row) (hb : w.heap.size ≤ g) : w.grownBy (w'.setCell ⟨g, o, none⟩ v) row :=
  ⟨h.os, h.tape, h.output, by have := h.size; simpa [World.setCell] using this, fun k hk hne => (Below.heap_setCell w' ⟨g, o, none⟩ v k (fun e => by have e2 : k = g := e; omega)).trans (h.block k hk hne)⟩
theorem put_grown {w W : World} {g : Nat} {row : Option Nat} (K : Int) (B : Bool) (n : Int) (s : ByteArray) (a l : Value) (hx : w.grownBy W row) (hb : w.heap.size ≤ g) : w.grownBy (putV W g K B n s a l) row :=
  grown_high (grown_high (grown_high (grown_high (grown_high (grown_high hx hb) hb) hb) hb) hb) hb
/-- Every block but g. -/
theorem put_heap (W : World) {g : Nat} (K : Int) (B : Bool) (n : Int) (s : ByteArray) (a l : Value) (k : Nat) (hk : k ≠ g) : (putV W g K B n s a l).heap[k]? = W.heap[k]? := by
  unfold putV
  rw [Below.heap_setCell _ _ _ _ hk, Below.heap_setCell _ _ _ _ hk, Below.heap_setCell _ _ _ _ hk, Below.heap_setCell _ _ _ _ hk, Below.heap_setCell _ _ _ _ hk, Below.heap_setCell _ _ _ _ hk]
theorem results_v {fn : Func} {p u : Tmp} (h : fn.results = #[.cell p vT, .tmp u]) (tmps : Array Value) (w : World) (g : Nat) {K : Int} {B : Bool} {n : Int} {s : ByteArray} {a l : Value} (hp : tmps.getD p undef = .pointer (some ⟨g, 0, none⟩)) (hg : VIn w g K B n s a l) :
    (results fn tmps).run Tryz.prog w = .ok (.tuple #[.agg (v6 K B n s a l).toArray, tmps.getD u undef]) w := by
  have hp' : tmps[p]?.getD undef = .pointer (some ⟨g, 0, none⟩) := by simpa using hp
  have hr := run_loadVar_row (P := Tryz.prog) w g vT _ _ _ _ hg Tryz.underlying73 rfl (by kernel_rfl)
  simp [results, h, hp', asAddr, hr, v6]
def RWordPost (w : World) (k : Nat) (s : ByteArray) (i many : Nat) (K : Int) (B : Bool) (p : Tx) (e : Ending) (w' : World) : Prop :=
  ∃ j, w.grownBy w' (some k) ∧ QIn w' k s j many ∧ j ≤ s.size ∧ ((p.isPrefixOf (sfx s i) = true ∧ sfx s j = (sfx s i).drop p.length ∧ e = .returned (.tuple #[.agg (v6 K B 0 ⟨#[]⟩ nilS nilS).toArray, .int .i64 0])) ∨ (p.isPrefixOf (sfx s i) = false ∧ e = .returned (.tuple #[.agg noV.toArray, .int .i64 3])))
set_option maxRecDepth 100000 in
set_option maxHeartbeats 4000000 in
theorem rword_any (k : Nat) (s : ByteArray) (i many : Nat) (K : Int) (B : Bool) (p : ByteArray) (w : World) (h : QIn w k s i many) (hs : s.size ≤ 2000) (hi : i ≤ s.size) (hp : p.size ≤ 5) :
    Calls Tryz.prog 130 #[.pointer (some ⟨k, 0, none⟩), .string p, .agg (v6 K B 0 ⟨#[]⟩ nilS nilS).toArray] w (RWordPost w k s i many K B p.data.toList) := by
  have H := Lib.hid h
  have hsl : ∀ W, (Instr.slice 9 (.string s) (some (.int .i64 (i : Int))) none none).run Tryz.prog W = .ok (.string (s.extract i s.size)) W := fun W => by
    rw [run_slice_string_l W _ _ Tryz.underlying9 .i64 (i : Int) (by omega) (by omega)]
    rfl
  clear h
  obtain ⟨x, hx⟩ : ∃ x, x = s.extract i s.size := ⟨_, rfl⟩
  obtain ⟨b, hb⟩ : ∃ b, b = p.data.toList.isPrefixOf (sfx s i) := ⟨_, rfl⟩
  have C : Hid (∀ wk, Calls Tryz.prog 177 #[.string x, .string p] wk fun e w' => e = .returned (.bool b) ∧ w' = wk) := fun wk => by
    have h := Tryz.strings_HasPrefix x p wk
    rw [hx, extract_sfx] at h
    rw [hx, hb]
    exact h
  have HP : Hid (p.data.toList.isPrefixOf (sfx s i) = b ∧ (b = true → i + p.size ≤ s.size ∧ sfx s (i + p.size) = (sfx s i).drop p.data.toList.length)) := by
    refine ⟨hb.symm, fun h => ?_⟩
    rw [hb, List.isPrefixOf_iff_prefix] at h
    obtain ⟨r, hr⟩ := h
    have hl : p.data.toList.length = p.size := size_list p
    have h2 := congrArg List.length hr
    rw [List.length_append, sfx_len, hl] at h2
    refine ⟨by omega, ?_⟩
    rw [hl]
    unfold sfx
    rw [List.drop_drop]
  rw [← hx] at hsl
  have hpI : (p.size : Int) ≤ 5 := by omega
  have hiI : (i : Int) ≤ 2000 := by omega
  have hwr : IntKind.i64.wrap ((i : Int) + (p.size : Int)) = (i : Int) + (p.size : Int) := IntWalk.i64_in _ (by omega)
  clear hx hb
  obtain ⟨g, hg⟩ : ∃ g, g = w.heap.size := ⟨_, rfl⟩
  obtain ⟨w1, hw1⟩ : ∃ w1, w1 = (w.alloc (.cells #[.int .i64 K, .bool B, .int .i64 0, .string ⟨#[]⟩, nilS, nilS] vT (0, 0))).alloc (.cells #[.int .i64 0, .bool false, .int .i64 0, .string ⟨#[]⟩, nilS, nilS] vT (0, 0)) := ⟨_, rfl⟩
  have HX1 : Hid (Ext w w1) := by rw [hw1]; exact (new_ext _ _).trans (new_ext _ _)
  have HV1 : Hid (VIn w1 g K B 0 ⟨#[]⟩ nilS nilS) := by rw [hw1]; exact heap_old (heap_new hg)
  have HR1 : Hid (VIn w1 (g + 1) 0 false 0 ⟨#[]⟩ nilS nilS) := by rw [hw1]; exact heap_new (by rw [hg]; simp)
  have HGW : Hid (w.heap.size ≤ g) := by rw [hg]; exact Nat.le_refl _
  unfold v6
  cases b with
  | true =>
    go_enter Tryz.func130, Tryz.ntmps130
    go_wp2_with fail
    rw [← hw1, ← hg]
    clear hw1 hg
    obtain ⟨z0, z1, _⟩ := (H.out.ext HX1.out).cells
    go_quiet (exact Calls.quiet_of_same (C.out _))
    generalize hW : World.drewN w1 _ = w2
    have HX2 : Hid (Ext w1 w2) := by rw [← hW]; exact ext_drewN' _ _
    clear hW z0 z1
    have HQ2 := Lib.hid (H.out.ext (HX1.out.trans HX2.out))
    obtain ⟨z0, z1, _⟩ := HQ2.out.cells
    have f1 := HQ2.out.free 1
    go_upto_region 4 with (fail)
    generalize hW : World.setCell w2 _ _ = w3
    have HQ3 : Hid (QIn w3 k s (i + p.size) many) := by rw [← hW]; exact HQ2.out.setAt _ _ (by omega)
    have HG3 : Hid (w2.grownBy w3 (some k)) := by rw [← hW]; exact grown_set _ k 1 _
    have HKG : Hid (some k ≠ some g ∧ some k ≠ some (g + 1)) := by
      have h1 := H.out.lt
      have h2 := HGW.out
      exact ⟨fun e => by injection e; omega, fun e => by injection e; omega⟩
    have HV3 := Lib.hid ((HV1.out.ext HX2.out).kept HG3.out HKG.out.1)
    have HR3 := Lib.hid ((HR1.out.ext HX2.out).kept HG3.out HKG.out.2)
    clear hW z0 z1 f1
    obtain ⟨c0, c1, c2, c3, c4, c5⟩ := HV3.out.cells
    obtain ⟨d0, d1, d2, d3, d4, d5⟩ := HR3.out.cells
    have e0 := HR3.out.free 0
    have e1 := HR3.out.free 1
    have e2 := HR3.out.free 2
    have e3 := HR3.out.free 3
    have e4 := HR3.out.free 4
    have e5 := HR3.out.free 5
    go_wp2_with fail
    refine bodyPost_ret (results_v rfl _ _ (g + 1) rfl (put_in K B 0 ⟨#[]⟩ nilS nilS HR3.out)) rfl ?_
    have HGE := put_grown K B 0 ⟨#[]⟩ nilS nilS (grown_trans (grown_ext (HX1.out.trans HX2.out)) HG3.out) (g := g + 1) (by have := HGW.out; omega)
    have HQE : QIn (putV w3 (g + 1) K B 0 ⟨#[]⟩ nilS nilS) k s (i + p.size) many := (put_heap w3 K B 0 ⟨#[]⟩ nilS nilS k (fun e => HKG.out.2 (by rw [e]))).trans HQ3.out
    exact ⟨i + p.size, HGE, HQE, (HP.out.2 trivial).1, .inl ⟨HP.out.1, (HP.out.2 trivial).2, rfl⟩⟩
  | false =>
    go_enter Tryz.func130, Tryz.ntmps130
    go_wp2_with fail
    rw [← hw1, ← hg]
    clear hw1 hg
    obtain ⟨z0, z1, _⟩ := (H.out.ext HX1.out).cells
    go_quiet (exact Calls.quiet_of_same (C.out _))
    generalize hW : World.drewN w1 _ = w2
    have HX2 : Hid (Ext w1 w2) := by rw [← hW]; exact ext_drewN' _ _
    clear hW z0 z1
    have HR3 := Lib.hid (HR1.out.ext HX2.out)
    obtain ⟨d0, d1, d2, d3, d4, d5⟩ := HR3.out.cells
    have e0 := HR3.out.free 0
    have e1 := HR3.out.free 1
    have e2 := HR3.out.free 2
    have e3 := HR3.out.free 3
    have e4 := HR3.out.free 4
    have e5 := HR3.out.free 5
    go_wp2_with fail
    refine bodyPost_ret (results_v rfl _ _ (g + 1) rfl (put_in 0 false 0 ⟨#[]⟩ nilS nilS HR3.out)) rfl ?_
    have HXE := put_ext 0 false 0 ⟨#[]⟩ nilS nilS (HX1.out.trans HX2.out) (g := g + 1) (by have := HGW.out; omega)
    exact ⟨i, grown_ext HXE, H.out.ext HXE, hi, .inr ⟨HP.out.1, rfl⟩⟩
end Go.Proofs.YtnccefeehkcneaaGreatDoor.Jm
