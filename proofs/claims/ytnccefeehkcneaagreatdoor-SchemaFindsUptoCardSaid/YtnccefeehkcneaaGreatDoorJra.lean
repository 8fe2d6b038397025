/-
  Texts by their bytes; the reader's block; what turns where.
  The program's reader: next, escape (printed by gen/jr1.py).
  The program's reader: escape, text (printed by gen/jr2.py).
-/
import Derived.Test.YtnccefeehkcneaaGreatDoorJm0
import Derived.Test.YtnccefeehkcneaaGreatDoorJst
import Derived.Test.YtnccefeehkcneaaGreatDoorGrow
import Derived.Deep.QuietTactic
import Derived.BigQuiet
import Derived.IntWalk
import Derived.Laws.DeepStrings4
import Derived.Lib.Hide
import Derived.BigGuardPart
import Derived.Test.YtnccefeehkcneaaGreatDoorBrow
namespace Go.Proofs.YtnccefeehkcneaaGreatDoor.Jm
open Go Go.RowKit Go.Proofs.YtnccefeehkcneaaGreatDoor.Sx Go.Proofs.YtnccefeehkcneaaGreatDoor.Js Go.Proofs.YtnccefeehkcneaaGreatDoor.Gr
def sfx (s : ByteArray) (i : Nat) : Tx := s.data.toList.drop i
def byteAt (s : ByteArray) (i : Nat) : UInt8 := s.data.toList.getD i 0
theorem size_list (s : ByteArray) : s.data.toList.length = s.size := by simp
theorem sfx_cons {s : ByteArray} {i : Nat} (h : i < s.size) : sfx s i = byteAt s i :: sfx s (i + 1) := by
  unfold sfx byteAt
  have hl := size_list s
  rw [List.drop_eq_getElem_cons (by omega), List.getD_eq_getElem?_getD, List.getElem?_eq_getElem (by omega)]
  rfl
theorem sfx_end {s : ByteArray} {i : Nat} (h : s.size ≤ i) : sfx s i = [] := by
  unfold sfx
  exact List.drop_of_length_le (by rw [size_list]; exact h)
theorem sfx_len (s : ByteArray) (i : Nat) : (sfx s i).length = s.size - i := by unfold sfx; rw [List.length_drop, size_list]
theorem grown_refl (w : World) (row : Option Nat) : w.grownBy w row := ⟨rfl, rfl, rfl, Nat.le_refl _, fun _ _ _ => rfl⟩
theorem grown_trans {w w' w'' : World} {row : Option Nat} (h : w.grownBy w' row) (h' : w'.grownBy w'' row) : w.grownBy w'' row :=
  ⟨h'.os.trans h.os, h'.tape.trans h.tape, h'.output.trans h.output, Nat.le_trans h.size h'.size, fun k hk hne => (h'.block k (Nat.lt_of_lt_of_le hk h.size) hne).trans (h.block k hk hne)⟩
theorem grown_ext {w w' : World} {row : Option Nat} (h : Ext w w') : w.grownBy w' row := ⟨h.os, h.tape, h.output, h.size, fun k hk _ => h.block k hk⟩
theorem grown_set (w : World) (kp j : Nat) (v : Value) : w.grownBy (w.setCell ⟨kp, j, none⟩ v) (some kp) :=
  ⟨rfl, rfl, rfl, by simp [World.setCell], fun k _ hne => Below.heap_setCell _ _ _ _ (fun e => hne (by first | rw [e] | rw [← e]))⟩
theorem ext_drewN' (w : World) (n : Nat) : Ext w (w.drewN n) := ⟨rfl, rfl, rfl, Nat.le_refl _, fun _ _ => rfl⟩
theorem run_byte (s : ByteArray) (i : Nat) (h : i < s.size) (W : World) : (Instr.index 9 (.string s) (.int .i64 (i : Int))).run Tryz.prog W = .ok (.int .u8 ((byteAt s i).toNat : Int)) W := by
  have hb : byteAt s i = s[i] := by
    unfold byteAt
    have hl := size_list s
    rw [List.getD_eq_getElem?_getD, List.getElem?_eq_getElem (by omega)]
    rfl
  rw [run_index_string W _ _ _ _ Tryz.underlying9, hb]
  simp [h]
theorem byte_eq (c d : UInt8) : ((c.toNat : Int) == (d.toNat : Int)) = (c == d) := by
  rw [Bool.eq_iff_iff, beq_iff_eq, beq_iff_eq]
  constructor
  · intro h
    exact UInt8.toNat_inj.1 (by omega)
  · rintro rfl
    rfl
theorem extract_piece (s : ByteArray) (a b : Nat) : (s.extract a b).data.toList = (sfx s a).take (b - a) := by
  rw [← ByteArray.toList_eq]
  exact Lib.extract_toList s a b
theorem run_piece (s : ByteArray) (a b : Nat) (h1 : a ≤ b) (h2 : b ≤ s.size) (W : World) : (Instr.slice 9 (.string s) (some (.int .i64 (a : Int))) (some (.int .i64 (b : Int))) none).run Tryz.prog W = .ok (.string (s.extract a b)) W := by
  rw [run_slice_string_if W _ _ _ _ _ _ Tryz.underlying9]
  rw [if_pos (by omega), if_pos (by omega)]
  rfl
theorem take_next {s : ByteArray} {a j : Nat} {c : UInt8} (h : sfx s j = c :: sfx s (j + 1)) (ha : a ≤ j) : (sfx s a).take (j + 1 - a) = (sfx s a).take (j - a) ++ [c] := by
  have e : j + 1 - a = (j - a) + 1 := by omega
  have hd : (sfx s a)[j - a]? = some c := by
    unfold sfx at h ⊢
    rw [List.getElem?_drop, show a + (j - a) = j by omega, ← List.head?_drop, h]
    rfl
  rw [e, List.take_add_one, hd]
  rfl
theorem sfx_step {s : ByteArray} {i : Nat} {c : UInt8} {r : Tx} (h : sfx s i = c :: r) : i < s.size ∧ sfx s (i + 1) = r ∧ byteAt s i = c := by
  have hlt : i < s.size := by
    have := sfx_len s i
    rw [h] at this
    simp at this
    omega
  refine ⟨hlt, ?_⟩
  rw [sfx_cons hlt] at h
  injection h with h1 h2
  exact ⟨h2, h1⟩
theorem byte_lit (c : UInt8) (n : Nat) (h : n < 256) : ((c.toNat : Int) == (n : Int)) = (c == UInt8.ofNat n) := by
  have e : (UInt8.ofNat n).toNat = n := by simp [UInt8.toNat_ofNat']; omega
  rw [← byte_eq, e]
abbrev rdT : Nat := 122
/-- The block of the reader: the text, the place, how many values, what is open, what went wrong. -/
def RIn (w : World) (k : Nat) (s : ByteArray) (i many : Nat) (v : Value) (bad : Int) : Prop := w.heap[k]? = some (.cells #[.string s, .int .i64 (i : Int), .int .i64 (many : Int), v, .int .i64 bad] rdT (0, 0))
section
variable {w w' : World} {k : Nat} {s : ByteArray} {i many : Nat} {v : Value} {bad : Int}
theorem RIn.cells (h : RIn w k s i many v bad) : w.cell? ⟨k, 0, none⟩ = some (.string s) ∧ w.cell? ⟨k, 1, none⟩ = some (.int .i64 (i : Int)) ∧ w.cell? ⟨k, 2, none⟩ = some (.int .i64 (many : Int)) ∧ w.cell? ⟨k, 3, none⟩ = some v ∧ w.cell? ⟨k, 4, none⟩ = some (.int .i64 bad) := ⟨cell_of h 0, cell_of h 1, cell_of h 2, cell_of h 3, cell_of h 4⟩
theorem RIn.free (h : RIn w k s i many v bad) (o : Nat) : w.frozen? ⟨k, o, none⟩ = false := by simp [World.frozen?, show w.heap[k]? = _ from h]
theorem RIn.kept {row : Option Nat} (h : RIn w k s i many v bad) (hg : w.grownBy w' row) (hne : row ≠ some k) : RIn w' k s i many v bad := (hg.block _ (heap_lt h) (fun e => hne e.symm)).trans h
theorem RIn.ext (h : RIn w k s i many v bad) (hx : Ext w w') : RIn w' k s i many v bad := (hx.block _ (heap_lt h)).trans h
theorem RIn.lt (h : RIn w k s i many v bad) : k < w.heap.size := heap_lt h
theorem RIn.setAt (h : RIn w k s i many v bad) (j : Nat) (z : Int) (hz : z = (j : Int)) : RIn (w.setCell ⟨k, 1, none⟩ (.int .i64 z)) k s j many v bad := by subst hz; exact heap_setCell_same w k 1 _ rdT _ h
theorem RIn.setMany (h : RIn w k s i many v bad) (j : Nat) (z : Int) (hz : z = (j : Int)) : RIn (w.setCell ⟨k, 2, none⟩ (.int .i64 z)) k s i j v bad := by subst hz; exact heap_setCell_same w k 2 _ rdT _ h
theorem RIn.setStack (h : RIn w k s i many v bad) (u : Value) : RIn (w.setCell ⟨k, 3, none⟩ u) k s i many u bad := heap_setCell_same w k 3 _ rdT _ h
theorem RIn.setBad (h : RIn w k s i many v bad) (b : Int) : RIn (w.setCell ⟨k, 4, none⟩ (.int .i64 b)) k s i many v b := heap_setCell_same w k 4 _ rdT _ h
/-- Where the reader stands. -/
def atOf (w : World) (k : Nat) : Nat := (intOf ((w.cell? ⟨k, 1, none⟩).getD (.int .i64 0))).toNat
theorem RIn.atOf (h : RIn w k s i many v bad) : Jm.atOf w k = i := by
  unfold Jm.atOf
  rw [h.cells.2.1]
  exact Int.toNat_natCast i
end
def failB (bad e : Int) : Int := if bad = 0 then e else bad
set_option maxRecDepth 100000 in
set_option maxHeartbeats 1000000 in
theorem fail_any (k : Nat) (s : ByteArray) (i many : Nat) (v : Value) (bad e : Int) (w : World) (h : RIn w k s i many v bad) :
    Calls Tryz.prog 66 #[.pointer (some ⟨k, 0, none⟩), .int .i64 e] w fun en w' => en = .returned (.tuple #[]) ∧ RIn w' k s i many v (failB bad e) ∧ w.grownBy w' (some k) := by
  obtain ⟨_, _, _, _, z4⟩ := h.cells
  have f4 := h.free 4
  have H := Lib.hid h
  clear h
  by_cases hb : bad = 0
  · have b1 : (bad == 0) = true := by simp [hb]
    have HF : Hid (failB bad e = e) := if_pos hb
    clear hb
    go_enter Tryz.func66, Tryz.ntmps66
    go_wp2
    go_end0
    exact ⟨rfl, by rw [HF.out]; exact H.out.setBad e, grown_set w k 4 _⟩
  · have b1 : (bad == 0) = false := by simp [hb]
    have HF : Hid (failB bad e = bad) := if_neg hb
    clear hb
    go_enter Tryz.func66, Tryz.ntmps66
    go_wp2
    go_end0
    exact ⟨rfl, by rw [HF.out]; exact H.out, grown_refl _ _⟩
end Go.Proofs.YtnccefeehkcneaaGreatDoor.Jm
namespace Go.Proofs.YtnccefeehkcneaaGreatDoor.Jm
open Go Go.RowKit Go.Proofs.YtnccefeehkcneaaGreatDoor.Sx Go.Proofs.YtnccefeehkcneaaGreatDoor.Js Go.Proofs.YtnccefeehkcneaaGreatDoor.Gr
def headB (t : Tx) : UInt8 := match t with | [] => 0 | c :: _ => c
theorem ret_u8 {a b : UInt8} (h : a = b) : Ending.returned (.int .u8 (a.toNat : Int)) = .returned (.int .u8 (b.toNat : Int)) := by rw [h]
theorem byte_ne (c : UInt8) (n : Nat) (h : n < 256) : ((c.toNat : Int) != (n : Int)) = !(c == UInt8.ofNat n) := by rw [← byte_lit c n h]; rfl
def NextPost (w : World) (k : Nat) (s : ByteArray) (i many : Nat) (v : Value) (bad : Int) (e : Ending) (w' : World) : Prop :=
  ∃ j, e = .returned (.int .u8 ((headB (skipW (sfx s i))).toNat : Int)) ∧ RIn w' k s j many v bad ∧ i ≤ j ∧ (i ≤ s.size → j ≤ s.size) ∧ sfx s j = skipW (sfx s i) ∧ w.grownBy w' (some k)
set_option maxRecDepth 100000 in
set_option maxHeartbeats 2000000 in
theorem next_any (k : Nat) (s : ByteArray) (i many : Nat) (v : Value) (bad : Int) (w : World) (h : RIn w k s i many v bad) (hs : s.size ≤ 2000) (hi : i ≤ 4000) :
    Calls Tryz.prog 65 #[.pointer (some ⟨k, 0, none⟩)] w (NextPost w k s i many v bad) := by
  have H := Lib.hid h
  clear h
  go_enter Tryz.func65, Tryz.ntmps65
  go_wp2_with fail
  go_loopw [40] (fun _ wr => ∃ j, i ≤ j ∧ j ≤ 4000 ∧ Hid ((i ≤ s.size → j ≤ s.size) ∧ RIn wr k s j many v bad ∧ skipW (sfx s j) = skipW (sfx s i) ∧ w.grownBy wr (some k))) (fun _ wr => s.size - atOf wr k)
  case atStart => exact ⟨i, Nat.le_refl _, hi, fun h => h, H.out, rfl, grown_refl _ _⟩
  case round =>
    obtain ⟨j, hij, hj4, hR⟩ := hrel
    obtain ⟨z0, z1, _⟩ := hR.out.2.1.cells
    by_cases hlt : j < s.size
    · have hby := run_byte s j hlt
      obtain ⟨c, hcc⟩ : ∃ c, c = byteAt s j := ⟨_, rfl⟩
      have HSX : Hid (sfx s j = c :: sfx s (j + 1)) := by rw [hcc]; exact sfx_cons hlt
      rw [← hcc] at hby
      have hltI : (j : Int) < (s.size : Int) := by omega
      have hj0 : (0 : Int) ≤ (j : Int) := by omega
      have f1 := hR.out.2.1.free 1
      clear hcc
      by_cases h32 : c = 32
      · have HN : Hid (skipW (sfx s (j + 1)) = skipW (sfx s i)) := by unfold Hid; rw [← hR.out.2.2.1, HSX.out, skipW_cons (by rw [h32]; rfl)]
        have b32 : ((c.toNat : Int) != 32) = false := by rw [h32]; rfl
        clear h32
        go_wp2_with fail
        go_quiet (fail)
        go_wp2_with fail
        go_quiet (fail)
        go_wp2_with fail
        go_roundw
        case rel =>
          exact ⟨j + 1, by omega, by omega, fun _ => hlt, RIn.setAt (w := World.drewN _ _) (hR.out.2.1.ext (ext_drewN' _ _)) (j + 1) _ (by omega), HN.out, grown_trans hR.out.2.2.2 (grown_trans (grown_ext (ext_drewN' _ _)) (grown_set _ k 1 _))⟩
        case measure =>
          rw [hR.out.2.1.atOf, (RIn.setAt (w := World.drewN _ _) (hR.out.2.1.ext (ext_drewN' _ _)) (j + 1) _ (by omega)).atOf]
          omega
      · by_cases h9 : c = 9
        · have HN : Hid (skipW (sfx s (j + 1)) = skipW (sfx s i)) := by unfold Hid; rw [← hR.out.2.2.1, HSX.out, skipW_cons (by rw [h9]; rfl)]
          have b32 : ((c.toNat : Int) != 32) = true := by rw [h9]; rfl
          have b9 : ((c.toNat : Int) != 9) = false := by rw [h9]; rfl
          clear h32 h9
          go_wp2_with fail
          go_quiet (fail)
          go_wp2_with fail
          go_quiet (fail)
          go_wp2_with fail
          go_roundw
          case rel =>
            exact ⟨j + 1, by omega, by omega, fun _ => hlt, RIn.setAt (w := World.drewN _ _) (hR.out.2.1.ext (ext_drewN' _ _)) (j + 1) _ (by omega), HN.out, grown_trans hR.out.2.2.2 (grown_trans (grown_ext (ext_drewN' _ _)) (grown_set _ k 1 _))⟩
          case measure =>
            rw [hR.out.2.1.atOf, (RIn.setAt (w := World.drewN _ _) (hR.out.2.1.ext (ext_drewN' _ _)) (j + 1) _ (by omega)).atOf]
            omega
        · by_cases h10 : c = 10
          · have HN : Hid (skipW (sfx s (j + 1)) = skipW (sfx s i)) := by unfold Hid; rw [← hR.out.2.2.1, HSX.out, skipW_cons (by rw [h10]; rfl)]
            have b32 : ((c.toNat : Int) != 32) = true := by rw [h10]; rfl
            have b9 : ((c.toNat : Int) != 9) = true := by rw [h10]; rfl
            have b10 : ((c.toNat : Int) != 10) = false := by rw [h10]; rfl
            clear h32 h9 h10
            go_wp2_with fail
            go_quiet (fail)
            go_wp2_with fail
            go_quiet (fail)
            go_wp2_with fail
            go_roundw
            case rel =>
              exact ⟨j + 1, by omega, by omega, fun _ => hlt, RIn.setAt (w := World.drewN _ _) (hR.out.2.1.ext (ext_drewN' _ _)) (j + 1) _ (by omega), HN.out, grown_trans hR.out.2.2.2 (grown_trans (grown_ext (ext_drewN' _ _)) (grown_set _ k 1 _))⟩
            case measure =>
              rw [hR.out.2.1.atOf, (RIn.setAt (w := World.drewN _ _) (hR.out.2.1.ext (ext_drewN' _ _)) (j + 1) _ (by omega)).atOf]
              omega
          · have hw : isWs c = false := by
              unfold isWs
              rw [beq_eq_false_iff_ne.2 h32, beq_eq_false_iff_ne.2 h9, beq_eq_false_iff_ne.2 h10]; rfl
            have HST : Hid (skipW (sfx s i) = sfx s j ∧ headB (skipW (sfx s i)) = c) := by
              have e : skipW (sfx s i) = sfx s j := by rw [← hR.out.2.2.1, HSX.out, skipW_stop hw]
              exact ⟨e, by rw [e, HSX.out]; rfl⟩
            have b32 : ((c.toNat : Int) != 32) = true := by rw [show (32 : Int) = ((32 : Nat) : Int) from rfl, byte_ne c 32 (by omega)]; simp [h32]
            have b9 : ((c.toNat : Int) != 9) = true := by rw [show (9 : Int) = ((9 : Nat) : Int) from rfl, byte_ne c 9 (by omega)]; simp [h9]
            have b10 : ((c.toNat : Int) != 10) = true := by rw [show (10 : Int) = ((10 : Nat) : Int) from rfl, byte_ne c 10 (by omega)]; simp [h10]
            clear h32 h9 h10 hw
            go_wp2_with fail
            go_quiet (fail)
            go_wp2_with fail
            go_quiet (fail)
            go_wp2_with fail
            go_ret
            exact ⟨j, ret_u8 HST.out.2.symm, hR.out.2.1.ext (ext_drewN' _ _), hij, hR.out.1, HST.out.1.symm, grown_trans hR.out.2.2.2 (grown_ext (ext_drewN' _ _))⟩
    · have HST : Hid (skipW (sfx s i) = [] ∧ sfx s j = []) := by
        have e : sfx s j = [] := sfx_end (by omega)
        exact ⟨by rw [← hR.out.2.2.1, e]; rfl, e⟩
      go_wp2_with fail
      go_quiet (fail)
      go_wp2_with fail
      go_ret
      exact ⟨j, by rw [HST.out.1]; rfl, hR.out.2.1.ext (ext_drewN' _ _), hij, hR.out.1, by rw [HST.out.1, HST.out.2], grown_trans hR.out.2.2.2 (grown_ext (ext_drewN' _ _))⟩
end Go.Proofs.YtnccefeehkcneaaGreatDoor.Jm
namespace Go.Proofs.YtnccefeehkcneaaGreatDoor.Jm
open Go Go.RowKit Go.Proofs.YtnccefeehkcneaaGreatDoor.Sx Go.Proofs.YtnccefeehkcneaaGreatDoor.Js Go.Proofs.YtnccefeehkcneaaGreatDoor.Gr
def EscPost (w : World) (k : Nat) (s : ByteArray) (i many : Nat) (v : Value) (bad : Int) (e : Ending) (w' : World) : Prop :=
  ∃ x bad', e = .returned (.int .u8 ((x : UInt8).toNat : Int)) ∧ RIn w' k s i many v bad' ∧ w.grownBy w' (some k) ∧ ((∃ d r, sfx s i = d :: r ∧ esc d = some x ∧ bad' = bad) ∨ ((∀ d r, sfx s i = d :: r → esc d = none) ∧ bad' = failB bad 3))
set_option maxRecDepth 100000 in
set_option maxHeartbeats 2000000 in
theorem escape_any (k : Nat) (s : ByteArray) (i many : Nat) (v : Value) (bad : Int) (w : World) (h : RIn w k s i many v bad) (_hs : s.size ≤ 2000) (hi : i ≤ 4000) :
    Calls Tryz.prog 202 #[.pointer (some ⟨k, 0, none⟩)] w (EscPost w k s i many v bad) := by
  have H := Lib.hid h
  obtain ⟨z0, z1, _⟩ := h.cells
  clear h
  have FL : Hid (∀ m, Calls Tryz.prog 66 #[.pointer (some ⟨k, 0, none⟩), .int .i64 3] (w.drewN m) fun en w' => en = .returned (.tuple #[]) ∧ RIn w' k s i many v (failB bad 3) ∧ w.grownBy w' (some k)) := fun m =>
    (fail_any k s i many v bad 3 (w.drewN m) (H.out.ext (ext_drewN' _ _))).mono fun e w' ⟨h1, h2, h3⟩ => ⟨h1, h2, grown_trans (grown_ext (ext_drewN' _ _)) h3⟩
  by_cases hlt : i < s.size
  · have hby := run_byte s i hlt
    obtain ⟨c, hcc⟩ : ∃ c, c = byteAt s i := ⟨_, rfl⟩
    have HSX : Hid (sfx s i = c :: sfx s (i + 1)) := by rw [hcc]; exact sfx_cons hlt
    rw [← hcc] at hby
    have hltI : (i : Int) < (s.size : Int) := by omega
    have hi0 : (0 : Int) ≤ (i : Int) := by omega
    clear hcc
    by_cases h34 : c = 34
    · have HX : Hid (sfx s i = 34 :: sfx s (i + 1)) := by rw [← h34]; exact HSX.out
      have HC : Hid (c = 34) := h34
      have b34 : ((c.toNat : Int) == 34) = true := by rw [h34]; rfl
      clear h34
      go_enter Tryz.func202, Tryz.ntmps202
      go_wp2_with fail
      go_quiet (fail)
      go_wp2_with fail
      go_quiet (fail)
      go_wp2_with fail
      go_ret
      refine ⟨34, bad, ?_, H.out.ext (ext_drewN' _ _), grown_ext (ext_drewN' _ _), .inl ⟨34, sfx s (i + 1), HX.out, rfl, rfl⟩⟩
      rw [HC.out]; rfl
    · by_cases h92 : c = 92
      · have HX : Hid (sfx s i = 92 :: sfx s (i + 1)) := by rw [← h92]; exact HSX.out
        have HC : Hid (c = 92) := h92
        have b34 : ((c.toNat : Int) == 34) = false := by rw [h92]; rfl
        have b92 : ((c.toNat : Int) == 92) = true := by rw [h92]; rfl
        clear h92 h34
        go_enter Tryz.func202, Tryz.ntmps202
        go_wp2_with fail
        go_quiet (fail)
        go_wp2_with fail
        go_quiet (fail)
        go_wp2_with fail
        go_ret
        refine ⟨92, bad, ?_, H.out.ext (ext_drewN' _ _), grown_ext (ext_drewN' _ _), .inl ⟨92, sfx s (i + 1), HX.out, rfl, rfl⟩⟩
        rw [HC.out]; rfl
      · by_cases h110 : c = 110
        · have HX : Hid (sfx s i = 110 :: sfx s (i + 1)) := by rw [← h110]; exact HSX.out
          have b34 : ((c.toNat : Int) == 34) = false := by rw [h110]; rfl
          have b92 : ((c.toNat : Int) == 92) = false := by rw [h110]; rfl
          have b110 : ((c.toNat : Int) == 110) = true := by rw [h110]; rfl
          clear h110 h34 h92
          go_enter Tryz.func202, Tryz.ntmps202
          go_wp2_with fail
          go_quiet (fail)
          go_wp2_with fail
          go_quiet (fail)
          go_wp2_with fail
          go_ret
          refine ⟨10, bad, ?_, H.out.ext (ext_drewN' _ _), grown_ext (ext_drewN' _ _), .inl ⟨110, sfx s (i + 1), HX.out, rfl, rfl⟩⟩
          rfl
        · by_cases h116 : c = 116
          · have HX : Hid (sfx s i = 116 :: sfx s (i + 1)) := by rw [← h116]; exact HSX.out
            have b34 : ((c.toNat : Int) == 34) = false := by rw [h116]; rfl
            have b92 : ((c.toNat : Int) == 92) = false := by rw [h116]; rfl
            have b110 : ((c.toNat : Int) == 110) = false := by rw [h116]; rfl
            have b116 : ((c.toNat : Int) == 116) = true := by rw [h116]; rfl
            clear h116 h34 h92 h110
            go_enter Tryz.func202, Tryz.ntmps202
            go_wp2_with fail
            go_quiet (fail)
            go_wp2_with fail
            go_quiet (fail)
            go_wp2_with fail
            go_ret
            refine ⟨9, bad, ?_, H.out.ext (ext_drewN' _ _), grown_ext (ext_drewN' _ _), .inl ⟨116, sfx s (i + 1), HX.out, rfl, rfl⟩⟩
            rfl
          · have HN : Hid (esc c = none) := by
              unfold Hid esc
              rw [if_neg h34, if_neg h92, if_neg h110, if_neg h116]
            have b34 : ((c.toNat : Int) == 34) = false := by rw [show (34 : Int) = ((34 : Nat) : Int) from rfl, byte_lit c 34 (by omega)]; simp [h34]
            have b92 : ((c.toNat : Int) == 92) = false := by rw [show (92 : Int) = ((92 : Nat) : Int) from rfl, byte_lit c 92 (by omega)]; simp [h92]
            have b110 : ((c.toNat : Int) == 110) = false := by rw [show (110 : Int) = ((110 : Nat) : Int) from rfl, byte_lit c 110 (by omega)]; simp [h110]
            have b116 : ((c.toNat : Int) == 116) = false := by rw [show (116 : Int) = ((116 : Nat) : Int) from rfl, byte_lit c 116 (by omega)]; simp [h116]
            clear h34 h92 h110 h116
            go_enter Tryz.func202, Tryz.ntmps202
            go_wp2_with fail
            go_quiet (fail)
            go_wp2_with fail
            go_quiet (fail)
            go_wp2_with fail
            refine Calls.mono (FL.out _) ?_
            rintro e w2 ⟨rfl, h2, g2⟩
            go_wp2_with fail
            go_ret
            exact ⟨0, _, rfl, h2, g2, .inr ⟨fun d r e => by rw [HSX.out] at e; injection e with e _; rw [← e]; exact HN.out, rfl⟩⟩
  · have HN : Hid (sfx s i = []) := sfx_end (by omega)
    go_enter Tryz.func202, Tryz.ntmps202
    go_wp2_with fail
    go_quiet (fail)
    go_wp2_with fail
    refine Calls.mono (FL.out _) ?_
    rintro e w2 ⟨rfl, h2, g2⟩
    go_wp2_with fail
    go_ret
    exact ⟨0, _, rfl, h2, g2, .inr ⟨fun d r e => (by rw [HN.out] at e; cases e), rfl⟩⟩
theorem brow_grownK {w wr w' : World} {k : Nat} {v : Value} {z : List UInt8} (h : w.grownBy wr (some k)) (hr : BRow w.heap.size wr v z) (hg : wr.grownBy w' v.ownBlock) : w.grownBy w' (some k) :=
  ⟨hg.os.trans h.os, hg.tape.trans h.tape, hg.output.trans h.output, Nat.le_trans h.size hg.size, fun j hj hne => (hg.block j (Nat.lt_of_lt_of_le hj h.size) (fun e => by have := (hr.block j e.symm).1; omega)).trans (h.block j hj hne)⟩
theorem brow_keptK {base k : Nat} {w w' : World} {v : Value} {z : List UInt8} (h : BRow base w v z) (hk : k < base) (hg : w.grownBy w' (some k)) : BRow base w' v z := h.kept hg (fun g e h2 => by
  have h1 := (h.block g e).1
  injection h2 with h2
  omega)
def TextPost (w : World) (k : Nat) (s : ByteArray) (T : Tx) (many : Nat) (v : Value) (e : Ending) (w' : World) : Prop :=
  ∃ j bad, w.grownBy w' (some k) ∧ RIn w' k s j many v bad ∧ j ≤ 3000 ∧ ((∃ t, textS T = some (t, sfx s j) ∧ e = .returned (.string (bx t)) ∧ bad = 0 ∧ j ≤ s.size) ∨ (textS T = none ∧ e = .returned (.string ⟨#[]⟩) ∧ bad = 3))
set_option maxRecDepth 100000 in
set_option maxHeartbeats 4000000 in
theorem text_any (k : Nat) (s : ByteArray) (i many : Nat) (v : Value) (w : World) (h : RIn w k s i many v 0) (hs : s.size ≤ 2000) (hi : i ≤ s.size) :
    Calls Tryz.prog 171 #[.pointer (some ⟨k, 0, none⟩)] w (TextPost w k s (sfx s (i + 1)) many v) := by
  have hk := h.lt
  obtain ⟨z0, z1, _⟩ := h.cells
  have f1 := h.free 1
  have H := Lib.hid h
  clear h
  have FL : Hid (∀ (W : World) (j : Nat), RIn W k s j many v 0 → w.grownBy W (some k) → Calls Tryz.prog 66 #[.pointer (some ⟨k, 0, none⟩), .int .i64 3] W fun en w' => en = .returned (.tuple #[]) ∧ RIn w' k s j many v 3 ∧ w.grownBy w' (some k)) := fun W j h hg =>
    (fail_any k s j many v 0 3 W h).mono fun e w' ⟨h1, h2, h3⟩ => ⟨h1, h2, grown_trans hg h3⟩
  go_enter Tryz.func171, Tryz.ntmps171
  go_wp2_with fail
  have H1 : Hid (RIn (w.setCell ⟨k, 1, none⟩ (.int .i64 ((i : Int) + 1))) k s (i + 1) many v 0 ∧ w.grownBy (w.setCell ⟨k, 1, none⟩ (.int .i64 ((i : Int) + 1))) (some k)) := ⟨H.out.setAt _ _ (by omega), grown_set _ _ _ _⟩
  clear z0 z1 f1
  go_loopw [3] (fun o wr => ∃ (acc : Tx) (n : Nat) (A : Option Addr) (c2 j : Nat), j ≤ s.size + 2 ∧ n ≤ j ∧ o = .slice A n c2 ∧ Hid (acc.length = n ∧ textS (sfx s (i + 1)) = (textS (sfx s j)).map (fun p => (acc ++ p.1, p.2)) ∧ BRow w.heap.size wr (.slice A n c2) acc ∧ RIn wr k s j many v 0 ∧ w.grownBy wr (some k))) (fun _ wr => s.size + 5 - atOf wr k)
  case atStart => exact ⟨[], 0, none, 0, i + 1, by omega, by omega, rfl, rfl, by simp, BRow.nil, H1.out.1, H1.out.2⟩
  case round =>
    obtain ⟨acc, n, A, c2, j, hj, hnj, rfl, hR⟩ := hrel
    obtain ⟨z0, z1, _, _, z4⟩ := hR.out.2.2.2.1.cells
    have f1 := hR.out.2.2.2.1.free 1
    by_cases hlt : j < s.size
    · have hby := run_byte s j hlt
      obtain ⟨c, hcc⟩ : ∃ c, c = byteAt s j := ⟨_, rfl⟩
      have HSX : Hid (sfx s j = c :: sfx s (j + 1)) := by rw [hcc]; exact sfx_cons hlt
      rw [← hcc] at hby
      have hltI : (j : Int) < (s.size : Int) := by omega
      have hj0 : (0 : Int) ≤ (j : Int) := by omega
      clear hcc
      by_cases h34 : c = 34
      · have b34 : ((c.toNat : Int) == 34) = true := by rw [h34]; rfl
        have HT : Hid (textS (sfx s (i + 1)) = some (acc, sfx s (j + 1))) := by
          unfold Hid
          rw [hR.out.2.1, HSX.out, textS_cons, if_pos h34]
          simp
        have hcv : ∀ m, (convert 211 9 (.slice A n c2)).run Tryz.prog ((wr.drewN m).setCell ⟨k, 1, none⟩ (.int .i64 ((j : Int) + 1))) = .ok (.string (bx acc)) ((wr.drewN m).setCell ⟨k, 1, none⟩ (.int .i64 ((j : Int) + 1))) := fun m =>
          run_string (brow_keptK (hR.out.2.2.1.ext (ext_drewN' _ m)) hk (grown_set _ k 1 _)).src
        clear h34
        go_wp2_with fail
        go_quiet (fail)
        go_wp2_with fail
        go_quiet (fail)
        go_wp2_with fail
        go_ret
        exact ⟨j + 1, 0, grown_trans hR.out.2.2.2.2 (grown_trans (grown_ext (ext_drewN' _ _)) (grown_set _ k 1 _)), RIn.setAt (w := World.drewN _ _) (hR.out.2.2.2.1.ext (ext_drewN' _ _)) (j + 1) _ (by omega), by omega, .inl ⟨acc, HT.out, rfl, rfl, hlt⟩⟩
      · by_cases hodd : c < 32 ∨ 126 < c
        · have HT : Hid (textS (sfx s (i + 1)) = none) := by
            unfold Hid
            rw [hR.out.2.1, HSX.out, textS_cons, if_neg h34, if_pos hodd]
            rfl
          have b34 : ((c.toNat : Int) == 34) = false := by rw [show (34 : Int) = ((34 : Nat) : Int) from rfl, byte_lit c 34 (by omega)]; simp [h34]
          have CF : Hid (∀ m, Calls Tryz.prog 66 #[.pointer (some ⟨k, 0, none⟩), .int .i64 3] (wr.drewN m) fun en w' => en = .returned (.tuple #[]) ∧ RIn w' k s j many v 3 ∧ w.grownBy w' (some k)) := fun m => FL.out _ _ (hR.out.2.2.2.1.ext (ext_drewN' _ _)) (grown_trans hR.out.2.2.2.2 (grown_ext (ext_drewN' _ _)))
          by_cases hlow : c < 32
          · have hlt32 : c.toNat < 32 := UInt8.lt_iff_toNat_lt.1 hlow
            have b32 : decide ((c.toNat : Int) < 32) = true := decide_eq_true (by omega)
            clear h34 hodd hlow hlt32
            go_wp2_with fail
            go_quiet (fail)
            go_wp2_with fail
            go_quiet (fail)
            go_wp2_with fail
            refine Calls.mono (CF.out _) ?_
            rintro e w2 ⟨rfl, h2, g2⟩
            go_wp2_with fail
            go_ret
            exact ⟨j, 3, g2, h2, by omega, .inr ⟨HT.out, rfl, rfl⟩⟩
          · have hhi : 126 < c := hodd.resolve_left hlow
            have hhi2 : 126 < c.toNat := UInt8.lt_iff_toNat_lt.1 hhi
            have hl2 : ¬ c.toNat < 32 := fun e => hlow (UInt8.lt_iff_toNat_lt.2 e)
            have b32 : decide ((c.toNat : Int) < 32) = false := decide_eq_false (by omega)
            have b126 : decide (126 < (c.toNat : Int)) = true := decide_eq_true (by omega)
            clear h34 hodd hlow hhi hhi2 hl2
            go_wp2_with fail
            go_quiet (fail)
            go_wp2_with fail
            go_quiet (fail)
            go_wp2_with fail
            refine Calls.mono (CF.out _) ?_
            rintro e w2 ⟨rfl, h2, g2⟩
            go_wp2_with fail
            go_ret
            exact ⟨j, 3, g2, h2, by omega, .inr ⟨HT.out, rfl, rfl⟩⟩
        · have hl2 : ¬ c.toNat < 32 := fun e => hodd (.inl (UInt8.lt_iff_toNat_lt.2 e))
          have hh2 : ¬ 126 < c.toNat := fun e => hodd (.inr (UInt8.lt_iff_toNat_lt.2 e))
          have b32 : decide ((c.toNat : Int) < 32) = false := decide_eq_false (by omega)
          have b126 : decide (126 < (c.toNat : Int)) = false := decide_eq_false (by omega)
          have b34 : ((c.toNat : Int) == 34) = false := by rw [show (34 : Int) = ((34 : Nat) : Int) from rfl, byte_lit c 34 (by omega)]; simp [h34]
          have HTS : Hid (textS (sfx s j) = if c = 92 then (match sfx s (j + 1) with | [] => none | d :: r2 => match esc d with | none => none | some x => (textS r2).map fun p => (x :: p.1, p.2)) else (textS (sfx s (j + 1))).map fun p => (c :: p.1, p.2)) := by
            unfold Hid
            rw [HSX.out, textS_cons, if_neg h34, if_neg hodd]
            rfl
          clear hl2 hh2 hodd h34
          by_cases h92 : c = 92
          · have b92 : ((c.toNat : Int) == 92) = true := by rw [h92]; rfl
            rw [if_pos h92] at HTS
            have CE : Hid (∀ m, Calls Tryz.prog 202 #[.pointer (some ⟨k, 0, none⟩)] ((wr.drewN m).setCell ⟨k, 1, none⟩ (.int .i64 ((j : Int) + 1))) fun e w' => EscPost ((wr.drewN m).setCell ⟨k, 1, none⟩ (.int .i64 ((j : Int) + 1))) k s (j + 1) many v 0 e w' ∧ wr.grownBy w' (some k)) := fun m =>
              (escape_any k s (j + 1) many v 0 _ (RIn.setAt (w := World.drewN _ _) (hR.out.2.2.2.1.ext (ext_drewN' _ _)) (j + 1) _ (by omega)) hs (by omega)).mono fun e w' h => ⟨h, by obtain ⟨_, _, _, _, hg, _⟩ := h; exact grown_trans (grown_trans (grown_ext (ext_drewN' _ _)) (grown_set _ k 1 _)) hg⟩
            clear h92
            go_wp2_with fail
            go_quiet (fail)
            go_wp2_with fail
            go_quiet (fail)
            go_wp2_with fail
            refine Calls.mono (CE.out _) ?_
            rintro e w2 ⟨⟨x, bad2, rfl, h2, _, ⟨d, r, hd, he, rfl⟩ | ⟨hno, rfl⟩⟩, g2⟩
            · obtain ⟨hj1, hr, _⟩ := sfx_step hd
              have HTX : Hid (textS (sfx s (i + 1)) = (textS (sfx s (j + 2))).map fun p => ((acc ++ [x]) ++ p.1, p.2)) := by
                unfold Hid
                rw [hR.out.2.1, HTS.out, hd]
                simp only [he]
                rw [← hr, Option.map_map]
                simp [Function.comp_def]
              have HXA : Hid (BRow w.heap.size (w2.alloc (.cells #[.int .u8 (x.toNat : Int)] u8T)) (.slice A n c2) acc ∧ w.grownBy (w2.alloc (.cells #[.int .u8 (x.toNat : Int)] u8T)) (some k) ∧ RIn (w2.alloc (.cells #[.int .u8 (x.toNat : Int)] u8T)) k s (j + 1) many v 0 ∧ SrcB (w2.alloc (.cells #[.int .u8 (x.toNat : Int)] u8T)) (.slice (some ⟨w2.heap.size, 0, none⟩) 1 1) [x]) :=
                ⟨(brow_keptK hR.out.2.2.1 hk g2).ext (new_ext _ _), grown_trans (grown_trans hR.out.2.2.2.2 g2) (grown_ext (new_ext _ _)), h2.ext (new_ext _ _), SrcB.of_block (ys := [x]) (c := 1) (heap_new rfl)⟩
              obtain ⟨_, _, _, _, y4⟩ := h2.cells
              clear h2 g2 hd he hr CE z0 z1 z4 f1 b34 b92 b32 b126 hby
              go_wp2_with (at_builtin; refine append_bytes rfl _ _ (by rfl) w.heap.size n 1 _ (.slice A n c2) (.slice (some ⟨w2.heap.size, 0, none⟩) 1 1) acc [x] (by rfl) (by rfl) HXA.out.1 HXA.out.2.2.2 hR.out.1 rfl (by omega) HXA.out.2.1.size ?_; intro A9 c9 w9 h9 g9 _; have H9 := Lib.hid (HXA.out.2.2.1.kept g9 (fun e => by have := (HXA.out.1.block _ e).1; omega)); have z1 := H9.out.cells.2.1; have f1 := H9.out.free 1)
              have HG9 := Lib.hid (brow_grownK HXA.out.2.1 HXA.out.1 g9)
              have HB9 := Lib.hid h9
              clear h9 g9
              go_wp2_with fail
              go_roundw
              case rel => exact ⟨acc ++ [x], n + 1, A9, c9, j + 2, by omega, by omega, rfl, by rw [List.length_append, hR.out.1]; rfl, HTX.out, brow_keptK HB9.out hk (grown_set _ k 1 _), H9.out.setAt _ _ (by omega), grown_trans HG9.out (grown_set _ k 1 _)⟩
              case measure =>
                rw [hR.out.2.2.2.1.atOf, (H9.out.setAt (j + 2) _ (by omega)).atOf]
                omega
            · have HT : Hid (textS (sfx s (i + 1)) = none) := by
                unfold Hid
                rw [hR.out.2.1, HTS.out]
                cases hd : sfx s (j + 1) with
                | nil => rfl
                | cons d r => simp only [hno d r hd]; rfl
              have HG := Lib.hid (grown_trans hR.out.2.2.2.2 g2)
              have h2' : RIn w2 k s (j + 1) many v 3 := h2
              obtain ⟨_, _, _, _, y4⟩ := h2'.cells
              have H2 := Lib.hid h2'
              clear hno g2 h2 h2' CE z0 z1 z4 f1 b34 b92 b32 b126 hby
              go_wp2_with fail
              go_ret
              exact ⟨j + 1, 3, HG.out, H2.out, by omega, .inr ⟨HT.out, rfl, rfl⟩⟩
          · have b92 : ((c.toNat : Int) == 92) = false := by rw [show (92 : Int) = ((92 : Nat) : Int) from rfl, byte_lit c 92 (by omega)]; simp [h92]
            rw [if_neg h92] at HTS
            have HTX : Hid (textS (sfx s (i + 1)) = (textS (sfx s (j + 1))).map fun p => ((acc ++ [c]) ++ p.1, p.2)) := by
              unfold Hid
              rw [hR.out.2.1, HTS.out, Option.map_map]
              simp [Function.comp_def]
            have HXA : Hid (∀ m, BRow w.heap.size ((wr.alloc (.cells #[.int .u8 (c.toNat : Int)] u8T)).drewN m) (.slice A n c2) acc ∧ w.grownBy ((wr.alloc (.cells #[.int .u8 (c.toNat : Int)] u8T)).drewN m) (some k) ∧ RIn ((wr.alloc (.cells #[.int .u8 (c.toNat : Int)] u8T)).drewN m) k s j many v 0 ∧ SrcB ((wr.alloc (.cells #[.int .u8 (c.toNat : Int)] u8T)).drewN m) (.slice (some ⟨wr.heap.size, 0, none⟩) 1 1) [c]) := fun m =>
              ⟨(hR.out.2.2.1.ext (new_ext _ _)).ext (ext_drewN' _ _), grown_trans hR.out.2.2.2.2 (grown_ext ((new_ext _ _).trans (ext_drewN' _ _))), hR.out.2.2.2.1.ext ((new_ext _ _).trans (ext_drewN' _ _)), (SrcB.of_block (ys := [c]) (c := 1) (heap_new rfl)).ext (ext_drewN' _ _)⟩
            clear h92
            go_wp2_with fail
            go_quiet (fail)
            go_wp2_with fail
            go_quiet (fail)
            go_wp2_with (at_builtin; refine append_bytes rfl _ _ (by rfl) w.heap.size n 1 _ (.slice A n c2) (.slice (some ⟨wr.heap.size, 0, none⟩) 1 1) acc [c] (by rfl) (by rfl) (HXA.out _).1 (HXA.out _).2.2.2 hR.out.1 rfl (by omega) (HXA.out _).2.1.size ?_; intro A9 c9 w9 h9 g9 _; have H9 := Lib.hid ((HXA.out _).2.2.1.kept g9 (fun e => by have := ((HXA.out 0).1.block _ e).1; omega)); have z1' := H9.out.cells.2.1; have f1' := H9.out.free 1)
            have HG9 := Lib.hid (brow_grownK (HXA.out _).2.1 (HXA.out _).1 g9)
            have HB9 := Lib.hid h9
            clear h9 g9
            go_wp2_with fail
            go_roundw
            case rel => exact ⟨acc ++ [c], n + 1, A9, c9, j + 1, by omega, by omega, rfl, by rw [List.length_append, hR.out.1]; rfl, HTX.out, brow_keptK HB9.out hk (grown_set _ k 1 _), H9.out.setAt _ _ (by omega), grown_trans HG9.out (grown_set _ k 1 _)⟩
            case measure =>
              rw [hR.out.2.2.2.1.atOf, (H9.out.setAt (j + 1) _ (by omega)).atOf]
              omega
    · have HT : Hid (textS (sfx s (i + 1)) = none) := by
        unfold Hid
        rw [hR.out.2.1, sfx_end (by omega)]
        rfl
      have CF : Hid (∀ m, Calls Tryz.prog 66 #[.pointer (some ⟨k, 0, none⟩), .int .i64 3] (wr.drewN m) fun en w' => en = .returned (.tuple #[]) ∧ RIn w' k s j many v 3 ∧ w.grownBy w' (some k)) := fun m => FL.out _ _ (hR.out.2.2.2.1.ext (ext_drewN' _ _)) (grown_trans hR.out.2.2.2.2 (grown_ext (ext_drewN' _ _)))
      go_wp2_with fail
      go_quiet (fail)
      go_wp2_with fail
      refine Calls.mono (CF.out _) ?_
      rintro e w2 ⟨rfl, h2, g2⟩
      go_wp2_with fail
      go_ret
      exact ⟨j, 3, g2, h2, by omega, .inr ⟨HT.out, rfl, rfl⟩⟩
end Go.Proofs.YtnccefeehkcneaaGreatDoor.Jm
