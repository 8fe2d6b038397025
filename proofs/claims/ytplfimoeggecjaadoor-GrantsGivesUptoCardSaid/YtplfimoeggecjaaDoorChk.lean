/-
  The program's grants.checker: says, need, space, names, rule, rules: each keeps the first thing that is wrong, and touches nothing but the checker.
-/
import Derived.Test.YtplfimoeggecjaaDoorName1
namespace Go.Proofs.YtplfimoeggecjaaDoor.Sx
open Go Go.RowKit

abbrev eT : Nat := 37
/-- The first error counts. -/
def say (c e : Int) : Int := if c = 0 then e else c
theorem say_zero (e : Int) : say 0 e = e := if_pos rfl
theorem say_ne {c : Int} (h : c ≠ 0) (e : Int) : say c e = c := if_neg h
theorem say_none (c : Int) : say c 0 = c := by unfold say; split <;> simp_all

/-- The checker in block b holds c (the number K is for the other side's use). -/
def Chk (w : World) (b : Nat) (c : Int) : Prop := w.heap[b]? = some (.cells #[.int .i64 c] 50 (0, 0))
def ChkPost (w : World) (b : Nat) (c : Int) (e : Ending) (w' : World) : Prop := e = .returned (.tuple #[]) ∧ Chk w' b c ∧ Mod eT b w w'

theorem Chk.set {w : World} {b : Nat} {c : Int} (h : Chk w b c) (e : Int) : Chk (w.setCell ⟨b, 0, none⟩ (.int .i64 e)) b e := by
  unfold Chk at *
  simp [World.setCell, Array.getElem?_modify, h]

set_option maxRecDepth 100000 in
theorem says_any (b : Nat) (c e : Int) (w : World) (h : Chk w b c) : Calls Tryd.prog 16 #[.pointer (some ⟨b, 0, none⟩), .int .i64 e] w (ChkPost w b (say c e)) := by
  have hc := cell_of h 0
  have hf := free_of h 0
  have hset := Lib.hid (h.set e)
  have H := Lib.hid h
  clear h
  simp at hc
  by_cases h0 : c = 0
  · have hb : (c == 0) = true := by simp [h0]
    have hs : Hid (say c e = e) := by unfold Hid; rw [h0]; exact say_zero e
    clear h0
    go_enter Tryd.func16, Tryd.ntmps16
    go_wp2
    go_end0
    exact ⟨rfl, by rw [hs.out]; exact hset.out, Mod.refl.setCell ⟨b, 0, none⟩ (.inl rfl) _⟩
  · have hb : (c == 0) = false := by simp [h0]
    have hs : Hid (say c e = c) := say_ne h0 e
    clear h0
    go_enter Tryd.func16, Tryd.ntmps16
    go_wp2
    go_end0
    exact ⟨rfl, by rw [hs.out]; exact H.out, Mod.refl⟩

set_option maxRecDepth 100000 in
theorem need_any (b : Nat) (c e : Int) (is : Bool) (w : World) (h : Chk w b c) : Calls Tryd.prog 38 #[.pointer (some ⟨b, 0, none⟩), .bool is, .int .i64 e] w (ChkPost w b (say c (if is then 0 else e))) := by
  have H := Lib.hid h
  clear h
  cases is
  · go_enter Tryd.func38, Tryd.ntmps38
    go_wp2_with (go_at_call 16; refine (says_any _ _ _ _ H.out).mono ?_; rintro e w' ⟨rfl, h1, h2⟩)
    go_end0
    exact ⟨rfl, h1, h2⟩
  · have hs : Hid (say c 0 = c) := say_none c
    go_enter Tryd.func38, Tryd.ntmps38
    go_wp2
    go_end0
    exact ⟨rfl, by rw [hs.out]; exact H.out, Mod.refl⟩

/-- A space's name: none, or a name. -/
def spaceI (c : Int) (s : ByteArray) : Int := if s.size = 0 then c else say c (nameI s)

set_option maxRecDepth 100000 in
theorem space_any (b : Nat) (c : Int) (s : ByteArray) (w : World) (h : Chk w b c) (hs : s.size ≤ 1048576) : Calls Tryd.prog 37 #[.pointer (some ⟨b, 0, none⟩), .string s] w (ChkPost w b (spaceI c s)) := by
  have H := Lib.hid h
  clear h
  by_cases h0 : s.size = 0
  · have e1 := isEmpty_of_zero h0
    have hf : Hid (spaceI c s = c) := if_pos h0
    clear h0
    go_enter Tryd.func37, Tryd.ntmps37
    go_wp2
    go_end0
    exact ⟨rfl, by rw [hf.out]; exact H.out, Mod.refl⟩
  · have e1 := isEmpty_of_pos (s := s) (by omega)
    have hf : Hid (spaceI c s = say c (nameI s)) := if_neg h0
    clear h0
    go_enter Tryd.func37, Tryd.ntmps37
    go_wp2_with (first | (go_at_call 50; refine (check_any _ _ (by unfold maxLen; omega)).mono ?_; rintro e w' ⟨rfl, rfl⟩) | (go_at_call 16; refine (says_any _ _ _ _ H.out).mono ?_; rintro e w' ⟨rfl, h1, h2⟩))
    go_end0
    exact ⟨rfl, by rw [hf.out]; exact h1, h2⟩

/-! ### names -/

def starS : ByteArray := ⟨#[42]⟩
/-- Names (with star: or '*'), one behind the other. -/
def nameI1 (star : Bool) (c : Int) (s : ByteArray) : Int := if star && s.toList == [42] then c else say c (nameI s)
def namesI (c : Int) (l : List ByteArray) (star : Bool) : Int := l.foldl (nameI1 star) c

/-- A slice of strings whose cells are safe. -/
def StrsS (b : Nat) (w : World) (A : Option Addr) (xs : List ByteArray) : Prop :=
  xs.length ≤ 1048576 ∧ ∀ i (h : i < xs.length), ∃ blk off, A = some ⟨blk, off, none⟩ ∧ blk < w.heap.size ∧ Safe eT b w blk ∧ w.cell? ⟨blk, off + i, none⟩ = some (.string xs[i]) ∧ xs[i].size ≤ 1048576

theorem StrsS.mod {b : Nat} {w w' : World} {A : Option Addr} {xs : List ByteArray} (h : StrsS b w A xs) (hm : Mod eT b w w') : StrsS b w' A xs :=
  ⟨h.1, fun i hi => by
    obtain ⟨blk, off, hA, hlt, hs, hc, hz⟩ := h.2 i hi
    refine ⟨blk, off, hA, Nat.lt_of_lt_of_le hlt hm.size, hm.safe hlt hs, ?_, hz⟩
    rw [World.cell?_of_block (w := w) (hm.block blk hlt hs)]; exact hc⟩
theorem strsS_of {B b : Nat} {w : World} {v : Value} {xs : List ByteArray} (h : StrsAt B w v xs) (hB : B ≤ b) (hb : b < w.heap.size) : ∃ A c, v = .slice A xs.length c ∧ StrsS b w A xs := by
  obtain ⟨hn, A, c, hv, _, _, hi⟩ := h
  refine ⟨A, c, hv, hn, fun i hl => ?_⟩
  obtain ⟨blk, off, cs, hA, hlt, _, ⟨hr, hz⟩, hcell⟩ := hi i hl
  exact ⟨blk, off, hA, by omega, .inl (by omega), by simpa using hcell 0 _ (by rw [hr]; rfl), hz⟩

def namesTo (c : Int) (l : List ByteArray) (star : Bool) (k : Nat) : Int := namesI c (l.take k) star
theorem namesTo_succ (c : Int) (l : List ByteArray) (star : Bool) (k : Nat) (h : k < l.length) : namesTo c l star (k + 1) = nameI1 star (namesTo c l star k) l[k] := by
  unfold namesTo namesI
  rw [List.take_succ_eq_append_getElem h, List.foldl_append]
  rfl
theorem namesTo_all (c : Int) (l : List ByteArray) (star : Bool) (k : Nat) (h : l.length ≤ k) : namesTo c l star k = namesI c l star := by
  unfold namesTo
  rw [List.take_of_length_le h]

set_option maxRecDepth 100000 in
set_option maxHeartbeats 400000 in
theorem names_any (b : Nat) (c : Int) (A : Option Addr) (cap : Nat) (xs : List ByteArray) (star : Bool) (w : World) (h : Chk w b c) (hx : StrsS b w A xs) :
    Calls Tryd.prog 53 #[.pointer (some ⟨b, 0, none⟩), .slice A xs.length cap, .bool star] w (ChkPost w b (namesI c xs star)) := by
  have hn := hx.1
  have H := Lib.hid h
  have HX := Lib.hid hx
  clear h hx
  go_enter Tryd.func53, Tryd.ntmps53
  go_wp2
  go_loopw [7, 10] (fun s k wr => ∃ j : Nat, j ≤ xs.length ∧ k = .int .i64 j ∧ Hid (Chk wr b (namesTo c xs star j)) ∧ Hid (Mod eT b w wr)) (fun _ k _ => xs.length - (intOf k).toNat)
  case atStart => exact ⟨0, Nat.zero_le _, rfl, H.out, Mod.refl⟩
  case round =>
    obtain ⟨j, hj, rfl, hC, hM⟩ := hrel
    by_cases hlt : j < xs.length
    · obtain ⟨blk, off, rfl, _, _, hcell, hz⟩ := (HX.out.mod hM.out).2 j hlt
      have HS := Lib.hid (namesTo_succ c xs star j hlt)
      obtain ⟨s, hs⟩ : ∃ s, s = xs[j] := ⟨_, rfl⟩
      rw [← hs] at hcell hz HS
      clear hs
      have hfin : ∀ w', Chk w' b (nameI1 star (namesTo c xs star j) s) → Mod eT b wr w' → Hid (Chk w' b (namesTo c xs star (j + 1))) ∧ Hid (Mod eT b w w') := fun w' h1 h2 => ⟨by unfold Hid; rw [HS.out]; exact h1, hM.out.trans h2⟩
      have HF := Lib.hid hfin
      clear hfin
      cases star
      · have hv : Hid (nameI1 false (namesTo c xs false j) s = say (namesTo c xs false j) (nameI s)) := rfl
        go_wp2_with (first | (go_at_call 50; refine (check_any _ _ (by unfold maxLen; omega)).mono ?_; rintro e w' ⟨rfl, rfl⟩) | (go_at_call 16; refine (says_any _ _ _ _ hC.out).mono ?_; rintro e w' ⟨rfl, h1, h2⟩; have H1 := Lib.hid h1; have H2 := Lib.hid h2; clear h1 h2))
        go_roundw
        case rel => exact ⟨j + 1, hlt, by go_num, HF.out _ (by rw [hv.out]; exact H1.out) H2.out⟩
        case measure => simp [intOf]; omega
      · cases hst : (s.toList == [42]) with
        | true =>
          have hv : Hid (nameI1 true (namesTo c xs true j) s = namesTo c xs true j) := by unfold Hid nameI1; rw [hst]; rfl
          go_wp2
          go_roundw
          case rel => exact ⟨j + 1, hlt, by go_num, HF.out _ (by rw [hv.out]; exact hC.out) Mod.refl⟩
          case measure => simp [intOf]; omega
        | false =>
          have hv : Hid (nameI1 true (namesTo c xs true j) s = say (namesTo c xs true j) (nameI s)) := by unfold Hid nameI1; rw [hst]; rfl
          go_wp2_with (first | (go_at_call 50; refine (check_any _ _ (by unfold maxLen; omega)).mono ?_; rintro e w' ⟨rfl, rfl⟩) | (go_at_call 16; refine (says_any _ _ _ _ hC.out).mono ?_; rintro e w' ⟨rfl, h1, h2⟩; have H1 := Lib.hid h1; have H2 := Lib.hid h2; clear h1 h2))
          go_roundw
          case rel => exact ⟨j + 1, hlt, by go_num, HF.out _ (by rw [hv.out]; exact H1.out) H2.out⟩
          case measure => simp [intOf]; omega
    · have HA := Lib.hid (namesTo_all c xs star j (by omega))
      go_wp2
      go_end0
      exact ⟨rfl, by rw [← HA.out]; exact hC.out, hM.out⟩

end Go.Proofs.YtplfimoeggecjaaDoor.Sx
