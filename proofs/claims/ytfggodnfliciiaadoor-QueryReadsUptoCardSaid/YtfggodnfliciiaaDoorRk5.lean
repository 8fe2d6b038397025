/-
  The reference's letter next (printed by gen/rk5.py).
-/
import Derived.Test.YtfggodnfliciiaaDoorRk4
namespace Go.Proofs.YtfggodnfliciiaaDoor.Rd
open Go Go.RowKit Go.Proofs.YtfggodnfliciiaaDoor.Sx

def okAt (ts : List Tok) (i : Nat) (p : ByteArray) (j : Nat) : Bool := match ts[i + j]? with | none => false | some t => !t.word && decide (t.text = [byteAt p j]) && (decide (j = 0) || !t.blank)
def allAt (ts : List Tok) (i : Nat) (p : ByteArray) : Bool := (List.range p.size).all (okAt ts i p)
theorem all_no {ts : List Tok} {i j : Nat} {p : ByteArray} (hj : j < p.size) (h : okAt ts i p j = false) : allAt ts i p = false := by
  unfold allAt
  rw [List.all_eq_false]
  exact ⟨j, List.mem_range.2 hj, by rw [h]; simp⟩
theorem all_yes {ts : List Tok} {i : Nat} {p : ByteArray} (h : ∀ j, j < p.size → okAt ts i p j = true) : allAt ts i p = true := by
  unfold allAt
  rw [List.all_eq_true]
  intro j hj
  exact h j (List.mem_range.1 hj)

def NextPost (w : World) (kn : Nat) (ts : List Tok) (i : Nat) (p : ByteArray) (e : Ending) (w' : World) : Prop := e = .returned (.bool (allAt ts i p)) ∧ NIn w' kn (if allAt ts i p then i + p.size else i) ∧ w.grownBy w' (some kn)

set_option maxRecDepth 100000 in
set_option maxHeartbeats 8000000 in
theorem rnext_any {B : Nat} {w : World} {A : Option Addr} {c : Nat} {ts : List Tok} {i kl kn : Nat} (p : ByteArray) (hp : p.size ≤ 2) (h : SgR B w (.slice A ts.length c) ts) (hl : LIn w kl (.slice A ts.length c)) (hn : NIn w kn i) (hi : i ≤ 1000) (_hB : B ≤ kn) (hBs : B ≤ w.heap.size) (_hlk : kl ≠ kn) (hts : ts.length ≤ 1000) :
    Calls Tryd.prog 23 #[.string p, .pointer (some ⟨kn, 0, none⟩), .pointer (some ⟨kl, 0, none⟩)] w (NextPost w kn ts i p) := by
  have HL := Lib.hid (And.intro h (And.intro hl hn))
  have hi0 : (0 : Int) ≤ (i : Int) := by omega
  clear h hl hn
  go_enter Tryd.func23, Tryd.ntmps23
  go_wp2_with fail
  go_loopw [8] (fun k wr => ∃ j : Nat, j ≤ p.size ∧ k = .int .i64 (j : Int) ∧ Hid ((∀ q, q < j → okAt ts i p q = true) ∧ Ext w wr)) (fun k _ => p.size - (intOf k).toNat)
  case atStart => exact ⟨0, Nat.zero_le _, rfl, fun q hq => by omega, Below.refl _ _⟩
  case round =>
    obtain ⟨j, hj, rfl, hR⟩ := hrel
    have l0 := (HL.out.2.1.kept (grown_ext (row := none) hR.out.2) (by simp)).cell
    have n0 := (HL.out.2.2.kept (grown_ext (row := none) hR.out.2) (by simp)).cell
    by_cases hlt : j < p.size
    · obtain ⟨m, hm⟩ : ∃ m, m = i + j := ⟨_, rfl⟩
      have hmI : (i : Int) + (j : Int) = (m : Int) := by omega
      have hwm : IntKind.i64.wrap ((m : Int)) = (m : Int) := IntWalk.i64_in _ (by omega)
      have hm0 : (0 : Int) ≤ (m : Int) := by omega
      have hltI : (j : Int) < (p.size : Int) := by omega
      have hw1 : IntKind.i64.wrap ((j : Int) + 1) = (j : Int) + 1 := IntWalk.i64_in _ (by omega)
      have hj0 : (0 : Int) ≤ (j : Int) := by omega
      have hj2 : (j : Int) ≤ 2 := by omega
      have HM := Lib.hid hm
      by_cases hml : m < ts.length
      · obtain ⟨bb, off, rfl, hbB, x0, x1, x2⟩ := (HL.out.1.below (hR.out.2.mono hBs) (Nat.le_refl _)).at_ hml
        have hOK : okAt ts i p j = (!ts[m].word && decide (ts[m].text = [byteAt p j]) && (decide (j = 0) || !ts[m].blank)) := by
          unfold okAt
          rw [← hm, List.getElem?_eq_getElem hml]
        obtain ⟨t, ht⟩ : ∃ t, t = ts[m] := ⟨_, rfl⟩
        rw [← ht] at x0 x1 x2 hOK
        obtain ⟨d, hd⟩ : ∃ d, d = byteAt p j := ⟨_, rfl⟩
        rw [← hd] at hOK
        have hone := run_piece p j (j + 1) (by omega) (by omega)
        rw [extract_one (c := d) (by rw [hd]; exact sfx_cons hlt), show ((j + 1 : Nat) : Int) = (j : Int) + 1 by omega] at hone
        have b2 : ((bx t.text).toList == [d]) = decide (t.text = [d]) := bx_eq _ _
        obtain ⟨tx, htx⟩ : ∃ tx, tx = bx t.text := ⟨_, rfl⟩
        obtain ⟨tw, htw⟩ : ∃ tw, tw = t.word := ⟨_, rfl⟩
        obtain ⟨tb, htb⟩ : ∃ tb, tb = t.blank := ⟨_, rfl⟩
        obtain ⟨te, hte⟩ : ∃ te, te = decide (t.text = [d]) := ⟨_, rfl⟩
        rw [← htw, ← hte, ← htb] at hOK
        rw [← htx] at x0 b2
        rw [← htw] at x1
        rw [← htb] at x2
        rw [← hte] at b2
        have HOK := Lib.hid hOK
        have hmlI : (m : Int) < (ts.length : Int) := by omega
        have hgd : decide ((ts.length : Int) ≤ (m : Int)) = false := decide_eq_false (by omega)
        have hgn : decide (ts.length ≤ m) = false := decide_eq_false (by omega)
        clear hOK ht hd htx htw htb hte hm hbB
        cases tw with
        | true =>
          have HNO : Hid (allAt ts i p = false) := all_no hlt (by rw [HOK.out]; rfl)
          go_wp2_with fail
          go_quiet (fail)
          go_wp2_with fail
          go_ret
          exact ⟨ret_bool HNO.out.symm, by rw [HNO.out]; exact HL.out.2.2.kept (grown_ext (row := none) (hR.out.2.trans (ext_drewN' wr _))) (by simp), grown_ext (hR.out.2.trans (ext_drewN' wr _))⟩
        | false =>
          cases te with
          | false =>
            have HNO : Hid (allAt ts i p = false) := all_no hlt (by rw [HOK.out]; rfl)
            go_wp2_with fail
            go_quiet (fail)
            go_wp2_with fail
            go_ret
            exact ⟨ret_bool HNO.out.symm, by rw [HNO.out]; exact HL.out.2.2.kept (grown_ext (row := none) (hR.out.2.trans (ext_drewN' wr _))) (by simp), grown_ext (hR.out.2.trans (ext_drewN' wr _))⟩
          | true =>
            by_cases hjz : j = 0
            · have hjd : decide ((0 : Int) < (j : Int)) = false := decide_eq_false (by omega)
              have hjn : decide (0 < j) = false := decide_eq_false (by omega)
              have HYES : Hid (okAt ts i p j = true) := by unfold Hid; rw [HOK.out, decide_eq_true hjz]; rfl
              clear hjz
              go_wp2_with fail
              go_quiet (fail)
              go_wp2_with fail
              go_roundw
              case rel => exact ⟨j + 1, hlt, by go_num, fun q hq => by
                rcases Nat.lt_or_ge q j with h1 | h1
                · exact hR.out.1 q h1
                · have e : q = j := by omega
                  rw [e]
                  exact HYES.out, hR.out.2.trans (ext_drewN' wr _)⟩
              case measure => simp [intOf]; omega
            · have hjd : decide ((0 : Int) < (j : Int)) = true := decide_eq_true (by omega)
              have hjn : decide (0 < j) = true := decide_eq_true (by omega)
              have HJ := Lib.hid hjz
              clear hjz
              cases tb with
              | true =>
                have HNO : Hid (allAt ts i p = false) := all_no hlt (by rw [HOK.out, decide_eq_false HJ.out]; rfl)
                go_wp2_with fail
                go_quiet (fail)
                go_wp2_with fail
                go_ret
                exact ⟨ret_bool HNO.out.symm, by rw [HNO.out]; exact HL.out.2.2.kept (grown_ext (row := none) (hR.out.2.trans (ext_drewN' wr _))) (by simp), grown_ext (hR.out.2.trans (ext_drewN' wr _))⟩
              | false =>
                have HYES : Hid (okAt ts i p j = true) := by unfold Hid; rw [HOK.out]; simp
                go_wp2_with fail
                go_quiet (fail)
                go_wp2_with fail
                go_roundw
                case rel => exact ⟨j + 1, hlt, by go_num, fun q hq => by
                  rcases Nat.lt_or_ge q j with h1 | h1
                  · exact hR.out.1 q h1
                  · have e : q = j := by omega
                    rw [e]
                    exact HYES.out, hR.out.2.trans (ext_drewN' wr _)⟩
                case measure => simp [intOf]; omega
      · have HNO : Hid (allAt ts i p = false) := all_no hlt (by unfold okAt; rw [← hm, List.getElem?_eq_none (by omega)])
        have hge : (ts.length : Int) ≤ (m : Int) := by omega
        have hgd : decide ((ts.length : Int) ≤ (m : Int)) = true := decide_eq_true hge
        have hgn : decide (ts.length ≤ m) = true := decide_eq_true (by omega)
        clear hm
        go_wp2_with fail
        go_quiet (fail)
        go_wp2_with fail
        go_ret
        exact ⟨ret_bool HNO.out.symm, by rw [HNO.out]; exact HL.out.2.2.kept (grown_ext (row := none) (hR.out.2.trans (ext_drewN' wr _))) (by simp), grown_ext (hR.out.2.trans (ext_drewN' wr _))⟩
    · obtain rfl : j = p.size := by omega
      have HY : Hid (allAt ts i p = true) := all_yes hR.out.1
      have f0 := (HL.out.2.2.kept (grown_ext (row := none) hR.out.2) (by simp)).free
      have hwr : IntKind.i64.wrap ((i : Int) + (p.size : Int)) = (i : Int) + (p.size : Int) := IntWalk.i64_in _ (by omega)
      go_wp2_with fail
      go_ret
      exact ⟨ret_bool HY.out.symm, by rw [HY.out]; exact (HL.out.2.2.kept (grown_ext (row := none) hR.out.2) (by simp)).set (i + p.size) _ (by omega), grown_trans (grown_ext hR.out.2) (grown_set _ kn 0 _)⟩
end Go.Proofs.YtfggodnfliciiaaDoor.Rd
