/-
  The program's query.Print: the walk.
-/
import Derived.Test.YtpbbohinhbboaaaDoorPrn
import Derived.Test.YtpbbohinhbboaaaDoorSrow
import Derived.Test.YtpbbohinhbboaaaDoorFits
namespace Go.Proofs.YtpbbohinhbboaaaDoor.Sx
open Go Go.RowKit

/-- A selector as a text. -/
def printB (l : List Req) : ByteArray := joinS (l.map textB)
def printE (l : List Req) : Int := if checkQ l = 0 then (if 300 < (printB l).size then 2 else 0) else checkQ l
def printS (l : List Req) : ByteArray := if printE l = 0 then printB l else ByteArray.empty
def PrintPost (w : World) (l : List Req) (e : Ending) (w' : World) : Prop := e = .returned (.tuple #[.string (printS l), .int .i64 (printE l)]) ∧ Ext w w'
theorem print_bad {w w' : World} {l : List Req} (h : checkQ l ≠ 0) (hx : Ext w w') : PrintPost w l (.returned (.tuple #[.string ⟨#[]⟩, .int .i64 (checkQ l)])) w' := by
  have e : printE l = checkQ l := if_neg h
  have e2 : printS l = ⟨#[]⟩ := if_neg (by rw [e]; exact h)
  exact ⟨by rw [e, e2], hx⟩
theorem print_large {w w' : World} {l : List Req} (h : checkQ l = 0) (h3 : 300 < (printB l).size) (hx : Ext w w') : PrintPost w l (.returned (.tuple #[.string ⟨#[]⟩, .int .i64 2])) w' := by
  have e : printE l = 2 := by unfold printE; rw [if_pos h, if_pos h3]
  have e2 : printS l = ⟨#[]⟩ := if_neg (by rw [e]; decide)
  exact ⟨by rw [e, e2], hx⟩
theorem print_good {w w' : World} {l : List Req} (h : checkQ l = 0) (h3 : ¬ 300 < (printB l).size) (hx : Ext w w') : PrintPost w l (.returned (.tuple #[.string (printB l), .int .i64 0])) w' := by
  have e : printE l = 0 := by unfold printE; rw [if_pos h, if_neg h3]
  have e2 : printS l = printB l := if_pos e
  exact ⟨by rw [e, e2], hx⟩

/-- What a good selector has. -/
structure reqFine (r : Req) : Prop where
  lo : 1 ≤ r.kind
  hi : r.kind ≤ 4
  few : r.vals.length ≤ 8
  some : r.kind = 1 ∨ r.kind = 2 → r.vals.length ≠ 0
theorem checkQ_fine {l : List Req} (h : checkQ l = 0) : l.length ≤ 8 ∧ ∀ r ∈ l, reqFine r := by
  unfold checkQ at h
  by_cases h8 : 8 < l.length
  · rw [if_pos h8] at h; cases h
  · rw [if_neg h8] at h
    have hz := firstAt_eq_zero h
    refine ⟨by omega, fun r hr => ?_⟩
    obtain ⟨i, hi, rfl⟩ := List.mem_iff_getElem.1 hr
    have h1 := hz i hi
    rw [reqsAt_eq hi] at h1
    unfold reqI at h1
    by_cases a1 : keyI l[i].key = 0
    · rw [if_pos a1] at h1
      by_cases a2 : badKind l[i]
      · rw [if_pos a2] at h1; cases h1
      · rw [if_neg a2] at h1
        by_cases a3 : 8 < l[i].vals.length
        · rw [if_pos a3] at h1; cases h1
        · unfold badKind at a2
          exact ⟨by omega, by omega, by omega, by omega⟩
    · rw [if_neg a1] at h1; exact absurd h1 a1
theorem texts_size {l : List Req} (h8 : l.length ≤ 8) (hf : ∀ r ∈ l, reqFine r) (hz : ∀ r ∈ l, r.key.size ≤ 1048576 ∧ ∀ x ∈ r.vals, x.size ≤ 1048576) : (∀ t ∈ l.map textB, t.size ≤ 10485760) ∧ sizes (l.map textB) + (l.map textB).length ≤ 140737488355328 := by
  have h1 : ∀ t ∈ l.map textB, t.size ≤ 10485760 := by
    intro t ht
    obtain ⟨r, hr, rfl⟩ := List.mem_map.1 ht
    have q := hf r hr
    have q1 := q.lo
    have q2 := q.hi
    exact text_size (hz r hr).1 q.few (hz r hr).2 (by omega)
  refine ⟨h1, ?_⟩
  have h2 := sizes_le h1
  rw [List.length_map] at h2 ⊢
  have h3 := Nat.mul_le_mul_right 10485760 h8
  omega
theorem reqs_small {B : Nat} {w : World} {v : Value} {l : List Req} (h : ReqsR B w v l) : ∀ r ∈ l, r.key.size ≤ 1048576 ∧ ∀ x ∈ r.vals, x.size ≤ 1048576 := by
  intro r hr
  obtain ⟨_, A, c, _, hi⟩ := h
  obtain ⟨i, hl, rfl⟩ := List.mem_iff_getElem.1 hr
  obtain ⟨_, _, _, _, _, _, ⟨_, _, _, hk, hs, _⟩, _⟩ := hi i hl
  exact ⟨hk, strsSmall hs⟩
theorem join_row {base : Nat} {w : World} {A : Option Addr} {n c : Nat} {xs : List ByteArray} (h : SRow base w (.slice A n c) xs) (hn : n = xs.length) (hz : sizes xs + xs.length ≤ 140737488355328) :
    Calls Tryd.prog 50 #[.slice A n c, .string ⟨#[44]⟩] w fun e w' => e = .returned (.string (joinS xs)) ∧ Ext w w' := by
  by_cases h0 : 0 < xs.length
  · obtain ⟨g, rfl, _, hlt, hc, rfl, hx⟩ := h.cells h0
    exact join_cells g 0 c xs w hlt hc hx hz
  · have e : xs = [] := List.length_eq_zero_iff.1 (by omega)
    subst e hn
    refine (Tryd.strings_Join_none A c ⟨#[44]⟩ w).mono fun e w' ⟨he, hw⟩ => ⟨he, ?_⟩
    rw [hw]
    exact Below.refl _ _

set_option maxRecDepth 100000 in
set_option maxHeartbeats 4000000 in
theorem print_any (B : Nat) (v : Value) (l : List Req) (w : World) (hB : B ≤ w.heap.size) (hv : ReqsR B w v l) (hm : MaxC w) :
    Calls Tryd.prog 26 #[v] w (PrintPost w l) := by
  have HV := Lib.hid hv
  have HM := Lib.hid hm
  have hn := hv.1
  have HSM := Lib.hid (reqs_small hv)
  obtain ⟨_, A, c, rfl, _⟩ := hv
  clear hm
  go_enter Tryd.func26, Tryd.ntmps26
  go_wp2_with fail
  refine Calls.mono (qcheck_any B _ l _ hB HV.out HM.out) ?_
  rintro e w1 ⟨rfl, hx1⟩
  have HX1 := Lib.hid hx1
  clear hx1
  by_cases h0 : checkQ l = 0
  · have hb : (checkQ l != 0) = false := by simp [h0]
    have H0 := Lib.hid h0
    have HF := Lib.hid (checkQ_fine h0)
    have HZ := Lib.hid (texts_size HF.out.1 HF.out.2 HSM.out)
    clear h0
    go_wp2
    go_loopw [5, 7, 16] (fun o _ k wr => ∃ (j : Nat) (A7 : Option Addr) (c7 : Nat), j ≤ l.length ∧ k = .int .i64 (j : Int) ∧ o = .slice A7 j c7 ∧ Hid (SRow w.heap.size wr (.slice A7 j c7) ((l.take j).map textB)) ∧ Hid (Ext w wr)) (fun _ _ k _ => l.length - (intOf k).toNat)
    case atStart => exact ⟨0, none, 0, Nat.zero_le _, rfl, rfl, SRow.nil, HX1.out⟩
    case round =>
      obtain ⟨j, A7, c7, hj, rfl, rfl, hO, hX⟩ := hrel
      by_cases hlt : j < l.length
      · have hbl := hX.out.mono hB
        obtain ⟨b, off, A1, c1, rfl, _, x0, x1, x2, hk, t1⟩ := (HV.out.below hbl (Nat.le_refl _)).at_ hlt
        have hcap := (HV.out.below hbl (Nat.le_refl _)).cap hlt x2
        have HRF := Lib.hid (HF.out.2 l[j] (List.getElem_mem hlt))
        have HSUC : Hid ((l.take (j + 1)).map textB = (l.take j).map textB ++ [textB l[j]]) := by unfold Hid; rw [List.take_succ_eq_append_getElem hlt, List.map_append]; rfl
        obtain ⟨r, hr⟩ : ∃ r, r = l[j] := ⟨_, rfl⟩
        rw [← hr] at x0 x1 x2 t1 HSUC hk hcap HRF
        have HT := Lib.hid t1
        have HK := Lib.hid (And.intro hk hcap)
        have HBR : Hid (B ≤ wr.heap.size) := Nat.le_trans hB hX.out.size
        have HWR : Hid (w.heap.size ≤ wr.heap.size) := hX.out.size
        obtain ⟨w2, hw2⟩ : ∃ w2, w2 = wr.alloc (.cells #[.string r.key, .int .i64 r.kind, .slice A1 r.vals.length c1] 38) := ⟨_, rfl⟩
        have hx2 : Ext wr w2 := by rw [hw2]; exact (Below.refl _ _).alloc (Nat.le_refl _) _
        have HX2 := Lib.hid hx2
        have HLN : Hid (((l.take j).map textB).length = j) := by unfold Hid; rw [List.length_map, List.length_take]; omega
        have HJ : Hid (j ≤ 1099511627776) := by unfold Hid; omega
        clear hr hbl t1 hk hcap hx2
        go_wp2_with fail
        rw [← hw2]
        clear hw2
        refine Calls.mono (text_any B A1 c1 r w2 (Nat.le_trans HBR.out HX2.out.size) (HT.out.below (HX2.out.mono HBR.out) (Nat.le_refl _)) HK.out.2 HRF.out.few HK.out.1 ⟨HRF.out.lo, HRF.out.hi⟩) ?_
        rintro e w3 ⟨rfl, hx3⟩
        have HX3 : Hid (Ext wr w3) := HX2.out.trans hx3
        have HE := Lib.hid (fun o => (Below.refl w3.heap.size w3).alloc (Nat.le_refl _) o)
        clear hx3
        go_wp2_with (at_builtin; refine append_str rfl _ _ (by rfl) w.heap.size w3.heap.size j (textB r) _ _ ((l.take j).map textB) (by rfl) (by rfl) ((hO.out.ext HX3.out).ext (HE.out _)) (heap_new rfl) HLN.out HJ.out ?c1 ?_)
        case c1 => exact Nat.le_trans (Nat.le_trans HWR.out HX3.out.size) (HE.out _).size
        intro g1 k1 w4 ho1 hg1 _
        have hx4 : Ext w w4 := (((hX.out).trans HX3.out).trans (HE.out _)).grown hg1 (Nat.le_trans (Nat.le_trans HWR.out HX3.out.size) (HE.out _).size) (fun k e => (hO.out.block k e).1)
        have ho2 : SRow w.heap.size w4 (.slice (some ⟨g1, 0, none⟩) (j + 1) k1) ((l.take (j + 1)).map textB) := by
          rw [HSUC.out]
          first | exact ho1 | (rw [List.map_take]; exact ho1)
        have H2 := Lib.hid ho2
        have HX4 := Lib.hid hx4
        clear ho1 hg1 hx4 ho2
        go_wp2
        go_roundw
        case rel => exact ⟨j + 1, some ⟨g1, 0, none⟩, k1, hlt, by go_num, rfl, H2, HX4⟩
        case measure => simp [intOf]; omega
      · obtain rfl : j = l.length := by omega
        have HO : Hid (SRow w.heap.size wr (.slice A7 l.length c7) (l.map textB)) := by
          have h1 := hO.out
          rw [List.take_length] at h1
          exact h1
        have HLL : Hid (l.length = (l.map textB).length) := by unfold Hid; rw [List.length_map]
        go_wp2_with fail
        refine Calls.mono (join_row HO.out HLL.out HZ.out.2) ?_
        rintro e w9 ⟨rfl, hx9⟩
        have HX9 := Lib.hid (hX.out.trans hx9)
        have HPB : Hid (joinS (l.map textB) = printB l) := rfl
        rw [HPB.out]
        clear hx9
        by_cases h3 : 300 < (printB l).size
        · have H3 := Lib.hid h3
          have d1 : decide (300 < ((printB l).size : Int)) = true := decide_eq_true (by omega)
          have d2 : decide (300 < (printB l).size) = true := decide_eq_true h3
          clear h3
          go_wp2
          go_ret2
          exact print_large H0.out H3.out HX9.out
        · have H3 := Lib.hid h3
          have d1 : decide (300 < ((printB l).size : Int)) = false := decide_eq_false (by omega)
          have d2 : decide (300 < (printB l).size) = false := decide_eq_false h3
          clear h3
          go_wp2
          go_ret2
          exact print_good H0.out H3.out HX9.out
  · have hb1 : (checkQ l != 0) = true := by simp [h0]
    have H0 := Lib.hid h0
    clear h0
    go_wp2
    go_ret2
    exact print_bad H0.out HX1.out
end Go.Proofs.YtpbbohinhbboaaaDoor.Sx
