/-
  The program's name.CheckKey: it returns what a plain function of the text's parts says.
-/
import Derived.Test.YtfggodnfliciiaaDoorSpl
import Derived.Test.YtfggodnfliciiaaDoorMxc
import Derived.WalkSmall
namespace Go.Proofs.YtfggodnfliciiaaDoor.Sx
open Go Go.RowKit

theorem ext_drewN (w : World) (n : Nat) : Ext w (w.drewN n) := below_drewN (Below.refl _ _) n
theorem cut_miss (s : ByteArray) (c : UInt8) (h : Lib.indexByte s.data.toList c = -1) (w : World) (hm : MaxC w) (hs : s.size < 4294967281) :
    Calls Tryd.prog 37 #[.string s, .string (oneS c)] w fun e w' => e = .returned (.tuple #[.string s, .string ByteArray.empty, .bool false]) ∧ Ext w w' := by
  obtain ⟨m, hm⟩ := hm
  have he : Lib.indexB s (oneS c) = -1 := (Lib.index_one _ _).trans h
  obtain ⟨e1, e2, e3⟩ := Lib.cutB_miss s (oneS c) he
  refine (Tryd.strings_Cut s (oneS c) m w hs hm).mono fun e w' ⟨hr, n, hw⟩ => ⟨?_, by rw [hw]; exact ext_drewN w n⟩
  rw [hr, e1, e2, e3]
theorem cut_hit (s : ByteArray) (c : UInt8) (i : Nat) (h : Lib.indexByte s.data.toList c = i) (w : World) (hm : MaxC w) (hs : s.size < 4294967281) :
    Calls Tryd.prog 37 #[.string s, .string (oneS c)] w fun e w' => e = .returned (.tuple #[.string (s.extract 0 i), .string (s.extract (i + 1) s.size), .bool true]) ∧ Ext w w' := by
  obtain ⟨m, hm⟩ := hm
  have he : Lib.indexB s (oneS c) = i := (Lib.index_one _ _).trans h
  obtain ⟨e1, e2, e3⟩ := Lib.cutB_hit s (oneS c) i he
  refine (Tryd.strings_Cut s (oneS c) m w hs hm).mono fun e w' ⟨hr, n, hw⟩ => ⟨?_, by rw [hw]; exact ext_drewN w n⟩
  rw [hr, e1, e2, e3]
  rfl

def partB (p : ByteArray) : Bool := decide (p.size ≤ 63) && madeB lowB dashB p.data.toList
def lastB (p : ByteArray) : Bool := decide (p.size ≤ 63) && madeB edgeB wordB p.data.toList
def keyB (s : ByteArray) : Bool :=
  if Lib.indexByte s.data.toList 47 = -1 then lastB s
  else (parts 46 (s.extract 0 (Lib.indexByte s.data.toList 47).toNat)).all partB && lastB (s.extract ((Lib.indexByte s.data.toList 47).toNat + 1) s.size)
def keyI (s : ByteArray) : Int := judgeI s.size 64 (keyB s)
theorem keyB_miss {s : ByteArray} (h : Lib.indexByte s.data.toList 47 = -1) : keyB s = lastB s := by unfold keyB; rw [if_pos h]
theorem keyB_hit {s : ByteArray} {i : Nat} (h : Lib.indexByte s.data.toList 47 = i) : keyB s = ((parts 46 (s.extract 0 i)).all partB && lastB (s.extract (i + 1) s.size)) := by
  unfold keyB
  rw [if_neg (by omega), h]
  rfl

attribute [local go_sem] Oper.semAt_some

/-- The variable 'is', in block k. -/
def IsIn (w : World) (k : Nat) (b : Bool) : Prop := w.heap[k]? = some (.cells #[.bool b] 4 (0, 0))
theorem IsIn.store {k : Nat} {w : World} {b : Bool} (h : IsIn w k b) (t : Bool) : IsIn (w.setCell ⟨k, 0, none⟩ (.bool t)) k t := by
  have h0 : w.heap[k]? = _ := h
  simp [IsIn, World.setCell, Array.getElem?_modify, h0]
theorem own_isIn {B k : Nat} (f : List ByteArray → Bool) : OwnFrom B (fun pre W => IsIn W k (f pre)) :=
  fun pre A W row hs hg hr => by
    have h0 : A.heap[k]? = _ := hs
    exact (grownBy_keeps_cells hg (fun r e => (hr r e).2) h0 rfl).trans h0

set_option maxRecDepth 100000 in
set_option maxHeartbeats 2000000 in
theorem checkKey_miss (s : ByteArray) (w : World) (hs : s.size ≤ 1048576) (hm : MaxC w) (hi : Lib.indexByte s.data.toList 47 = -1) :
    Calls Tryd.prog 30 #[.string s] w fun e w' => e = .returned (.int .i64 (keyI s)) ∧ Ext w w' := by
  have HI := Lib.hid hi
  have HM := Lib.hid hm
  have hx0 : ∀ o, Ext w (w.alloc o) := fun o => (Below.refl _ _).alloc (Nat.le_refl _) o
  have HX := Lib.hid hx0
  have hf : Hid (keyI s = judgeI s.size 64 (lastB s)) := by unfold Hid keyI; rw [keyB_miss hi]
  clear hi hm hx0
  go_enter Tryd.func30, Tryd.ntmps30
  go_wp2_with fail
  obtain ⟨w0, hw0⟩ : ∃ w0, w0 = w.alloc (.cells #[.bool true] 4) := ⟨_, rfl⟩
  have hk0 : IsIn w0 w.heap.size true := by rw [hw0]; exact heap_new rfl
  have hx0 : Ext w w0 := by rw [hw0]; exact HX.out _
  rw [← hw0]
  have HX0 := Lib.hid hx0
  have HK0 := Lib.hid hk0
  clear hw0 hx0 hk0 HX
  refine Calls.mono (cut_miss s 47 HI.out _ (HM.out.ext HX0.out) (by omega)) ?_
  rintro e w1 ⟨rfl, hx1⟩
  have HX1 := Lib.hid (HX0.out.trans hx1)
  have c0 := cell_of ((hx1.block _ (heap_lt HK0.out)).trans HK0.out) 0
  simp at c0
  clear hx1
  by_cases hl : s.size ≤ 63
  · have hf2 : Hid (keyI s = judgeI s.size 64 (madeB edgeB wordB s.data.toList)) := by unfold Hid; rw [hf.out, lastB, decide_eq_true hl]; rfl
    have hd : decide ((s.size : Int) ≤ 63) = true := decide_eq_true (by omega)
    clear hl
    go_wp2_with (first | (go_at_call 41; refine (isWord_any _ _ (by unfold maxLen; omega)).mono ?_; rintro e w' ⟨rfl, rfl⟩) | (go_at_call 40; refine (judge_any _ 64 _ _ (by unfold maxLen; omega)).mono ?_; rintro e w' ⟨rfl, rfl⟩))
    go_ret
    exact ⟨ret_int hf2.out.symm, HX1.out⟩
  · have hf2 : Hid (keyI s = judgeI s.size 64 false) := by unfold Hid; rw [hf.out, lastB, decide_eq_false hl]; rfl
    have hd : decide ((s.size : Int) ≤ 63) = false := decide_eq_false (by omega)
    clear hl
    go_wp2_with (first | (go_at_call 41; refine (isWord_any _ _ (by unfold maxLen; omega)).mono ?_; rintro e w' ⟨rfl, rfl⟩) | (go_at_call 40; refine (judge_any _ 64 _ _ (by unfold maxLen; omega)).mono ?_; rintro e w' ⟨rfl, rfl⟩))
    go_ret
    exact ⟨ret_int hf2.out.symm, HX1.out⟩

set_option maxRecDepth 100000 in
set_option maxHeartbeats 4000000 in
theorem checkKey_hit (s : ByteArray) (w : World) (hs : s.size ≤ 1048576) (hm : MaxC w) (i : Nat) (hi : Lib.indexByte s.data.toList 47 = i) :
    Calls Tryd.prog 30 #[.string s] w fun e w' => e = .returned (.int .i64 (keyI s)) ∧ Ext w w' := by
  have HI := Lib.hid hi
  have HM := Lib.hid hm
  have hx0 : ∀ o, Ext w (w.alloc o) := fun o => (Below.refl _ _).alloc (Nat.le_refl _) o
  have HX := Lib.hid hx0
  have hf : Hid (keyI s = judgeI s.size 64 ((parts 46 (s.extract 0 i)).all partB && lastB (s.extract (i + 1) s.size))) := by unfold Hid keyI; rw [keyB_hit hi]
  clear hi hm hx0
  refine (callsIn_wide (n := 9)).1 ?_
  refine callsIn_of_wp_marks Tryd.func30 rfl trivial ?_ rfl
  simp only [Tryd.ntmps30, List.size_toArray, List.length_cons, List.length_nil, Nat.reduceAdd, Nat.reduceSub, Array.replicate_succ, Array.replicate_zero, List.push_toArray, List.append_toArray, List.nil_append, List.cons_append]
  gi_wp2_with (first | (refine ⟨trivial, ?_⟩; gi_at_call 37; refine (callsIn_wide.2 (cut_hit s 47 i HI.out _ (HM.out.ext (HX.out _)) (by omega))).mono ?_; rintro e w1 ⟨rfl, hx1⟩) | (refine ⟨trivial, ?_⟩; gi_at_call 38; refine (callsIn_wide.2 (splitSeqT_any _ 46 _)).mono ?_; rintro e w2 ⟨rfl, hbx, hx2, hsz2⟩))
  have hk1 : IsIn w1 w.heap.size true := (hx1.block _ (by simp)).trans (heap_new rfl)
  have hk2 : IsIn w2 w.heap.size true := (hx2.block _ (heap_lt hk1)).trans hk1
  have hlt1 := heap_lt hk1
  have hlt2 := heap_lt hk2
  have hw2 : Below w.heap.size w w2 := (HX.out _).trans (hx1.trans hx2)
  refine wpIn_range_hands (by omega) (gf := 58) (lb := #[.pointer (some ⟨w1.heap.size + 1, 0, none⟩), .pointer (some ⟨w1.heap.size, 0, none⟩), .pointer (some ⟨w1.heap.size + 2, 0, none⟩)]) rfl (enters_of Tryd.func58 (by kernel_rfl) rfl)
    (lo := w1.heap.size) (hi := w1.heap.size + 3) (bs := w1.heap.size) (xs := parts 46 (s.extract 0 i)) (by omega) (by omega) (splitSeq_hands 46 (s.extract 0 i) w1.heap.size _ w2 (by unfold maxLen; simp; omega) hbx (by omega)) rfl
    (fun pre W => IsIn W w.heap.size (pre.all partB) ∧ Below w.heap.size w W)
    (OwnFrom.and (own_isIn _) (ownFrom_below (Nat.le_refl _) (by omega)))
    (fun pre W v h => ⟨(Below.heap_setCell _ _ _ _ (by simp; omega)).trans h.1, h.2.setCell (p := ⟨w1.heap.size, 0, none⟩) (by simp; omega) _⟩)
    ⟨hk2, hw2⟩ ?a1 ?assign ?body ?done
  case assign =>
    intro l x W K hK
    gi_wp2
    exact hK
  case body =>
    rintro l pre x W ⟨hk, hb⟩ hpre
    have HK := Lib.hid hk
    have HBW := Lib.hid hb
    have HN := Lib.hid (And.intro hlt1 (And.intro hlt2 hsz2))
    have HEND : Hid (∀ v : Bool, v = (pre ++ [x]).all partB → KeepsOthers W (W.setCell ⟨w.heap.size, 0, none⟩ (.bool v)) ∧ Keeps w1.heap.size (w1.heap.size + 3) W (W.setCell ⟨w.heap.size, 0, none⟩ (.bool v)) ∧ IsIn (W.setCell ⟨w.heap.size, 0, none⟩ (.bool v)) w.heap.size ((pre ++ [x]).all partB) ∧ Below w.heap.size w (W.setCell ⟨w.heap.size, 0, none⟩ (.bool v))) := fun v hv => by
      refine ⟨KeepsOthers.setCell _ _ _, fun j h1 _ => Below.heap_setCell _ _ _ _ (by simp; omega), ?_, hb.setCell (p := ⟨w.heap.size, 0, none⟩) (Nat.le_refl _) _⟩
      rw [← hv]
      exact hk.store v
    have c0 := cell_of hk 0
    have f0 := free_of hk 0
    simp at c0
    have hsn : (pre ++ [x]).all partB = (pre.all partB && partB x) := by simp [List.all_append]
    have HSN := Lib.hid hsn
    clear hk hb hpre hbx hx1 hx2 hsz2 hk1 hk2 hlt1 hlt2 hw2 hsn
    cases hall : pre.all partB with
    | false =>
      have HV : Hid (false = (pre ++ [x]).all partB) := by unfold Hid; rw [HSN.out, hall]; rfl
      rw [hall] at c0
      clear hall
      gi_wp2
      refine ⟨trivial, ?_⟩
      gi_wp2
      exact HEND.out _ HV.out
    | true =>
      rw [hall] at c0
      by_cases hl : x.size ≤ 63
      · have HV : Hid (madeB lowB dashB x.data.toList = (pre ++ [x]).all partB) := by unfold Hid; rw [HSN.out, hall, partB, decide_eq_true hl]; rfl
        have hd : decide ((x.size : Int) ≤ 63) = true := decide_eq_true (by omega)
        have HL : Hid (x.size ≤ maxLen) := by unfold Hid maxLen; omega
        clear hall hl
        gi_wp2_with (refine ⟨trivial, ?_⟩; gi_at_call 39; refine (CallsIn.inRound l (callsIn_wide.2 (isName_any _ _ HL.out))).mono ?_; rintro e w' ⟨rfl, rfl⟩)
        exact HEND.out _ HV.out
      · have HV : Hid (false = (pre ++ [x]).all partB) := by unfold Hid; rw [HSN.out, hall, partB, decide_eq_false hl]; rfl
        have hd : decide ((x.size : Int) ≤ 63) = false := decide_eq_false (by omega)
        clear hall hl
        gi_wp2
        refine ⟨trivial, ?_⟩
        gi_wp2
        exact HEND.out _ HV.out
  case done =>
    rintro D W hD ⟨hk, hb⟩ hdef
    have HE : Hid (∀ o, Ext w (W.putObj D o)) := fun o => hb.trans (belowK_b (w := w) (Nat.le_refl _) W D _ o (by omega) hdef rfl rfl)
    have c0 := cell_of hk 0
    simp at c0
    have HDF := Lib.hid hdef
    clear hk hb hbx hx1 hx2 hsz2 hk1 hk2 hlt1 hlt2 hw2 hdef
    have hls : (s.extract (i + 1) s.size).size ≤ 1048576 := by simp; omega
    obtain ⟨last, hlast⟩ : ∃ last, last = s.extract (i + 1) s.size := ⟨_, rfl⟩
    rw [← hlast] at hls hf
    rw [← hlast]
    have hmx : last.size ≤ maxLen := by unfold maxLen; omega
    have hmx2 : s.size ≤ maxLen := by unfold maxLen; omega
    have HMX := Lib.hid (And.intro hmx hmx2)
    clear hmx hmx2 hlast
    cases hall : (parts 46 (s.extract 0 i)).all partB with
    | false =>
      have HF : Hid (keyI s = judgeI s.size 64 false) := by unfold Hid; rw [hf.out, hall]; rfl
      rw [hall] at c0
      clear hall
      gi_wp2
      refine ⟨trivial, ?_⟩
      gi_wp2_with (first | (refine ⟨trivial, ?_⟩; gi_at_call 41; refine (callsIn_wide.2 (isWord_any _ _ HMX.out.1)).mono ?_; rintro e w' ⟨rfl, rfl⟩) | (refine ⟨trivial, ?_⟩; gi_at_call 40; refine (callsIn_wide.2 (judge_any _ 64 _ _ HMX.out.2)).mono ?_; rintro e w' ⟨rfl, rfl⟩))
      refine ⟨by simp, .inl ⟨_, _, rfl, run_takeDeferred HDF.out, ?_⟩⟩
      refine ⟨_, results_tmp rfl _ _ _, ?_, HE.out _⟩
      exact ret_int HF.out.symm
    | true =>
      rw [hall] at c0
      by_cases hl : last.size ≤ 63
      · have HF : Hid (keyI s = judgeI s.size 64 (madeB edgeB wordB last.data.toList)) := by unfold Hid; rw [hf.out, hall, lastB, decide_eq_true hl]; rfl
        have hd : decide ((last.size : Int) ≤ 63) = true := decide_eq_true (by omega)
        clear hall hl
        gi_wp2_with (first | (refine ⟨trivial, ?_⟩; gi_at_call 41; refine (callsIn_wide.2 (isWord_any _ _ HMX.out.1)).mono ?_; rintro e w' ⟨rfl, rfl⟩) | (refine ⟨trivial, ?_⟩; gi_at_call 40; refine (callsIn_wide.2 (judge_any _ 64 _ _ HMX.out.2)).mono ?_; rintro e w' ⟨rfl, rfl⟩))
        refine ⟨by simp, .inl ⟨_, _, rfl, run_takeDeferred HDF.out, ?_⟩⟩
        refine ⟨_, results_tmp rfl _ _ _, ?_, HE.out _⟩
        exact ret_int HF.out.symm
      · have HF : Hid (keyI s = judgeI s.size 64 false) := by unfold Hid; rw [hf.out, hall, lastB, decide_eq_false hl]; rfl
        have hd : decide ((last.size : Int) ≤ 63) = false := decide_eq_false (by omega)
        clear hall hl
        gi_wp2
        refine ⟨trivial, ?_⟩
        gi_wp2_with (first | (refine ⟨trivial, ?_⟩; gi_at_call 41; refine (callsIn_wide.2 (isWord_any _ _ HMX.out.1)).mono ?_; rintro e w' ⟨rfl, rfl⟩) | (refine ⟨trivial, ?_⟩; gi_at_call 40; refine (callsIn_wide.2 (judge_any _ 64 _ _ HMX.out.2)).mono ?_; rintro e w' ⟨rfl, rfl⟩))
        refine ⟨by simp, .inl ⟨_, _, rfl, run_takeDeferred HDF.out, ?_⟩⟩
        refine ⟨_, results_tmp rfl _ _ _, ?_, HE.out _⟩
        exact ret_int HF.out.symm

theorem checkKey_any (s : ByteArray) (w : World) (hs : s.size ≤ 1048576) (hm : MaxC w) :
    Calls Tryd.prog 30 #[.string s] w fun e w' => e = .returned (.int .i64 (keyI s)) ∧ Ext w w' := by
  rcases parts_ways 47 s with ⟨h, _⟩ | ⟨i, h, _⟩
  · exact checkKey_miss s w hs hm h
  · exact checkKey_hit s w hs hm i h
end Go.Proofs.YtfggodnfliciiaaDoor.Sx
