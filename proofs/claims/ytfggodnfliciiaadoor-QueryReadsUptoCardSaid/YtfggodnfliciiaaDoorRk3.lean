/-
  Signs in memory as slices; the reference's end; its letter word.
-/
import Derived.Test.YtfggodnfliciiaaDoorRk2
namespace Go.Proofs.YtfggodnfliciiaaDoor.Rd
open Go Go.RowKit Go.Proofs.YtfggodnfliciiaaDoor.Sx

def sgR (_ : World) (cs : List Value) (t : Tok) : Prop := cs = [.string (bx t.text), .bool t.word, .bool t.blank]
abbrev SgR (B : Nat) (w : World) (v : Value) (ts : List Tok) : Prop := SlR sgR 3 B w v ts
theorem SgR.below {B B' : Nat} {w w' : World} {v : Value} {ts : List Tok} (h : SgR B w v ts) (hb : Below B w w') (hB : B ≤ B') : SgR B' w' v ts := SlR.below h hb hB fun _ _ hr => hr
theorem SgR.at_ {B : Nat} {w : World} {A : Option Addr} {c : Nat} {ts : List Tok} (h : SgR B w (.slice A ts.length c) ts) {j : Nat} (hj : j < ts.length) :
    ∃ b off, A = some ⟨b, off, none⟩ ∧ b < B ∧ w.cell? ⟨b, off + j * 3, none⟩ = some (.string (bx ts[j].text)) ∧ w.cell? ⟨b, off + j * 3 + 1, none⟩ = some (.bool ts[j].word) ∧ w.cell? ⟨b, off + j * 3 + 2, none⟩ = some (.bool ts[j].blank) := by
  obtain ⟨_, A', c', hv, hi⟩ := h
  obtain ⟨b, off, cs, hA, hlt, _, rfl, hc⟩ := hi j hj
  injection hv with e1 _ _
  subst e1 hA
  exact ⟨b, off, rfl, hlt, hc 0 _ rfl, hc 1 _ rfl, hc 2 _ rfl⟩
theorem kth_map {ts : List Tok} {i : Nat} (h : i < ts.length) : kth (ts.map kw) i = kw ts[i] := by
  unfold kth
  rw [List.getD_eq_getElem?_getD, List.getElem?_map, List.getElem?_eq_getElem h]
  rfl
theorem KRow.sg {base : Nat} {w : World} {v : Value} {ts : List Tok} (h : KRow sgT base w v (ts.map kw)) (hn : ts.length ≤ 1099511627776) : SgR w.heap.size w v ts := by
  rcases h with ⟨rfl, h0⟩ | ⟨g, c, rest, rfl, hb, hg, hc, hm⟩
  · have : ts = [] := by simpa using h0
    subst this
    exact ⟨hn, none, 0, rfl, fun i hi => by simp at hi⟩
  · refine ⟨hn, some ⟨g, 0, none⟩, c, by rw [List.length_map], fun i hi => ⟨g, 0, kcell (kw ts[i]), rfl, heap_lt hg, rfl, rfl, fun k u hu => ?_⟩⟩
    have hk : k < 3 := (List.getElem?_eq_some_iff.1 hu).1
    rw [Nat.zero_add, krow_cell hg (by rw [List.length_map]; exact hi) hk, kth_map hi]
    exact hu
theorem sg_drop {B : Nat} {w : World} {A : Option Addr} {c : Nat} {ts : List Tok} (h : SgR B w (.slice A ts.length c) ts) (l : Nat) (hl : l ≤ ts.length) (hc : ts.length ≤ c) :
    ∃ A', (∀ W, (Instr.slice 38 (.slice A ts.length c) (some (.int .i64 (l : Int))) none none).run Tryd.prog W = .ok (.slice A' (ts.length - l) (c - l)) W) ∧ SgR B w (.slice A' (ts.length - l) (c - l)) (ts.drop l) := by
  have hr : ∀ W, (Instr.slice 38 (.slice A ts.length c) (some (.int .i64 (l : Int))) none none).run Tryd.prog W = .ok (sliced A l ts.length c 3) W := fun W => by
    have h := run_slice_l (P := Tryd.prog) (w := W) 38 A ts.length c Tryd.underlying38 .i64 (l : Int) (by omega) (by omega)
    rw [h]
    have e1 : (sizeOf (Tryd.prog.elem 38)).run Tryd.prog W = .ok 3 W := by kernel_rfl
    rw [e1]
    have e2 : (l : Int).toNat = l := by omega
    simp only [Result.andThen, e2]
  refine ⟨if c = l then A else A.map (·.add (l * 3)), fun W => by rw [hr W]; rfl, by rw [List.length_drop]; have := h.1; omega, _, _, by rw [List.length_drop], fun i hi => ?_⟩
  rw [List.length_drop] at hi
  obtain ⟨_, A', c', hv, hcell⟩ := h
  obtain ⟨b, off, cs, hA, hlt, hcl, hs, hu⟩ := hcell (l + i) (by omega)
  injection hv with e1 _ _
  subst e1 hA
  rw [if_neg (by omega)]
  refine ⟨b, off + l * 3, cs, ?_, hlt, hcl, ?_, fun k u hk => ?_⟩
  · simp only [Option.map_some]
    simp [Addr.add]
  · rw [List.getElem_drop]
    exact hs
  · have h3 := hu k u hk
    rw [← h3]
    congr 2
    omega
/-- The comma that is laid behind all signs. -/
def comma : Tok := ⟨[44], false, false⟩
/-- From place i on: the signs of what is left, then the comma. -/
def At (ts : List Tok) (i : Nat) (b : Bool) (s : Tx) : Prop := ts.drop i = toks b s ++ [comma]
theorem At.lt {ts : List Tok} {i : Nat} {b : Bool} {s : Tx} (h : At ts i b s) : i < ts.length := by
  have h1 : (ts.drop i).length = (toks b s ++ [comma]).length := by rw [show ts.drop i = _ from h]
  rw [List.length_drop, List.length_append] at h1
  simp at h1
  omega
theorem At.get {ts : List Tok} {i : Nat} {b : Bool} {s : Tx} {t : Tok} {r : List Tok} (h : At ts i b s) (e : toks b s ++ [comma] = t :: r) : ∃ hi : i < ts.length, ts[i] = t ∧ ts.drop (i + 1) = r := by
  have hi := h.lt
  have h1 : ts.drop i = t :: r := by rw [show ts.drop i = _ from h, e]
  rw [List.drop_eq_getElem_cons hi] at h1
  injection h1 with h2 h3
  exact ⟨hi, h2, h3⟩
/-- What stands at the place: the comma, a word, a sign. -/
theorem At.end_ {ts : List Tok} {i : Nat} {b : Bool} {s : Tx} (h : At ts i b s) (hs : skip s = []) : ∃ hi : i < ts.length, ts[i] = comma ∧ i + 1 = ts.length := by
  obtain ⟨hi, h1, h2⟩ := h.get (t := comma) (r := []) (by rw [toks_empty.2 hs]; rfl)
  have h3 : (ts.drop (i + 1)).length = 0 := by rw [h2]; rfl
  rw [List.length_drop] at h3
  exact ⟨hi, h1, by omega⟩
theorem skip_head {s r : Tx} {c : UInt8} (h : skip s = c :: r) : c ≠ 32 := fun e => by
  have := hb_skip s
  rw [h, e] at this
  simp [hb] at this
theorem At.word {ts : List Tok} {i : Nat} {b : Bool} {s r : Tx} {c : UInt8} (h : At ts i b s) (hs : skip s = c :: r) (hw : isW c = true) : ∃ hi : i < ts.length, ts[i] = ⟨wordOf s, true, b || hb s⟩ ∧ At ts (i + 1) (wordBl s) (wordRest s) := by
  obtain ⟨hi, h1, h2⟩ := h.get (t := ⟨wordOf s, true, b || hb s⟩) (r := toks false (restW (skip s)) ++ [comma]) (by
    rw [toks_skip, hs, toks_word hw, ← hs]
    rfl)
  refine ⟨hi, h1, ?_⟩
  unfold At
  rw [h2, toks_skip]
  rfl
theorem At.sign {ts : List Tok} {i : Nat} {b : Bool} {s r : Tx} {c : UInt8} (h : At ts i b s) (hs : skip s = c :: r) (hw : isW c = false) : ∃ hi : i < ts.length, ts[i] = ⟨[c], false, b || hb s⟩ ∧ At ts (i + 1) false r := by
  obtain ⟨hi, h1, h2⟩ := h.get (t := ⟨[c], false, b || hb s⟩) (r := toks false r ++ [comma]) (by
    rw [toks_skip, hs, toks_sign (skip_head hs) hw]
    rfl)
  exact ⟨hi, h1, h2⟩
theorem At.skip {ts : List Tok} {i : Nat} {b : Bool} {s : Tx} (h : At ts i b s) : At ts i (b || hb s) (Rd.skip s) := by
  unfold At
  rw [← toks_skip]
  exact h
/-- end's answer. -/
theorem sep_word : isW 44 = false := by decide
def sepAt (s : Tx) : Bool := match skip s with | [] => true | c :: _ => c == 44
theorem At.sep {ts : List Tok} {i : Nat} {b : Bool} {s : Tx} (h : At ts i b s) : ∃ hi : i < ts.length, (!ts[i].word && decide (ts[i].text = [44])) = sepAt s := by
  unfold sepAt
  cases hs : Rd.skip s with
  | nil =>
    obtain ⟨hi, h1, _⟩ := h.end_ hs
    exact ⟨hi, by rw [h1]; rfl⟩
  | cons c r =>
    cases hw : isW c with
    | true =>
      obtain ⟨hi, h1, _⟩ := h.word hs hw
      refine ⟨hi, ?_⟩
      rw [h1]
      have : (c == 44) = false := by rw [beq_eq_false_iff_ne]; exact fun e => by rw [e, sep_word] at hw; cases hw
      simp [this]
    | false =>
      obtain ⟨hi, h1, _⟩ := h.sign hs hw
      refine ⟨hi, ?_⟩
      rw [h1, Bool.eq_iff_iff]
      simp

def endI (s : Tx) (i : Nat) : Int := if sepAt s then (i : Int) else -1
theorem endI_yes {s : Tx} {i : Nat} (h : sepAt s = true) : endI s i = (i : Int) := if_pos h
theorem endI_no {s : Tx} {i : Nat} (h : sepAt s = false) : endI s i = -1 := if_neg (by rw [h]; simp)
set_option maxRecDepth 100000 in
set_option maxHeartbeats 2000000 in
theorem end_any {B : Nat} {w : World} {A : Option Addr} {c : Nat} {ts : List Tok} {i : Nat} {b : Bool} {s : Tx} (h : SgR B w (.slice A ts.length c) ts) (ha : At ts i b s) :
    Calls Tryd.prog 24 #[.slice A ts.length c, .int .i64 (i : Int)] w fun e w' => e = .returned (.int .i64 (endI s i)) ∧ w' = w := by
  obtain ⟨hi, hsep⟩ := ha.sep
  have hn := h.1
  obtain ⟨bb, off, rfl, _, x0, x1, x2⟩ := h.at_ hi
  obtain ⟨t, ht⟩ : ∃ t, t = ts[i] := ⟨_, rfl⟩
  rw [← ht] at x0 x1 x2 hsep
  have HS := Lib.hid hsep
  have hiI : (i : Int) < (ts.length : Int) := by omega
  have hi0 : (0 : Int) ≤ (i : Int) := by omega
  have b2 : ((bx t.text).toList == [44]) = decide (t.text = [44]) := bx_eq _ _
  clear h ht hsep x2
  obtain ⟨tw, htw⟩ : ∃ tw, tw = t.word := ⟨_, rfl⟩
  obtain ⟨te, hte⟩ : ∃ te, te = decide (t.text = [44]) := ⟨_, rfl⟩
  rw [← htw] at x1
  rw [← hte] at b2
  rw [← htw, ← hte] at HS
  clear htw hte
  cases tw with
  | true =>
    have HE : Hid (endI s i = -1) := endI_no (by rw [← HS.out]; rfl)
    go_enter Tryd.func24, Tryd.ntmps24
    go_wp2
    go_ret
    exact ⟨ret_int HE.out.symm, rfl⟩
  | false =>
    cases te with
    | true =>
      have HE : Hid (endI s i = (i : Int)) := endI_yes (by rw [← HS.out]; rfl)
      go_enter Tryd.func24, Tryd.ntmps24
      go_wp2
      go_ret
      exact ⟨ret_int HE.out.symm, rfl⟩
    | false =>
      have HE : Hid (endI s i = -1) := endI_no (by rw [← HS.out]; rfl)
      go_enter Tryd.func24, Tryd.ntmps24
      go_wp2
      go_ret
      exact ⟨ret_int HE.out.symm, rfl⟩
end Go.Proofs.YtfggodnfliciiaaDoor.Rd
