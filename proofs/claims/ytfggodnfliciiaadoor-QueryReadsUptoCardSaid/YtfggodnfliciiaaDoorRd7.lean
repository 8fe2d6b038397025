/-
  Words for Parse: what a text reads as; the row of parts while it grows.
-/
import Derived.Test.YtfggodnfliciiaaDoorRd6
import Derived.Test.YtfggodnfliciiaaDoorMxc
namespace Go.Proofs.YtfggodnfliciiaaDoor.Rd
open Go Go.RowKit Go.Proofs.YtfggodnfliciiaaDoor.Sx

/-- What is read, part by part. -/
inductive Reads : Tx → List Pt → Option (List Pt) → Prop
  | bad {s acc} : partS s = none → Reads s acc none
  | last {s acc p} : partS s = some (p, []) → Reads s acc (some (acc ++ [p]))
  | junk {s acc p c r} : partS s = some (p, c :: r) → c ≠ 44 → Reads s acc none
  | more {s acc p r o} : partS s = some (p, 44 :: r) → Reads r (acc ++ [p]) o → Reads s acc o
theorem Reads.one {s : Tx} {acc : List Pt} {o o' : Option (List Pt)} (h : Reads s acc o) (h' : Reads s acc o') : o = o' := by
  induction h with
  | bad h1 =>
    cases h' with
    | bad _ => rfl
    | last h2 => rw [h1] at h2; cases h2
    | junk h2 _ => rfl
    | more h2 _ => rw [h1] at h2; cases h2
  | last h1 =>
    cases h' with
    | bad h2 => rw [h1] at h2; cases h2
    | last h2 => rw [h1] at h2; injection h2 with h2; injection h2 with e1 e2; rw [e1]
    | junk h2 _ => rw [h1] at h2; injection h2 with h2; injection h2 with e1 e2; cases e2
    | more h2 _ => rw [h1] at h2; injection h2 with h2; injection h2 with e1 e2; cases e2
  | junk h1 hc =>
    cases h' with
    | bad _ => rfl
    | last h2 => rw [h1] at h2; injection h2 with h2; injection h2 with e1 e2; cases e2
    | junk _ _ => rfl
    | more h2 _ => rw [h1] at h2; injection h2 with h2; injection h2 with e1 e2; injection e2 with e3 e4; exact absurd e3 hc
  | more h1 _ ih =>
    cases h' with
    | bad h2 => rw [h1] at h2; cases h2
    | last h2 => rw [h1] at h2; injection h2 with h2; injection h2 with e1 e2; cases e2
    | junk h2 hc => rw [h1] at h2; injection h2 with h2; injection h2 with e1 e2; injection e2 with e3 e4; exact absurd e3.symm hc
    | more h2 h3 =>
      rw [h1] at h2
      injection h2 with h2
      injection h2 with e1 e2
      injection e2 with e3 e4
      subst e1 e4
      exact ih h3
def toReq (p : Pt) : Req := ⟨bx p.key, p.kind, p.vals.map bx⟩
/-- What Parse answers. -/
def Out (s : ByteArray) (l : List Req) (err : Int) : Prop :=
  (300 < s.size ∧ l = [] ∧ err = 2) ∨ (s.size ≤ 300 ∧ skip (sfx s 0) = [] ∧ l = [] ∧ err = 0) ∨
  (s.size ≤ 300 ∧ skip (sfx s 0) ≠ [] ∧ ((Reads (sfx s 0) [] none ∧ l = [] ∧ err = 3) ∨ ∃ ps, Reads (sfx s 0) [] (some ps) ∧ ((checkQ (ps.map toReq) = 0 ∧ l = ps.map toReq ∧ err = 0) ∨ (checkQ (ps.map toReq) ≠ 0 ∧ l = [] ∧ err = checkQ (ps.map toReq)))))
theorem Out.one {s : ByteArray} {l l' : List Req} {e e' : Int} (h : Out s l e) (h' : Out s l' e') : l = l' ∧ e = e' := by
  rcases h with ⟨h1, h2, h3⟩ | ⟨h1, h2, h3, h4⟩ | ⟨h1, h2, h3⟩
  · rcases h' with ⟨g1, g2, g3⟩ | ⟨g1, _⟩ | ⟨g1, _⟩
    · exact ⟨h2.trans g2.symm, h3.trans g3.symm⟩
    · omega
    · omega
  · rcases h' with ⟨g1, _⟩ | ⟨_, g2, g3, g4⟩ | ⟨_, g2, _⟩
    · omega
    · exact ⟨h3.trans g3.symm, h4.trans g4.symm⟩
    · exact absurd h2 g2
  · rcases h' with ⟨g1, _⟩ | ⟨_, g2, _⟩ | ⟨_, _, g3⟩
    · omega
    · exact absurd g2 h2
    · rcases h3 with ⟨h4, h5, h6⟩ | ⟨ps, h4, h5⟩
      · rcases g3 with ⟨_, g5, g6⟩ | ⟨ps', g4, _⟩
        · exact ⟨h5.trans g5.symm, h6.trans g6.symm⟩
        · cases h4.one g4
      · rcases g3 with ⟨g4, _⟩ | ⟨ps', g4, g5⟩
        · cases h4.one g4
        · injection h4.one g4 with e
          subst e
          rcases h5 with ⟨a, b, c⟩ | ⟨a, b, c⟩ <;> rcases g5 with ⟨a', b', c'⟩ | ⟨a', b', c'⟩
          · exact ⟨b.trans b'.symm, c.trans c'.symm⟩
          · exact absurd a a'
          · exact absurd a' a
          · exact ⟨b.trans b'.symm, c.trans c'.symm⟩

/-! ### Sizes -/
theorem wordOf_len (s : Tx) : (wordOf s).length ≤ s.length := Nat.le_trans (List.takeWhile_sublist _).length_le (skip_len s)
theorem listS_size {N : Nat} : ∀ (m : Nat) {s : Tx} {acc vs : List Tx} {r : Tx}, s.length ≤ m → s.length ≤ N → (∀ v ∈ acc, v.length ≤ N) → listS s acc = some (vs, r) → (∀ v ∈ vs, v.length ≤ N) ∧ vs.length ≤ acc.length + s.length + 1
  | m, s, acc, vs, r, hm, hN, ha, h => by
    have hw := wordRest_len s
    have hacc : ∀ v ∈ acc ++ [wordOf s], v.length ≤ N := fun v hv => by
      rcases List.mem_append.1 hv with hv | hv
      · exact ha v hv
      · rw [List.mem_singleton] at hv
        rw [hv]
        exact Nat.le_trans (wordOf_len s) hN
    cases hs : wordRest s with
    | nil => rw [listS_end hs] at h; cases h
    | cons c q =>
      rw [hs] at hw
      simp at hw
      by_cases h44 : c = 44
      · subst h44
        rw [listS_comma hs] at h
        cases m with
        | zero => omega
        | succ m =>
          have := listS_size m (s := q) (by omega) (by omega) hacc h
          refine ⟨this.1, ?_⟩
          have h2 := this.2
          simp at h2
          omega
      · by_cases h41 : c = 41
        · subst h41
          rw [listS_close hs] at h
          injection h with h
          injection h with e1 e2
          rw [← e1]
          exact ⟨hacc, by simp⟩
        · rw [listS_bad hs h44 h41] at h
          cases h
/-- Not longer than the text. -/
def Small (N : Nat) (p : Pt) : Prop := p.key.length ≤ N ∧ (∀ v ∈ p.vals, v.length ≤ N) ∧ p.vals.length ≤ N + 1
theorem choice_small {N : Nat} {k s r : Tx} {p : Pt} (hk : k.length ≤ N) (hs : s.length ≤ N) (h : choiceS k s = some (p, r)) : Small N p := by
  unfold choiceS at h
  split at h
  · have hw := wordRest_len s
    split at h
    · cases h
    · rename_i c q hq
      rw [hq] at hw
      simp at hw
      split at h
      · obtain ⟨x, hx, e⟩ := Option.map_eq_some_iff.1 h
        injection e with e1 e2
        obtain ⟨h1, h2⟩ := listS_size (N := N) q.length (Nat.le_refl _) (by omega) (fun v hv => by simp at hv) (vs := x.1) (r := x.2) hx
        rw [← e1]
        exact ⟨hk, h1, by simp at h2; show x.1.length ≤ _; omega⟩
      · cases h
  · cases h
theorem tail_small {N : Nat} {k s r : Tx} {bl : Bool} {p : Pt} (hk : k.length ≤ N) (hs : s.length ≤ N) (h : tailS k bl s = some (p, r)) : Small N p := by
  have h3 : Small N ⟨k, 3, []⟩ := ⟨hk, fun v hv => by simp at hv, by simp⟩
  have h1 : ∀ (z : Int) (q : Tx), q.length ≤ N → Small N ⟨k, z, [wordOf q]⟩ := fun z q hq => ⟨hk, fun v hv => by
    rw [List.mem_singleton] at hv
    rw [hv]
    exact Nat.le_trans (wordOf_len q) hq, by simp⟩
  cases s with
  | nil => injection h with h; injection h with e _; rw [← e]; exact h3
  | cons c q =>
    simp at hs
    by_cases h44 : c = 44
    · subst h44; injection h with h; injection h with e _; rw [← e]; exact h3
    · by_cases h61 : c = 61
      · subst h61
        by_cases hd : q.head? = some 61
        · obtain ⟨q2, rfl⟩ : ∃ q2, q = 61 :: q2 := by
            cases q with
            | nil => cases hd
            | cons d q2 => injection hd with hd; exact ⟨q2, by rw [hd]⟩
          rw [tail_two] at h
          simp at hs
          injection h with h; injection h with e _; rw [← e]
          exact h1 1 q2 (by omega)
        · rw [tail_one k bl hd] at h
          injection h with h; injection h with e _; rw [← e]
          exact h1 1 q (by omega)
      · by_cases h33 : c = 33 ∧ q.head? = some 61
        · obtain ⟨e33, hd⟩ := h33
          obtain ⟨q2, rfl⟩ : ∃ q2, q = 61 :: q2 := by
            cases q with
            | nil => cases hd
            | cons d q2 => injection hd with hd; exact ⟨q2, by rw [hd]⟩
          subst e33
          rw [tail_ne] at h
          simp at hs
          injection h with h; injection h with e _; rw [← e]
          exact h1 2 q2 (by omega)
        · rw [tail_else k bl h44 h61 h33] at h
          split at h
          · exact choice_small hk (by simp; omega) h
          · cases h
theorem part_small {N : Nat} {s r : Tx} {p : Pt} (hs : s.length ≤ N) (h : partS s = some (p, r)) : Small N p := by
  unfold partS at h
  have hk := skip_len s
  split at h
  · injection h with h; injection h with e _; rw [← e]
    exact ⟨by simp, fun v hv => by simp at hv, by simp⟩
  · rename_i c q hq
    rw [hq] at hk
    simp at hk
    split at h
    · injection h with h; injection h with e _; rw [← e]
      exact ⟨Nat.le_trans (wordOf_len q) (by omega), fun v hv => by simp at hv, by simp⟩
    · exact tail_small (Nat.le_trans (wordOf_len s) hs) (Nat.le_trans (wordRest_len s) hs) h

/-! ### The row of parts while it grows -/
/-- One part in the row: its values lie in a row of their own, away from the parser and from the row of parts. -/
def partIn (w : World) (kp base : Nat) (v : Value) (t : Rw) (p : Pt) : Prop :=
  t.key = bx p.key ∧ t.kind = p.kind ∧ t.n = p.vals.length ∧ SRow base w (.slice t.A t.n t.c) (p.vals.map bx) ∧ ∀ g, (Value.slice t.A t.n t.c).ownBlock = some g → g ≠ kp ∧ v.ownBlock ≠ some g
def PRow (w : World) (kp base : Nat) (v : Value) (L : List Rw) (ps : List Pt) : Prop :=
  RRow reqT base w v L ∧ L.length = ps.length ∧ ∀ i (hi : i < ps.length), partIn w kp base v (nth L i) ps[i]
theorem PRow.nil {w : World} {kp base : Nat} : PRow w kp base (.slice none 0 0) [] [] := ⟨RRow.nil, rfl, fun i hi => by simp at hi⟩
theorem PRow.kept {w w' : World} {kp base : Nat} {v : Value} {L : List Rw} {ps : List Pt} (h : PRow w kp base v L ps) (hg : w.grownBy w' (some kp)) (hk : kp < base) : PRow w' kp base v L ps := by
  refine ⟨h.1.kept hg (fun g hgg e => by have := (h.1.block g hgg).1; injection e with e; omega), h.2.1, fun i hi => ?_⟩
  obtain ⟨h1, h2, h3, h4, h5⟩ := h.2.2 i hi
  exact ⟨h1, h2, h3, h4.kept hg (fun g hgg e => (h5 g hgg).1 (by injection e with e; exact e.symm)), h5⟩
/-- One part more. -/
theorem PRow.more {w w' : World} {kp base n : Nat} {v : Value} {L : List Rw} {ps : List Pt} {t : Rw} {p : Pt} {A : Option Addr} {c : Nat} (h : PRow w kp base v L ps) (hb : base ≤ w.heap.size)
    (hg : w.grownBy w' v.ownBlock) (hr : RRow reqT base w' (.slice A n c) (L ++ [t])) (ho : (Value.slice A n c).ownBlock = v.ownBlock ∨ (Value.slice A n c).ownBlock = some w.heap.size) (ht : partIn w kp base v t p) : PRow w' kp base (.slice A n c) (L ++ [t]) (ps ++ [p]) := by
  have hone : ∀ {t : Rw} {p : Pt}, partIn w kp base v t p → partIn w' kp base (.slice A n c) t p := fun ⟨h1, h2, h3, h4, h5⟩ => by
    refine ⟨h1, h2, h3, h4.kept hg (fun g hgg e => (h5 g hgg).2 e), fun g hgg => ⟨(h5 g hgg).1, fun e => ?_⟩⟩
    rcases ho with e2 | e2
    · exact (h5 g hgg).2 (e2.symm.trans e)
    · rw [e2] at e
      injection e with e
      have := (h4.block g hgg).2
      omega
  refine ⟨hr, by simp [h.2.1], fun i hi => ?_⟩
  rcases Nat.lt_or_ge i ps.length with h1 | h1
  · rw [nth_append_left (by rw [h.2.1]; exact h1), List.getElem_append_left h1]
    exact hone (h.2.2 i h1)
  · have e : i = ps.length := by simp at hi; omega
    subst e
    rw [List.getElem_append_right (Nat.le_refl _)]
    simp only [Nat.sub_self, List.getElem_cons_zero]
    rw [← h.2.1, nth_append_one]
    exact hone ht
theorem srow_cap {base : Nat} {w : World} {A : Option Addr} {n c : Nat} {xs : List ByteArray} (h : SRow base w (.slice A n c) xs) : n ≤ c := by
  rcases h with ⟨hv, rfl⟩ | ⟨g, rest, hv, _⟩
  · injection hv with e1 e2 e3; omega
  · injection hv with e1 e2 e3; omega
/-- What the row reads as. -/
theorem PRow.reqs {w : World} {kp base : Nat} {v : Value} {L : List Rw} {ps : List Pt} (h : PRow w kp base v L ps) (hn : ps.length ≤ 1099511627776) (hs : ∀ p ∈ ps, Small 300 p) : ReqsR w.heap.size w v (ps.map toReq) := by
  refine reqs_of_row (B := w.heap.size) h.1 ⟨by rw [h.2.1, List.length_map], fun i hi => ?_⟩ (Nat.le_refl _) (by rw [List.length_map]; exact hn)
  have hi2 : i < ps.length := by rw [List.length_map] at hi; exact hi
  obtain ⟨h1, h2, h3, h4, h5⟩ := h.2.2 i hi2
  have hsm := hs ps[i] (List.getElem_mem hi2)
  have e : (ps.map toReq)[i] = toReq ps[i] := by rw [List.getElem_map]
  rw [e]
  have hbx : ∀ t : Tx, (bx t).size = t.length := fun t => by show t.toArray.size = _; rw [List.size_toArray]
  have hl : (ps[i].vals.map bx).length = ps[i].vals.length := List.length_map _
  refine ⟨h1, h2, by rw [h3]; exact hl.symm, (nth L i).A, (nth L i).c, ?_, ?_, ?_, ?_⟩
  · show rcell (nth L i) = _
    unfold rcell
    rw [h1, h2, h3]
    show _ = [_, _, Value.slice _ (ps[i].vals.map bx).length _]
    rw [hl]
    rfl
  · show (bx ps[i].key).size ≤ _
    rw [hbx]
    have := hsm.1
    omega
  · show StrsR w.heap.size w (.slice _ (ps[i].vals.map bx).length _) (ps[i].vals.map bx)
    rw [hl, ← h3]
    refine h4.strs (by rw [hl]; have := hsm.2.2; omega) (fun x hx => ?_)
    obtain ⟨t, ht, rfl⟩ := List.mem_map.1 hx
    rw [hbx]
    have := hsm.2.1 t ht
    omega
  · show (ps[i].vals.map bx).length ≤ _
    rw [hl, ← h3]
    exact srow_cap h4
theorem ext_of_grown {w w1 w2 : World} {kp : Nat} (hx : Ext w w1) (hg : w1.grownBy w2 (some kp)) (hk : w.heap.size ≤ kp) : Ext w w2 :=
  ⟨hg.os.trans hx.os, hg.tape.trans hx.tape, hg.output.trans hx.output, Nat.le_trans hx.size hg.size, fun k hkk => (hg.block k (Nat.lt_of_lt_of_le hkk hx.size) (fun e => by injection e with e; omega)).trans (hx.block k hkk)⟩
end Go.Proofs.YtfggodnfliciiaaDoor.Rd
