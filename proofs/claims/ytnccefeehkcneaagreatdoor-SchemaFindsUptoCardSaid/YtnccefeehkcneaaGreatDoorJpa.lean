/-
  The program's objects: With, every case (printed by gen/jb3.py).
  The program's reader: what is open, in memory.
  The program's reader: the uppermost of the stack, turned.
  The program's reader: close, field (printed by gen/jp1.py).
-/
import Derived.Test.YtnccefeehkcneaaGreatDoorJb4
import Derived.Test.YtnccefeehkcneaaGreatDoorJb5
import Derived.Test.YtnccefeehkcneaaGreatDoorJrd
import Derived.Test.YtnccefeehkcneaaGreatDoorJqf
import Derived.StillTailTactics
namespace Go.Proofs.YtnccefeehkcneaaGreatDoor.Jm
open Go Go.RowKit Go.Proofs.YtnccefeehkcneaaGreatDoor.Sx Go.Proofs.YtnccefeehkcneaaGreatDoor.Js Go.Proofs.YtnccefeehkcneaaGreatDoor.Gr Go.Proofs.YtnccefeehkcneaaGreatDoor.Ur
theorem with_any (F : Nat → Prop) (b : Nat) (ns : List Tx) (l : List J) (t : Tx) (j : J) (v : Value) (w : World) (ho : ObjAt F w b ns l) (hw : ns.length = l.length) (hr : Rise ns) (hsm : l.length ≤ 1048570) (hv : PV F w j v) :
    Calls Tryz.prog 35 #[.pointer (some ⟨b, 0, none⟩), .string (bx t), v] w (WithPost F w (setJ ns l t j).1 (setJ ns l t j).2) := by
  by_cases ht : t ∈ ns
  · rw [setJ_old ht]
    exact with_old F b ns l t j v w ho hw hr hsm hv ht
  · rw [setJ_new ht]
    rcases hv.shape with rfl | ⟨tv, xv, rfl⟩
    · exact with_nil F b ns l t j w ho hw hr hsm hv ht
    · exact with_iface tv xv F b ns l t j w ho hw hr hsm hv ht
end Go.Proofs.YtnccefeehkcneaaGreatDoor.Jm
namespace Go.Proofs.YtnccefeehkcneaaGreatDoor.Jm
open Go Go.RowKit Go.Proofs.YtnccefeehkcneaaGreatDoor.Sx Go.Proofs.YtnccefeehkcneaaGreatDoor.Js Go.Proofs.YtnccefeehkcneaaGreatDoor.Gr
abbrev openT : Nat := 185
abbrev opensT : Nat := 120
theorem ty_open : GTy opensT openT 3 48 (.agg #[.slice none 0 0, .pointer none, .string ⟨#[]⟩]) := ⟨Tryz.underlying120, by kernel_rfl, rfl, by omega, by omega⟩
/-- The block of a list that is open. -/
def ownL (c : List Value) : Option Nat := (c.headD .nilIface).ownBlock
/-- A block that nothing writes: no block of the stack, no block of an open list. -/
def FreeB (base : Nat) (v : Value) (L : List (List Value)) (b : Nat) : Prop := base ≤ b ∧ v.ownBlock ≠ some b ∧ ∀ c ∈ L, ownL c ≠ some b
/-- Three cells: a list or an object that is being read. -/
def FrAt (F : Nat → Prop) (base : Nat) (w : World) (f : Fr) (c : List Value) : Prop :=
  (f.isObj = false ∧ ∃ A n cp us, c = [.slice A n cp, .pointer none, .string ⟨#[]⟩] ∧ GRow valT 1 base w (.slice A n cp) (one us) ∧ PVs F w f.list us) ∨
  (f.isObj = true ∧ ∃ b, c = [.slice none 0 0, .pointer (some ⟨b, 0, none⟩), .string (bx f.name)] ∧ F b ∧ ObjAt F w b f.ns f.vs ∧ f.ns.length = f.vs.length ∧ Rise f.ns)
def FrsAt (F : Nat → Prop) (base : Nat) (w : World) : List Fr → List (List Value) → Prop
  | [], [] => True
  | f :: st, c :: L => FrAt F base w f c ∧ FrsAt F base w st L
  | _, _ => False
theorem FrsAt.len {F : Nat → Prop} {base : Nat} {w : World} : ∀ {st : List Fr} {L : List (List Value)}, FrsAt F base w st L → L.length = st.length
  | [], [], _ => rfl
  | _ :: _, _ :: _, h => by rw [List.length_cons, List.length_cons, FrsAt.len h.2]
  | [], _ :: _, h => h.elim
  | _ :: _, [], h => h.elim
section
variable {F F' : Nat → Prop} {base : Nat} {w w' : World}
theorem PVs.keep {l : List J} {us : List Value} (h : PVs F w l us) (hk : ∀ b, F b → b < w.heap.size → w'.heap[b]? = w.heap[b]?) (hF : ∀ b, F b → b < w.heap.size → F' b) : PVs F' w' l us := ⟨h.1, fun i hi hu => PV.keep hk hF _ _ (h.2 i hi hu)⟩
theorem FrAt.keep {f : Fr} {c : List Value} (h : FrAt F base w f c) (hk : ∀ b, F b → b < w.heap.size → w'.heap[b]? = w.heap[b]?) (hF : ∀ b, F b → b < w.heap.size → F' b) (hc : ∀ g, ownL c = some g → w'.heap[g]? = w.heap[g]?) : FrAt F' base w' f c := by
  rcases h with ⟨h0, A, n, cp, us, rfl, h1, h2⟩ | ⟨h0, b, rfl, h1, h2, h3, h4⟩
  · exact .inl ⟨h0, A, n, cp, us, rfl, h1.keep hc, h2.keep hk hF⟩
  · exact .inr ⟨h0, b, rfl, hF b h1 (by obtain ⟨_, _, _, _, hh, _⟩ := h2; exact heap_lt hh), h2.keep h1 hk hF, h3, h4⟩
theorem FrsAt.keep : ∀ {st : List Fr} {L : List (List Value)}, FrsAt F base w st L → (∀ b, F b → b < w.heap.size → w'.heap[b]? = w.heap[b]?) → (∀ b, F b → b < w.heap.size → F' b) → (∀ c ∈ L, ∀ g, ownL c = some g → w'.heap[g]? = w.heap[g]?) → FrsAt F' base w' st L
  | [], [], _, _, _, _ => trivial
  | _ :: _, _ :: _, h, hk, hF, hc => ⟨h.1.keep hk hF (hc _ (List.mem_cons_self ..)), FrsAt.keep h.2 hk hF (fun c hm => hc c (List.mem_cons_of_mem _ hm))⟩
  | [], _ :: _, h, _, _, _ => h.elim
  | _ :: _, [], h, _, _, _ => h.elim
/-- An open list's block is one of the rows' own, there and new. -/
theorem FrAt.own {f : Fr} {c : List Value} (h : FrAt F base w f c) : ∀ g, ownL c = some g → base ≤ g ∧ g < w.heap.size := by
  rcases h with ⟨_, A, n, cp, us, rfl, h1, _⟩ | ⟨_, b, rfl, _⟩
  · exact h1.block
  · intro g e; cases e
theorem FrsAt.own : ∀ {st : List Fr} {L : List (List Value)}, FrsAt F base w st L → ∀ c ∈ L, ∀ g, ownL c = some g → base ≤ g ∧ g < w.heap.size
  | [], [], _, c, hc => by cases hc
  | f :: st, d :: L, h, c, hc => by
    rcases List.mem_cons.1 hc with rfl | hc
    · exact h.1.own
    · exact FrsAt.own h.2 c hc
  | [], _ :: _, h, _, _ => h.elim
  | _ :: _, [], h, _, _ => h.elim
end
/-- The stack: what is open, the blocks apart. -/
def StkAt (base : Nat) (w : World) (v : Value) (st : List Fr) (L : List (List Value)) : Prop :=
  GRow openT 3 base w v L.reverse ∧ (∀ c ∈ L, ∀ g, ownL c = some g → v.ownBlock ≠ some g) ∧ L.Pairwise (fun c d => ∀ g, ownL c = some g → ownL d ≠ some g) ∧ FrsAt (FreeB base v L) base w st L
section
variable {base k : Nat} {w w' : World} {v : Value} {st : List Fr} {L : List (List Value)}
theorem StkAt.nil (base : Nat) (w : World) : StkAt base w (.slice none 0 0) [] [] := ⟨GRow.nil, (fun c h => by cases h), List.Pairwise.nil, trivial⟩
theorem StkAt.keep (h : StkAt base w v st L) (hk : ∀ b, base ≤ b → b < w.heap.size → w'.heap[b]? = w.heap[b]?) : StkAt base w' v st L := by
  obtain ⟨h1, h2, h3, h4⟩ := h
  exact ⟨h1.keep (fun g e => hk g (h1.block g e).1 (h1.block g e).2), h2, h3, h4.keep (fun b hb hlt => hk b hb.1 hlt) (fun b hb _ => hb) (fun c hc g e => hk g (h4.own c hc g e).1 (h4.own c hc g e).2)⟩
theorem StkAt.kept (h : StkAt base w v st L) (hg : w.grownBy w' (some k)) (hk : k < base) : StkAt base w' v st L := h.keep (fun b hb hlt => hg.block b hlt (fun e => by injection e; omega))
theorem StkAt.ext (h : StkAt base w v st L) (hx : Ext w w') : StkAt base w' v st L := h.keep (fun b _ hlt => hx.block b hlt)
theorem StkAt.len (h : StkAt base w v st L) : L.length = st.length := h.2.2.2.len
theorem StkAt.slice (h : StkAt base w v st L) : ∃ A c, v = .slice A st.length c ∧ st.length ≤ c := by
  obtain ⟨A, c, e, hc⟩ := h.1.slice
  rw [List.length_reverse, h.len] at e hc
  exact ⟨A, c, e, hc⟩
/-- A new list or object is laid on it. -/
theorem StkAt.push (h : StkAt base w v st L) {v' : Value} {f : Fr} {c : List Value} (hr : GRow openT 3 base w' v' (L.reverse ++ [c])) (hg : w.grownBy w' v.ownBlock) (ho : v'.ownBlock = v.ownBlock ∨ v'.ownBlock = some w.heap.size) (hf : FrAt (FreeB base v L) base w f c) (hc : ownL c = none) : StkAt base w' v' (f :: st) (c :: L) := by
  obtain ⟨h1, h2, h3, h4⟩ := h
  have hk : ∀ b, FreeB base v L b → b < w.heap.size → w'.heap[b]? = w.heap[b]? := fun b hb hlt => hg.block b hlt (fun e => hb.2.1 e.symm)
  have hF : ∀ b, FreeB base v L b → b < w.heap.size → FreeB base v' (c :: L) b := fun b hb hlt => ⟨hb.1, fun e => by
    rcases ho with ho | ho
    · exact hb.2.1 (ho.symm.trans e)
    · rw [ho] at e; injection e; omega, fun d hd => by
    rcases List.mem_cons.1 hd with rfl | hd
    · rw [hc]; exact fun e => by cases e
    · exact hb.2.2 d hd⟩
  refine ⟨by rw [List.reverse_cons]; exact hr, fun d hd g e => ?_, List.Pairwise.cons (fun d _ g e => by rw [hc] at e; cases e) h3, ?_, ?_⟩
  · rcases List.mem_cons.1 hd with rfl | hd
    · rw [hc] at e; cases e
    · rcases ho with ho | ho
      · rw [ho]; exact h2 d hd g e
      · rw [ho]
        intro e2
        injection e2 with e2
        have := (h4.own d hd g e).2
        omega
  · exact hf.keep hk hF (fun g e => by rw [hc] at e; cases e)
  · exact h4.keep hk hF (fun d hd g e => hg.block g (h4.own d hd g e).2 (fun e2 => h2 d hd g e e2.symm))
/-- Its uppermost is taken off. -/
theorem StkAt.pop {A : Option Addr} {n cp : Nat} {f : Fr} {c : List Value} (h : StkAt base w (.slice A n cp) (f :: st) (c :: L)) : n = st.length + 1 ∧ StkAt base w (.slice A (n - 1) cp) st L := by
  have hlen := h.len
  obtain ⟨h1, h2, h3, h4⟩ := h
  obtain ⟨A', cp', e, hcp⟩ := h1.slice
  injection e with e1 e2 e3
  rw [List.length_reverse, hlen] at e2
  have hA : A ≠ none := by
    obtain ⟨g, _, _, hv, _⟩ := h1.some_ (by rw [List.length_reverse]; simp)
    injection hv with hv _ _
    rw [hv]
    exact fun e => by cases e
  have hl : L.length = st.length := by simpa using hlen
  have ht := h1.take (k := n - 1) (by rw [List.length_reverse, List.length_cons]; rw [List.length_cons] at e2; omega) hA
  have ho : (Value.slice A (n - 1) cp).ownBlock = (Value.slice A n cp).ownBlock := by cases A <;> rfl
  have e4 : (c :: L).reverse.take (n - 1) = L.reverse := by
    rw [List.reverse_cons, List.take_append_of_le_length (by rw [List.length_reverse]; rw [List.length_cons] at e2; omega), List.take_of_length_le (by rw [List.length_reverse]; rw [List.length_cons] at e2; omega)]
  rw [e4] at ht
  refine ⟨by simpa using e2, ht, fun d hd g e => by rw [ho]; exact h2 d (List.mem_cons_of_mem _ hd) g e, (List.pairwise_cons.1 h3).2, ?_⟩
  exact h4.2.keep (fun b _ _ => rfl) (fun b hb _ => ⟨hb.1, by rw [ho]; exact hb.2.1, fun d hd => hb.2.2 d (List.mem_cons_of_mem _ hd)⟩) (fun d _ g _ => rfl)
/-- What was free stays free behind a pop. -/
theorem FreeB.pop {A : Option Addr} {n m cp b : Nat} {c : List Value} (h : FreeB base (.slice A n cp) (c :: L) b) : FreeB base (.slice A m cp) L b :=
  ⟨h.1, by have e : (Value.slice A m cp).ownBlock = (Value.slice A n cp).ownBlock := by { cases A <;> rfl }
           rw [e]; exact h.2.1, fun d hd => h.2.2 d (List.mem_cons_of_mem _ hd)⟩
/-- A row's last thing, one cell of it turned. -/
theorem grow_last {et sz : Nat} {A : Option Addr} {n cp : Nat} {L : List (List Value)} {c : List Value} (h : GRow et sz base w (.slice A n cp) (L ++ [c])) {j : Nat} (hj : j < sz) {x : Value} (hx : x.oneCell' = true) :
    ∃ g, A = some ⟨g, 0, none⟩ ∧ n = L.length + 1 ∧ base ≤ g ∧ g < w.heap.size ∧ (∀ q u, c[q]? = some u → w.cell? ⟨g, L.length * sz + q, none⟩ = some u) ∧ (∀ o, w.frozen? ⟨g, o, none⟩ = false) ∧ GRow et sz base (w.setCell ⟨g, L.length * sz + j, none⟩ x) (.slice A n cp) (L ++ [c.set j x]) := by
  have hn : n = L.length + 1 := by
    obtain ⟨A', c', e, _⟩ := h.slice
    injection e with _ e2 _
    rw [e2, List.length_append]; rfl
  have hcs := h.1 c (List.mem_append_right _ (List.mem_singleton.2 rfl))
  obtain ⟨g, hA, hlt, hb, hfr, hcell⟩ := h.at_ (k := L.length) (by simp)
  have hc2 : (L ++ [c])[L.length]'(by simp) = c := by simp
  rw [hc2] at hcell
  refine ⟨g, hA, hn, hb, hlt, hcell, hfr, ?_⟩
  have hs : Sized sz (L ++ [c.set j x]) := fun t ht => by
    rcases List.mem_append.1 ht with h1 | h1
    · exact h.1 t (List.mem_append_left _ h1)
    · rw [List.mem_singleton] at h1
      rw [h1]
      refine ⟨by rw [List.length_set]; exact hcs.1, fun u hu => ?_⟩
      rcases List.mem_or_eq_of_mem_set hu with h2 | rfl
      · exact hcs.2 u h2
      · exact hx
  rcases h.2 with ⟨_, h0⟩ | ⟨g', c', rest, hv, hb', hg, hc, hle, hm⟩
  · simp at h0
  · injection hv with e1 e2 e3
    rw [hA] at e1
    injection e1 with e1
    injection e1 with e1
    subst e1
    refine ⟨hs, .inr ⟨g, c', rest, ?_, hb', ?_, ?_, ?_, hm⟩⟩
    · rw [hA, e2, e3, List.length_append, List.length_append]; rfl
    · have hL : Sized sz L := fun t ht => h.1 t (List.mem_append_left _ ht)
      have hfl := flat_len hL
      have e4 : (L ++ [c]).flatten ++ rest = (L.flatten ++ c.take j) ++ [c[j]'(by omega)] ++ (c.drop (j + 1) ++ rest) := by
        rw [List.flatten_append, List.flatten_singleton]
        have e5 : c = c.take j ++ [c[j]'(by omega)] ++ c.drop (j + 1) := by simp
        conv => lhs; rw [e5]
        simp only [List.append_assoc]
      have e6 : (L ++ [c.set j x]).flatten ++ rest = (L.flatten ++ c.take j) ++ [x] ++ (c.drop (j + 1) ++ rest) := by
        rw [List.flatten_append, List.flatten_singleton, List.set_eq_take_append_cons_drop, if_pos (by omega)]
        simp [List.append_assoc]
      rw [e4] at hg
      rw [e6]
      have hs2 := heap_setCells [x] (L.flatten ++ c.take j) [c[j]'(by omega)] (c.drop (j + 1) ++ rest) w rfl hg
      have hl2 : (L.flatten ++ c.take j).length = L.length * sz + j := by rw [List.length_append, hfl, List.length_take]; omega
      rw [hl2] at hs2
      simpa [World.setCells] using hs2
    · rw [← hc, List.length_append, List.length_append]; rfl
    · rw [List.length_append] at hle ⊢; exact hle
end
end Go.Proofs.YtnccefeehkcneaaGreatDoor.Jm
namespace Go.Proofs.YtnccefeehkcneaaGreatDoor.Jm
open Go Go.RowKit Go.Proofs.YtnccefeehkcneaaGreatDoor.Sx Go.Proofs.YtnccefeehkcneaaGreatDoor.Js Go.Proofs.YtnccefeehkcneaaGreatDoor.Gr
section
variable {base k : Nat} {w w' V : World} {v : Value} {st : List Fr} {L : List (List Value)} {f f' : Fr} {c c' : List Value}
theorem FrAt.one {F : Nat → Prop} (h : FrAt F base w f c) : c.length = 3 ∧ ∀ u ∈ c, u.oneCell' = true := by
  rcases h with ⟨_, A, n, cp, us, rfl, _⟩ | ⟨_, b, rfl, _⟩
  · exact ⟨rfl, fun u hu => by simp only [List.mem_cons, List.not_mem_nil, or_false] at hu; rcases hu with rfl | rfl | rfl <;> rfl⟩
  · exact ⟨rfl, fun u hu => by simp only [List.mem_cons, List.not_mem_nil, or_false] at hu; rcases hu with rfl | rfl | rfl <;> rfl⟩
/-- Where the uppermost lies. -/
theorem StkAt.top {A : Option Addr} {n cp : Nat} (h : StkAt base w (.slice A n cp) (f :: st) (c :: L)) : ∃ g, A = some ⟨g, 0, none⟩ ∧ n = st.length + 1 ∧ n ≤ cp ∧ base ≤ g ∧ g < w.heap.size ∧ (∀ q u, c[q]? = some u → w.cell? ⟨g, st.length * 3 + q, none⟩ = some u) ∧ (∀ o, w.frozen? ⟨g, o, none⟩ = false) := by
  have hl : L.length = st.length := by have := h.len; simpa using this
  have h1 := h.1
  obtain ⟨A', c', e, hcp⟩ := h1.slice
  rw [List.reverse_cons] at h1
  obtain ⟨g, hA, hn, hb, hlt, hcell, hfr, _⟩ := grow_last h1 (j := 0) (by omega) (x := .nilIface) rfl
  rw [List.length_reverse, hl] at hn hcell
  injection e with e1 e2 e3
  exact ⟨g, hA, hn, by rw [e3, e2]; exact hcp, hb, hlt, hcell, hfr⟩
/-- One cell of the uppermost is turned. -/
theorem StkAt.set {g n cp : Nat} (h : StkAt base w (.slice (some ⟨g, 0, none⟩) n cp) (f :: st) (c :: L)) {j : Nat} (hj : j < 3) {x : Value} (hx : x.oneCell' = true)
    (hf : FrAt (FreeB base (.slice (some ⟨g, 0, none⟩) n cp) (c :: L)) base w f' (c.set j x)) (hown : ∀ b, ownL (c.set j x) = some b → ownL c = some b) : StkAt base (w.setCell ⟨g, st.length * 3 + j, none⟩ x) (.slice (some ⟨g, 0, none⟩) n cp) (f' :: st) (c.set j x :: L) := by
  have hl : L.length = st.length := by have := h.len; simpa using this
  obtain ⟨h1, h2, h3, h4⟩ := h
  have h1' := h1
  rw [List.reverse_cons] at h1'
  obtain ⟨g', hA, _, _, _, _, _, hrow⟩ := grow_last h1' hj hx
  injection hA with hA
  injection hA with hA
  subst hA
  rw [List.length_reverse, hl] at hrow
  have hk : ∀ b, b ≠ g → (w.setCell ⟨g, st.length * 3 + j, none⟩ x).heap[b]? = w.heap[b]? := fun b hb => set_heap _ _ _ _ _ hb
  have hF : ∀ b, FreeB base (.slice (some ⟨g, 0, none⟩) n cp) (c :: L) b → FreeB base (.slice (some ⟨g, 0, none⟩) n cp) (c.set j x :: L) b := fun b hb => ⟨hb.1, hb.2.1, fun d hd e => by
    rcases List.mem_cons.1 hd with rfl | hd
    · exact hb.2.2 c (List.mem_cons_self ..) (hown b e)
    · exact hb.2.2 d (List.mem_cons_of_mem _ hd) e⟩
  have hne : ∀ b, FreeB base (.slice (some ⟨g, 0, none⟩) n cp) (c :: L) b → b ≠ g := fun b hb e => hb.2.1 (by rw [e]; rfl)
  refine ⟨by rw [List.reverse_cons]; exact hrow, fun d hd b e => ?_, List.pairwise_cons.2 ⟨fun d hd b e => (List.pairwise_cons.1 h3).1 d hd b (hown b e), (List.pairwise_cons.1 h3).2⟩, ?_, ?_⟩
  · rcases List.mem_cons.1 hd with rfl | hd
    · exact h2 c (List.mem_cons_self ..) b (hown b e)
    · exact h2 d (List.mem_cons_of_mem _ hd) b e
  · exact hf.keep (fun b hb _ => hk b (hne b hb)) (fun b hb _ => hF b hb) (fun b e => hk b (fun e2 => h2 c (List.mem_cons_self ..) b (hown b e) (by rw [e2]; rfl)))
  · exact h4.2.keep (fun b hb _ => hk b (hne b hb)) (fun b hb _ => hF b hb) (fun d hd b e => hk b (fun e2 => h2 d (List.mem_cons_of_mem _ hd) b e (by rw [e2]; rfl)))
/-- A value is laid to an open list: the append, then the store of the slice. -/
theorem StkAt.app {g n cp : Nat} {A : Option Addr} {m cq : Nat} {us : List Value} {j : J} {u : Value} (h : StkAt base w (.slice (some ⟨g, 0, none⟩) n cp) (f :: st) ([.slice A m cq, .pointer none, .string ⟨#[]⟩] :: L)) (_hf : f.isObj = false) (hp : PVs (FreeB base (.slice (some ⟨g, 0, none⟩) n cp) ([.slice A m cq, .pointer none, .string ⟨#[]⟩] :: L)) w f.list us)
    (hu : PV (FreeB base (.slice (some ⟨g, 0, none⟩) n cp) ([.slice A m cq, .pointer none, .string ⟨#[]⟩] :: L)) w j u) {A' : Option Addr} {m' cq' : Nat} (hr : GRow valT 1 base w' (.slice A' m' cq') (one (us ++ [u]))) (hg : w.grownBy w' (Value.slice A m cq).ownBlock) (ho : (Value.slice A' m' cq').ownBlock = (Value.slice A m cq).ownBlock ∨ (Value.slice A' m' cq').ownBlock = some w.heap.size) (f2 : Fr) (hf2 : f2.isObj = false) (hl2 : f2.list = f.list ++ [j]) :
    StkAt base (w'.setCell ⟨g, st.length * 3, none⟩ (.slice A' m' cq')) (.slice (some ⟨g, 0, none⟩) n cp) (f2 :: st) ([.slice A' m' cq', .pointer none, .string ⟨#[]⟩] :: L) := by
  have hl : L.length = st.length := by have := h.len; simpa using this
  have hgs := h.top
  obtain ⟨h1, h2, h3, h4⟩ := h
  obtain ⟨_, eg, _, _, hbg, hlg, _, _⟩ := hgs
  injection eg with eg
  injection eg with eg
  subst eg
  have hoc : ∀ b, (Value.slice A m cq).ownBlock = some b → b ≠ g := fun b e e2 => h2 _ (List.mem_cons_self ..) b e (by rw [e2]; rfl)
  have hog : w.heap[g]? = w'.heap[g]? := (hg.block g hlg (fun e => hoc g e.symm rfl)).symm
  have hrow0 : GRow openT 3 base w' (.slice (some ⟨g, 0, none⟩) n cp) (L.reverse ++ [[.slice A m cq, .pointer none, .string ⟨#[]⟩]]) := by
    rw [← List.reverse_cons]
    exact h1.keep (fun b e => by injection e with e; subst e; exact hog.symm)
  obtain ⟨g', hA, _, _, _, _, _, hrow⟩ := grow_last hrow0 (j := 0) (by omega) (x := .slice A' m' cq') rfl
  injection hA with hA
  injection hA with hA
  subst hA
  rw [List.length_reverse, hl, Nat.add_zero] at hrow
  have hk : ∀ b, FreeB base (.slice (some ⟨g, 0, none⟩) n cp) ([.slice A m cq, .pointer none, .string ⟨#[]⟩] :: L) b → b < w.heap.size → (w'.setCell ⟨g, st.length * 3, none⟩ (.slice A' m' cq')).heap[b]? = w.heap[b]? := fun b hb hlt =>
    (set_heap _ _ _ _ _ (fun e => hb.2.1 (by rw [e]; rfl))).trans (hg.block b hlt (fun e => hb.2.2 _ (List.mem_cons_self ..) e.symm))
  have hF : ∀ b, FreeB base (.slice (some ⟨g, 0, none⟩) n cp) ([.slice A m cq, .pointer none, .string ⟨#[]⟩] :: L) b → b < w.heap.size → FreeB base (.slice (some ⟨g, 0, none⟩) n cp) ([.slice A' m' cq', .pointer none, .string ⟨#[]⟩] :: L) b := fun b hb hlt => ⟨hb.1, hb.2.1, fun d hd e => by
    rcases List.mem_cons.1 hd with rfl | hd
    · rcases ho with ho | ho
      · exact hb.2.2 _ (List.mem_cons_self ..) (ho.symm.trans e)
      · have e2 : some w.heap.size = some b := ho.symm.trans e
        injection e2 with e2
        omega
    · exact hb.2.2 d (List.mem_cons_of_mem _ hd) e⟩
  have hown : ∀ b, ownL [.slice A' m' cq', .pointer none, .string ⟨#[]⟩] = some b → (Value.slice A m cq).ownBlock = some b ∨ b = w.heap.size := fun b e => by
    rcases ho with ho | ho
    · exact .inl (ho.symm.trans e)
    · have e2 : some w.heap.size = some b := ho.symm.trans e
      injection e2 with e2
      exact .inr e2.symm
  refine ⟨by rw [List.reverse_cons]; exact hrow, fun d hd b e => ?_, List.pairwise_cons.2 ⟨fun d hd b e => ?_, (List.pairwise_cons.1 h3).2⟩, ?_, ?_⟩
  · rcases List.mem_cons.1 hd with rfl | hd
    · rcases hown b e with e2 | e2
      · exact h2 _ (List.mem_cons_self ..) b e2
      · intro e3
        injection e3 with e3
        have e4 : g = b := e3
        omega
    · exact h2 d (List.mem_cons_of_mem _ hd) b e
  · rcases hown b e with e2 | e2
    · exact (List.pairwise_cons.1 h3).1 d hd b e2
    · intro e3
      have := (FrsAt.own h4.2 d hd b e3).2
      omega
  · refine .inl ⟨hf2, A', m', cq', us ++ [u], rfl, hr.keep (fun b e => set_heap _ _ _ _ _ (fun e2 => ?_)), ?_⟩
    · rcases hown b e with e3 | e3
      · exact hoc b e3 e2
      · omega
    · rw [hl2]
      refine ⟨by rw [List.length_append, List.length_append, hp.1]; rfl, fun i hi hi2 => ?_⟩
      by_cases hq : i < f.list.length
      · rw [List.getElem_append_left hq, List.getElem_append_left (by rw [hp.1]; exact hq)]
        exact PV.keep hk hF _ _ (hp.2 i hq (by rw [hp.1]; exact hq))
      · have hqe : i = f.list.length := by rw [List.length_append] at hi; simp at hi; omega
        subst hqe
        have e1 : (f.list ++ [j])[f.list.length] = j := by simp
        have e2 : (us ++ [u])[f.list.length]'hi2 = u := by
          rw [List.getElem_append_right (by rw [hp.1]; exact Nat.le_refl _)]
          simp [hp.1]
        rw [e1, e2]
        exact PV.keep hk hF _ _ hu
  · exact h4.2.keep hk hF (fun d hd b e => (set_heap _ _ _ _ _ (fun e2 => h2 d (List.mem_cons_of_mem _ hd) b e (by rw [e2]; rfl))).trans (hg.block b (FrsAt.own h4.2 d hd b e).2 (fun e2 => (List.pairwise_cons.1 h3).1 d hd b e2.symm e)))
/-- An open object gets a new one in its place: what With gives, then the store of the pointer. -/
theorem StkAt.obj {g n cp b0 b : Nat} {t : Tx} {ns : List Tx} {vs : List J} (h : StkAt base w (.slice (some ⟨g, 0, none⟩) n cp) (f :: st) ([.slice none 0 0, .pointer (some ⟨b0, 0, none⟩), .string (bx t)] :: L)) (hx : Ext w w') (hb : w.heap.size ≤ b)
    (ho : ObjAt (fun q => FreeB base (.slice (some ⟨g, 0, none⟩) n cp) ([.slice none 0 0, .pointer (some ⟨b0, 0, none⟩), .string (bx t)] :: L) q ∨ w.heap.size ≤ q) w' b ns vs) (hl : ns.length = vs.length) (hr : Rise ns) (f2 : Fr) (hf2 : f2.isObj = true) (hn2 : f2.ns = ns) (hv2 : f2.vs = vs) (ht2 : f2.name = t) :
    StkAt base (w'.setCell ⟨g, st.length * 3 + 1, none⟩ (.pointer (some ⟨b, 0, none⟩))) (.slice (some ⟨g, 0, none⟩) n cp) (f2 :: st) ([.slice none 0 0, .pointer (some ⟨b, 0, none⟩), .string (bx t)] :: L) := by
  have hfree : ∀ q, w.heap.size ≤ q → FreeB base (.slice (some ⟨g, 0, none⟩) n cp) ([.slice none 0 0, .pointer (some ⟨b0, 0, none⟩), .string (bx t)] :: L) q := fun q hq => by
    have hgs := h.top
    obtain ⟨_, eg, _, _, hbg, hlg, _, _⟩ := hgs
    injection eg with eg
    injection eg with eg
    refine ⟨by omega, fun e => ?_, fun d hd e => ?_⟩
    · injection e with e
      have e4 : g = q := e
      omega
    · have := (h.2.2.2.own d hd q e).2
      omega
  have h' := h.ext hx
  exact StkAt.set (f' := f2) h' (j := 1) (by omega) (x := .pointer (some ⟨b, 0, none⟩)) rfl (.inr ⟨hf2, b, by rw [ht2]; rfl, hfree b hb, by rw [hn2, hv2]; exact ho.keep (.inr hb) (fun _ _ _ => rfl) (fun q hq _ => hq.elim id (hfree q)), by rw [hn2, hv2]; exact hl, by rw [hn2]; exact hr⟩) (fun b e => e)
end
end Go.Proofs.YtnccefeehkcneaaGreatDoor.Jm
namespace Go.Proofs.YtnccefeehkcneaaGreatDoor.Jm
open Go Go.RowKit Go.Proofs.YtnccefeehkcneaaGreatDoor.Sx Go.Proofs.YtnccefeehkcneaaGreatDoor.Js Go.Proofs.YtnccefeehkcneaaGreatDoor.Gr
set_option maxRecDepth 100000 in
set_option maxHeartbeats 4000000 in
theorem close_any (k : Nat) (s : ByteArray) (i many g m cp : Nat) (bad : Int) (u : Value) (w : World) (h : RIn w k s i many (.slice (some ⟨g, 0, none⟩) (m + 1) cp) bad) (hi : i ≤ 4000) (hc : m + 1 ≤ cp) (hsm : m ≤ 4000) :
    Calls Tryz.prog 120 #[.pointer (some ⟨k, 0, none⟩), u] w fun e w' => e = .returned u ∧ RIn w' k s (i + 1) many (.slice (some ⟨g, 0, none⟩) m cp) bad ∧ w.grownBy w' (some k) := by
  obtain ⟨z0, z1, z2, z3, z4⟩ := h.cells
  have f1 := h.free 1
  have H := Lib.hid h
  clear h
  go_enter Tryz.func120, Tryz.ntmps120
  go_upto_region 2 with (fail)
  generalize hW : World.setCell w _ _ = w2
  have H2 : Hid (RIn w2 k s (i + 1) many (.slice (some ⟨g, 0, none⟩) (m + 1) cp) bad) := by unfold Hid; rw [← hW]; exact H.out.setAt _ _ (by omega)
  have HG2 : Hid (w.grownBy w2 (some k)) := by unfold Hid; rw [← hW]; exact grown_set _ k 1 _
  clear hW z0 z1 z2 z3 z4 f1
  obtain ⟨z0, z1, z2, z3, z4⟩ := H2.out.cells
  have f3 := H2.out.free 3
  have q0 : (0 : Int) ≤ (m : Int) := by omega
  have q1 : (m : Int) ≤ (cp : Int) := by omega
  have q2 : IntKind.i64.wrap ((m : Int) + 1 - 1) = (m : Int) := by rw [show (m : Int) + 1 - 1 = m by omega]; exact IntWalk.i64_in _ (by omega)
  have q3 : (m : Int).toNat = m := by omega
  have q4 : IntKind.i64.wrap (m : Int) = (m : Int) := IntWalk.i64_in _ (by omega)
  clear hc
  go_wp2_with fail
  go_still_tail 14, (by kernel_rfl)
  go_wp2_with fail
  go_ret
  have hd : Ext (w2.setCell ⟨k, 3, none⟩ (.slice (some ⟨g, 0, none⟩) m cp)) (w2.setCell ⟨k, 3, none⟩ (.slice (some ⟨g, 0, none⟩) m cp)).drew := (Below.refl _ _).drew
  exact ⟨rfl, (H2.out.setStack _).ext hd, grown_trans HG2.out (grown_trans (grown_set w2 k 3 _) (grown_ext hd))⟩
/-- Blocks from lo on may turn. -/
theorem low_grown {lo k : Nat} {w w' : World} (h : w.grownBy w' (some k)) (hk : lo ≤ k) (hs : lo ≤ w.heap.size) : Below lo w w' :=
  ⟨h.os, h.tape, h.output, h.size, fun b hb => h.block b (Nat.lt_of_lt_of_le hb hs) (fun e => by injection e; omega)⟩
theorem low_set {lo g o : Nat} {v : Value} {w w' : World} (h : Below lo w w') (hg : lo ≤ g) : Below lo w (w'.setCell ⟨g, o, none⟩ v) := Below.setCell h (by exact hg) _
def FieldPost (lo base k : Nat) (w : World) (s : ByteArray) (i many : Nat) (v : Value) (f : Fr) (st : List Fr) (e : Ending) (w' : World) : Prop :=
  ∃ j bad, e = .returned (.tuple #[]) ∧ RIn w' k s j many v bad ∧ Below lo w w' ∧
    ((bad = 0 ∧ j ≤ s.size ∧ i < j ∧ ∃ t, nameS f.ns (sfx s i) = .ok (t, sfx s j) ∧ ∃ L, StkAt base w' v ({ f with name := t } :: st) L) ∨ (bad ≠ 0 ∧ nameS f.ns (sfx s i) = .error bad))
set_option maxRecDepth 100000 in
set_option maxHeartbeats 8000000 in
theorem field_any (lo base k : Nat) (s : ByteArray) (i many : Nat) (A : Option Addr) (n cp : Nat) (f : Fr) (st : List Fr) (L : List (List Value)) (w : World) (h : RIn w k s i many (.slice A n cp) 0) (hs : s.size ≤ 2000) (hi : i ≤ s.size) (hst : StkAt base w (.slice A n cp) (f :: st) L) (hf : f.isObj = true) (hkb : k < base) (hlk : lo ≤ k) (hlw : lo ≤ w.heap.size) (hsm : st.length ≤ 20) (hvs : f.vs.length ≤ 2000) :
    Calls Tryz.prog 121 #[.pointer (some ⟨k, 0, none⟩)] w (FieldPost lo base k w s i many (.slice A n cp) f st) := by
  obtain ⟨c, L, rfl⟩ : ∃ c L', L = c :: L' := by
    cases L with
    | nil => exact (hst.2.2.2 : False).elim
    | cons c L' => exact ⟨c, L', rfl⟩
  obtain ⟨b, rfl, hFb, hob, hnl, hri⟩ : ∃ b, c = [.slice none 0 0, .pointer (some ⟨b, 0, none⟩), .string (bx f.name)] ∧ FreeB base (.slice A n cp) (c :: L) b ∧ ObjAt (FreeB base (.slice A n cp) (c :: L)) w b f.ns f.vs ∧ f.ns.length = f.vs.length ∧ Rise f.ns := by
    rcases hst.2.2.2.1 with ⟨h0, _⟩ | ⟨_, b, h1, h2⟩
    · rw [hf] at h0; cases h0
    · exact ⟨b, h1, h2⟩
  obtain ⟨g, rfl, rfl, hncp, hbg, hlg, hcell, hfr⟩ := hst.top
  obtain ⟨m, hm⟩ : ∃ m, m = st.length := ⟨_, rfl⟩
  have HM : Hid (m = st.length) := hm
  rw [← hm] at hncp hcell hsm h hst hFb hob ⊢
  have H := Lib.hid h
  have HST := Lib.hid hst
  have HLO := Lib.hid (And.intro hkb (And.intro hlk hlw))
  have HO := Lib.hid (And.intro hFb (And.intro hob (And.intro hnl hri)))
  have HVS := Lib.hid hvs
  have HF := Lib.hid hf
  have HG : Hid (∀ W, w.grownBy W (some k) → StkAt base W (.slice (some ⟨g, 0, none⟩) (m + 1) cp) (f :: st) ([.slice none 0 0, .pointer (some ⟨b, 0, none⟩), .string (bx f.name)] :: L) ∧ (W.cell? ⟨g, m * 3 + 1, none⟩ = some (.pointer (some ⟨b, 0, none⟩)) ∧ W.cell? ⟨g, m * 3 + 2, none⟩ = some (.string (bx f.name)) ∧ W.frozen? ⟨g, m * 3 + 2, none⟩ = false) ∧ ObjAt (FreeB base (.slice (some ⟨g, 0, none⟩) (m + 1) cp) ([.slice none 0 0, .pointer (some ⟨b, 0, none⟩), .string (bx f.name)] :: L)) W b f.ns f.vs ∧ Below lo w W) := fun W hW => by
    have hst2 := hst.kept hW hkb
    obtain ⟨g', e, _, _, _, _, hc2, hf2⟩ := hst2.top
    injection e with e
    injection e with e
    subst e
    rw [← hm] at hc2
    refine ⟨hst2, ⟨hc2 1 _ rfl, hc2 2 _ rfl, hf2 _⟩, hob.keep hFb (fun q hq hlt => hW.block q hlt (fun e => ?_)) (fun q hq _ => hq), low_grown hW hlk hlw⟩
    injection e with e
    have := hq.1
    omega
  clear h hst hFb hob hnl hri hcell hfr hf hm hvs
  have CN := Lib.hid (next_any k s i many _ 0 w H.out hs (by omega))
  have q0 : (0 : Int) ≤ (m : Int) := by omega
  have q1 : (m : Int) < (m : Int) + 1 := by omega
  have q2 : IntKind.i64.wrap ((m : Int) + 1 - 1) = (m : Int) := by rw [show (m : Int) + 1 - 1 = m by omega]; exact IntWalk.i64_in _ (by omega)
  have q3 : (m : Int).toNat = m := by omega
  have q4 : IntKind.i64.wrap (m : Int) = (m : Int) := IntWalk.i64_in _ (by omega)
  have hiI : i ≤ 2000 := by omega
  go_enter Tryz.func121, Tryz.ntmps121
  go_wp2_with fail
  refine Calls.mono CN.out ?_
  rintro e w2 ⟨j2, rfl, hq2, hij, hjs, hsk, hg2⟩
  have HQ2 := Lib.hid hq2
  have HG2 := Lib.hid hg2
  have HSK := Lib.hid hsk
  have hj2 : j2 ≤ s.size := hjs hi
  clear hq2 hg2 hsk hjs CN
  obtain ⟨x, hx⟩ : ∃ x, x = headB (skipW (sfx s i)) := ⟨_, rfl⟩
  rw [← hx]
  by_cases h34 : x = 34
  · have HX : Hid (∃ r1, skipW (sfx s i) = 34 :: r1 ∧ j2 < s.size ∧ sfx s (j2 + 1) = r1) := by
      rw [h34] at hx
      cases hs2 : skipW (sfx s i) with
      | nil => rw [hs2] at hx; cases hx
      | cons y r1 =>
        rw [hs2] at hx
        have hy : 34 = y := hx
        obtain ⟨a, b, _⟩ := sfx_step (HSK.out.trans hs2)
        exact ⟨r1, by rw [hy], a, b⟩
    obtain ⟨r1, hr1, hj2l, hr2⟩ := HX
    have HX := Lib.hid (And.intro hr1 hr2)
    have b34 : ((x.toNat : Int) != 34) = false := by rw [h34]; rfl
    clear h34 hx hr1 hr2
    have CT := Lib.hid (text_any k s j2 many _ w2 HQ2.out hs hj2)
    go_wp2_with fail
    refine Calls.mono CT.out ?_
    rintro e w3 ⟨j3, bad3, hg3, hq3, hj3, ⟨t, htx, rfl, rfl, hj3s⟩ | ⟨htx, rfl, rfl⟩⟩
    · have HQ3 := Lib.hid hq3
      have HG3 := Lib.hid (grown_trans HG2.out hg3)
      have HTX : Hid (textS r1 = some (t, sfx s j3)) := by unfold Hid; rw [← HX.out.2]; exact htx
      clear hq3 hg3 htx CT
      obtain ⟨z0, z1, z2, z3, z4⟩ := HQ3.out.cells
      go_wp2_with fail
      go_quiet (fail)
      generalize hW : World.drewN w3 _ = w4
      have HX4 : Hid (Ext w3 w4) := by rw [← hW]; exact ext_drewN' _ _
      clear hW z0 z1 z2 z3 z4
      have HQ4 := Lib.hid (HQ3.out.ext HX4.out)
      have HG4 := Lib.hid (grown_trans HG3.out (grown_ext HX4.out))
      have HS4 := Lib.hid (HG.out w4 HG4.out)
      obtain ⟨y1, y2, y3⟩ := HS4.out.2.1
      have CG := Lib.hid (get_any _ b f.ns f.vs t w4 HS4.out.2.2.1 HO.out.2.2.1 HO.out.2.2.2 (by have := HVS.out; omega))
      go_wp2_with fail
      refine Calls.mono CG.out ?_
      rintro e w5 ⟨rfl, ⟨hno, rfl⟩ | ⟨hp, u, hin, hpv, rfl⟩⟩
      · have HNI := Lib.hid hno
        have CN2 := Lib.hid (next_any k s j3 many _ 0 w4 HQ4.out hs (by omega))
        obtain ⟨z0, z1, z2, z3, z4⟩ := HQ4.out.cells
        clear hno y1 y2 y3
        go_wp2_with fail
        refine Calls.mono CN2.out ?_
        rintro e w6 ⟨j6, rfl, hq6, hij6, hjs6, hsk6, hg6⟩
        have HQ6 := Lib.hid hq6
        have HG6 := Lib.hid (grown_trans HG4.out hg6)
        have HSK6 := Lib.hid hsk6
        have hj6 : j6 ≤ s.size := hjs6 hj3s
        clear hq6 hg6 hsk6 hjs6 CN2 z0 z1 z2 z3 z4
        obtain ⟨x2, hx2⟩ : ∃ x2, x2 = headB (skipW (sfx s j3)) := ⟨_, rfl⟩
        rw [← hx2]
        by_cases h58 : x2 = 58
        · have HY : Hid (∃ r3, skipW (sfx s j3) = 58 :: r3 ∧ j6 < s.size ∧ sfx s (j6 + 1) = r3) := by
            rw [h58] at hx2
            cases hs2 : skipW (sfx s j3) with
            | nil => rw [hs2] at hx2; cases hx2
            | cons y r3 =>
              rw [hs2] at hx2
              have hy : 58 = y := hx2
              obtain ⟨a, b, _⟩ := sfx_step (HSK6.out.trans hs2)
              exact ⟨r3, by rw [hy], a, b⟩
          obtain ⟨r3, hr3, hj6l, hr4⟩ := HY
          have HNM : Hid (nameS f.ns (sfx s i) = .ok (t, sfx s (j6 + 1))) := name_ok HX.out.1 HTX.out HNI.out (by rw [hr3, hr4])
          have b58 : ((x2.toNat : Int) != 58) = false := by rw [h58]; rfl
          clear h58 hx2 hr3 hr4
          obtain ⟨z0, z1, z2, z3, z4⟩ := HQ6.out.cells
          have f1 := HQ6.out.free 1
          have hij7 : i < j6 + 1 := by
            have h1 := textS_len _ (Nat.le_refl _) HTX.out
            rw [← HX.out.2, sfx_len, sfx_len] at h1
            omega
          go_upto_region 10 with (fail)
          generalize hW : World.setCell w6 _ _ = w7
          have HQ7 : Hid (RIn w7 k s (j6 + 1) many (.slice (some ⟨g, 0, none⟩) (m + 1) cp) 0) := by unfold Hid; rw [← hW]; exact HQ6.out.setAt _ _ (by omega)
          have HG7 : Hid (w.grownBy w7 (some k)) := by unfold Hid; rw [← hW]; exact grown_trans HG6.out (grown_set _ k 1 _)
          clear hW z0 z1 z2 z3 z4 f1
          have HS7 := Lib.hid (HG.out w7 HG7.out)
          obtain ⟨y1, y2, y3⟩ := HS7.out.2.1
          go_wp2_with fail
          go_end0
          have hst7 := HS7.out.1
          have hm := HM.out
          rw [hm] at hst7
          have hset := StkAt.set (f' := { f with name := t }) hst7 (j := 2) (by omega) (x := .string (bx t)) rfl (.inr ⟨HF.out, b, rfl, by rw [← hm]; exact HO.out.1, by rw [← hm]; exact HS7.out.2.2.1, HO.out.2.2⟩) (fun b e => e)
          rw [← hm] at hset
          have hkg : k ≠ g := by
            have h1 := HLO.out.1
            omega
          refine ⟨j6 + 1, 0, rfl, (set_heap _ _ _ _ _ hkg).trans HQ7.out, low_set HS7.out.2.2.2 (by have := HLO.out; omega), .inl ⟨rfl, hj6l, hij7, t, HNM.out, _, hset⟩⟩
        · have HTE : Hid (nameS f.ns (sfx s i) = .error 3) := name_colon HX.out.1 HTX.out HNI.out (fun r3 e => h58 (by rw [hx2, e]; rfl))
          have b58 : ((x2.toNat : Int) != 58) = true := by
            rw [show (58 : Int) = ((58 : Nat) : Int) from rfl, byte_ne x2 58 (by omega)]
            simp [h58]
          have CF := Lib.hid (fail_any k s j6 many _ 0 3 w6 HQ6.out)
          clear h58 hx2
          go_wp2_with fail
          refine Calls.mono CF.out ?_
          rintro e w7 ⟨rfl, hq7, hg7⟩
          have HQ7 : Hid (RIn w7 k s j6 many (.slice (some ⟨g, 0, none⟩) (m + 1) cp) 3) := hq7
          have HG7 := Lib.hid (grown_trans HG6.out hg7)
          clear hq7 hg7
          obtain ⟨z0, z1, z2, z3, z4⟩ := HQ7.out.cells
          have f1 := HQ7.out.free 1
          go_upto_region 10 with (fail)
          generalize hW : World.setCell w7 _ _ = w8
          have HQ8 : Hid (RIn w8 k s (j6 + 1) many (.slice (some ⟨g, 0, none⟩) (m + 1) cp) 3) := by unfold Hid; rw [← hW]; exact HQ7.out.setAt _ _ (by omega)
          have HG8 : Hid (w.grownBy w8 (some k)) := by unfold Hid; rw [← hW]; exact grown_trans HG7.out (grown_set _ k 1 _)
          clear hW z0 z1 z2 z3 z4 f1
          have HS8 := Lib.hid (HG.out w8 HG8.out)
          obtain ⟨y1, y2, y3⟩ := HS8.out.2.1
          go_wp2_with fail
          go_end0
          have hkg : k ≠ g := by have h1 := HLO.out.1; omega
          exact ⟨j6 + 1, 3, rfl, (set_heap _ _ _ _ _ hkg).trans HQ8.out, low_set HS8.out.2.2.2 (by have := HLO.out; omega), .inr ⟨by decide, HTE.out⟩⟩
      · have HTE : Hid (nameS f.ns (sfx s i) = .error 5) := name_twice HX.out.1 HTX.out hin
        have CF := Lib.hid (fail_any k s j3 many _ 0 5 w4 HQ4.out)
        clear hin hp hpv y1 y2 y3
        go_wp2_with fail
        refine Calls.mono CF.out ?_
        rintro e w7 ⟨rfl, hq7, hg7⟩
        have HQ7 : Hid (RIn w7 k s j3 many (.slice (some ⟨g, 0, none⟩) (m + 1) cp) 5) := hq7
        have HG7 := Lib.hid (grown_trans HG4.out hg7)
        clear hq7 hg7
        obtain ⟨z0, z1, z2, z3, z4⟩ := HQ7.out.cells
        have f1 := HQ7.out.free 1
        go_upto_region 10 with (fail)
        generalize hW : World.setCell w7 _ _ = w8
        have HQ8 : Hid (RIn w8 k s (j3 + 1) many (.slice (some ⟨g, 0, none⟩) (m + 1) cp) 5) := by unfold Hid; rw [← hW]; exact HQ7.out.setAt _ _ (by omega)
        have HG8 : Hid (w.grownBy w8 (some k)) := by unfold Hid; rw [← hW]; exact grown_trans HG7.out (grown_set _ k 1 _)
        clear hW z0 z1 z2 z3 z4 f1
        have HS8 := Lib.hid (HG.out w8 HG8.out)
        obtain ⟨y1, y2, y3⟩ := HS8.out.2.1
        go_wp2_with fail
        go_end0
        have hkg : k ≠ g := by have h1 := HLO.out.1; omega
        exact ⟨j3 + 1, 5, rfl, (set_heap _ _ _ _ _ hkg).trans HQ8.out, low_set HS8.out.2.2.2 (by have := HLO.out; omega), .inr ⟨by decide, HTE.out⟩⟩
    · have HTE : Hid (nameS f.ns (sfx s i) = .error 3) := name_text HX.out.1 (by rw [← HX.out.2]; exact htx)
      have HQ3 := Lib.hid hq3
      have HG3 := Lib.hid (grown_trans HG2.out hg3)
      clear hq3 hg3 htx CT
      obtain ⟨z0, z1, z2, z3, z4⟩ := HQ3.out.cells
      go_wp2_with fail
      go_quiet (fail)
      generalize hW : World.drewN w3 _ = w4
      have HX4 : Hid (Ext w3 w4) := by rw [← hW]; exact ext_drewN' _ _
      clear hW z0 z1 z2 z3 z4
      have HQ4 := Lib.hid (HQ3.out.ext HX4.out)
      have HG4 := Lib.hid (grown_trans HG3.out (grown_ext HX4.out))
      have HS4 := Lib.hid (HG.out w4 HG4.out)
      obtain ⟨y1, y2, y3⟩ := HS4.out.2.1
      have CG : Hid (Calls Tryz.prog 34 #[.pointer (some ⟨b, 0, none⟩), .string ⟨#[]⟩] w4 _) := get_any _ b f.ns f.vs [] w4 HS4.out.2.2.1 HO.out.2.2.1 HO.out.2.2.2 (by have := HVS.out; omega)
      go_wp2_with fail
      refine Calls.mono CG.out ?_
      rintro e w5 ⟨rfl, ⟨hno, rfl⟩ | ⟨hp, u, hin, hpv, rfl⟩⟩
      · have HQ7 := Lib.hid HQ4.out
        have HG7 := Lib.hid HG4.out
        obtain ⟨w7, hw7⟩ : ∃ w7, w7 = w4 := ⟨_, rfl⟩
        subst hw7
        clear hno y1 y2 y3
        obtain ⟨z0, z1, z2, z3, z4⟩ := HQ7.out.cells
        have f1 := HQ7.out.free 1
        go_upto_region 10 with (fail)
        generalize hW : World.setCell w7 _ _ = w8
        have HQ8 : Hid (RIn w8 k s (j3 + 1) many (.slice (some ⟨g, 0, none⟩) (m + 1) cp) 3) := by unfold Hid; rw [← hW]; exact HQ7.out.setAt _ _ (by omega)
        have HG8 : Hid (w.grownBy w8 (some k)) := by unfold Hid; rw [← hW]; exact grown_trans HG7.out (grown_set _ k 1 _)
        clear hW z0 z1 z2 z3 z4 f1
        have HS8 := Lib.hid (HG.out w8 HG8.out)
        obtain ⟨y1, y2, y3⟩ := HS8.out.2.1
        go_wp2_with fail
        go_end0
        have hkg : k ≠ g := by have h1 := HLO.out.1; omega
        exact ⟨j3 + 1, 3, rfl, (set_heap _ _ _ _ _ hkg).trans HQ8.out, low_set HS8.out.2.2.2 (by have := HLO.out; omega), .inr ⟨by decide, HTE.out⟩⟩
      · have CF := Lib.hid (fail_any k s j3 many _ 3 5 w4 HQ4.out)
        clear hin hp hpv y1 y2 y3
        go_wp2_with fail
        refine Calls.mono CF.out ?_
        rintro e w7 ⟨rfl, hq7, hg7⟩
        have HQ7 : Hid (RIn w7 k s j3 many (.slice (some ⟨g, 0, none⟩) (m + 1) cp) 3) := hq7
        have HG7 := Lib.hid (grown_trans HG4.out hg7)
        clear hq7 hg7
        obtain ⟨z0, z1, z2, z3, z4⟩ := HQ7.out.cells
        have f1 := HQ7.out.free 1
        go_upto_region 10 with (fail)
        generalize hW : World.setCell w7 _ _ = w8
        have HQ8 : Hid (RIn w8 k s (j3 + 1) many (.slice (some ⟨g, 0, none⟩) (m + 1) cp) 3) := by unfold Hid; rw [← hW]; exact HQ7.out.setAt _ _ (by omega)
        have HG8 : Hid (w.grownBy w8 (some k)) := by unfold Hid; rw [← hW]; exact grown_trans HG7.out (grown_set _ k 1 _)
        clear hW z0 z1 z2 z3 z4 f1
        have HS8 := Lib.hid (HG.out w8 HG8.out)
        obtain ⟨y1, y2, y3⟩ := HS8.out.2.1
        go_wp2_with fail
        go_end0
        have hkg : k ≠ g := by have h1 := HLO.out.1; omega
        exact ⟨j3 + 1, 3, rfl, (set_heap _ _ _ _ _ hkg).trans HQ8.out, low_set HS8.out.2.2.2 (by have := HLO.out; omega), .inr ⟨by decide, HTE.out⟩⟩
  · have HTE : Hid (nameS f.ns (sfx s i) = .error 3) := name_odd (fun r1 e => h34 (by rw [hx, e]; rfl))
    have b34 : ((x.toNat : Int) != 34) = true := by
      rw [show (34 : Int) = ((34 : Nat) : Int) from rfl, byte_ne x 34 (by omega)]
      simp [h34]
    have CF := Lib.hid (fail_any k s j2 many _ 0 3 w2 HQ2.out)
    clear h34 hx
    go_wp2_with fail
    refine Calls.mono CF.out ?_
    rintro e w7 ⟨rfl, hq7, hg7⟩
    have HQ7 : Hid (RIn w7 k s j2 many (.slice (some ⟨g, 0, none⟩) (m + 1) cp) 3) := hq7
    have HG7 := Lib.hid (grown_trans HG2.out hg7)
    clear hq7 hg7
    go_wp2_with fail
    refine bodyPost_ret (results_none rfl _ _ _) rfl ?_
    exact ⟨j2, 3, rfl, HQ7.out, (HG.out w7 HG7.out).2.2.2, .inr ⟨by decide, HTE.out⟩⟩
end Go.Proofs.YtnccefeehkcneaaGreatDoor.Jm
