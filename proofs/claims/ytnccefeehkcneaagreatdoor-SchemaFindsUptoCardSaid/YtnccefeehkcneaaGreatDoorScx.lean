/-
  Schemas in plain words: what is a schema, what is wrong with a document.
  Schemas in plain words: the first thing that is wrong stays; what a good schema is; how many faults there may be.
  Schemas in memory: parts, their fields.
-/
import Derived.Test.YtnccefeehkcneaaGreatDoorMga
import Derived.Test.YtnccefeehkcneaaGreatDoorJm0
import Derived.Test.YtnccefeehkcneaaGreatDoorPjn
import Derived.Test.YtnccefeehkcneaaGreatDoorSlr
namespace Go.Proofs.YtnccefeehkcneaaGreatDoor.Sc
open Go Go.Proofs.YtnccefeehkcneaaGreatDoor.Js Go.Proofs.YtnccefeehkcneaaGreatDoor.Sx Go.Proofs.YtnccefeehkcneaaGreatDoor.Pt Go.Proofs.YtnccefeehkcneaaGreatDoor.Jm
/-- A part of a schema. -/
structure PartS where
  kind : Int
  fields : List (ByteArray × Int)
  need : List ByteArray
  extra : Bool
  items : Int
  least : Int
  most : Int
  enum : List ByteArray
  dflt : ByteArray
instance : Inhabited PartS := ⟨⟨0, [], [], false, 0, 0, 0, [], ⟨#[]⟩⟩⟩
/-- The first thing that is wrong is kept. -/
def needS (bad : Int) (is : Bool) (e : Int) : Int := if bad = 0 ∧ is = false then e else bad
theorem need_true (b e : Int) : needS b true e = b := if_neg fun h => by cases h.2
theorem need_bad {b : Int} (h : b ≠ 0) (is : Bool) (e : Int) : needS b is e = b := if_neg fun h2 => h h2.1
theorem need_false (e : Int) : needS 0 false e = e := if_pos ⟨rfl, rfl⟩
def behindS (n i : Nat) (k : Int) : Bool := decide ((i : Int) < k) && decide (k < (n : Int))
def errOf (d : ByteArray) : Int := match readS d.data.toList with | .ok _ => 0 | .error e => if e = 0 then 1 else e
theorem errOf_ok {d : ByteArray} {j : J} (h : readS d.data.toList = .ok j) : errOf d = 0 := by unfold errOf; rw [h]
theorem errOf_err {d : ByteArray} {e : Int} (h : readS d.data.toList = .error e) (he : e ≠ 0) : errOf d = e := by unfold errOf; rw [h]; exact if_neg he
theorem errOf_zero {d : ByteArray} (h : errOf d = 0) : ∃ j, readS d.data.toList = .ok j := by
  unfold errOf at h
  cases hr : readS d.data.toList with
  | ok j => exact ⟨j, rfl⟩
  | error e =>
    rw [hr] at h
    simp only at h
    split at h
    · cases h
    · rename_i h2; exact absurd h h2
def docS (b : Int) (d : ByteArray) : Int := needS b (errOf d == 0) (errOf d)
def fieldS (n i : Nat) (st : List ByteArray × Int) (f : ByteArray × Int) : List ByteArray × Int := (st.1 ++ [f.1], needS (needS st.2 (!hasS st.1 f.1) 5) (behindS n i f.2) 7)
def headS (b : Int) (p : PartS) : Int :=
  let b1 := needS b (decide (2 ≤ p.kind) && decide (p.kind ≤ 6)) 1
  let b2 := needS b1 (decide (p.fields.length ≤ 8) && decide (p.need.length ≤ 8) && decide (p.enum.length ≤ 8)) 2
  let b3 := needS b2 (decide (p.kind = 6) || (decide (p.fields.length + p.need.length = 0) && !p.extra)) 1
  let b4 := needS b3 (decide (p.kind = 5) || decide (p.items = 0)) 1
  let b5 := needS b4 ((!decide (p.kind = 5) && !decide (p.kind = 6)) || decide (p.enum.length = 0)) 1
  needS b5 ((!decide (p.kind = 6) && !decide (p.kind = 2)) || (decide (p.least = 0) && decide (p.most = 0))) 1
def fieldsS (n i : Nat) (b : Int) (p : PartS) : Int := (p.fields.foldl (fieldS n i) ([], b)).2
def itemsS (n i : Nat) (b : Int) (p : PartS) : Int := needS b (!decide (p.kind = 5) || behindS n i p.items) 7
def partS (n i : Nat) (b : Int) (p : PartS) : Int :=
  let b1 := p.enum.foldl docS (itemsS n i (fieldsS n i (headS b p) p) p)
  if p.dflt.size = 0 then b1 else docS b1 p.dflt
def spanS (p : PartS) (n : Int) (at_ : ByteArray) : List (ByteArray × Int) := (if n < p.least then [(at_, 1)] else []) ++ (if p.most < n then [(at_, 2)] else [])
def partOf (fs : List (ByteArray × Int)) (t : ByteArray) : Option Int := (fs.find? fun f => eqS f.1 t).map (·.2)
def sameD (v : J) (d : ByteArray) : Bool := match readS d.data.toList with | .ok j => textJ v == textJ j | .error _ => false
def listedS (p : PartS) (v : J) : Bool := p.enum.isEmpty || p.enum.any (sameD v)
def lenJ : J → Option Int
  | .num n => some n
  | .text t => some (t.length : Int)
  | .list l => some (l.length : Int)
  | .null => none
  | .bool _ => none
  | .obj _ _ => none
def headF (p : PartS) (v : J) (way : List ByteArray) : List (ByteArray × Int) := (if listedS p v = true then [] else [(joinV way, 19)]) ++ (match lenJ v with | some n => spanS p n (joinV way) | none => [])
def needF (p : PartS) (ns : List Tx) (way : List ByteArray) : List (ByteArray × Int) := p.need.flatMap fun t => if hasS (ns.map bx) t = true then [] else [(joinV (way ++ [t]), 7)]
def unkF (p : PartS) (ns : List Tx) (way : List ByteArray) : List (ByteArray × Int) := ns.flatMap fun n => if (partOf p.fields (bx n)).isSome = true ∨ p.extra = true then [] else [(joinV (way ++ [bx n]), 6)]
/-- One behind the other, with their places. -/
def listW {α β : Type} (F : α → List ByteArray → List β) (way : List ByteArray) : Nat → List α → List β
  | _, [] => []
  | i, x :: r => F x (way ++ [bx (Lib.decDigits i)]) ++ listW F way (i + 1) r
def objW {α β : Type} (F : α → Nat → List ByteArray → List β) (fs : List (ByteArray × Int)) (way : List ByteArray) : List (Tx × α) → List β
  | [] => []
  | x :: r => (match partOf fs (bx x.1) with | none => [] | some q => F x.2 q.toNat (way ++ [bx x.1])) ++ objW F fs way r
theorem listW_map {α γ β : Type} (F : α → List ByteArray → List β) (f : γ → α) (way : List ByteArray) : ∀ (l : List γ) (i : Nat), listW F way i (l.map f) = listW (fun x => F (f x)) way i l
  | [], _ => rfl
  | x :: r, i => by rw [List.map_cons, listW, listW, listW_map F f way r]
theorem objW_map {α γ β : Type} (F : α → Nat → List ByteArray → List β) (f : γ → Tx × α) (g : γ → Tx × γ) (hg : ∀ x, (g x).1 = (f x).1 ∧ (g x).2 = x) (fs : List (ByteArray × Int)) (way : List ByteArray) : ∀ l : List γ, objW F fs way (l.map f) = objW (fun x => F (f x).2) fs way (l.map g)
  | [] => rfl
  | x :: r => by rw [List.map_cons, List.map_cons, objW, objW, objW_map F f g hg fs way r, (hg x).1, (hg x).2]
theorem listW_snoc {α β : Type} (F : α → List ByteArray → List β) (way : List ByteArray) : ∀ (l : List α) (i : Nat) (x : α), listW F way i (l ++ [x]) = listW F way i l ++ F x (way ++ [bx (Lib.decDigits (i + l.length))])
  | [], i, x => by simp [listW]
  | y :: r, i, x => by
    rw [List.cons_append, listW, listW, listW_snoc F way r (i + 1) x, List.append_assoc, List.length_cons, show i + 1 + r.length = i + (r.length + 1) by omega]
theorem objW_snoc {α β : Type} (F : α → Nat → List ByteArray → List β) (fs : List (ByteArray × Int)) (way : List ByteArray) : ∀ (l : List (Tx × α)) (x : Tx × α), objW F fs way (l ++ [x]) = objW F fs way l ++ (match partOf fs (bx x.1) with | none => [] | some q => F x.2 q.toNat (way ++ [bx x.1]))
  | [], x => by simp [objW]
  | y :: r, x => by rw [List.cons_append, objW, objW, objW_snoc F fs way r x, List.append_assoc]
def partAt (s : List PartS) (k : Nat) : PartS := s.getD k default
def faultsS (s : List PartS) (v : J) (k : Nat) (way : List ByteArray) : List (ByteArray × Int) :=
  if kindJ v ≠ (partAt s k).kind then [(joinV way, 8)] else
  headF (partAt s k) v way ++ match v with
  | .null => []
  | .bool _ => []
  | .num _ => []
  | .text _ => []
  | .list l => listW (fun (x : {x // x ∈ l}) w => faultsS s x.1 (partAt s k).items.toNat w) way 0 l.attach
  | .obj ns l => needF (partAt s k) ns way ++ unkF (partAt s k) ns way ++ objW (fun (x : {x // x ∈ ns.zip l}) q w => faultsS s x.1.2 q w) (partAt s k).fields way ((ns.zip l).attach.map fun x => (x.1.1, x))
termination_by SizeOf.sizeOf v
decreasing_by
  · have := List.sizeOf_lt_of_mem x.2; simp; omega
  · have h : SizeOf.sizeOf x.1.2 < SizeOf.sizeOf l := List.sizeOf_lt_of_mem (List.of_mem_zip x.2).2
    show SizeOf.sizeOf x.1.2 < _
    rw [J.obj.sizeOf_spec]
    omega
theorem faults_eq (s : List PartS) (v : J) (k : Nat) (way : List ByteArray) : faultsS s v k way = if kindJ v ≠ (partAt s k).kind then [(joinV way, 8)] else
  headF (partAt s k) v way ++ match v with
  | .null => []
  | .bool _ => []
  | .num _ => []
  | .text _ => []
  | .list l => listW (fun (x : {x // x ∈ l}) w => faultsS s x.1 (partAt s k).items.toNat w) way 0 l.attach
  | .obj ns l => needF (partAt s k) ns way ++ unkF (partAt s k) ns way ++ objW (fun (x : {x // x ∈ ns.zip l}) q w => faultsS s x.1.2 q w) (partAt s k).fields way ((ns.zip l).attach.map fun x => (x.1.1, x)) := by
  rw [faultsS.eq_def]
theorem faults_kind {s : List PartS} {v : J} {k : Nat} (h : kindJ v ≠ (partAt s k).kind) (way : List ByteArray) : faultsS s v k way = [(joinV way, 8)] := by rw [faults_eq, if_pos h]
theorem faults_flat {s : List PartS} {v : J} {k : Nat} (h : kindJ v = (partAt s k).kind) (way : List ByteArray) (h5 : kindJ v ≠ 5) (h6 : kindJ v ≠ 6) : faultsS s v k way = headF (partAt s k) v way := by
  rw [faults_eq, if_neg (fun h2 => h2 h)]
  cases v with
  | list l => exact absurd rfl h5
  | obj ns l => exact absurd rfl h6
  | null => simp
  | bool b => simp
  | num n => simp
  | text t => simp
theorem faults_list {s : List PartS} {l : List J} {k : Nat} (h : (5 : Int) = (partAt s k).kind) (way : List ByteArray) : faultsS s (.list l) k way = headF (partAt s k) (.list l) way ++ listW (fun x w => faultsS s x (partAt s k).items.toNat w) way 0 l := by
  rw [faults_eq, if_neg (fun h2 => h2 h)]
  congr 1
  simp only
  rw [← listW_map (fun x w => faultsS s x (partAt s k).items.toNat w) (fun x : {x // x ∈ l} => x.1), List.attach_map_subtype_val]
theorem faults_obj {s : List PartS} {ns : List Tx} {l : List J} {k : Nat} (h : (6 : Int) = (partAt s k).kind) (way : List ByteArray) : faultsS s (.obj ns l) k way = headF (partAt s k) (.obj ns l) way ++ (needF (partAt s k) ns way ++ unkF (partAt s k) ns way ++ objW (fun x q w => faultsS s x q w) (partAt s k).fields way (ns.zip l)) := by
  rw [faults_eq, if_neg (fun h2 => h2 h)]
  congr 1
  simp only
  rw [← objW_map (fun x q w => faultsS s x q w) (fun x : {x // x ∈ ns.zip l} => x.1) (fun x => (x.1.1, x)) (fun x => ⟨rfl, rfl⟩), List.attach_map_subtype_val]
def headC (n : Nat) : Int := needS (needS 0 (decide (0 < n)) 1) (decide (n ≤ 30)) 2
def partC (s : List PartS) (b : Int) (i : Nat) : Int := if b = 0 then partS s.length i b (partAt s i) else b
def partsC (s : List PartS) : Int := (List.range s.length).foldl (partC s) (headC s.length)
def valD (d : ByteArray) : J := match readS d.data.toList with | .ok j => j | .error _ => .null
def defC (s : List PartS) (i : Nat) (b : Int) : Int := if b = 0 ∧ (partAt s i).dflt.size ≠ 0 then needS b (decide ((faultsS s (valD (partAt s i).dflt) i []).length = 0)) 19 else b
def defsC (s : List PartS) : Nat → Int → Int
  | 0, b => b
  | i + 1, b => defsC s i (defC s i b)
def checkS (s : List PartS) : Int := defsC s s.length (partsC s)
end Go.Proofs.YtnccefeehkcneaaGreatDoor.Sc
namespace Go.Proofs.YtnccefeehkcneaaGreatDoor.Sc
open Go Go.Proofs.YtnccefeehkcneaaGreatDoor.Js Go.Proofs.YtnccefeehkcneaaGreatDoor.Sx Go.Proofs.YtnccefeehkcneaaGreatDoor.Pt Go.Proofs.YtnccefeehkcneaaGreatDoor.Jm
theorem need_split {b e : Int} {is : Bool} (h : needS b is e = 0) (he : e ≠ 0) : b = 0 ∧ is = true := by
  unfold needS at h
  split at h
  · exact absurd h he
  · rename_i h2
    cases is with
    | true => exact ⟨h, rfl⟩
    | false => exact absurd ⟨h, rfl⟩ h2
theorem doc_bad {b : Int} (h : b ≠ 0) (d : ByteArray) : docS b d = b := need_bad h _ _
theorem doc_zero (d : ByteArray) : docS 0 d = errOf d := by
  unfold docS
  by_cases h : errOf d = 0
  · rw [h]; rfl
  · have : (errOf d == 0) = false := by rw [beq_eq_false_iff_ne]; exact h
    rw [this, need_false]
theorem field_bad {n i : Nat} {b : Int} (h : b ≠ 0) (l : List ByteArray) (f : ByteArray × Int) : fieldS n i (l, b) f = (l ++ [f.1], b) := by
  unfold fieldS
  simp only
  rw [need_bad h, need_bad h]
theorem fields_bad {n i : Nat} {b : Int} (h : b ≠ 0) : ∀ (fs : List (ByteArray × Int)) (l : List ByteArray), (fs.foldl (fieldS n i) (l, b)).2 = b
  | [], _ => rfl
  | f :: r, l => by rw [List.foldl_cons, field_bad h, fields_bad h r]
theorem docs_bad {b : Int} (h : b ≠ 0) : ∀ ds : List ByteArray, ds.foldl docS b = b
  | [] => rfl
  | d :: r => by rw [List.foldl_cons, doc_bad h, docs_bad h r]
theorem fold_at {α β : Type} (f : β → α → β) (b : β) (l : List α) (q : Nat) (h : q < l.length) : (l.take (q + 1)).foldl f b = f ((l.take q).foldl f b) l[q] := by
  rw [List.take_succ_eq_append_getElem h, List.foldl_append]
  rfl
theorem fold_rest {α β : Type} (f : β → α → β) (b : β) (l : List α) (q : Nat) : l.foldl f b = (l.drop q).foldl f ((l.take q).foldl f b) := by
  rw [← List.foldl_append, List.take_append_drop]
section
variable {n i : Nat} {p : PartS} {b : Int}
def tailS (_n _i : Nat) (b : Int) (p : PartS) : Int := if p.dflt.size = 0 then p.enum.foldl docS b else docS (p.enum.foldl docS b) p.dflt
theorem tail_bad (h : b ≠ 0) : tailS n i b p = b := by
  unfold tailS
  rw [docs_bad h]
  split
  · rfl
  · exact doc_bad h _
theorem part_eq : partS n i b p = tailS n i (itemsS n i (fieldsS n i (headS b p) p) p) p := rfl
theorem part_head (hb : headS 0 p = b) (h : b ≠ 0) : partS n i 0 p = b := by
  rw [part_eq, hb]
  have h1 : fieldsS n i b p = b := fields_bad h _ _
  have h2 : itemsS n i b p = b := need_bad h _ _
  rw [h1, h2, tail_bad h]
theorem part_field {q : Nat} {l : List ByteArray} (h0 : headS 0 p = 0) (hf : (p.fields.take q).foldl (fieldS n i) ([], 0) = (l, b)) (h : b ≠ 0) : partS n i 0 p = b := by
  have h1 : fieldsS n i 0 p = b := by
    unfold fieldsS
    rw [fold_rest _ _ _ q, hf, fields_bad h]
  have h2 : itemsS n i b p = b := need_bad h _ _
  rw [part_eq, h0, h1, h2, tail_bad h]
theorem part_items (h0 : headS 0 p = 0) (h1 : fieldsS n i 0 p = 0) (h2 : itemsS n i 0 p = b) (h : b ≠ 0) : partS n i 0 p = b := by
  rw [part_eq, h0, h1, h2, tail_bad h]
theorem part_tail (h0 : headS 0 p = 0) (h1 : fieldsS n i 0 p = 0) (h2 : itemsS n i 0 p = 0) : partS n i 0 p = tailS n i 0 p := by rw [part_eq, h0, h1, h2]
theorem tail_doc {q : Nat} (hf : (p.enum.take q).foldl docS 0 = b) (h : b ≠ 0) : tailS n i 0 p = b := by
  unfold tailS
  rw [fold_rest docS 0 p.enum q, hf, docs_bad h]
  split
  · rfl
  · exact doc_bad h _
/-- What a good part is. -/
theorem part_good (h : partS n i 0 p = 0) : headS 0 p = 0 ∧ fieldsS n i 0 p = 0 ∧ itemsS n i 0 p = 0 ∧ tailS n i 0 p = 0 := by
  by_cases h0 : headS 0 p = 0
  · by_cases h1 : fieldsS n i 0 p = 0
    · by_cases h2 : itemsS n i 0 p = 0
      · exact ⟨h0, h1, h2, by rw [← part_tail h0 h1 h2]; exact h⟩
      · exact absurd ((part_items h0 h1 rfl h2).symm.trans h) h2
    · refine absurd ?_ h1
      have h2 : itemsS n i (fieldsS n i 0 p) p = fieldsS n i 0 p := need_bad h1 _ _
      rw [part_eq, h0, h2, tail_bad h1] at h
      exact h
  · exact absurd ((part_head rfl h0).symm.trans h) h0
theorem head_good (h : headS 0 p = 0) : 2 ≤ p.kind ∧ p.kind ≤ 6 ∧ p.fields.length ≤ 8 ∧ p.need.length ≤ 8 ∧ p.enum.length ≤ 8 := by
  unfold headS at h
  simp only at h
  obtain ⟨h, -⟩ := need_split h (by decide)
  obtain ⟨h, -⟩ := need_split h (by decide)
  obtain ⟨h, -⟩ := need_split h (by decide)
  obtain ⟨h, -⟩ := need_split h (by decide)
  obtain ⟨h, h2⟩ := need_split h (by decide)
  obtain ⟨-, h1⟩ := need_split h (by decide)
  simp only [Bool.and_eq_true, decide_eq_true_eq] at h1 h2
  exact ⟨h1.1, h1.2, h2.1.1, h2.1.2, h2.2⟩
theorem fields_good (h : fieldsS n i 0 p = 0) : ∀ f ∈ p.fields, behindS n i f.2 = true := by
  have : ∀ (fs : List (ByteArray × Int)) (l : List ByteArray), (fs.foldl (fieldS n i) (l, 0)).2 = 0 → ∀ f ∈ fs, behindS n i f.2 = true := fun fs => by
    induction fs with
    | nil => intro l _ f hf; cases hf
    | cons g r ih =>
      intro l h f hf
      rw [List.foldl_cons] at h
      by_cases h0 : (fieldS n i (l, 0) g).2 = 0
      · have h1 := (need_split h0 (by decide)).2
        rcases List.mem_cons.1 hf with rfl | hf
        · exact h1
        · have e : fieldS n i (l, 0) g = (l ++ [g.1], (fieldS n i (l, 0) g).2) := rfl
          rw [h0] at e
          rw [e] at h
          exact ih _ h f hf
      · rw [show fieldS n i (l, 0) g = ((fieldS n i (l, 0) g).1, (fieldS n i (l, 0) g).2) from rfl, fields_bad h0] at h
        exact absurd h h0
  exact this _ _ h
theorem items_good (h : itemsS n i 0 p = 0) (h5 : p.kind = 5) : behindS n i p.items = true := by
  have := (need_split h (by decide)).2
  rw [decide_eq_true h5] at this
  simpa using this
theorem docs_good : ∀ ds : List ByteArray, ds.foldl docS 0 = 0 → ∀ d ∈ ds, ∃ j, readS d.data.toList = .ok j
  | [], _, d, hd => by cases hd
  | e :: r, h, d, hd => by
    rw [List.foldl_cons, doc_zero] at h
    by_cases h0 : errOf e = 0
    · rw [h0] at h
      rcases List.mem_cons.1 hd with rfl | hd
      · exact errOf_zero h0
      · exact docs_good r h d hd
    · rw [docs_bad h0] at h
      exact absurd h h0
end
/-- Every part is good. -/
def GoodS (s : List PartS) : Prop := ∀ i, i < s.length → partS s.length i 0 (partAt s i) = 0
theorem parts_bad {s : List PartS} {b : Int} (h : b ≠ 0) : ∀ l : List Nat, l.foldl (partC s) b = b
  | [] => rfl
  | i :: r => by
    rw [List.foldl_cons]
    have : partC s b i = b := if_neg h
    rw [this, parts_bad h r]
theorem parts_good {s : List PartS} (h : partsC s = 0) : GoodS s := by
  intro i hi
  unfold partsC at h
  rw [fold_rest (partC s) (headC s.length) (List.range s.length) (i + 1), fold_at _ _ _ _ (by simpa using hi)] at h
  rw [List.getElem_range] at h
  by_cases h0 : ((List.range s.length).take i).foldl (partC s) (headC s.length) = 0
  · rw [h0] at h
    by_cases h1 : partC s 0 i = 0
    · have : partC s 0 i = partS s.length i 0 (partAt s i) := if_pos rfl
      rw [← this]; exact h1
    · rw [parts_bad h1] at h
      exact absurd h h1
  · have : partC s (((List.range s.length).take i).foldl (partC s) (headC s.length)) i = ((List.range s.length).take i).foldl (partC s) (headC s.length) := if_neg h0
    rw [this, parts_bad h0] at h
    exact absurd h h0
theorem defs_bad {s : List PartS} {b : Int} (h : b ≠ 0) : ∀ i, defsC s i b = b
  | 0 => rfl
  | i + 1 => by
    have : defC s i b = b := if_neg fun h2 => h h2.1
    rw [defsC, this, defs_bad h i]
theorem span_many (p : PartS) (n : Int) (a : ByteArray) : (spanS p n a).length ≤ 2 := by
  unfold spanS
  rw [List.length_append]
  split <;> split <;> simp
theorem headF_many (p : PartS) (v : J) (way : List ByteArray) : (headF p v way).length ≤ 3 := by
  unfold headF
  rw [List.length_append]
  have h1 : (if listedS p v = true then ([] : List (ByteArray × Int)) else [(joinV way, 19)]).length ≤ 1 := by split <;> simp
  cases lenJ v with
  | none => simp only [List.length_nil]; omega
  | some n => simp only; have := span_many p n (joinV way); omega
theorem needF_many (p : PartS) (ns : List Tx) (way : List ByteArray) : (needF p ns way).length ≤ p.need.length := by
  unfold needF
  generalize p.need = l
  induction l with
  | nil => simp
  | cons t r ih =>
    rw [List.flatMap_cons, List.length_append, List.length_cons]
    have : (if hasS (ns.map bx) t = true then ([] : List (ByteArray × Int)) else [(joinV (way ++ [t]), 7)]).length ≤ 1 := by split <;> simp
    omega
theorem unkF_many (p : PartS) (ns : List Tx) (way : List ByteArray) : (unkF p ns way).length ≤ ns.length := by
  unfold unkF
  induction ns with
  | nil => simp
  | cons t r ih =>
    rw [List.flatMap_cons, List.length_append, List.length_cons]
    have : (if (partOf p.fields (bx t)).isSome = true ∨ p.extra = true then ([] : List (ByteArray × Int)) else [(joinV (way ++ [bx t]), 6)]).length ≤ 1 := by split <;> simp
    omega
theorem listW_many {F : J → List ByteArray → List (ByteArray × Int)} (way : List ByteArray) : ∀ (l : List J) (i : Nat), (∀ x ∈ l, ∀ w, (F x w).length ≤ bulkJ x) → (listW F way i l).length ≤ sumB l
  | [], _, _ => by simp [listW]
  | x :: r, i, h => by
    rw [listW, List.length_append]
    have h1 := h x (List.mem_cons_self ..) (way ++ [bx (Lib.decDigits i)])
    have h2 := listW_many way r (i + 1) fun y hy => h y (List.mem_cons_of_mem _ hy)
    unfold sumB at h2 ⊢
    simp only [List.map_cons, List.sum_cons]
    omega
theorem objW_many {F : J → Nat → List ByteArray → List (ByteArray × Int)} (fs : List (ByteArray × Int)) (way : List ByteArray) : ∀ (ns : List Tx) (l : List J), (∀ x ∈ l, ∀ q w, (F x q w).length + 1 ≤ bulkJ x + 1) → (objW F fs way (ns.zip l)).length + (ns.zip l).length ≤ sumB l
  | [], l, _ => by simp [objW]
  | _ :: _, [], _ => by simp [objW]
  | n :: ns, x :: l, h => by
    rw [List.zip_cons_cons, objW, List.length_append, List.length_cons]
    have h2 := objW_many fs way ns l fun y hy => h y (List.mem_cons_of_mem _ hy)
    unfold sumB at h2 ⊢
    simp only [List.map_cons, List.sum_cons]
    cases partOf fs (bx n) with
    | none => simp only [List.length_nil]; omega
    | some q => have := h x (List.mem_cons_self ..) q.toNat (way ++ [bx n]); simp only; omega
theorem faults_many {s : List PartS} (hs : ∀ k, (partAt s k).need.length ≤ 8) (v : J) : WJ v → ∀ k way, (faultsS s v k way).length ≤ bulkJ v := by
  induction v using J.ind with
  | hl l ih =>
    intro hw k way
    by_cases h : kindJ (.list l) = (partAt s k).kind
    · rw [faults_list h, List.length_append, bulkJ_list]
      have h1 := headF_many (partAt s k) (.list l) way
      have h2 := listW_many (F := fun x w => faultsS s x (partAt s k).items.toNat w) way l 0 fun x hx w => ih x hx (WJ_list.1 hw x hx) _ w
      unfold sumB at h2
      omega
    · rw [faults_kind h]
      have := bulk_low (.list l)
      simp only [List.length_cons, List.length_nil]
      omega
  | ho ns l ih =>
    intro hw k way
    by_cases h : kindJ (.obj ns l) = (partAt s k).kind
    · rw [faults_obj h, List.length_append, List.length_append, List.length_append]
      have h1 := headF_many (partAt s k) (.obj ns l) way
      have h2 := needF_many (partAt s k) ns way
      have h3 := unkF_many (partAt s k) ns way
      have h4 := hs k
      have h5 := objW_many (F := fun x q w => faultsS s x q w) (partAt s k).fields way ns l fun x hx q w => Nat.succ_le_succ (ih x hx ((WJ_obj.1 hw).2 x hx) q w)
      have h6 : ns.length = l.length := (WJ_obj.1 hw).1.1
      rw [List.length_zip] at h5
      rw [bulkJ]
      unfold sumB at h5
      omega
    · rw [faults_kind h]
      have := bulk_low (.obj ns l)
      simp only [List.length_cons, List.length_nil]
      omega
  | hn =>
    intro _ k way
    by_cases h : kindJ .null = (partAt s k).kind
    · rw [faults_flat h way (by decide) (by decide)]
      have := headF_many (partAt s k) .null way
      rw [bulkJ]; omega
    · rw [faults_kind h, bulkJ]; simp
  | hb b =>
    intro _ k way
    by_cases h : kindJ (.bool b) = (partAt s k).kind
    · rw [faults_flat h way (fun h => by cases h) (fun h => by cases h)]
      have := headF_many (partAt s k) (.bool b) way
      rw [bulkJ]; omega
    · rw [faults_kind h, bulkJ]; simp
  | hi n =>
    intro _ k way
    by_cases h : kindJ (.num n) = (partAt s k).kind
    · rw [faults_flat h way (fun h => by cases h) (fun h => by cases h)]
      have := headF_many (partAt s k) (.num n) way
      rw [bulkJ]; omega
    · rw [faults_kind h, bulkJ]; simp
  | ht t =>
    intro _ k way
    by_cases h : kindJ (.text t) = (partAt s k).kind
    · rw [faults_flat h way (fun h => by cases h) (fun h => by cases h)]
      have := headF_many (partAt s k) (.text t) way
      rw [bulkJ]; omega
    · rw [faults_kind h, bulkJ]; simp
end Go.Proofs.YtnccefeehkcneaaGreatDoor.Sc
namespace Go.Proofs.YtnccefeehkcneaaGreatDoor.Sc
open Go Go.RowKit Go.Proofs.YtnccefeehkcneaaGreatDoor.Js Go.Proofs.YtnccefeehkcneaaGreatDoor.Sx Go.Proofs.YtnccefeehkcneaaGreatDoor.Pt Go.Proofs.YtnccefeehkcneaaGreatDoor.Jm
def fldR (_ : World) (cs : List Value) (f : ByteArray × Int) : Prop := cs = [.string f.1, .int .i64 f.2] ∧ f.1.size ≤ 1048576
abbrev FldsR (B : Nat) (w : World) (v : Value) (fs : List (ByteArray × Int)) : Prop := SlR fldR 2 B w v fs
/-- A slice's bounds. -/
def CapOK (v : Value) : Prop := ∃ A n c, v = .slice A n c ∧ n ≤ c
def prtR (B : Nat) (w : World) (cs : List Value) (p : PartS) : Prop :=
  ∃ v1 v2 v3, cs = [.int .i64 p.kind, v1, v2, .bool p.extra, .int .i64 p.items, .int .i64 p.least, .int .i64 p.most, v3, .string p.dflt] ∧ FldsR B w v1 p.fields ∧ StrsR B w v2 p.need ∧ StrsR B w v3 p.enum ∧ p.dflt.size ≤ 1048576 ∧ CapOK v1
abbrev PartsR (B : Nat) (w : World) (v : Value) (s : List PartS) : Prop := SlR (prtR B) 9 B w v s
section
variable {B : Nat} {w w' : World} {v : Value}
theorem FldsR.below {fs : List (ByteArray × Int)} (h : FldsR B w v fs) (hb : Below B w w') : FldsR B w' v fs := SlR.below h hb (Nat.le_refl _) fun _ _ hr => hr
theorem prtR.below {cs : List Value} {p : PartS} (h : prtR B w cs p) (hb : Below B w w') : prtR B w' cs p := by
  obtain ⟨v1, v2, v3, e, h1, h2, h3, h4⟩ := h
  exact ⟨v1, v2, v3, e, h1.below hb, h2.below hb (Nat.le_refl _), h3.below hb (Nat.le_refl _), h4⟩
theorem PartsR.below {s : List PartS} (h : PartsR B w v s) (hb : Below B w w') : PartsR B w' v s := SlR.below h hb (Nat.le_refl _) fun _ _ hr => hr.below hb
theorem FldsR.cells {fs : List (ByteArray × Int)} (h : FldsR B w v fs) {k : Nat} (hk : k < fs.length) : ∃ b off c, v = .slice (some ⟨b, off, none⟩) fs.length c ∧ b < B ∧ w.cell? ⟨b, off + k * 2, none⟩ = some (.string fs[k].1) ∧ w.cell? ⟨b, off + k * 2 + 1, none⟩ = some (.int .i64 fs[k].2) := by
  obtain ⟨hn, A, c, rfl, hi⟩ := h
  obtain ⟨b, off, cs, rfl, hlt, _, ⟨rfl, _⟩, hc⟩ := hi k hk
  exact ⟨b, off, c, rfl, hlt, by have := hc 0 _ rfl; rwa [Nat.add_zero] at this, hc 1 _ rfl⟩
theorem PartsR.cells {s : List PartS} (h : PartsR B w v s) {k : Nat} (hk : k < s.length) : ∃ b off c v1 v2 v3, v = .slice (some ⟨b, off, none⟩) s.length c ∧ b < B ∧
    (w.cell? ⟨b, off + k * 9, none⟩ = some (.int .i64 s[k].kind) ∧ w.cell? ⟨b, off + k * 9 + 1, none⟩ = some v1 ∧ w.cell? ⟨b, off + k * 9 + 2, none⟩ = some v2 ∧ w.cell? ⟨b, off + k * 9 + 3, none⟩ = some (.bool s[k].extra) ∧ w.cell? ⟨b, off + k * 9 + 4, none⟩ = some (.int .i64 s[k].items) ∧ w.cell? ⟨b, off + k * 9 + 5, none⟩ = some (.int .i64 s[k].least) ∧ w.cell? ⟨b, off + k * 9 + 6, none⟩ = some (.int .i64 s[k].most) ∧ w.cell? ⟨b, off + k * 9 + 7, none⟩ = some v3 ∧ w.cell? ⟨b, off + k * 9 + 8, none⟩ = some (.string s[k].dflt)) ∧
    FldsR B w v1 s[k].fields ∧ StrsR B w v2 s[k].need ∧ StrsR B w v3 s[k].enum ∧ s[k].dflt.size ≤ 1048576 ∧ CapOK v1 := by
  obtain ⟨hn, A, c, rfl, hi⟩ := h
  obtain ⟨b, off, cs, rfl, hlt, _, ⟨v1, v2, v3, rfl, h1, h2, h3, h4⟩, hc⟩ := hi k hk
  exact ⟨b, off, c, v1, v2, v3, rfl, hlt, ⟨by have := hc 0 _ rfl; rwa [Nat.add_zero] at this, hc 1 _ rfl, hc 2 _ rfl, hc 3 _ rfl, hc 4 _ rfl, hc 5 _ rfl, hc 6 _ rfl, hc 7 _ rfl, hc 8 _ rfl⟩, h1, h2, h3, h4⟩
theorem PartsR.slice {s : List PartS} (h : PartsR B w v s) : ∃ A c, v = .slice A s.length c := by
  obtain ⟨hn, A, c, rfl, _⟩ := h
  exact ⟨A, c, rfl⟩
theorem FldsR.slice {s : List (ByteArray × Int)} (h : FldsR B w v s) : ∃ A c, v = .slice A s.length c := by
  obtain ⟨hn, A, c, rfl, _⟩ := h
  exact ⟨A, c, rfl⟩
theorem StrsR.slice' {s : List ByteArray} (h : StrsR B w v s) : ∃ A c, v = .slice A s.length c := by
  obtain ⟨hn, A, c, rfl, _⟩ := h
  exact ⟨A, c, rfl⟩
end
end Go.Proofs.YtnccefeehkcneaaGreatDoor.Sc
