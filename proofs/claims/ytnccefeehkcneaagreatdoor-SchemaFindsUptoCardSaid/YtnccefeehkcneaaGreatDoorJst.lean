/-
  Documents in plain words: values, their texts, how they are read, what they print as. No program in sight.
  Documents in plain words: what they print as, how great they are.
  Documents in plain words: two values with one text are one.
  Documents in plain words: what is read is well made, and not greater than its text.
  Documents in plain words: what a reader with a stack has still to do; its steps.
  The reference's Set as a fold: it puts a field where it belongs.
  Plain: a value that is read leaves at most 200 counted.
-/
import Derived.Test.YtnccefeehkcneaaGreatDoorBase
import Derived.Test.YtnccefeehkcneaaGreatDoorDec
import Derived.Lib.Join
namespace Go.Proofs.YtnccefeehkcneaaGreatDoor.Js
open Go
abbrev Tx := List UInt8
/-- A value: an object's names and values lie side by side. -/
inductive J where
  | null
  | bool (b : Bool)
  | num (n : Int)
  | text (s : Tx)
  | list (l : List J)
  | obj (ns : List Tx) (l : List J)
/-- Induction over values, all that lie within being known. -/
theorem J.ind {P : J → Prop} (hn : P .null) (hb : ∀ b, P (.bool b)) (hi : ∀ n, P (.num n)) (ht : ∀ s, P (.text s)) (hl : ∀ l, (∀ x ∈ l, P x) → P (.list l)) (ho : ∀ ns l, (∀ x ∈ l, P x) → P (.obj ns l)) : ∀ j, P j
  | .null => hn
  | .bool b => hb b
  | .num n => hi n
  | .text s => ht s
  | .list l => hl l (fun x _hx => J.ind hn hb hi ht hl ho x)
  | .obj ns l => ho ns l (fun x _hx => J.ind hn hb hi ht hl ho x)
def isWs (c : UInt8) : Bool := c == 32 || c == 10 || c == 9
def skipW (s : Tx) : Tx := s.dropWhile isWs
theorem skipW_len (s : Tx) : (skipW s).length ≤ s.length := (List.dropWhile_sublist _).length_le
theorem skipW_cons {c : UInt8} {s : Tx} (h : isWs c = true) : skipW (c :: s) = skipW s := by simp [skipW, h]
theorem skipW_stop {c : UInt8} {s : Tx} (h : isWs c = false) : skipW (c :: s) = c :: s := by simp [skipW, h]
theorem skipW_skipW (s : Tx) : skipW (skipW s) = skipW s := by
  induction s with
  | nil => rfl
  | cons d s ih =>
    cases hd : isWs d with
    | true => rw [skipW_cons hd]; exact ih
    | false => rw [skipW_stop hd, skipW_stop hd]
def esc (d : UInt8) : Option UInt8 := if d = 34 then some 34 else if d = 92 then some 92 else if d = 110 then some 10 else if d = 116 then some 9 else none
/-- A text behind its quote. -/
def textS : Tx → Option (Tx × Tx)
  | [] => none
  | c :: r =>
    if c = 34 then some ([], r)
    else if c < 32 ∨ 126 < c then none
    else if c = 92 then
      match r with
      | [] => none
      | d :: r2 => match esc d with
        | none => none
        | some x => (textS r2).map fun p => (x :: p.1, p.2)
    else (textS r).map fun p => (c :: p.1, p.2)
theorem textS_cons (c : UInt8) (r : Tx) : textS (c :: r) = (if c = 34 then some ([], r)
    else if c < 32 ∨ 126 < c then none
    else if c = 92 then
      match r with
      | [] => none
      | d :: r2 => match esc d with
        | none => none
        | some x => (textS r2).map fun p => (x :: p.1, p.2)
    else (textS r).map fun p => (c :: p.1, p.2)) := by
  cases r <;> rfl
def isDg (c : UInt8) : Bool := 48 ≤ c && c ≤ 57
def digs (s : Tx) : Tx := s.takeWhile isDg
def offD (s : Tx) : Tx := s.dropWhile isDg
def valR (acc : Nat) (l : Tx) : Nat := l.foldl (fun a c => 10 * a + (c.toNat - 48)) acc
abbrev Res (α : Type) := Except Int α
/-- A number: the sign is known. -/
def numD (below : Bool) (s : Tx) : Res (Int × Tx) :=
  if digs s = [] ∨ (digs s).head? = some 48 ∧ (1 < (digs s).length ∨ below = true) then .error 3
  else if 18 < (digs s).length then .error 2
  else .ok ((if below then -(valR 0 (digs s) : Int) else (valR 0 (digs s) : Int)), offD s)
def numS (s : Tx) : Res (Int × Tx) := match s with
  | 45 :: r => numD true r
  | _ => numD false s
def wordS (w : Tx) (j : J) (s : Tx) : Res (J × Tx) := if w.isPrefixOf s then .ok (j, s.drop w.length) else .error 3
def starts (c : UInt8) : Bool := c == 91 || c == 123 || c == 34 || c == 45 || c == 116 || c == 102 || c == 110 || isDg c
def tT : Tx := [116, 114, 117, 101]
def tF : Tx := [102, 97, 108, 115, 101]
def tN : Tx := [110, 117, 108, 108]
/-- A value that is no list and no object. -/
def plainS (s : Tx) : Res (J × Tx) := match s with
  | [] => .error 3
  | c :: r =>
    if c = 34 then match textS r with
      | none => .error 3
      | some (t, r2) => .ok (.text t, r2)
    else if c = 116 then wordS tT (.bool true) s
    else if c = 102 then wordS tF (.bool false) s
    else if c = 110 then wordS tN .null s
    else (numS s).map fun p => (.num p.1, p.2)
/-- The names and values with one more: the names rise. -/
def place (ns : List Tx) (t : Tx) : Nat := (ns.takeWhile fun n => decide (n < t)).length
def setJ (ns : List Tx) (l : List J) (t : Tx) (j : J) : List Tx × List J :=
  if t ∈ ns then (ns, l.set (place ns t) j) else (ns.insertIdx (place ns t) t, l.insertIdx (place ns t) j)
/-- A value reader of one depth less. -/
abbrev Rdr := Nat → Tx → Res (J × Nat × Tx)
/-- Behind a value in a list: the list, or another value. -/
def afterL (k : List J → Nat → Tx → Res (J × Nat × Tx)) (acc : List J) (many : Nat) (s : Tx) : Res (J × Nat × Tx) :=
  match skipW s with
  | [] => .error 3
  | c :: r => if c = 93 then .ok (.list acc, many, r) else if c = 44 then k acc many r else .error 3
def listE (val : Rdr) : Nat → List J → Nat → Tx → Res (J × Nat × Tx)
  | 0, _, _, _ => .error 3
  | fuel + 1, acc, many, s => match val many s with
    | .error e => .error e
    | .ok (j, many', s') => afterL (listE val fuel) (acc ++ [j]) many' s'
/-- Behind a value in an object. -/
def afterO (k : List Tx → List J → Nat → Tx → Res (J × Nat × Tx)) (ns : List Tx) (l : List J) (many : Nat) (s : Tx) : Res (J × Nat × Tx) :=
  match skipW s with
  | [] => .error 3
  | c :: r => if c = 125 then .ok (.obj ns l, many, r) else if c = 44 then k ns l many r else .error 3
/-- A field's name, up to its value. -/
def nameS (ns : List Tx) (s : Tx) : Res (Tx × Tx) :=
  match skipW s with
  | [] => .error 3
  | c :: r => if c = 34 then match textS r with
    | none => .error 3
    | some (t, r2) => if t ∈ ns then .error 5 else match skipW r2 with
      | [] => .error 3
      | d :: r3 => if d = 58 then .ok (t, r3) else .error 3
    else .error 3
def fldE (val : Rdr) : Nat → List Tx → List J → Nat → Tx → Res (J × Nat × Tx)
  | 0, _, _, _, _ => .error 3
  | fuel + 1, ns, l, many, s => match nameS ns s with
    | .error e => .error e
    | .ok (t, r3) => match val many r3 with
      | .error e => .error e
      | .ok (j, many', s') => afterO (fldE val fuel) (setJ ns l t j).1 (setJ ns l t j).2 many' s'
/-- More than a text's bytes. -/
def fuelN : Nat := 2001
/-- A value within so many lists and objects more. -/
def valueS : Nat → Nat → Tx → Res (J × Nat × Tx)
  | d, many, s => match skipW s with
    | [] => .error 3
    | c :: r =>
      if starts c = false then .error 3
      else if 200 < many + 1 then .error 2
      else if c = 91 then match d with
        | 0 => .error 4
        | d + 1 => match skipW r with
          | 93 :: r2 => .ok (.list [], many + 1, r2)
          | _ => listE (valueS d) fuelN [] (many + 1) r
      else if c = 123 then match d with
        | 0 => .error 4
        | d + 1 => match skipW r with
          | 125 :: r2 => .ok (.obj [] [], many + 1, r2)
          | _ => fldE (valueS d) fuelN [] [] (many + 1) r
      else match plainS (c :: r) with
        | .error e => .error e
        | .ok (j, r2) => .ok (j, many + 1, r2)
/-- A document. -/
def readS (s : Tx) : Res J :=
  if 2000 < s.length then .error 2 else match valueS 10 0 s with
    | .error e => .error e
    | .ok (j, _, r) => if skipW r = [] then .ok j else .error 3
end Go.Proofs.YtnccefeehkcneaaGreatDoor.Js
namespace Go.Proofs.YtnccefeehkcneaaGreatDoor.Js
open Go
def qc (c : UInt8) : Tx := if c = 34 ∨ c = 92 then [92, c] else if c = 10 then [92, 110] else if c = 9 then [92, 116] else [c]
def quoteS (s : Tx) : Tx := 34 :: (s.flatMap qc ++ [34])
def numT (n : Int) : Tx := Lib.itoa n
def textJ : J → Tx
  | .null => tN
  | .bool b => if b then tT else tF
  | .num n => numT n
  | .text s => quoteS s
  | .list l => 91 :: (Lib.join (l.attach.map fun x => textJ x.1) [44] ++ [93])
  | .obj ns l => 123 :: (Lib.join ((ns.zip l).attach.map fun p => quoteS p.1.1 ++ 58 :: textJ p.1.2) [44] ++ [125])
termination_by j => SizeOf.sizeOf j
decreasing_by
  · have := List.sizeOf_lt_of_mem x.2; simp; omega
  · have h : SizeOf.sizeOf p.1.2 < SizeOf.sizeOf l := List.sizeOf_lt_of_mem (List.of_mem_zip p.2).2
    show SizeOf.sizeOf p.1.2 < _
    rw [J.obj.sizeOf_spec]
    omega
theorem attach_map {α β : Type} (l : List α) (f : α → β) : (l.attach.map fun x => f x.1) = l.map f := List.attach_map_val
theorem textJ_list (l : List J) : textJ (.list l) = 91 :: (Lib.join (l.map textJ) [44] ++ [93]) := by
  rw [textJ, attach_map l textJ]
def fieldT (p : Tx × J) : Tx := quoteS p.1 ++ 58 :: textJ p.2
theorem textJ_obj (ns : List Tx) (l : List J) : textJ (.obj ns l) = 123 :: (Lib.join ((ns.zip l).map fieldT) [44] ++ [125]) := by
  rw [textJ]
  congr 3
  exact attach_map (ns.zip l) fieldT
def kindJ : J → Int
  | .null => 1
  | .bool _ => 2
  | .num _ => 3
  | .text _ => 4
  | .list _ => 5
  | .obj _ _ => 6
def namesB (ns : List Tx) : Nat := (ns.map fun n => 2 * n.length + 8).sum
/-- How much there is of a value: more than the bytes of its text. -/
def bulkJ : J → Nat
  | .text s => 2 * s.length + 32
  | .list l => 32 + (l.map fun x => bulkJ x + 1).sum
  | .obj ns l => 32 + (l.map fun x => bulkJ x + 1).sum + namesB ns
  | .null => 32
  | .bool _ => 32
  | .num _ => 32
theorem qc_len (c : UInt8) : (qc c).length ≤ 2 := by unfold qc; split <;> (try split) <;> (try split) <;> simp
theorem quote_len (s : Tx) : (quoteS s).length ≤ 2 * s.length + 2 := by
  have h : ∀ s : Tx, (s.flatMap qc).length ≤ 2 * s.length := fun s => by
    induction s with
    | nil => exact Nat.le_refl _
    | cons c r ih =>
      rw [List.flatMap_cons, List.length_append, List.length_cons]
      have := qc_len c
      omega
  have := h s
  unfold quoteS
  rw [List.length_cons, List.length_append]
  simp only [List.length_cons, List.length_nil]
  omega
theorem bulkJ_list (l : List J) : bulkJ (.list l) = 32 + (l.map fun x => bulkJ x + 1).sum := by rw [bulkJ]
end Go.Proofs.YtnccefeehkcneaaGreatDoor.Js
namespace Go.Proofs.YtnccefeehkcneaaGreatDoor.Js
open Go
/-- Names and values are as many, all through. -/
def OKJ : J → Prop
  | .list l => ∀ x, x ∈ l → OKJ x
  | .obj ns l => ns.length = l.length ∧ ∀ x, x ∈ l → OKJ x
  | .null => True
  | .bool _ => True
  | .num _ => True
  | .text _ => True
theorem OKJ_list {l : List J} (h : OKJ (.list l)) : ∀ x, x ∈ l → OKJ x := by rw [OKJ] at h; exact h
theorem OKJ_obj {ns : List Tx} {l : List J} (h : OKJ (.obj ns l)) : ns.length = l.length ∧ ∀ x, x ∈ l → OKJ x := by rw [OKJ] at h; exact h
theorem dg_of (d : Nat) (h : d < 10) : isDg (UInt8.ofNat (48 + d)) = true := by
  have : d = 0 ∨ d = 1 ∨ d = 2 ∨ d = 3 ∨ d = 4 ∨ d = 5 ∨ d = 6 ∨ d = 7 ∨ d = 8 ∨ d = 9 := by omega
  rcases this with rfl | rfl | rfl | rfl | rfl | rfl | rfl | rfl | rfl | rfl <;> decide
theorem dec_all : ∀ (m u : Nat), u ≤ m → ∀ c ∈ Lib.decDigits u, isDg c = true
  | 0, u, h, c, hc => by
    obtain rfl : u = 0 := by omega
    rw [Lib.decDigits, dif_pos (by omega), List.mem_singleton] at hc
    rw [hc]
    exact dg_of 0 (by omega)
  | m + 1, u, h, c, hc => by
    by_cases h10 : u < 10
    · rw [Lib.decDigits, dif_pos h10, List.mem_singleton] at hc
      rw [hc]
      exact dg_of u h10
    · rw [Lib.decDigits, dif_neg h10] at hc
      rcases List.mem_append.1 hc with hc | hc
      · exact dec_all m (u / 10) (by omega) c hc
      · rw [List.mem_singleton] at hc
        rw [hc]
        exact dg_of _ (by omega)
theorem dec_some (u : Nat) : ∃ c r, Lib.decDigits u = c :: r ∧ isDg c = true := by
  cases h : Lib.decDigits u with
  | nil =>
    have h1 : Lib.decDigits u ≠ [] := by
      rw [Lib.decDigits]
      split <;> simp
    exact absurd h h1
  | cons c r => exact ⟨c, r, rfl, dec_all u u (Nat.le_refl _) c (by rw [h]; exact List.mem_cons_self ..)⟩
theorem cut_digits : ∀ (l s : Tx), (∀ c ∈ l, isDg c = true) → (∀ c r, s = c :: r → isDg c = false) → (l ++ s).takeWhile isDg = l ∧ (l ++ s).dropWhile isDg = s
  | [], s, _, h2 => by
    cases s with
    | nil => exact ⟨rfl, rfl⟩
    | cons c r =>
      have h := h2 c r rfl
      exact ⟨by simp [h], by simp [h]⟩
  | c :: l, s, h1, h2 => by
    have hc := h1 c (List.mem_cons_self ..)
    have ih := cut_digits l s (fun x hx => h1 x (List.mem_cons_of_mem _ hx)) h2
    rw [List.cons_append, List.takeWhile_cons, if_pos hc, List.dropWhile_cons, if_pos hc, ih.1, ih.2]
    exact ⟨rfl, rfl⟩
/-- What may stand behind a value. -/
def Dlm (s : Tx) : Prop := ∀ c r, s = c :: r → c = 44 ∨ c = 93 ∨ c = 125
theorem Dlm.dig {s : Tx} (h : Dlm s) : ∀ c r, s = c :: r → isDg c = false := fun c r e => by
  rcases h c r e with rfl | rfl | rfl <;> decide
theorem Dlm.cons {c : UInt8} {s : Tx} (h : c = 44 ∨ c = 93 ∨ c = 125) : Dlm (c :: s) := fun d r e => by
  injection e with e _
  rw [← e]
  exact h
theorem dec_cut {a b : Nat} {s t : Tx} (hs : Dlm s) (ht : Dlm t) (h : Lib.decDigits a ++ s = Lib.decDigits b ++ t) : a = b ∧ s = t := by
  have h1 := cut_digits _ s (dec_all a a (Nat.le_refl _)) hs.dig
  have h2 := cut_digits _ t (dec_all b b (Nat.le_refl _)) ht.dig
  rw [h] at h1
  exact ⟨Dc.dec_inj (h1.1.symm.trans h2.1), h1.2.symm.trans h2.2⟩
theorem num_inj {n m : Int} {s t : Tx} (hs : Dlm s) (ht : Dlm t) (h : numT n ++ s = numT m ++ t) : n = m ∧ s = t := by
  have d45 : ∀ c, isDg c = true → c ≠ 45 := fun c hc e => by rw [e] at hc; revert hc; decide
  unfold numT Lib.itoa at h
  split at h <;> split at h
  · rw [List.cons_append, List.cons_append] at h
    injection h with _ h
    obtain ⟨e1, e2⟩ := dec_cut hs ht h
    exact ⟨by omega, e2⟩
  · obtain ⟨c, r, e, hc⟩ := dec_some m.toNat
    rw [e, List.cons_append, List.cons_append] at h
    injection h with h _
    exact absurd h.symm (d45 c hc)
  · obtain ⟨c, r, e, hc⟩ := dec_some n.toNat
    rw [e, List.cons_append, List.cons_append] at h
    injection h with h _
    exact absurd h (d45 c hc)
  · obtain ⟨e1, e2⟩ := dec_cut hs ht h
    exact ⟨by omega, e2⟩
theorem qc_is (c : UInt8) : (c = 34 ∧ qc c = [92, 34]) ∨ (c = 92 ∧ qc c = [92, 92]) ∨ (c = 10 ∧ qc c = [92, 110]) ∨ (c = 9 ∧ qc c = [92, 116]) ∨ (c ≠ 92 ∧ qc c = [c]) := by
  by_cases h1 : c = 34
  · subst h1; exact .inl ⟨rfl, rfl⟩
  · by_cases h2 : c = 92
    · subst h2; exact .inr (.inl ⟨rfl, rfl⟩)
    · by_cases h3 : c = 10
      · subst h3; exact .inr (.inr (.inl ⟨rfl, rfl⟩))
      · by_cases h4 : c = 9
        · subst h4; exact .inr (.inr (.inr (.inl ⟨rfl, rfl⟩)))
        · refine .inr (.inr (.inr (.inr ⟨h2, ?_⟩)))
          unfold qc
          rw [if_neg (fun e => e.elim h1 h2), if_neg h3, if_neg h4]
theorem qc_cut {c d : UInt8} {x y : Tx} (h : qc c ++ x = qc d ++ y) : c = d ∧ x = y := by
  rcases qc_is c with ⟨a, e⟩ | ⟨a, e⟩ | ⟨a, e⟩ | ⟨a, e⟩ | ⟨a, e⟩ <;> rcases qc_is d with ⟨b, f⟩ | ⟨b, f⟩ | ⟨b, f⟩ | ⟨b, f⟩ | ⟨b, f⟩ <;> rw [e, f] at h <;> simp at h
  all_goals first
    | exact ⟨a.trans b.symm, h⟩
    | exact absurd h.1 a
    | exact absurd h.1.symm b
    | exact h
theorem qc_head (c : UInt8) : ∃ d r, qc c = d :: r ∧ d ≠ 34 := by
  unfold qc
  split
  · exact ⟨_, _, rfl, by decide⟩
  · rename_i h
    split
    · exact ⟨_, _, rfl, by decide⟩
    · split
      · exact ⟨_, _, rfl, by decide⟩
      · exact ⟨_, _, rfl, fun e => h (.inl e)⟩
theorem quote_cut {a b s t : Tx} (h : quoteS a ++ s = quoteS b ++ t) : a = b ∧ s = t := by
  unfold quoteS at h
  rw [List.cons_append, List.cons_append] at h
  injection h with _ h
  rw [List.append_assoc, List.append_assoc] at h
  induction a generalizing b with
  | nil =>
    cases b with
    | nil => simp at h; exact ⟨rfl, h⟩
    | cons d q =>
      obtain ⟨x, r, e, hx⟩ := qc_head d
      rw [List.flatMap_cons, e] at h
      simp at h
      exact absurd h.1.symm hx
  | cons c r ih =>
    cases b with
    | nil =>
      obtain ⟨x, q, e, hx⟩ := qc_head c
      rw [List.flatMap_cons, e] at h
      simp at h
      exact absurd h.1 hx
    | cons d q =>
      rw [List.flatMap_cons, List.flatMap_cons, List.append_assoc, List.append_assoc] at h
      obtain ⟨e1, e2⟩ := qc_cut h
      obtain ⟨e3, e4⟩ := ih e2
      exact ⟨by rw [e1, e3], e4⟩
def kindC (c : UInt8) : Int := if c = 110 then 1 else if c = 116 ∨ c = 102 then 2 else if c = 34 then 4 else if c = 91 then 5 else if c = 123 then 6 else if c = 45 ∨ isDg c = true then 3 else 0
theorem text_head (j : J) : ∃ c r, textJ j = c :: r ∧ kindC c = kindJ j := by
  cases j with
  | null => exact ⟨_, _, by rw [textJ]; rfl, rfl⟩
  | bool b =>
    cases b with
    | true => exact ⟨_, _, by rw [textJ]; rfl, rfl⟩
    | false => exact ⟨_, _, by rw [textJ]; rfl, rfl⟩
  | num n =>
    rw [textJ]
    unfold numT Lib.itoa
    split
    · exact ⟨_, _, rfl, rfl⟩
    · obtain ⟨c, r, e, hc⟩ := dec_some n.toNat
      refine ⟨c, r, e, ?_⟩
      have hne : ∀ d : UInt8, isDg d = false → c ≠ d := fun d hd e => by rw [e, hd] at hc; cases hc
      unfold kindC
      rw [if_neg (hne 110 (by decide)), if_neg (fun h => h.elim (hne 116 (by decide)) (hne 102 (by decide))), if_neg (hne 34 (by decide)), if_neg (hne 91 (by decide)), if_neg (hne 123 (by decide)), if_pos (.inr hc)]
      rfl
  | text s => exact ⟨_, _, by rw [textJ]; rfl, rfl⟩
  | list l => exact ⟨_, _, textJ_list l, rfl⟩
  | obj ns l => exact ⟨_, _, textJ_obj ns l, rfl⟩
theorem join_one (x : Tx) : Lib.join [x] [44] = x := by simp [Lib.join, List.intercalate]
theorem join_two (x y : Tx) (r : List Tx) : Lib.join (x :: y :: r) [44] = x ++ 44 :: Lib.join (y :: r) [44] := by simp [Lib.join, List.intercalate, List.intersperse]
/-- A list in its brackets: its first thing, what stands behind it. -/
theorem join_head {α : Type} (e : α → Tx) (x : α) (r : List α) (cl : UInt8) (s : Tx) : Lib.join ((x :: r).map e) [44] ++ cl :: s = e x ++ (match r with | [] => cl :: s | y :: q => 44 :: (Lib.join ((y :: q).map e) [44] ++ cl :: s)) := by
  cases r with
  | nil => rw [List.map_cons, List.map_nil, join_one]
  | cons y q => rw [List.map_cons, List.map_cons, join_two, List.append_assoc, List.cons_append]; rfl
theorem join_cut {α : Type} {e : α → Tx} {cl : UInt8} (hcl : cl = 93 ∨ cl = 125) (hne : ∀ x, ∃ c r, e x = c :: r ∧ c ≠ cl) {ok : α → Prop} : ∀ (l : List α), (∀ x ∈ l, ∀ y, ok y → ∀ s t, Dlm s → Dlm t → e x ++ s = e y ++ t → x = y ∧ s = t) →
    ∀ (m : List α), (∀ y ∈ m, ok y) → ∀ s t, Lib.join (l.map e) [44] ++ cl :: s = Lib.join (m.map e) [44] ++ cl :: t → l = m ∧ s = t
  | [], _, m, _, s, t, h => by
    cases m with
    | nil => injection h with _ h; exact ⟨rfl, h⟩
    | cons y q =>
      obtain ⟨c, r, hc, hn⟩ := hne y
      rw [join_head, hc] at h
      injection h with h _
      exact absurd h.symm hn
  | x :: r, hl, m, hm, s, t, h => by
    have hd : ∀ (r : List α) (s : Tx), Dlm (match r with | [] => cl :: s | y :: q => 44 :: (Lib.join ((y :: q).map e) [44] ++ cl :: s)) := fun r s => by
      cases r with
      | nil => exact Dlm.cons (.inr hcl)
      | cons y q => exact Dlm.cons (.inl rfl)
    cases m with
    | nil =>
      obtain ⟨c, r2, hc, hn⟩ := hne x
      rw [join_head, hc] at h
      injection h with h _
      exact absurd h hn
    | cons y q =>
      rw [join_head, join_head] at h
      obtain ⟨e1, e2⟩ := hl x (List.mem_cons_self ..) y (hm y (List.mem_cons_self ..)) _ _ (hd r s) (hd q t) h
      have ne : cl ≠ 44 := by rcases hcl with rfl | rfl <;> decide
      cases r with
      | nil =>
        cases q with
        | nil => injection e2 with _ e2; exact ⟨by rw [e1], e2⟩
        | cons z q => injection e2 with e2 _; exact absurd e2 ne
      | cons x2 r =>
        cases q with
        | nil => injection e2 with e2 _; exact absurd e2.symm ne
        | cons z q =>
          injection e2 with _ e2
          obtain ⟨e3, e4⟩ := join_cut hcl hne (x2 :: r) (fun a ha => hl a (List.mem_cons_of_mem _ ha)) (z :: q) (fun a ha => hm a (List.mem_cons_of_mem _ ha)) s t e2
          exact ⟨by rw [e1, e3], e4⟩
theorem zip_inj {α β : Type} : ∀ {a a' : List α} {b b' : List β}, a.length = b.length → a'.length = b'.length → a.zip b = a'.zip b' → a = a' ∧ b = b'
  | [], a', [], b', _, h2, h => by
    cases a' with
    | nil => cases b' with
      | nil => exact ⟨rfl, rfl⟩
      | cons _ _ => simp at h2
    | cons _ _ => cases b' with
      | nil => simp at h2
      | cons _ _ => simp at h
  | x :: a, a', y :: b, b', h1, h2, h => by
    cases a' with
    | nil => simp at h
    | cons x' a' => cases b' with
      | nil => simp at h
      | cons y' b' =>
        rw [List.zip_cons_cons, List.zip_cons_cons] at h
        injection h with e1 e2
        injection e1 with e3 e4
        obtain ⟨e5, e6⟩ := zip_inj (by simpa using h1) (by simpa using h2) e2
        exact ⟨by rw [e3, e5], by rw [e4, e6]⟩
theorem text_cut (a : J) : OKJ a → ∀ b, OKJ b → ∀ s t, Dlm s → Dlm t → textJ a ++ s = textJ b ++ t → a = b ∧ s = t := by
  have hk : ∀ {a b : J} {s t : Tx}, textJ a ++ s = textJ b ++ t → kindJ a = kindJ b := fun {a b s t} h => by
    obtain ⟨c, r, e1, e2⟩ := text_head a
    obtain ⟨d, q, e3, e4⟩ := text_head b
    rw [e1, e3, List.cons_append, List.cons_append] at h
    injection h with h _
    rw [← e2, ← e4, h]
  induction a using J.ind with
  | hn =>
    intro _ b _ s t _ _ h
    have h1 := hk h
    cases b <;> first | (rw [textJ] at h; exact ⟨rfl, List.append_cancel_left h⟩) | (simp [kindJ] at h1)
  | hb x =>
    intro _ b _ s t _ _ h
    have h1 := hk h
    cases b with
    | bool y =>
      rw [textJ, textJ] at h
      cases x <;> cases y
      · exact ⟨rfl, List.append_cancel_left h⟩
      · simp [tT, tF] at h
      · simp [tT, tF] at h
      · exact ⟨rfl, List.append_cancel_left h⟩
    | _ => simp [kindJ] at h1
  | hi n =>
    intro _ b _ s t hs ht h
    have h1 := hk h
    cases b with
    | num m =>
      rw [textJ, textJ] at h
      obtain ⟨e1, e2⟩ := num_inj hs ht h
      exact ⟨by rw [e1], e2⟩
    | _ => simp [kindJ] at h1
  | ht x =>
    intro _ b _ s t hs ht h
    have h1 := hk h
    cases b with
    | text y =>
      rw [textJ, textJ] at h
      obtain ⟨e1, e2⟩ := quote_cut h
      exact ⟨by rw [e1], e2⟩
    | _ => simp [kindJ] at h1
  | hl l ih =>
    intro ha b hb s t hs ht h
    have h1 := hk h
    cases b with
    | list m =>
      rw [textJ_list, textJ_list] at h
      simp only [List.cons_append, List.append_assoc, List.nil_append] at h
      injection h with _ h
      obtain ⟨e1, e2⟩ := join_cut (e := textJ) (cl := 93) (.inl rfl) (fun x => by
        obtain ⟨c, r, e, hc⟩ := text_head x
        refine ⟨c, r, e, fun h93 => ?_⟩
        rw [h93] at hc
        cases x <;> simp [kindC, kindJ] at hc <;> revert hc <;> decide) (ok := OKJ) l (fun x hx y hy s t hs ht h => ih x hx (OKJ_list ha x hx) y hy s t hs ht h) m (OKJ_list hb) s t h
      exact ⟨by rw [e1], e2⟩
    | _ => simp [kindJ] at h1
  | ho ns l ih =>
    intro ha b hb s t hs ht h
    have h1 := hk h
    cases b with
    | obj ms m =>
      rw [textJ_obj, textJ_obj] at h
      simp only [List.cons_append, List.append_assoc, List.nil_append] at h
      injection h with _ h
      obtain ⟨e1, e2⟩ := join_cut (e := fieldT) (cl := 125) (.inr rfl) (fun x => ⟨34, _, rfl, by decide⟩) (ok := fun p => OKJ p.2) (ns.zip l) (fun x hx y hy s t hs ht h => by
        unfold fieldT at h
        rw [List.append_assoc, List.append_assoc] at h
        obtain ⟨e1, e2⟩ := quote_cut h
        rw [List.cons_append, List.cons_append] at e2
        injection e2 with _ e2
        obtain ⟨e3, e4⟩ := ih x.2 (List.of_mem_zip hx).2 ((OKJ_obj ha).2 x.2 (List.of_mem_zip hx).2) y.2 hy s t hs ht e2
        exact ⟨Prod.ext e1 e3, e4⟩) (ms.zip m) (fun y hy => (OKJ_obj hb).2 y.2 (List.of_mem_zip hy).2) s t h
      obtain ⟨e3, e4⟩ := zip_inj (OKJ_obj ha).1 (OKJ_obj hb).1 e1
      exact ⟨by rw [e3, e4], e2⟩
    | _ => simp [kindJ] at h1
/-- One text, one value. -/
theorem text_inj {a b : J} (ha : OKJ a) (hb : OKJ b) (h : textJ a = textJ b) : a = b :=
  (text_cut a ha b hb [] [] (fun c r e => by cases e) (fun c r e => by cases e) (by rw [h])).1
end Go.Proofs.YtnccefeehkcneaaGreatDoor.Js
namespace Go.Proofs.YtnccefeehkcneaaGreatDoor.Js
open Go
theorem lt_irr (a : Tx) : ¬ a < a := List.lt_irrefl a
theorem lt_tr {a b c : Tx} (h : a < b) (g : b < c) : a < c := List.lt_trans h g
theorem lt_or {a b : Tx} (h : ¬ a < b) (hne : a ≠ b) : b < a := by
  rcases Std.lt_trichotomy (α := Tx) a b with h1 | h1 | h1
  · exact absurd h1 h
  · exact absurd h1 hne
  · exact h1
/-- Names that rise. -/
def Rise (ns : List Tx) : Prop := ns.Pairwise (· < ·)
/-- Well made: as many names as values, the names rising, all through. -/
def WJ : J → Prop
  | .list l => ∀ x, x ∈ l → WJ x
  | .obj ns l => (ns.length = l.length ∧ Rise ns) ∧ ∀ x, x ∈ l → WJ x
  | .null => True
  | .bool _ => True
  | .num _ => True
  | .text _ => True
theorem WJ_list {l : List J} : WJ (.list l) ↔ ∀ x, x ∈ l → WJ x := by rw [WJ]
theorem WJ_obj {ns : List Tx} {l : List J} : WJ (.obj ns l) ↔ (ns.length = l.length ∧ Rise ns) ∧ ∀ x, x ∈ l → WJ x := by rw [WJ]
theorem WJ.ok (j : J) : WJ j → OKJ j := by
  induction j using J.ind with
  | hl l ih => intro h; rw [OKJ]; exact fun x hx => ih x hx (WJ_list.1 h x hx)
  | ho ns l ih => intro h; rw [OKJ]; exact ⟨(WJ_obj.1 h).1.1, fun x hx => ih x hx ((WJ_obj.1 h).2 x hx)⟩
  | hn => intro _; rw [OKJ]; trivial
  | hb b => intro _; rw [OKJ]; trivial
  | hi n => intro _; rw [OKJ]; trivial
  | ht s => intro _; rw [OKJ]; trivial
theorem place_le (ns : List Tx) (t : Tx) : place ns t ≤ ns.length := (List.takeWhile_sublist _).length_le
theorem place_nil (t : Tx) : place [] t = 0 := rfl
theorem place_cons (n : Tx) (ns : List Tx) (t : Tx) : place (n :: ns) t = if n < t then place ns t + 1 else 0 := by
  unfold place
  by_cases h : n < t
  · rw [List.takeWhile_cons, if_pos (by simpa using h), if_pos h, List.length_cons]
  · rw [List.takeWhile_cons, if_neg (by simpa using h), if_neg h]; rfl
/-- Behind the place all is greater, or is the name itself. -/
theorem place_spec {ns : List Tx} (hr : Rise ns) (t : Tx) : ∀ i (hi : i < ns.length), (i < place ns t ↔ ns[i] < t) := by
  induction ns with
  | nil => intro i hi; simp at hi
  | cons n ns ih =>
    intro i hi
    have hr' := List.pairwise_cons.1 hr
    rw [place_cons]
    by_cases h : n < t
    · rw [if_pos h]
      cases i with
      | zero => simp [h]
      | succ i =>
        have := ih hr'.2 i (by simpa using hi)
        simp only [List.getElem_cons_succ]
        rw [← this]
        omega
    · rw [if_neg h]
      cases i with
      | zero => simp [h]
      | succ i =>
        have hi' : i < ns.length := by simpa using hi
        have hlt := hr'.1 ns[i] (List.getElem_mem hi')
        simp only [List.getElem_cons_succ]
        constructor
        · intro h; omega
        · intro h2; exact absurd (lt_tr hlt h2) h
theorem place_mem {ns : List Tx} (hr : Rise ns) (t : Tx) : t ∈ ns ↔ ∃ h : place ns t < ns.length, ns[place ns t] = t := by
  constructor
  · intro h
    obtain ⟨i, hi, e⟩ := List.mem_iff_getElem.1 h
    have h1 : ¬ i < place ns t := fun h2 => by
      have := (place_spec hr t i hi).1 h2
      rw [e] at this
      exact lt_irr _ this
    have h3 : place ns t = i := by
      rcases Nat.lt_or_ge (place ns t) i with h2 | h2
      · have hp : place ns t < ns.length := by omega
        have hlt := List.pairwise_iff_getElem.1 hr (place ns t) i hp hi h2
        rw [e] at hlt
        have := (place_spec hr t _ hp).2 hlt
        omega
      · omega
    exact ⟨by omega, by simp only [h3]; exact e⟩
  · rintro ⟨h, e⟩
    rw [← e]
    exact List.getElem_mem h
theorem rise_put {ns : List Tx} (hr : Rise ns) {t : Tx} (ht : t ∉ ns) : Rise (ns.insertIdx (place ns t) t) := by
  induction ns with
  | nil => rw [place_nil]; exact List.pairwise_singleton _ _
  | cons n ns ih =>
    have hr' := List.pairwise_cons.1 hr
    rw [place_cons]
    by_cases h : n < t
    · rw [if_pos h, List.insertIdx_succ_cons]
      refine List.pairwise_cons.2 ⟨fun x hx => ?_, ih hr'.2 (fun h => ht (List.mem_cons_of_mem _ h))⟩
      rcases (List.mem_insertIdx (place_le ns t)).1 hx with rfl | hx
      · exact h
      · exact hr'.1 x hx
    · rw [if_neg h]
      have hlt : t < n := lt_or h (fun e => ht (by rw [← e]; exact List.mem_cons_self ..))
      refine List.pairwise_cons.2 ⟨fun x hx => ?_, hr⟩
      rcases List.mem_cons.1 hx with rfl | hx
      · exact hlt
      · exact lt_tr hlt (hr'.1 x hx)
theorem setJ_new {ns : List Tx} {l : List J} {t : Tx} {j : J} (h : t ∉ ns) : setJ ns l t j = (ns.insertIdx (place ns t) t, l.insertIdx (place ns t) j) := if_neg h
theorem setJ_old {ns : List Tx} {l : List J} {t : Tx} {j : J} (h : t ∈ ns) : setJ ns l t j = (ns, l.set (place ns t) j) := if_pos h
theorem setJ_wj {ns : List Tx} {l : List J} {t : Tx} {j : J} (hw : WJ (.obj ns l)) (hj : WJ j) : WJ (.obj (setJ ns l t j).1 (setJ ns l t j).2) := by
  obtain ⟨⟨h1, h2⟩, h3⟩ := WJ_obj.1 hw
  by_cases ht : t ∈ ns
  · rw [setJ_old ht]
    refine WJ_obj.2 ⟨⟨by rw [List.length_set]; exact h1, h2⟩, fun x hx => ?_⟩
    rcases List.mem_or_eq_of_mem_set hx with hx | hx
    · exact h3 x hx
    · rw [hx]; exact hj
  · rw [setJ_new ht]
    refine WJ_obj.2 ⟨⟨?_, rise_put h2 ht⟩, fun x hx => ?_⟩
    · rw [List.length_insertIdx, List.length_insertIdx, h1]
    · rcases (List.mem_insertIdx (by rw [← h1]; exact place_le ns t)).1 hx with rfl | hx
      · exact hj
      · exact h3 x hx
theorem sum_insertIdx {α : Type} (f : α → Nat) (x : α) : ∀ (l : List α) (k : Nat), k ≤ l.length → ((l.insertIdx k x).map f).sum = f x + (l.map f).sum
  | l, 0, _ => by simp
  | a :: l, k + 1, h => by
    have := sum_insertIdx f x l k (by simpa using h)
    rw [List.insertIdx_succ_cons, List.map_cons, List.sum_cons, this, List.map_cons, List.sum_cons]
    omega
theorem textS_len : ∀ (n : Nat) {s t r : Tx}, s.length ≤ n → textS s = some (t, r) → t.length + r.length + 1 ≤ s.length
  | 0, s, t, r, hn, h => by
    have : s = [] := List.length_eq_zero_iff.1 (by omega)
    subst this
    cases h
  | n + 1, [], t, r, _, h => by cases h
  | n + 1, c :: s, t, r, hn, h => by
    simp at hn
    rw [textS_cons] at h
    split at h
    · injection h with h; injection h with e1 e2; rw [← e1, ← e2]; simp
    · split at h
      · cases h
      · split at h
        · cases s with
          | nil => cases h
          | cons d s =>
            simp at hn
            simp only at h
            cases he : esc d with
            | none => rw [he] at h; cases h
            | some x =>
              rw [he] at h
              obtain ⟨p, hp, e⟩ := Option.map_eq_some_iff.1 h
              have := textS_len n (s := s) (t := p.1) (r := p.2) (by omega) hp
              injection e with e1 e2
              rw [← e1, ← e2]
              simp
              omega
        · obtain ⟨p, hp, e⟩ := Option.map_eq_some_iff.1 h
          have := textS_len n (s := s) (t := p.1) (r := p.2) hn hp
          injection e with e1 e2
          rw [← e1, ← e2]
          simp
          omega
theorem digs_split (s : Tx) : (digs s).length + (offD s).length = s.length := by
  unfold digs offD
  rw [← List.length_append, List.takeWhile_append_dropWhile]
theorem numD_len {b : Bool} {s r : Tx} {n : Int} (h : numD b s = .ok (n, r)) : r.length < s.length := by
  unfold numD at h
  split at h
  · cases h
  · rename_i h1
    split at h
    · cases h
    · injection h with h; injection h with _ e
      rw [← e]
      have := digs_split s
      have : 0 < (digs s).length := List.length_pos_iff.2 (fun e => h1 (.inl e))
      omega
theorem numS_len {s r : Tx} {n : Int} (h : numS s = .ok (n, r)) : r.length < s.length := by
  unfold numS at h
  split at h
  · have := numD_len h; simp; omega
  · exact numD_len h
theorem plainS_good {s r : Tx} {j : J} (h : plainS s = .ok (j, r)) : WJ j ∧ bulkJ j + 64 * r.length ≤ 64 * s.length := by
  unfold plainS at h
  split at h
  · cases h
  · rename_i c q
    have word : ∀ {w : Tx} {x : J}, w ≠ [] → wordS w x (c :: q) = .ok (j, r) → j = x ∧ r.length < (c :: q).length := fun {w x} hw h => by
      unfold wordS at h
      split at h
      · injection h with h; injection h with e1 e2
        have : 0 < w.length := List.length_pos_iff.2 hw
        exact ⟨e1.symm, by rw [← e2, List.length_drop]; simp; omega⟩
      · cases h
    split at h
    · split at h
      · cases h
      · rename_i t r2 ht
        injection h with h; injection h with e1 e2
        have := textS_len _ (Nat.le_refl _) ht
        rw [← e1, ← e2]
        refine ⟨by rw [WJ]; trivial, ?_⟩
        rw [bulkJ]
        simp
        omega
    · split at h
      · obtain ⟨e, hl⟩ := word (by decide) h
        rw [e]; exact ⟨by rw [WJ]; trivial, by rw [bulkJ]; omega⟩
      · split at h
        · obtain ⟨e, hl⟩ := word (by decide) h
          rw [e]; exact ⟨by rw [WJ]; trivial, by rw [bulkJ]; omega⟩
        · split at h
          · obtain ⟨e, hl⟩ := word (by decide) h
            rw [e]; exact ⟨by rw [WJ]; trivial, by rw [bulkJ]; omega⟩
          · cases hn : numS (c :: q) with
            | error e => rw [hn] at h; cases h
            | ok p =>
              rw [hn] at h
              injection h with h; injection h with e1 e2
              have := numS_len (n := p.1) (r := p.2) hn
              rw [← e1, ← e2]
              exact ⟨by rw [WJ]; trivial, by rw [bulkJ]; omega⟩
def GoodV (val : Rdr) : Prop := ∀ many s j m r, val many s = .ok (j, m, r) → WJ j ∧ bulkJ j + 64 * r.length ≤ 64 * s.length
def sumB (l : List J) : Nat := (l.map fun x => bulkJ x + 1).sum
theorem sumB_snoc (l : List J) (x : J) : sumB (l ++ [x]) = sumB l + bulkJ x + 1 := by unfold sumB; rw [List.map_append, List.sum_append]; simp; omega
theorem skipW_cons_len {s r : Tx} {c : UInt8} (h : skipW s = c :: r) : r.length + 1 ≤ s.length := by
  have := skipW_len s
  rw [h] at this
  exact this
theorem listE_good {val : Rdr} (hv : GoodV val) : ∀ (fuel : Nat) {acc : List J} {many m : Nat} {s r : Tx} {j : J}, listE val fuel acc many s = .ok (j, m, r) → (∀ x ∈ acc, WJ x) → WJ j ∧ bulkJ j + 64 * r.length ≤ 64 * s.length + 32 + sumB acc
  | 0, _, _, _, _, _, _, h, _ => by cases h
  | fuel + 1, acc, many, m, s, r, j, h, ha => by
    rw [listE] at h
    split at h
    · cases h
    · rename_i x m1 s1 hx
      obtain ⟨hw, hb⟩ := hv _ _ _ _ _ hx
      have ha' : ∀ y ∈ acc ++ [x], WJ y := fun y hy => by
        rcases List.mem_append.1 hy with hy | hy
        · exact ha y hy
        · rw [List.mem_singleton] at hy; rw [hy]; exact hw
      have hs := sumB_snoc acc x
      unfold afterL at h
      split at h
      · cases h
      · rename_i c q hq
        have hl := skipW_cons_len hq
        split at h
        · injection h with h; injection h with e1 e2; injection e2 with _ e3
          rw [← e1, ← e3]
          refine ⟨WJ_list.2 ha', ?_⟩
          rw [bulkJ_list]
          show 32 + sumB (acc ++ [x]) + _ ≤ _
          omega
        · split at h
          · have := listE_good hv fuel h ha'
            exact ⟨this.1, by omega⟩
          · cases h
theorem nameS_good {ns : List Tx} {s t r : Tx} (h : nameS ns s = .ok (t, r)) : t ∉ ns ∧ t.length + r.length + 3 ≤ s.length := by
  unfold nameS at h
  split at h
  · cases h
  · rename_i c q hq
    have hl := skipW_cons_len hq
    split at h
    · split at h
      · cases h
      · rename_i t2 r2 ht
        have := textS_len _ (Nat.le_refl _) ht
        split at h
        · cases h
        · rename_i hn
          split at h
          · cases h
          · rename_i d r3 h3
            have hl3 := skipW_cons_len h3
            split at h
            · injection h with h; injection h with e1 e2
              rw [← e1, ← e2]
              exact ⟨hn, by omega⟩
            · cases h
    · cases h
theorem bulk_set {ns : List Tx} {l : List J} {t : Tx} {x : J} (h : t ∉ ns) (hl : ns.length = l.length) : sumB (setJ ns l t x).2 = sumB l + bulkJ x + 1 ∧ namesB (setJ ns l t x).1 = namesB ns + 2 * t.length + 8 := by
  rw [setJ_new h]
  constructor
  · unfold sumB
    rw [sum_insertIdx _ _ _ _ (by rw [← hl]; exact place_le ns t)]
    omega
  · unfold namesB
    rw [sum_insertIdx _ _ _ _ (place_le ns t)]
    omega
theorem fldE_good {val : Rdr} (hv : GoodV val) : ∀ (fuel : Nat) {ns : List Tx} {l : List J} {many m : Nat} {s r : Tx} {j : J}, fldE val fuel ns l many s = .ok (j, m, r) → WJ (.obj ns l) → WJ j ∧ bulkJ j + 64 * r.length ≤ 64 * s.length + 32 + sumB l + namesB ns
  | 0, _, _, _, _, _, _, _, h, _ => by cases h
  | fuel + 1, ns, l, many, m, s, r, j, h, hw0 => by
    rw [fldE] at h
    split at h
    · cases h
    · rename_i t r3 hn
      obtain ⟨hni, hnl⟩ := nameS_good hn
      split at h
      · cases h
      · rename_i x m1 s1 hx
        obtain ⟨hw, hb⟩ := hv _ _ _ _ _ hx
        have hw2 := setJ_wj (t := t) hw0 hw
        obtain ⟨b1, b2⟩ := bulk_set (x := x) hni (WJ_obj.1 hw0).1.1
        unfold afterO at h
        split at h
        · cases h
        · rename_i c q hq
          have hl := skipW_cons_len hq
          split at h
          · injection h with h; injection h with e1 e2; injection e2 with _ e3
            rw [← e1, ← e3]
            refine ⟨hw2, ?_⟩
            rw [bulkJ]
            show 32 + sumB (setJ ns l t x).2 + namesB (setJ ns l t x).1 + _ ≤ _
            omega
          · split at h
            · have := fldE_good hv fuel h hw2
              exact ⟨this.1, by omega⟩
            · cases h
theorem valueS_good : ∀ (d : Nat), GoodV (valueS d)
  | d, many, s, j, m, r, h => by
    cases hs : skipW s with
    | nil => rw [valueS, hs] at h; cases h
    | cons c q =>
      have hl := skipW_cons_len hs
      have wl : WJ (.list []) := WJ_list.2 (fun x hx => by cases hx)
      have wo : WJ (.obj [] []) := WJ_obj.2 ⟨⟨rfl, List.Pairwise.nil⟩, fun x hx => by cases hx⟩
      cases d with
      | zero =>
        rw [valueS, hs] at h
        simp only at h
        split at h
        · cases h
        · split at h
          · cases h
          · split at h
            · cases h
            · split at h
              · cases h
              · split at h
                · cases h
                · rename_i x r2 hp
                  injection h with h; injection h with e1 e2; injection e2 with _ e3
                  rw [← e1, ← e3]
                  obtain ⟨a, b⟩ := plainS_good hp
                  simp at b
                  exact ⟨a, by omega⟩
      | succ d =>
        have ih := valueS_good d
        rw [valueS, hs] at h
        simp only at h
        split at h
        · cases h
        · split at h
          · cases h
          · split at h
            · split at h
              · rename_i r2 h2
                have := skipW_cons_len h2
                injection h with h; injection h with e1 e2; injection e2 with _ e3
                rw [← e1, ← e3]
                exact ⟨wl, by rw [bulkJ]; simp; omega⟩
              · have := listE_good ih _ h (fun x hx => by cases hx)
                have e0 : sumB [] = 0 := rfl
                exact ⟨this.1, by omega⟩
            · split at h
              · split at h
                · rename_i r2 h2
                  have := skipW_cons_len h2
                  injection h with h; injection h with e1 e2; injection e2 with _ e3
                  rw [← e1, ← e3]
                  exact ⟨wo, by rw [bulkJ]; simp [namesB]; omega⟩
                · have := fldE_good ih _ h wo
                  have e0 : sumB [] = 0 := rfl
                  have e1 : namesB [] = 0 := rfl
                  exact ⟨this.1, by omega⟩
              · split at h
                · cases h
                · rename_i x r2 hp
                  injection h with h; injection h with e1 e2; injection e2 with _ e3
                  rw [← e1, ← e3]
                  obtain ⟨a, b⟩ := plainS_good hp
                  simp at b
                  exact ⟨a, by omega⟩
/-- What is read. -/
theorem readS_good {s : Tx} {j : J} (h : readS s = .ok j) : WJ j ∧ bulkJ j ≤ 128000 := by
  unfold readS at h
  split at h
  · cases h
  · split at h
    · cases h
    · rename_i x m r hx
      obtain ⟨a, b⟩ := valueS_good 10 _ _ _ _ _ hx
      split at h
      · injection h with h; rw [← h]; exact ⟨a, by omega⟩
      · cases h
end Go.Proofs.YtnccefeehkcneaaGreatDoor.Js
namespace Go.Proofs.YtnccefeehkcneaaGreatDoor.Js
open Go
/-- An open list or object: what it has, the field that is being read, how many values more may come. -/
structure Fr where
  isObj : Bool
  list : List J
  ns : List Tx
  vs : List J
  name : Tx
  fuel : Nat
def Fr.after (f : Fr) (d : Nat) (v : J) (many : Nat) (s : Tx) : Res (J × Nat × Tx) :=
  if f.isObj then afterO (fldE (valueS d) f.fuel) (setJ f.ns f.vs f.name v).1 (setJ f.ns f.vs f.name v).2 many s
  else afterL (listE (valueS d) f.fuel) (f.list ++ [v]) many s
/-- What comes of a whole value, with what is open around it. -/
def goesOut : List Fr → Nat → J → Nat → Tx → Res J
  | [], _, v, _, s => if skipW s = [] then .ok v else .error 3
  | f :: st, d, v, many, s => match f.after d v many s with
    | .error e => .error e
    | .ok (j, many', s') => goesOut st (d + 1) j many' s'
def beginOut (st : List Fr) (d many : Nat) (s : Tx) : Res J :=
  match valueS d many s with
  | .error e => .error e
  | .ok (v, many', s') => goesOut st d v many' s'
theorem readS_eq (s : Tx) : readS s = if 2000 < s.length then .error 2 else beginOut [] 10 0 s := by
  unfold readS beginOut
  rfl
theorem begin_none {st : List Fr} {d many : Nat} {s : Tx} (h : skipW s = []) : beginOut st d many s = .error 3 := by
  unfold beginOut
  rw [valueS, h]
theorem value_eq (d many : Nat) (s : Tx) {c : UInt8} {r : Tx} (h : skipW s = c :: r) : valueS d many s =
    (if starts c = false then .error 3
      else if 200 < many + 1 then .error 2
      else if c = 91 then match d with
        | 0 => .error 4
        | d + 1 => match skipW r with
          | 93 :: r2 => .ok (.list [], many + 1, r2)
          | _ => listE (valueS d) fuelN [] (many + 1) r
      else if c = 123 then match d with
        | 0 => .error 4
        | d + 1 => match skipW r with
          | 125 :: r2 => .ok (.obj [] [], many + 1, r2)
          | _ => fldE (valueS d) fuelN [] [] (many + 1) r
      else match plainS (c :: r) with
        | .error e => .error e
        | .ok (j, r2) => .ok (j, many + 1, r2)) := by
  cases d <;> (rw [valueS, h]) <;> rfl
theorem begin_odd {st : List Fr} {d many : Nat} {s r : Tx} {c : UInt8} (h : skipW s = c :: r) (hc : starts c = false) : beginOut st d many s = .error 3 := by
  unfold beginOut
  rw [value_eq d many s h, if_pos hc]
theorem begin_many {st : List Fr} {d many : Nat} {s r : Tx} {c : UInt8} (h : skipW s = c :: r) (hc : starts c = true) (hm : 200 < many + 1) : beginOut st d many s = .error 2 := by
  unfold beginOut
  rw [value_eq d many s h, if_neg (by rw [hc]; simp), if_pos hm]
theorem begin_deep {st : List Fr} {many : Nat} {s r : Tx} {c : UInt8} (h : skipW s = c :: r) (hc : c = 91 ∨ c = 123) (hm : ¬ 200 < many + 1) : beginOut st 0 many s = .error 4 := by
  have hs : starts c = true := by rcases hc with rfl | rfl <;> decide
  unfold beginOut
  rw [value_eq 0 many s h, if_neg (by rw [hs]; simp), if_neg hm]
  rcases hc with rfl | rfl
  · rw [if_pos rfl]
  · rw [if_neg (by decide), if_pos rfl]
theorem begin_plain {st : List Fr} {d many : Nat} {s r : Tx} {c : UInt8} (h : skipW s = c :: r) (hc : starts c = true) (hm : ¬ 200 < many + 1) (h1 : c ≠ 91) (h2 : c ≠ 123) :
    beginOut st d many s = match plainS (c :: r) with | .error e => .error e | .ok (j, r2) => goesOut st d j (many + 1) r2 := by
  unfold beginOut
  rw [value_eq d many s h, if_neg (by rw [hc]; simp), if_neg hm, if_neg h1, if_neg h2]
  cases plainS (c :: r) with
  | error e => rfl
  | ok p => rfl
theorem begin_nolist {st : List Fr} {d many : Nat} {s r r2 : Tx} (h : skipW s = 91 :: r) (hm : ¬ 200 < many + 1) (hr : skipW r = 93 :: r2) : beginOut st (d + 1) many s = goesOut st (d + 1) (.list []) (many + 1) r2 := by
  unfold beginOut
  rw [value_eq _ many s h, if_neg (by decide), if_neg hm, if_pos rfl]
  simp only [hr]
theorem begin_list {st : List Fr} {d many : Nat} {s r : Tx} (h : skipW s = 91 :: r) (hm : ¬ 200 < many + 1) (hr : ∀ r2, skipW r ≠ 93 :: r2) : beginOut st (d + 1) many s = beginOut (⟨false, [], [], [], [], 2000⟩ :: st) d (many + 1) r := by
  unfold beginOut
  rw [value_eq _ many s h, if_neg (by decide), if_neg hm, if_pos rfl]
  have e : (match skipW r with
          | 93 :: r2 => (.ok (.list [], many + 1, r2) : Res (J × Nat × Tx))
          | _ => listE (valueS d) fuelN [] (many + 1) r) = listE (valueS d) fuelN [] (many + 1) r := by
    split
    · rename_i r2 h2; exact absurd h2 (hr r2)
    · rfl
  simp only
  show (match (listE (valueS d) (2000 + 1) [] (many + 1) r) with | .error e => (.error e : Res J) | .ok (v, many', s') => goesOut st (d + 1) v many' s') = _
  rw [listE]
  cases valueS d (many + 1) r with
  | error e => rfl
  | ok p => rfl
theorem begin_noobj {st : List Fr} {d many : Nat} {s r r2 : Tx} (h : skipW s = 123 :: r) (hm : ¬ 200 < many + 1) (hr : skipW r = 125 :: r2) : beginOut st (d + 1) many s = goesOut st (d + 1) (.obj [] []) (many + 1) r2 := by
  unfold beginOut
  rw [value_eq _ many s h, if_neg (by decide), if_neg hm, if_neg (by decide), if_pos rfl]
  simp only [hr]
theorem begin_obj {st : List Fr} {d many : Nat} {s r : Tx} (h : skipW s = 123 :: r) (hm : ¬ 200 < many + 1) (hr : ∀ r2, skipW r ≠ 125 :: r2) :
    beginOut st (d + 1) many s = match nameS [] r with | .error e => .error e | .ok (t, r3) => beginOut (⟨true, [], [], [], t, 2000⟩ :: st) d (many + 1) r3 := by
  unfold beginOut
  rw [value_eq _ many s h, if_neg (by decide), if_neg hm, if_neg (by decide), if_pos rfl]
  have e : (match skipW r with
          | 125 :: r2 => (.ok (.obj [] [], many + 1, r2) : Res (J × Nat × Tx))
          | _ => fldE (valueS d) fuelN [] [] (many + 1) r) = fldE (valueS d) fuelN [] [] (many + 1) r := by
    split
    · rename_i r2 h2; exact absurd h2 (hr r2)
    · rfl
  simp only
  show (match (fldE (valueS d) (2000 + 1) [] [] (many + 1) r) with | .error e => (.error e : Res J) | .ok (v, many', s') => goesOut st (d + 1) v many' s') = _
  rw [fldE]
  cases nameS [] r with
  | error e => rfl
  | ok p =>
    simp only
    cases valueS d (many + 1) p.2 with
    | error e => rfl
    | ok q => rfl
theorem goes_lend {st : List Fr} {f : Fr} {d many : Nat} {v : J} {s r : Tx} (hf : f.isObj = false) (h : skipW s = 93 :: r) : goesOut (f :: st) d v many s = goesOut st (d + 1) (.list (f.list ++ [v])) many r := by
  rw [goesOut, Fr.after, if_neg (by rw [hf]; simp), afterL, h]
  rfl
theorem goes_lmore {st : List Fr} {f : Fr} {d many k : Nat} {v : J} {s r : Tx} (hf : f.isObj = false) (hk : f.fuel = k + 1) (h : skipW s = 44 :: r) : goesOut (f :: st) d v many s = beginOut ({ f with list := f.list ++ [v], fuel := k } :: st) d many r := by
  rw [goesOut, Fr.after, if_neg (by rw [hf]; simp), afterL, h]
  simp only
  rw [if_neg (by decide), if_pos trivial, hk, listE]
  unfold beginOut
  cases valueS d many r with
  | error e => rfl
  | ok p =>
    simp only
    rw [goesOut, Fr.after, if_neg (by simp only; rw [hf]; simp)]
theorem goes_lbad {st : List Fr} {f : Fr} {d many : Nat} {v : J} {s : Tx} (hf : f.isObj = false) (h1 : ∀ r, skipW s ≠ 93 :: r) (h2 : ∀ r, skipW s ≠ 44 :: r) : goesOut (f :: st) d v many s = .error 3 := by
  rw [goesOut, Fr.after, if_neg (by rw [hf]; simp), afterL]
  cases hs : skipW s with
  | nil => rfl
  | cons c r =>
    simp only
    rw [if_neg (fun e => h1 r (by rw [hs, e])), if_neg (fun e => h2 r (by rw [hs, e]))]
theorem goes_oend {st : List Fr} {f : Fr} {d many : Nat} {v : J} {s r : Tx} (hf : f.isObj = true) (h : skipW s = 125 :: r) : goesOut (f :: st) d v many s = goesOut st (d + 1) (.obj (setJ f.ns f.vs f.name v).1 (setJ f.ns f.vs f.name v).2) many r := by
  rw [goesOut, Fr.after, if_pos hf, afterO, h]
  rfl
theorem goes_omore {st : List Fr} {f : Fr} {d many k : Nat} {v : J} {s r : Tx} (hf : f.isObj = true) (hk : f.fuel = k + 1) (h : skipW s = 44 :: r) :
    goesOut (f :: st) d v many s = match nameS (setJ f.ns f.vs f.name v).1 r with | .error e => .error e | .ok (t, r3) => beginOut ({ f with ns := (setJ f.ns f.vs f.name v).1, vs := (setJ f.ns f.vs f.name v).2, name := t, fuel := k } :: st) d many r3 := by
  rw [goesOut, Fr.after, if_pos hf, afterO, h]
  simp only
  rw [if_neg (by decide), if_pos trivial, hk, fldE]
  cases nameS (setJ f.ns f.vs f.name v).1 r with
  | error e => rfl
  | ok p =>
    simp only
    unfold beginOut
    cases valueS d many p.2 with
    | error e => rfl
    | ok q =>
      simp only
      rw [goesOut, Fr.after, if_pos (by simp only; exact hf)]
theorem goes_obad {st : List Fr} {f : Fr} {d many : Nat} {v : J} {s : Tx} (hf : f.isObj = true) (h1 : ∀ r, skipW s ≠ 125 :: r) (h2 : ∀ r, skipW s ≠ 44 :: r) : goesOut (f :: st) d v many s = .error 3 := by
  rw [goesOut, Fr.after, if_pos hf, afterO]
  cases hs : skipW s with
  | nil => rfl
  | cons c r =>
    simp only
    rw [if_neg (fun e => h1 r (by rw [hs, e])), if_neg (fun e => h2 r (by rw [hs, e]))]
end Go.Proofs.YtnccefeehkcneaaGreatDoor.Js
namespace Go.Proofs.YtnccefeehkcneaaGreatDoor.Js
open Go
/-- One field of the elder object: what is written of the new one. -/
def setStep (t : Tx) (j : J) (st : Bool × List Tx × List J) (p : Tx × J) : Bool × List Tx × List J :=
  if st.1 = false ∧ ¬ p.1 < t then (if p.1 = t then (true, st.2.1 ++ [t], st.2.2 ++ [j]) else (true, (st.2.1 ++ [t]) ++ [p.1], (st.2.2 ++ [j]) ++ [p.2]))
  else if p.1 = t then st else (st.1, st.2.1 ++ [p.1], st.2.2 ++ [p.2])
def setEnd (t : Tx) (j : J) (st : Bool × List Tx × List J) : List Tx × List J := if st.1 = true then (st.2.1, st.2.2) else (st.2.1 ++ [t], st.2.2 ++ [j])
theorem set_rest {t : Tx} {j : J} : ∀ (ns : List Tx) (l : List J) (A : List Tx) (B : List J), ns.length = l.length → (∀ n ∈ ns, t < n) → (ns.zip l).foldl (setStep t j) (true, A, B) = (true, A ++ ns, B ++ l)
  | [], l, A, B, hl, _ => by
    obtain rfl : l = [] := List.length_eq_zero_iff.1 hl.symm
    simp
  | n :: ns, [], A, B, hl, _ => by simp at hl
  | n :: ns, v :: l, A, B, hl, h => by
    have h1 : n ≠ t := fun e => by
      have h2 := h n (List.mem_cons_self ..)
      rw [e] at h2
      exact List.lt_irrefl _ h2
    have e : setStep t j (true, A, B) (n, v) = (true, A ++ [n], B ++ [v]) := by
      unfold setStep
      rw [if_neg (by simp), if_neg h1]
    rw [List.zip_cons_cons, List.foldl_cons, e, set_rest ns l _ _ (by simpa using hl) (fun x hx => h x (List.mem_cons_of_mem _ hx))]
    simp
theorem setJ_lt {n : Tx} {ns : List Tx} {v : J} {l : List J} {t : Tx} {j : J} (h : n < t) : setJ (n :: ns) (v :: l) t j = (n :: (setJ ns l t j).1, v :: (setJ ns l t j).2) := by
  have hne : t ≠ n := fun e => by rw [e] at h; exact List.lt_irrefl _ h
  unfold setJ
  rw [place_cons, if_pos h]
  by_cases hm : t ∈ ns
  · rw [if_pos (List.mem_cons_of_mem _ hm), if_pos hm]
    rfl
  · rw [if_neg (fun e => by rcases List.mem_cons.1 e with e | e; exact hne e; exact hm e), if_neg hm]
    rfl
theorem set_fold {t : Tx} {j : J} : ∀ (ns : List Tx) (l : List J) (A : List Tx) (B : List J), ns.length = l.length → Rise ns → setEnd t j ((ns.zip l).foldl (setStep t j) (false, A, B)) = (A ++ (setJ ns l t j).1, B ++ (setJ ns l t j).2)
  | [], l, A, B, hl, _ => by
    obtain rfl : l = [] := List.length_eq_zero_iff.1 hl.symm
    rfl
  | n :: ns, [], A, B, hl, _ => by simp at hl
  | n :: ns, v :: l, A, B, hl, hr => by
    have hr' := List.pairwise_cons.1 hr
    have hl' : ns.length = l.length := by simpa using hl
    by_cases h : n < t
    · have hne : n ≠ t := fun e => by rw [e] at h; exact List.lt_irrefl _ h
      have e : setStep t j (false, A, B) (n, v) = (false, A ++ [n], B ++ [v]) := by
        unfold setStep
        rw [if_neg (fun e => e.2 h), if_neg hne]
      rw [List.zip_cons_cons, List.foldl_cons, e, set_fold ns l _ _ hl' hr'.2, setJ_lt h]
      simp
    · by_cases he : n = t
      · have e : setStep t j (false, A, B) (n, v) = (true, A ++ [t], B ++ [j]) := by
          unfold setStep
          rw [if_pos ⟨rfl, h⟩, if_pos he]
        rw [List.zip_cons_cons, List.foldl_cons, e, set_rest ns l _ _ hl' (fun x hx => by rw [← he]; exact hr'.1 x hx)]
        unfold setJ
        rw [place_cons, if_neg h, if_pos (by rw [he]; exact List.mem_cons_self ..), he]
        unfold setEnd
        simp
      · have hlt : t < n := lt_or h he
        have e : setStep t j (false, A, B) (n, v) = (true, (A ++ [t]) ++ [n], (B ++ [j]) ++ [v]) := by
          unfold setStep
          rw [if_pos ⟨rfl, h⟩, if_neg he]
        have hno : t ∉ n :: ns := fun hm => by
          rcases List.mem_cons.1 hm with hm | hm
          · exact he hm.symm
          · exact List.lt_irrefl _ (lt_tr hlt (hr'.1 t hm))
        rw [List.zip_cons_cons, List.foldl_cons, e, set_rest ns l _ _ hl' (fun x hx => lt_tr hlt (hr'.1 x hx))]
        unfold setJ
        rw [place_cons, if_neg h, if_neg hno]
        unfold setEnd
        simp
/-- What Set makes. -/
theorem set_all {t : Tx} {j : J} {ns : List Tx} {l : List J} (hl : ns.length = l.length) (hr : Rise ns) : setEnd t j ((ns.zip l).foldl (setStep t j) (false, [], [])) = setJ ns l t j := by
  rw [set_fold ns l [] [] hl hr]
  rfl
end Go.Proofs.YtnccefeehkcneaaGreatDoor.Js
namespace Go.Proofs.YtnccefeehkcneaaGreatDoor.Js
open Go
def FewV (val : Rdr) : Prop := ∀ many s j m r, val many s = .ok (j, m, r) → m ≤ 200
theorem listE_few {val : Rdr} (hv : FewV val) : ∀ (fuel : Nat) {acc : List J} {many m : Nat} {s r : Tx} {j : J}, listE val fuel acc many s = .ok (j, m, r) → m ≤ 200
  | 0, _, _, _, _, _, _, h => by cases h
  | fuel + 1, acc, many, m, s, r, j, h => by
    rw [listE] at h
    split at h
    · cases h
    · rename_i x m1 s1 hx
      unfold afterL at h
      split at h
      · cases h
      · split at h
        · injection h with h; injection h with _ h; injection h with h _
          rw [← h]
          exact hv _ _ _ _ _ hx
        · split at h
          · exact listE_few hv fuel h
          · cases h
theorem fldE_few {val : Rdr} (hv : FewV val) : ∀ (fuel : Nat) {ns : List Tx} {l : List J} {many m : Nat} {s r : Tx} {j : J}, fldE val fuel ns l many s = .ok (j, m, r) → m ≤ 200
  | 0, _, _, _, _, _, _, _, h => by cases h
  | fuel + 1, ns, l, many, m, s, r, j, h => by
    rw [fldE] at h
    split at h
    · cases h
    · split at h
      · cases h
      · rename_i x m1 s1 hx
        unfold afterO at h
        split at h
        · cases h
        · split at h
          · injection h with h; injection h with _ h; injection h with h _
            rw [← h]
            exact hv _ _ _ _ _ hx
          · split at h
            · exact fldE_few hv fuel h
            · cases h
theorem value_few : ∀ d, FewV (valueS d) := by
  intro d
  induction d with
  | zero =>
    intro many s j m r h
    cases hs : skipW s with
    | nil => rw [valueS, hs] at h; cases h
    | cons c q =>
      rw [value_eq 0 many s hs] at h
      split at h
      · cases h
      · split at h
        · cases h
        · split at h
          · cases h
          · split at h
            · cases h
            · split at h
              · cases h
              · injection h with h; injection h with _ h; injection h with h _
                omega
  | succ d ih =>
    intro many s j m r h
    cases hs : skipW s with
    | nil => rw [valueS, hs] at h; cases h
    | cons c q =>
      rw [value_eq (d + 1) many s hs] at h
      split at h
      · cases h
      · split at h
        · cases h
        · split at h
          · simp only at h
            split at h
            · injection h with h; injection h with _ h; injection h with h _
              omega
            · exact listE_few ih _ h
          · split at h
            · simp only at h
              split at h
              · injection h with h; injection h with _ h; injection h with h _
                omega
              · exact fldE_few ih _ h
            · split at h
              · cases h
              · injection h with h; injection h with _ h; injection h with h _
                omega
end Go.Proofs.YtnccefeehkcneaaGreatDoor.Js
