/-
  Documents in memory: the program's values, the reference's.
-/
import Derived.Test.YtnccefeehkcneaaGreatDoorJst
import Derived.Test.YtnccefeehkcneaaGreatDoorBgn
import Derived.Test.YtnccefeehkcneaaGreatDoorChecked
import Derived.Lib.Hide
namespace Go.Proofs.YtnccefeehkcneaaGreatDoor.Jm
open Go Go.RowKit Go.Proofs.YtnccefeehkcneaaGreatDoor.Sx Go.Proofs.YtnccefeehkcneaaGreatDoor.Js
def bx (l : Tx) : ByteArray := ⟨l.toArray⟩
theorem bx_size (l : Tx) : (bx l).size = l.length := by show l.toArray.size = _; simp
theorem bx_inj {a b : Tx} (h : bx a = bx b) : a = b := by
  have h1 : (bx a).data.toList = (bx b).data.toList := by rw [h]
  simpa [bx] using h1
theorem bx_list (a : Tx) : (bx a).toList = a := by rw [ByteArray.toList_eq]; simp [bx]
theorem of_bx (s : ByteArray) : bx s.data.toList = s := by cases s; simp [bx]
theorem cell_keep {w w' : World} {g o : Nat} (h : w'.heap[g]? = w.heap[g]?) : w'.cell? ⟨g, o, none⟩ = w.cell? ⟨g, o, none⟩ := by unfold World.cell?; rw [h]
theorem cell_lt {w : World} {g o : Nat} {v : Value} (h : w.cell? ⟨g, o, none⟩ = some v) : g < w.heap.size := by
  unfold World.cell? at h
  cases hh : w.heap[g]? with
  | none => simp only [hh] at h; cases h
  | some ob => exact heap_lt hh
/-- The slice at A reads as these names. -/
def NamesAt (F : Nat → Prop) (w : World) (A : Option Addr) (ns : List Tx) : Prop :=
  ∀ i (hi : i < ns.length), ∃ g off, A = some ⟨g, off, none⟩ ∧ F g ∧ w.cell? ⟨g, off + i, none⟩ = some (.string (bx ns[i]))
abbrev valT : Nat := 63
abbrev valsT : Nat := 95
abbrev objT : Nat := 150
abbrev objPT : Nat := 79
def I64 (n : Int) : Prop := -9223372036854775808 ≤ n ∧ n ≤ 9223372036854775807
/-- The program's value v reads as j; all its blocks are of F. -/
def PV (F : Nat → Prop) (w : World) : J → Value → Prop
  | .null, v => v = .nilIface
  | .bool b, v => v = .iface 4 (.bool b)
  | .num n, v => v = .iface 2 (.int .i64 n) ∧ I64 n
  | .text s, v => v = .iface 9 (.string (bx s))
  | .list l, v => ∃ A c, v = .iface valsT (.slice A l.length c) ∧ l.length ≤ c ∧ ∀ i (hi : i < l.length), ∃ g off u, A = some ⟨g, off, none⟩ ∧ F g ∧ w.cell? ⟨g, off + i, none⟩ = some u ∧ PV F w l[i] u
  | .obj ns l, v => ∃ b A c B d, v = .iface objPT (.pointer (some ⟨b, 0, none⟩)) ∧ F b ∧ w.heap[b]? = some (.cells #[.slice A ns.length c, .slice B l.length d] objT (0, 0)) ∧ ns.length ≤ c ∧ l.length ≤ d ∧ NamesAt F w A ns ∧ ∀ i (hi : i < l.length), ∃ g off u, B = some ⟨g, off, none⟩ ∧ F g ∧ w.cell? ⟨g, off + i, none⟩ = some u ∧ PV F w l[i] u
termination_by j => SizeOf.sizeOf j
decreasing_by
  · have h : SizeOf.sizeOf l[i] < SizeOf.sizeOf l := List.sizeOf_lt_of_mem (List.getElem_mem hi)
    rw [J.list.sizeOf_spec]; omega
  · have h : SizeOf.sizeOf l[i] < SizeOf.sizeOf l := List.sizeOf_lt_of_mem (List.getElem_mem hi)
    rw [J.obj.sizeOf_spec]; omega
def ValsAt (F : Nat → Prop) (w : World) (A : Option Addr) (l : List J) : Prop :=
  ∀ i (hi : i < l.length), ∃ g off u, A = some ⟨g, off, none⟩ ∧ F g ∧ w.cell? ⟨g, off + i, none⟩ = some u ∧ PV F w l[i] u
/-- An object in a block. -/
def ObjAt (F : Nat → Prop) (w : World) (b : Nat) (ns : List Tx) (l : List J) : Prop :=
  ∃ A c B d, w.heap[b]? = some (.cells #[.slice A ns.length c, .slice B l.length d] objT (0, 0)) ∧ ns.length ≤ c ∧ l.length ≤ d ∧ NamesAt F w A ns ∧ ValsAt F w B l
section
variable {F F' : Nat → Prop} {w w' : World} {v : Value}
theorem PV_null : PV F w .null v ↔ v = .nilIface := by rw [PV]
theorem PV_bool {b : Bool} : PV F w (.bool b) v ↔ v = .iface 4 (.bool b) := by rw [PV]
theorem PV_num {n : Int} : PV F w (.num n) v ↔ v = .iface 2 (.int .i64 n) ∧ I64 n := by rw [PV]
theorem PV_text {s : Tx} : PV F w (.text s) v ↔ v = .iface 9 (.string (bx s)) := by rw [PV]
theorem PV_list {l : List J} : PV F w (.list l) v ↔ ∃ A c, v = .iface valsT (.slice A l.length c) ∧ l.length ≤ c ∧ ValsAt F w A l := by rw [PV]; rfl
theorem PV_obj {ns : List Tx} {l : List J} : PV F w (.obj ns l) v ↔ ∃ b, v = .iface objPT (.pointer (some ⟨b, 0, none⟩)) ∧ F b ∧ ObjAt F w b ns l := by
  rw [PV]
  constructor
  · rintro ⟨b, A, c, B, d, h1, h2, h3⟩; exact ⟨b, h1, h2, A, c, B, d, h3⟩
  · rintro ⟨b, h1, h2, A, c, B, d, h3⟩; exact ⟨b, A, c, B, d, h1, h2, h3⟩
theorem NamesAt.keep {A : Option Addr} {ns : List Tx} (h : NamesAt F w A ns) (hk : ∀ b, F b → b < w.heap.size → w'.heap[b]? = w.heap[b]?) (hF : ∀ b, F b → b < w.heap.size → F' b) : NamesAt F' w' A ns := fun i hi => by
  obtain ⟨g, off, hA, hg, hc⟩ := h i hi
  exact ⟨g, off, hA, hF g hg (cell_lt hc), (cell_keep (hk g hg (cell_lt hc))).trans hc⟩
theorem PV.keep (hk : ∀ b, F b → b < w.heap.size → w'.heap[b]? = w.heap[b]?) (hF : ∀ b, F b → b < w.heap.size → F' b) (j : J) : ∀ v, PV F w j v → PV F' w' j v := by
  induction j using J.ind with
  | hn => exact fun v h => PV_null.2 (PV_null.1 h)
  | hb b => exact fun v h => PV_bool.2 (PV_bool.1 h)
  | hi n => exact fun v h => PV_num.2 (PV_num.1 h)
  | ht s => exact fun v h => PV_text.2 (PV_text.1 h)
  | hl l ih =>
    intro v h
    obtain ⟨A, c, e, hc, hi⟩ := PV_list.1 h
    refine PV_list.2 ⟨A, c, e, hc, fun i hl => ?_⟩
    obtain ⟨g, off, u, hA, hg, hu, hp⟩ := hi i hl
    exact ⟨g, off, u, hA, hF g hg (cell_lt hu), (cell_keep (hk g hg (cell_lt hu))).trans hu, ih _ (List.getElem_mem hl) u hp⟩
  | ho ns l ih =>
    intro v h
    obtain ⟨b, e, hb, A, c, B, d, hh, hc, hd, hn, hi⟩ := PV_obj.1 h
    refine PV_obj.2 ⟨b, e, hF b hb (heap_lt hh), A, c, B, d, (hk b hb (heap_lt hh)).trans hh, hc, hd, hn.keep hk hF, fun i hl => ?_⟩
    obtain ⟨g, off, u, hA, hg, hu, hp⟩ := hi i hl
    exact ⟨g, off, u, hA, hF g hg (cell_lt hu), (cell_keep (hk g hg (cell_lt hu))).trans hu, ih _ (List.getElem_mem hl) u hp⟩
theorem ValsAt.keep {A : Option Addr} {l : List J} (h : ValsAt F w A l) (hk : ∀ b, F b → b < w.heap.size → w'.heap[b]? = w.heap[b]?) (hF : ∀ b, F b → b < w.heap.size → F' b) : ValsAt F' w' A l := fun i hl => by
  obtain ⟨g, off, u, hA, hg, hu, hp⟩ := h i hl
  exact ⟨g, off, u, hA, hF g hg (cell_lt hu), (cell_keep (hk g hg (cell_lt hu))).trans hu, PV.keep hk hF _ u hp⟩
theorem ObjAt.keep {b : Nat} {ns : List Tx} {l : List J} (h : ObjAt F w b ns l) (hb : F b) (hk : ∀ b, F b → b < w.heap.size → w'.heap[b]? = w.heap[b]?) (hF : ∀ b, F b → b < w.heap.size → F' b) : ObjAt F' w' b ns l := by
  obtain ⟨A, c, B, d, hh, hc, hd, hn, hi⟩ := h
  exact ⟨A, c, B, d, (hk b hb (heap_lt hh)).trans hh, hc, hd, hn.keep hk hF, hi.keep hk hF⟩
/-- Where nothing that was there turns. -/
theorem PV.ext {j : J} (h : PV F w j v) (hx : Ext w w') : PV F w' j v := PV.keep (fun b _ hb => hx.block b hb) (fun _ h _ => h) j v h
theorem PV.all {j : J} (h : PV F w j v) : PV (fun _ => True) w j v := PV.keep (fun _ _ _ => rfl) (fun _ _ _ => trivial) j v h
theorem ValsAt.ext {A : Option Addr} {l : List J} (h : ValsAt F w A l) (hx : Ext w w') : ValsAt F w' A l := h.keep (fun b _ hb => hx.block b hb) (fun _ h _ => h)
theorem NamesAt.ext {A : Option Addr} {ns : List Tx} (h : NamesAt F w A ns) (hx : Ext w w') : NamesAt F w' A ns := h.keep (fun b _ hb => hx.block b hb) (fun _ h _ => h)
end
abbrev vT : Nat := 73
abbrev vsT : Nat := 71
/-- The six cells cs read as j. -/
def RV (F : Nat → Prop) (w : World) : J → List Value → Prop
  | .null, cs => cs = [.int .i64 1, .bool false, .int .i64 0, .string ⟨#[]⟩, .slice none 0 0, .slice none 0 0]
  | .bool b, cs => cs = [.int .i64 2, .bool b, .int .i64 0, .string ⟨#[]⟩, .slice none 0 0, .slice none 0 0]
  | .num n, cs => cs = [.int .i64 3, .bool false, .int .i64 n, .string ⟨#[]⟩, .slice none 0 0, .slice none 0 0] ∧ I64 n
  | .text s, cs => cs = [.int .i64 4, .bool false, .int .i64 0, .string (bx s), .slice none 0 0, .slice none 0 0]
  | .list l, cs => ∃ A c, cs = [.int .i64 5, .bool false, .int .i64 0, .string ⟨#[]⟩, .slice none 0 0, .slice A l.length c] ∧ l.length ≤ c ∧ ∀ i (hi : i < l.length), ∃ g off u, A = some ⟨g, off, none⟩ ∧ F g ∧ u.length = 6 ∧ (∀ k x, u[k]? = some x → w.cell? ⟨g, off + i * 6 + k, none⟩ = some x) ∧ RV F w l[i] u
  | .obj ns l, cs => ∃ A c B d, cs = [.int .i64 6, .bool false, .int .i64 0, .string ⟨#[]⟩, .slice A ns.length c, .slice B l.length d] ∧ ns.length ≤ c ∧ l.length ≤ d ∧ NamesAt F w A ns ∧ ∀ i (hi : i < l.length), ∃ g off u, B = some ⟨g, off, none⟩ ∧ F g ∧ u.length = 6 ∧ (∀ k x, u[k]? = some x → w.cell? ⟨g, off + i * 6 + k, none⟩ = some x) ∧ RV F w l[i] u
termination_by j => SizeOf.sizeOf j
decreasing_by
  · have h : SizeOf.sizeOf l[i] < SizeOf.sizeOf l := List.sizeOf_lt_of_mem (List.getElem_mem hi)
    rw [J.list.sizeOf_spec]; omega
  · have h : SizeOf.sizeOf l[i] < SizeOf.sizeOf l := List.sizeOf_lt_of_mem (List.getElem_mem hi)
    rw [J.obj.sizeOf_spec]; omega
def RValsAt (F : Nat → Prop) (w : World) (A : Option Addr) (l : List J) : Prop :=
  ∀ i (hi : i < l.length), ∃ g off u, A = some ⟨g, off, none⟩ ∧ F g ∧ u.length = 6 ∧ (∀ k x, u[k]? = some x → w.cell? ⟨g, off + i * 6 + k, none⟩ = some x) ∧ RV F w l[i] u
section
variable {F F' : Nat → Prop} {w w' : World} {cs : List Value}
theorem RV_null : RV F w .null cs ↔ cs = [.int .i64 1, .bool false, .int .i64 0, .string ⟨#[]⟩, .slice none 0 0, .slice none 0 0] := by rw [RV]
theorem RV_bool {b : Bool} : RV F w (.bool b) cs ↔ cs = [.int .i64 2, .bool b, .int .i64 0, .string ⟨#[]⟩, .slice none 0 0, .slice none 0 0] := by rw [RV]
theorem RV_num {n : Int} : RV F w (.num n) cs ↔ cs = [.int .i64 3, .bool false, .int .i64 n, .string ⟨#[]⟩, .slice none 0 0, .slice none 0 0] ∧ I64 n := by rw [RV]
theorem RV_text {s : Tx} : RV F w (.text s) cs ↔ cs = [.int .i64 4, .bool false, .int .i64 0, .string (bx s), .slice none 0 0, .slice none 0 0] := by rw [RV]
theorem RV_list {l : List J} : RV F w (.list l) cs ↔ ∃ A c, cs = [.int .i64 5, .bool false, .int .i64 0, .string ⟨#[]⟩, .slice none 0 0, .slice A l.length c] ∧ l.length ≤ c ∧ RValsAt F w A l := by rw [RV]; rfl
theorem RV_obj {ns : List Tx} {l : List J} : RV F w (.obj ns l) cs ↔ ∃ A c B d, cs = [.int .i64 6, .bool false, .int .i64 0, .string ⟨#[]⟩, .slice A ns.length c, .slice B l.length d] ∧ ns.length ≤ c ∧ l.length ≤ d ∧ NamesAt F w A ns ∧ RValsAt F w B l := by rw [RV]; rfl
theorem six_lt {g o : Nat} {u : List Value} (h6 : u.length = 6) (h : ∀ k x, u[k]? = some x → w.cell? ⟨g, o + k, none⟩ = some x) : g < w.heap.size :=
  cell_lt (h 0 (u[0]'(by omega)) (List.getElem?_eq_getElem _))
theorem RV.keep (hk : ∀ b, F b → b < w.heap.size → w'.heap[b]? = w.heap[b]?) (hF : ∀ b, F b → b < w.heap.size → F' b) (j : J) : ∀ cs, RV F w j cs → RV F' w' j cs := by
  induction j using J.ind with
  | hn => exact fun v h => RV_null.2 (RV_null.1 h)
  | hb b => exact fun v h => RV_bool.2 (RV_bool.1 h)
  | hi n => exact fun v h => RV_num.2 (RV_num.1 h)
  | ht s => exact fun v h => RV_text.2 (RV_text.1 h)
  | hl l ih =>
    intro v h
    obtain ⟨A, c, e, hc, hi⟩ := RV_list.1 h
    refine RV_list.2 ⟨A, c, e, hc, fun i hl => ?_⟩
    obtain ⟨g, off, u, hA, hg, h6, hu, hp⟩ := hi i hl
    have hlt := six_lt h6 hu
    exact ⟨g, off, u, hA, hF g hg hlt, h6, fun k x hx => (cell_keep (hk g hg hlt)).trans (hu k x hx), ih _ (List.getElem_mem hl) u hp⟩
  | ho ns l ih =>
    intro v h
    obtain ⟨A, c, B, d, e, hc, hd, hn, hi⟩ := RV_obj.1 h
    refine RV_obj.2 ⟨A, c, B, d, e, hc, hd, hn.keep hk hF, fun i hl => ?_⟩
    obtain ⟨g, off, u, hA, hg, h6, hu, hp⟩ := hi i hl
    have hlt := six_lt h6 hu
    exact ⟨g, off, u, hA, hF g hg hlt, h6, fun k x hx => (cell_keep (hk g hg hlt)).trans (hu k x hx), ih _ (List.getElem_mem hl) u hp⟩
theorem RValsAt.keep {A : Option Addr} {l : List J} (h : RValsAt F w A l) (hk : ∀ b, F b → b < w.heap.size → w'.heap[b]? = w.heap[b]?) (hF : ∀ b, F b → b < w.heap.size → F' b) : RValsAt F' w' A l := fun i hl => by
  obtain ⟨g, off, u, hA, hg, h6, hu, hp⟩ := h i hl
  have hlt := six_lt h6 hu
  exact ⟨g, off, u, hA, hF g hg hlt, h6, fun k x hx => (cell_keep (hk g hg hlt)).trans (hu k x hx), RV.keep hk hF _ u hp⟩
theorem RV.ext {j : J} (h : RV F w j cs) (hx : Ext w w') : RV F w' j cs := RV.keep (fun b _ hb => hx.block b hb) (fun _ h _ => h) j cs h
theorem RV.all {j : J} (h : RV F w j cs) : RV (fun _ => True) w j cs := RV.keep (fun _ _ _ => rfl) (fun _ _ _ => trivial) j cs h
theorem RValsAt.ext {A : Option Addr} {l : List J} (h : RValsAt F w A l) (hx : Ext w w') : RValsAt F w' A l := h.keep (fun b _ hb => hx.block b hb) (fun _ h _ => h)
theorem RV.len {j : J} (h : RV F w j cs) : cs.length = 6 ∧ ∀ u ∈ cs, u.oneCell' = true := by
  have f : ∀ {a b c d e f : Value}, a.oneCell' = true → b.oneCell' = true → c.oneCell' = true → d.oneCell' = true → e.oneCell' = true → f.oneCell' = true → ∀ u ∈ [a, b, c, d, e, f], u.oneCell' = true := fun h1 h2 h3 h4 h5 h6 u hu => by
    simp only [List.mem_cons, List.not_mem_nil, or_false] at hu
    rcases hu with rfl | rfl | rfl | rfl | rfl | rfl <;> assumption
  cases j with
  | null => rw [RV_null.1 h]; exact ⟨rfl, f rfl rfl rfl rfl rfl rfl⟩
  | bool b => rw [RV_bool.1 h]; exact ⟨rfl, f rfl rfl rfl rfl rfl rfl⟩
  | num n => rw [(RV_num.1 h).1]; exact ⟨rfl, f rfl rfl rfl rfl rfl rfl⟩
  | text s => rw [RV_text.1 h]; exact ⟨rfl, f rfl rfl rfl rfl rfl rfl⟩
  | list l => obtain ⟨A, c, e, _⟩ := RV_list.1 h; rw [e]; exact ⟨rfl, f rfl rfl rfl rfl rfl rfl⟩
  | obj ns l => obtain ⟨A, c, B, d, e, _⟩ := RV_obj.1 h; rw [e]; exact ⟨rfl, f rfl rfl rfl rfl rfl rfl⟩
end
end Go.Proofs.YtnccefeehkcneaaGreatDoor.Jm
