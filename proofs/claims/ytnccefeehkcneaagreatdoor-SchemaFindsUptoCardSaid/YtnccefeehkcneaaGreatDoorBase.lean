/-
  Words for memory that all walks of this seat use: a slice that reads as a list, worlds that grow. No program in sight.
-/
import Derived.WalkKit
import Derived.Deep.AppendLies
import Derived.Deep.Draws
import Derived.Laws.OwnMore
namespace Go.Proofs.YtnccefeehkcneaaGreatDoor.Sx
open Go Go.RowKit
/-- Nothing of what was there has turned. -/
abbrev Ext (w w' : World) : Prop := Below w.heap.size w w'
theorem Ext.trans {a b c : World} (h : Ext a b) (k : Ext b c) : Ext a c := Below.trans h (k.mono h.size)
theorem block_of_add (a : Addr) (n : Nat) : (a.add n).block = a.block := by unfold Addr.add; split <;> rfl
theorem add_of_add (a : Addr) (i j : Nat) : (a.add i).add j = a.add (i + j) := by
  unfold Addr.add
  by_cases hi : i = 0 <;> by_cases hj : j = 0 <;> simp [hi, hj, Nat.add_assoc]
/-- The slice value '.slice A n c' holds the cells xs, `size` an element (nil let in). -/
def Reads (w : World) (size : Nat) (A : Option Addr) (n : Nat) (xs : List Value) : Prop :=
  xs.length = n * size ∧ (0 < n → ∃ b off, A = some ⟨b, off, none⟩ ∧ b < w.heap.size ∧ ∀ j u, xs[j]? = some u → w.cell? ⟨b, off + j, none⟩ = some u)
section
variable {w w' : World} {size n : Nat} {A : Option Addr} {xs : List Value}
theorem Reads.nil : Reads w size A 0 [] := ⟨by simp, fun h => absurd h (by omega)⟩
theorem Reads.at_ {k : Nat} (h : Reads w 1 A n xs) (hk : k < n) : ∃ b off, A = some ⟨b, off, none⟩ ∧ b < w.heap.size ∧ ∃ u, xs[k]? = some u ∧ w.cell? ⟨b, off + k, none⟩ = some u := by
  obtain ⟨b, off, e, hb, hc⟩ := h.2 (by omega)
  have hl : k < xs.length := by have := h.1; omega
  exact ⟨b, off, e, hb, xs[k], List.getElem?_eq_getElem hl, hc k _ (List.getElem?_eq_getElem hl)⟩
theorem Reads.ext (h : Reads w size A n xs) (hb : Ext w w') : Reads w' size A n xs :=
  ⟨h.1, fun hn => by
    obtain ⟨b, off, e, hb', hc⟩ := h.2 hn
    exact ⟨b, off, e, Nat.lt_of_lt_of_le hb' hb.size, fun j u hu => (hb.cell (p := ⟨b, off + j, none⟩) hb').trans (hc j u hu)⟩⟩
end
theorem heap_lt {w : World} {b : Nat} {o : Obj} (h : w.heap[b]? = some o) : b < w.heap.size := by
  rcases Nat.lt_or_ge b w.heap.size with hlt | hge
  · exact hlt
  · rw [Array.getElem?_eq_none hge] at h; cases h
theorem heap_new {w : World} {o : Obj} {b : Nat} (hb : b = w.heap.size) : (w.alloc o).heap[b]? = some o := by
  subst hb
  show (w.heap.push o)[w.heap.size]? = _
  simp
theorem heap_old {w : World} {o x : Obj} {b : Nat} (h : w.heap[b]? = some x) : (w.alloc o).heap[b]? = some x :=
  (Below.heap_alloc w o b (heap_lt h)).trans h
theorem ret_bool {a b : Bool} (h : a = b) : Ending.returned (.bool a) = .returned (.bool b) := by rw [h]
theorem ret_int {k : IntKind} {a b : Int} (h : a = b) : Ending.returned (.int k a) = .returned (.int k b) := by rw [h]
theorem ret_str {a b : ByteArray} (h : a = b) : Ending.returned (.string a) = .returned (.string b) := by rw [h]
/-- Block k is neither block b nor (from b on) a row of elements of type T. -/
def Safe (T b : Nat) (w : World) (k : Nat) : Prop := k < b ∨ (k ≠ b ∧ ∀ c f, w.heap[k]? ≠ some (.cells c T f))
structure Mod (T b : Nat) (w w' : World) : Prop where
  os : w'.os = w.os
  tape : w'.tape = w.tape
  output : w'.output = w.output
  size : w.heap.size ≤ w'.heap.size
  block : ∀ k, k < w.heap.size → Safe T b w k → w'.heap[k]? = w.heap[k]?
section
variable {T b : Nat} {w w' w'' : World}
theorem Mod.refl : Mod T b w w := ⟨rfl, rfl, rfl, Nat.le_refl _, fun _ _ _ => rfl⟩
theorem Mod.safe (h : Mod T b w w') {k : Nat} (hk : k < w.heap.size) (hs : Safe T b w k) : Safe T b w' k := by
  rcases hs with h1 | h1
  · exact .inl h1
  · refine .inr ⟨h1.1, fun c f => ?_⟩
    rw [h.block k hk (.inr h1)]
    exact h1.2 c f
theorem Mod.trans (h : Mod T b w w') (h' : Mod T b w' w'') : Mod T b w w'' :=
  ⟨h'.os.trans h.os, h'.tape.trans h.tape, h'.output.trans h.output, Nat.le_trans h.size h'.size, fun k hk hs => (h'.block k (Nat.lt_of_lt_of_le hk h.size) (h.safe hk hs)).trans (h.block k hk hs)⟩
theorem Mod.of_ext (h : Ext w w') : Mod T b w w' := ⟨h.os, h.tape, h.output, h.size, fun k hk _ => h.block k hk⟩
theorem Mod.alloc (h : Mod T b w w') (o : Obj) : Mod T b w (w'.alloc o) := h.trans (.of_ext ((Below.refl _ _).alloc (Nat.le_refl _) o))
theorem Mod.drew (h : Mod T b w w') : Mod T b w w'.drew := ⟨h.os, h.tape, h.output, h.size, h.block⟩
theorem Mod.setCell (h : Mod T b w w') (p : Addr) (hp : p.block = b ∨ w.heap.size ≤ p.block) (u : Value) : Mod T b w (w'.setCell p u) :=
  ⟨h.os, h.tape, h.output, by simpa [World.setCell] using h.size, fun k hk hs => (Below.heap_setCell _ _ _ _ (by
    rintro rfl
    rcases hp with hp | hp
    · rcases hs with hs | hs
      · omega
      · exact hs.1 hp
    · omega)).trans (h.block k hk hs)⟩
theorem Mod.below (h : Mod T b w w') (hb : b ≤ w.heap.size) : Below b w w' := ⟨h.os, h.tape, h.output, h.size, fun k hk => h.block k (by omega) (.inl hk)⟩
theorem Mod.heap (h : Mod T b w w') {k : Nat} {o : Obj} (hs : Safe T b w k) (ho : w.heap[k]? = some o) : w'.heap[k]? = some o := (h.block k (heap_lt ho) hs).trans ho
end
theorem cell_of {w : World} {k : Nat} {c : Array Value} {t : TypeId} {f : Nat × Nat} (h : w.heap[k]? = some (.cells c t f)) (j : Nat) : w.cell? ⟨k, j, none⟩ = c[j]? := by simp [World.cell?, h]
/-- The slice value v reads as xs: each element's cells (sz of them) lie below B and read by R. -/
def SlAt {α : Type} (R : World → List Value → α → Prop) (sz B : Nat) (w : World) (v : Value) (xs : List α) : Prop :=
  xs.length ≤ 1048576 ∧ ∃ (A : Option Addr) (c : Nat), v = .slice A xs.length c ∧ xs.length ≤ c ∧ c ≤ 1048576 ∧ ∀ i (h : i < xs.length), ∃ blk off cs, A = some ⟨blk, off, none⟩ ∧ blk < B ∧ cs.length = sz ∧ R w cs xs[i] ∧ ∀ j u, cs[j]? = some u → w.cell? ⟨blk, off + i * sz + j, none⟩ = some u
theorem SlAt.below {α : Type} {R : World → List Value → α → Prop} {sz B : Nat} {w w' : World} {v : Value} {xs : List α} (h : SlAt R sz B w v xs) (hb : Below B w w') (hR : ∀ cs x, R w cs x → R w' cs x) : SlAt R sz B w' v xs := by
  obtain ⟨hn, A, c, hv, hc, hc2, hi⟩ := h
  refine ⟨hn, A, c, hv, hc, hc2, fun i hl => ?_⟩
  obtain ⟨blk, off, cs, hA, hlt, hsz, hr, hcell⟩ := hi i hl
  exact ⟨blk, off, cs, hA, hlt, hsz, hR _ _ hr, fun j u hu => (hb.cell (p := ⟨blk, off + i * sz + j, none⟩) hlt).trans (hcell j u hu)⟩
/-- A string's cell. -/
def strR (_ : World) (cs : List Value) (s : ByteArray) : Prop := cs = [.string s] ∧ s.size ≤ 1048576
abbrev StrsAt (B : Nat) (w : World) (v : Value) (xs : List ByteArray) : Prop := SlAt strR 1 B w v xs
theorem StrsAt.below {B : Nat} {w w' : World} {v : Value} {xs : List ByteArray} (h : StrsAt B w v xs) (hb : Below B w w') : StrsAt B w' v xs := SlAt.below h hb fun _ _ hr => hr
end Go.Proofs.YtnccefeehkcneaaGreatDoor.Sx
