/-
  The program's grants.Check: what it returns is a plain function of what was handed in.
-/
import Derived.Test.YtplfimoeggecjaaDoorChk5
namespace Go.Proofs.YtplfimoeggecjaaDoor.Sx
open Go Go.RowKit

structure Grants where
  roles : List Role
  binds : List Bind

def overI (g : Grants) : Int := if 12 < g.roles.length ∨ 12 < g.binds.length then 2 else 0
def dupI (b : Bool) : Int := if b then 5 else 0
def roleI (l : List Role) (k : Nat) (c : Int) (r : Role) : Int := rulesI (say (say (spaceI c r.space) (nameI r.name)) (dupI ((l.take k).any (sameRole r.space r.name)))) r.rules
def rolesTo (c : Int) (l : List Role) : Nat → Int
  | 0 => c
  | k + 1 => match l[k]? with
    | none => rolesTo c l k
    | some r => roleI l k (rolesTo c l k) r
theorem rolesTo_succ (c : Int) (l : List Role) (k : Nat) (h : k < l.length) : rolesTo c l (k + 1) = roleI l k (rolesTo c l k) l[k] := by
  rw [rolesTo, List.getElem?_eq_getElem h]

def wholeI (b : Bind) : Int := if b.space.size = 0 ∧ b.whole = false then 1 else 0
def usersI (b : Bind) : Int := if 6 < b.users.length ∨ 6 < b.groups.length then 2 else 0
def bindI (l : List Bind) (k : Nat) (c : Int) (r : Bind) : Int :=
  namesI (namesI (say (say (say (namesI (spaceI c r.space) [r.name, r.role] false) (dupI ((l.take k).any (sameBind r.space r.name)))) (wholeI r)) (usersI r)) r.users false) r.groups false
def bindsTo (c : Int) (l : List Bind) : Nat → Int
  | 0 => c
  | k + 1 => match l[k]? with
    | none => bindsTo c l k
    | some r => bindI l k (bindsTo c l k) r
theorem bindsTo_succ (c : Int) (l : List Bind) (k : Nat) (h : k < l.length) : bindsTo c l (k + 1) = bindI l k (bindsTo c l k) l[k] := by
  rw [bindsTo, List.getElem?_eq_getElem h]
/-- What grants.Check answers. -/
def grantsI (g : Grants) : Int := bindsTo (rolesTo (say 0 (overI g)) g.roles g.roles.length) g.binds g.binds.length

theorem cells2 {w : World} {k : Nat} {x y : Value} {t : TypeId} {f : Nat × Nat} (h : w.heap[k]? = some (.cells #[x, y] t f)) :
    w.cell? ⟨k, 0, none⟩ = some x ∧ w.cell? ⟨k, 1, none⟩ = some y := by
  refine ⟨?_, ?_⟩ <;> simp [cell_of h]
theorem Chk.ext {w w' : World} {b : Nat} {c : Int} (h : Chk w b c) (he : Ext w w') : Chk w' b c := (he.block b (heap_lt h)).trans h

theorem SlAt.take {α : Type} {R : World → List Value → α → Prop} {sz B : Nat} {w : World} {A : Option Addr} {c : Nat} {xs : List α} (h : SlAt R sz B w (.slice A xs.length c) xs) {k : Nat} (hk : k ≤ xs.length) : SlAt R sz B w (.slice A k c) (xs.take k) := by
  obtain ⟨hn, A', c', hv, hc, hc2, hi⟩ := h
  injection hv with h1 h2 h3
  subst h1 h3
  have hl : (xs.take k).length = k := by rw [List.length_take]; omega
  refine ⟨by omega, A, c, by rw [hl], by omega, hc2, fun i hi' => ?_⟩
  rw [hl] at hi'
  obtain ⟨blk, off, cs, hA, hlt, hsz, hr, hcell⟩ := hi i (by omega)
  exact ⟨blk, off, cs, hA, hlt, hsz, by rw [List.getElem_take]; exact hr, hcell⟩

theorem roleHas' (B k : Nat) (s n : ByteArray) (rv : Value) (A : Option Addr) (cap j : Nat) (l : List Role) (w : World) (h : w.heap[k]? = some (.cells #[.string s, .string n, rv] 74 (0, 0)))
    (hB : B ≤ w.heap.size) (hv : RolesAt B w (.slice A j cap) l) :
    Calls Tryd.prog 51 #[.slice A j cap, .func (.func 52) #[] #[.pointer (some ⟨k, 0, none⟩)]] w fun e w' => e = .returned (.bool (l.any (sameRole s n))) ∧ Ext w w' := by
  have hv' := hv
  obtain ⟨_, A', c', hvv, _⟩ := hv'
  injection hvv with h1 h2 h3
  subst h2
  exact roleHas B k s n rv A cap l w h hB hv
theorem bindHas' (B k : Nat) (s n : ByteArray) (x2 x3 x4 x5 : Value) (A : Option Addr) (cap j : Nat) (l : List Bind) (w : World) (h : w.heap[k]? = some (.cells #[.string s, .string n, x2, x3, x4, x5] 71 (0, 0)))
    (hB : B ≤ w.heap.size) (hv : BindsAt B w (.slice A j cap) l) :
    Calls Tryd.prog 54 #[.slice A j cap, .func (.func 55) #[] #[.pointer (some ⟨k, 0, none⟩)]] w fun e w' => e = .returned (.bool (l.any (sameBind s n))) ∧ Ext w w' := by
  have hv' := hv
  obtain ⟨_, A', c', hvv, _⟩ := hv'
  injection hvv with h1 h2 h3
  subst h2
  exact bindHas B k s n x2 x3 x4 x5 A cap l w h hB hv

/-- In world w (come from w0): the grants' box, a round's box, the checker. -/
def Bun (w0 w : World) (g b k : Nat) (G R : Array Value) (tr : TypeId) (c : Int) : Prop :=
  w.heap[g]? = some (.cells G 25 (0, 0)) ∧ w.heap[k]? = some (.cells R tr (0, 0)) ∧ Chk w b c ∧ Mod eT b w0 w ∧ g ≠ b ∧ k ≠ b ∧ tr ≠ eT
theorem Bun.step {w0 w w' : World} {g b k : Nat} {G R : Array Value} {tr : TypeId} {c c' : Int} (h : Bun w0 w g b k G R tr c) (hc : Chk w' b c') (hm : Mod eT b w w') : Bun w0 w' g b k G R tr c' := by
  obtain ⟨h1, h2, _, h4, h5, h6, h7⟩ := h
  exact ⟨hm.heap (safe_of h5 h1 (by decide)) h1, hm.heap (safe_of h6 h2 h7) h2, hc, h4.trans hm, h5, h6, h7⟩
theorem Bun.ext {w0 w w' : World} {g b k : Nat} {G R : Array Value} {tr : TypeId} {c : Int} (h : Bun w0 w g b k G R tr c) (he : Ext w w') : Bun w0 w' g b k G R tr c :=
  h.step (h.2.2.1.ext he) (Mod.of_ext he)
theorem Bun.rcells {w0 w : World} {g b k : Nat} {x y a0 a1 a2 : Value} {tr : TypeId} {c : Int} (h : Bun w0 w g b k #[x, y] #[a0, a1, a2] tr c) :
    w.cell? ⟨g, 0, none⟩ = some x ∧ w.cell? ⟨g, 1, none⟩ = some y ∧ w.cell? ⟨k, 0, none⟩ = some a0 ∧ w.cell? ⟨k, 1, none⟩ = some a1 ∧ w.cell? ⟨k, 2, none⟩ = some a2 :=
  ⟨(cells2 h.1).1, (cells2 h.1).2, cells3 h.2.1⟩
theorem Bun.bcells {w0 w : World} {g b k : Nat} {x y a0 a1 a2 a3 a4 a5 : Value} {tr : TypeId} {c : Int} (h : Bun w0 w g b k #[x, y] #[a0, a1, a2, a3, a4, a5] tr c) :
    w.cell? ⟨g, 0, none⟩ = some x ∧ w.cell? ⟨g, 1, none⟩ = some y ∧ w.cell? ⟨k, 0, none⟩ = some a0 ∧ w.cell? ⟨k, 1, none⟩ = some a1 ∧ w.cell? ⟨k, 2, none⟩ = some a2 ∧ w.cell? ⟨k, 3, none⟩ = some a3 ∧ w.cell? ⟨k, 4, none⟩ = some a4 ∧ w.cell? ⟨k, 5, none⟩ = some a5 :=
  ⟨(cells2 h.1).1, (cells2 h.1).2, cells6 h.2.1⟩

/-- Between two rounds. -/
def Mid (w0 w : World) (g b : Nat) (G : Array Value) (c : Int) : Prop := w.heap[g]? = some (.cells G 25 (0, 0)) ∧ Chk w b c ∧ Mod eT b w0 w ∧ g ≠ b
theorem Mid.bun {w0 w : World} {g b : Nat} {G R : Array Value} {tr : TypeId} {c : Int} (h : Mid w0 w g b G c) (ht : tr ≠ eT) : Bun w0 (w.alloc (.cells R tr)) g b w.heap.size G R tr c :=
  ⟨heap_old h.1, heap_new rfl, h.2.1.mod_alloc _, h.2.2.1.alloc _, h.2.2.2, by have := heap_lt h.2.1; omega, ht⟩
theorem Bun.mid {w0 w : World} {g b k : Nat} {G R : Array Value} {tr : TypeId} {c : Int} (h : Bun w0 w g b k G R tr c) : Mid w0 w g b G c := ⟨h.1, h.2.2.1, h.2.2.2.1, h.2.2.2.2.1⟩
theorem Bun.below {w0 w : World} {g b k : Nat} {G R : Array Value} {tr : TypeId} {c : Int} (h : Bun w0 w g b k G R tr c) (hb : b ≤ w0.heap.size) : Below b w0 w := h.2.2.2.1.below hb
theorem Mid.below {w0 w : World} {g b : Nat} {G : Array Value} {c : Int} (h : Mid w0 w g b G c) (hb : b ≤ w0.heap.size) : Below b w0 w := h.2.2.1.below hb

/-- In the world behind a call: the checker and its box. -/
def CheckPost (w : World) (n : Int) (e : Ending) (w' : World) : Prop := e = .returned (.int .i64 n) ∧ Ext w w'
end Go.Proofs.YtplfimoeggecjaaDoor.Sx
