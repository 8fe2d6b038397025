/-
  Labels: what they are in memory.
-/
import Derived.Test.YtfggodnfliciiaaDoorSlr
namespace Go.Proofs.YtfggodnfliciiaaDoor.Sx
open Go Go.RowKit

structure Lab where
  key : ByteArray
  val : ByteArray

def labR (_ : World) (cs : List Value) (x : Lab) : Prop := cs = [.string x.key, .string x.val] ∧ x.key.size ≤ 1048576 ∧ x.val.size ≤ 1048576
abbrev LabsR (B : Nat) (w : World) (v : Value) (l : List Lab) : Prop := SlR labR 2 B w v l
theorem LabsR.below {B B' : Nat} {w w' : World} {v : Value} {l : List Lab} (h : LabsR B w v l) (hb : Below B w w') (hB : B ≤ B') : LabsR B' w' v l := SlR.below h hb hB fun _ _ hr => hr

theorem LabsR.at_ {B : Nat} {w : World} {A : Option Addr} {c : Nat} {l : List Lab} (h : LabsR B w (.slice A l.length c) l) {j : Nat} (hj : j < l.length) :
    ∃ b off, A = some ⟨b, off, none⟩ ∧ b < B ∧ w.cell? ⟨b, off + j * 2, none⟩ = some (.string l[j].key) ∧ w.cell? ⟨b, off + j * 2 + 1, none⟩ = some (.string l[j].val) ∧ l[j].key.size ≤ 1048576 ∧ l[j].val.size ≤ 1048576 := by
  obtain ⟨_, A', c', hv, hi⟩ := h
  obtain ⟨b, off, cs, hA, hlt, _, ⟨rfl, hk, h4⟩, hc⟩ := hi j hj
  injection hv with e1 _ _
  subst e1 hA
  exact ⟨b, off, rfl, hlt, hc 0 _ rfl, hc 1 _ rfl, hk, h4⟩

end Go.Proofs.YtfggodnfliciiaaDoor.Sx
