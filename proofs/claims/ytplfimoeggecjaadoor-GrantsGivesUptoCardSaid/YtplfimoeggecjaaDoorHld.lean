/-
  What a user holds, as plain lists; the elements of roles and binds.
-/
import Derived.Test.YtplfimoeggecjaaDoorOwn3
namespace Go.Proofs.YtplfimoeggecjaaDoor.Sx
open Go Go.RowKit

def fromS (b : Bind) : ByteArray := if b.whole then ⟨#[]⟩ else b.space
def picks (b : Bind) (r : Role) : Bool := eqS r.space (fromS b) && eqS r.name b.role
def gives (b : Bind) (u : User) (sp : ByteArray) : Bool := isForB b u && (decide (b.space.size = 0) || eqS b.space sp)
def rulesOf (b : Bind) (r : Role) : List Rule := if picks b r then r.rules else []
def pickTo (b : Bind) (l : List Role) (k : Nat) : List Rule := (l.take k).flatMap (rulesOf b)
def bindRules (g : Grants) (u : User) (sp : ByteArray) (b : Bind) : List Rule := if gives b u sp then pickTo b g.roles g.roles.length else []
def heldTo (g : Grants) (u : User) (sp : ByteArray) (k : Nat) : List Rule := (g.binds.take k).flatMap (bindRules g u sp)
def heldL (g : Grants) (u : User) (sp : ByteArray) : List Rule := heldTo g u sp g.binds.length

theorem pickTo_zero (b : Bind) (l : List Role) : pickTo b l 0 = [] := rfl
theorem pickTo_succ {b : Bind} {l : List Role} {k : Nat} (h : k < l.length) : pickTo b l (k + 1) = pickTo b l k ++ rulesOf b l[k] := by
  unfold pickTo
  rw [List.take_succ_eq_append_getElem h, List.flatMap_append]
  simp
theorem heldTo_zero (g : Grants) (u : User) (sp : ByteArray) : heldTo g u sp 0 = [] := rfl
theorem heldTo_succ {g : Grants} {u : User} {sp : ByteArray} {k : Nat} (h : k < g.binds.length) : heldTo g u sp (k + 1) = heldTo g u sp k ++ bindRules g u sp g.binds[k] := by
  unfold heldTo
  rw [List.take_succ_eq_append_getElem h, List.flatMap_append]
  simp

def totalR (l : List Role) : Nat := (l.map fun r => r.rules.length).sum
/-- There are not too many. -/
def Grants.few (g : Grants) : Prop := g.binds.length ≤ 1048575 ∧ totalR g.roles ≤ 1048575

theorem flat_le (b : Bind) (l : List Role) : (l.flatMap (rulesOf b)).length ≤ totalR l := by
  induction l with
  | nil => simp
  | cons r l ih =>
    simp only [List.flatMap_cons, List.length_append, totalR, List.map_cons, List.sum_cons] at *
    have : (rulesOf b r).length ≤ r.rules.length := by
      unfold rulesOf
      split <;> simp
    omega
theorem total_take (l : List Role) (k : Nat) : totalR (l.take k) ≤ totalR l := by
  induction l generalizing k with
  | nil => simp
  | cons r l ih =>
    cases k with
    | zero => simp [totalR]
    | succ k =>
      have := ih k
      simp only [List.take_succ_cons, totalR, List.map_cons, List.sum_cons] at *
      omega
theorem pickTo_le (b : Bind) (l : List Role) (k : Nat) : (pickTo b l k).length ≤ totalR l := Nat.le_trans (flat_le b _) (total_take l k)
theorem heldTo_le (g : Grants) (u : User) (sp : ByteArray) (k : Nat) : (heldTo g u sp k).length ≤ k * totalR g.roles := by
  induction k with
  | zero => simp [heldTo_zero]
  | succ k ih =>
    by_cases h : k < g.binds.length
    · rw [heldTo_succ h, List.length_append, Nat.succ_mul]
      have : (bindRules g u sp g.binds[k]).length ≤ totalR g.roles := by
        unfold bindRules
        split
        · exact pickTo_le _ _ _
        · simp
      omega
    · have e : heldTo g u sp (k + 1) = heldTo g u sp k := by
        unfold heldTo
        rw [List.take_of_length_le (by omega), List.take_of_length_le (by omega)]
      rw [e, Nat.succ_mul]
      omega
theorem heldTo_few {g : Grants} (h : g.few) (u : User) (sp : ByteArray) {k : Nat} (hk : k ≤ g.binds.length) : (heldTo g u sp k).length ≤ 1048575 * 1048575 :=
  Nat.le_trans (heldTo_le g u sp k) (Nat.mul_le_mul (Nat.le_trans hk h.1) h.2)
theorem heldL_few {g : Grants} (h : g.few) (u : User) (sp : ByteArray) : (heldL g u sp).length ≤ 1099511627776 := Nat.le_trans (heldTo_few h u sp (Nat.le_refl _)) (by decide)

theorem RolesAt.at_ {B : Nat} {w : World} {A : Option Addr} {c : Nat} {l : List Role} (h : RolesAt B w (.slice A l.length c) l) {j : Nat} (hj : j < l.length) :
    ∃ b off A1 c1, A = some ⟨b, off, none⟩ ∧ b < B ∧ w.cell? ⟨b, off + j * 3, none⟩ = some (.string l[j].space) ∧ w.cell? ⟨b, off + j * 3 + 1, none⟩ = some (.string l[j].name) ∧ w.cell? ⟨b, off + j * 3 + 2, none⟩ = some (.slice A1 l[j].rules.length c1) ∧
      RulesAt B w (.slice A1 l[j].rules.length c1) l[j].rules := by
  obtain ⟨_, A', c', hv, _, _, hi⟩ := h
  obtain ⟨b, off, cs, hA, hlt, _, ⟨v, rfl, _, _, h3⟩, hc⟩ := hi j hj
  injection hv with e1 _ _
  subst e1 hA
  obtain ⟨c0, c1, c2⟩ := at3 hc
  obtain ⟨_, A1, k1, rfl, _⟩ := id h3
  exact ⟨b, off, A1, k1, rfl, hlt, c0, c1, c2, h3⟩
theorem BindsAt.at_ {B : Nat} {w : World} {A : Option Addr} {c : Nat} {l : List Bind} (h : BindsAt B w (.slice A l.length c) l) {j : Nat} (hj : j < l.length) :
    ∃ b off A1 c1 A2 c2, A = some ⟨b, off, none⟩ ∧ b < B ∧ w.cell? ⟨b, off + j * 6, none⟩ = some (.string l[j].space) ∧ w.cell? ⟨b, off + j * 6 + 1, none⟩ = some (.string l[j].name) ∧ w.cell? ⟨b, off + j * 6 + 2, none⟩ = some (.string l[j].role) ∧ w.cell? ⟨b, off + j * 6 + 3, none⟩ = some (.bool l[j].whole) ∧
      w.cell? ⟨b, off + j * 6 + 4, none⟩ = some (.slice A1 l[j].users.length c1) ∧ w.cell? ⟨b, off + j * 6 + 5, none⟩ = some (.slice A2 l[j].groups.length c2) ∧
      StrsR B w (.slice A1 l[j].users.length c1) l[j].users ∧ StrsR B w (.slice A2 l[j].groups.length c2) l[j].groups := by
  obtain ⟨_, A', c', hv, _, _, hi⟩ := h
  obtain ⟨b, off, cs, hA, hlt, _, ⟨v1, v2, rfl, _, _, _, h4, h5⟩, hc⟩ := hi j hj
  injection hv with e1 _ _
  subst e1 hA
  obtain ⟨c0, c1, c2, c3, c4, c5⟩ := at6 hc
  obtain ⟨_, A1, k1, rfl, _⟩ := id h4
  obtain ⟨_, A2, k2, rfl, _⟩ := id h5
  exact ⟨b, off, A1, k1, A2, k2, rfl, hlt, c0, c1, c2, c3, c4, c5, h4.toR, h5.toR⟩

theorem picks_not {b : Bind} {r : Role} {fr : ByteArray} (hf : fr = fromS b) (h : (eqS r.space fr && eqS r.name b.role) = false) : rulesOf b r = [] := by
  unfold rulesOf picks
  rw [← hf, h]
  rfl
theorem picks_yes {b : Bind} {r : Role} {fr : ByteArray} (hf : fr = fromS b) (h : (eqS r.space fr && eqS r.name b.role) = true) : rulesOf b r = r.rules := by
  unfold rulesOf picks
  rw [← hf, h]
  rfl
end Go.Proofs.YtplfimoeggecjaaDoor.Sx
