/-
  The program's objects: Get, With.
-/
import Derived.Test.YtahinicpceokcaaGreatDoorJb1
import Derived.Test.YtahinicpceokcaaGreatDoorJcS
import Derived.Test.YtahinicpceokcaaGreatDoorJcV
import Derived.Deep.RegionHeld3
namespace Go.Proofs.YtahinicpceokcaaGreatDoor.Jm
open Go Go.RowKit Go.Proofs.YtahinicpceokcaaGreatDoor.Sx Go.Proofs.YtahinicpceokcaaGreatDoor.Js Go.Proofs.YtahinicpceokcaaGreatDoor.Gr

def GetPost (F : Nat → Prop) (w : World) (ns : List Tx) (l : List J) (t : Tx) (e : Ending) (w' : World) : Prop :=
  w = w' ∧ ((t ∉ ns ∧ e = .returned (.tuple #[.nilIface, .bool false])) ∨ ∃ (h : place ns t < l.length) (u : Value), t ∈ ns ∧ PV F w l[place ns t] u ∧ e = .returned (.tuple #[u, .bool true]))

set_option maxRecDepth 100000 in
set_option maxHeartbeats 2000000 in
theorem get_any (F : Nat → Prop) (b : Nat) (ns : List Tx) (l : List J) (t : Tx) (w : World) (ho : ObjAt F w b ns l) (hw : ns.length = l.length) (hr : Rise ns) (hsm : l.length ≤ 1048576) :
    Calls Tryz.prog 79 #[.pointer (some ⟨b, 0, none⟩), .string (bx t)] w (GetPost F w ns l t) := by
  obtain ⟨A, c, B, d, hh, hc, hd, hN, hV⟩ := ho
  have z0 : w.cell? ⟨b, 0, none⟩ = some (.slice A ns.length c) := cell_of hh 0
  have z1 : w.cell? ⟨b, 1, none⟩ = some (.slice B l.length d) := cell_of hh 1
  have CS := Lib.hid (search_any F A ns.length c ns t w rfl hN hr (by omega))
  obtain ⟨p, hp⟩ : ∃ p, p = place ns t := ⟨_, rfl⟩
  have HP := Lib.hid hp
  have HM := Lib.hid (place_mem hr t)
  have HV := Lib.hid hV
  rw [← hp] at CS
  have HW := Lib.hid hw
  clear hN hV hh hr hw
  by_cases ht : t ∈ ns
  · rw [decide_eq_true ht] at CS
    have hpl : p < l.length := by
      obtain ⟨h1, _⟩ := HM.out.1 ht
      rw [← hp] at h1
      have := HW.out
      omega
    obtain ⟨g, off, u, rfl, _, hu, hpv⟩ := HV.out p hpl
    have HU : Hid (∃ (h : place ns t < l.length) (v : Value), t ∈ ns ∧ PV F w l[place ns t] v ∧ Ending.returned (.tuple #[u, .bool true]) = .returned (.tuple #[v, .bool true])) := by
      subst hp
      exact ⟨hpl, u, ht, hpv, rfl⟩
    have hp0 : (0 : Int) ≤ (p : Int) := by omega
    have hpI : (p : Int) < (l.length : Int) := by omega
    clear hpv ht hp
    go_enter Tryz.func79, Tryz.ntmps79
    go_wp2_with (go_at_call 119; refine CS.out.mono ?_; rintro e w' ⟨rfl, rfl⟩)
    go_ret2
    exact ⟨rfl, .inr HU.out⟩
  · rw [decide_eq_false ht] at CS
    have HT := Lib.hid ht
    clear ht hp
    go_enter Tryz.func79, Tryz.ntmps79
    go_wp2_with (go_at_call 119; refine CS.out.mono ?_; rintro e w' ⟨rfl, rfl⟩)
    go_ret2
    exact ⟨rfl, .inl ⟨HT.out, rfl⟩⟩

theorem cells_names {F : Nat → Prop} {w : World} {A : Option Addr} {ns : List Tx} (h : NamesAt F w A ns) : CellsAt w A (ns.map fun n => Value.string (bx n)) := fun i hi => by
  obtain ⟨g, off, hA, _, hc⟩ := h i (by simpa using hi)
  exact ⟨g, off, hA, by rw [hc, List.getElem_map]⟩
/-- The values at A, cell by cell. -/
theorem cells_vals {F : Nat → Prop} {w : World} {A : Option Addr} {l : List J} (h : ValsAt F w A l) : ∃ us : List Value, us.length = l.length ∧ CellsAt w A us ∧ ∀ i (hi : i < l.length) (hu : i < us.length), PV F w l[i] us[i] := by
  refine ⟨(List.range l.length).map fun i => if hi : i < l.length then (h i hi).choose_spec.choose_spec.choose else .nilIface, by simp, fun i hi => ?_, fun i hi hu => ?_⟩
  · have hi' : i < l.length := by simpa using hi
    obtain ⟨hA, _, hc, _⟩ := (h i hi').choose_spec.choose_spec.choose_spec
    refine ⟨_, _, hA, ?_⟩
    rw [hc]
    simp [hi']
  · have hs := (h i hi).choose_spec.choose_spec.choose_spec.2.2.2
    simpa [hi] using hs
theorem PV.one {F : Nat → Prop} {w : World} {j : J} {v : Value} (h : PV F w j v) : v.oneCell' = true := by
  cases j with
  | null => rw [PV_null.1 h]; rfl
  | bool b => rw [PV_bool.1 h]; rfl
  | num n => rw [(PV_num.1 h).1]; rfl
  | text s => rw [PV_text.1 h]; rfl
  | list l => obtain ⟨A, c, e, _⟩ := PV_list.1 h; rw [e]; rfl
  | obj ns l => obtain ⟨b, e, _⟩ := PV_obj.1 h; rw [e]; rfl
end Go.Proofs.YtahinicpceokcaaGreatDoor.Jm
