/-
  slices.BinarySearch of names that rise: the name's place.
  The program's objects: Get, With.
  The program's objects: With (printed by gen/jb3.py).
-/
import Derived.Test.YtnccefeehkcneaaGreatDoorJca
import Derived.Deep.LoopGhost
import Derived.Lib.Strings
import Derived.Deep.RegionHeld3
import Derived.Test.YtnccefeehkcneaaGreatDoorUreg
import Derived.Deep.Cut
namespace Go.Proofs.YtnccefeehkcneaaGreatDoor.Jm
open Go Go.RowKit Go.Proofs.YtnccefeehkcneaaGreatDoor.Sx Go.Proofs.YtnccefeehkcneaaGreatDoor.Js Go.Proofs.YtnccefeehkcneaaGreatDoor.Gr
theorem less_lt : ∀ (x y : Tx), Op.bytesLess x y = decide (x < y)
  | [], [] => by simp [Op.bytesLess]
  | _ :: _, [] => by simp [Op.bytesLess]
  | [], _ :: _ => by simp [Op.bytesLess]
  | a :: x, b :: y => by
    rw [Op.bytesLess, less_lt x y]
    simp only [List.cons_lt_cons_iff]
    by_cases h1 : a < b <;> by_cases h2 : a = b <;> by_cases h3 : x < y <;> simp [h1, h2, h3]
theorem bx_less (x y : Tx) : Op.bytesLess (bx x).toList (bx y).toList = decide (x < y) := by rw [bx_list, bx_list, less_lt]
theorem bx_beq (x y : Tx) : ((bx x).toList == (bx y).toList) = decide (x = y) := by
  rw [bx_list, bx_list, Bool.eq_iff_iff, beq_iff_eq, decide_eq_true_eq]
theorem bx_bne (x : ByteArray) : (x.toList != x.toList) = false := by simp
set_option maxHeartbeats 1000000 in
theorem nanS_any (x : ByteArray) (w : World) : Calls Tryz.prog 135 #[.string x] w fun e w' => e = .returned (.bool false) ∧ w = w' := by
  have h := bx_bne x
  go_enter Tryz.func135, Tryz.ntmps135
  go_wp2
  go_ret
  exact ⟨rfl, rfl⟩
set_option maxHeartbeats 1000000 in
theorem nanC_any (x : ByteArray) (w : World) : Calls Tryz.prog 178 #[.string x] w fun e w' => e = .returned (.bool false) ∧ w = w' := by
  have h := bx_bne x
  go_enter Tryz.func178, Tryz.ntmps178
  go_wp2
  go_ret
  exact ⟨rfl, rfl⟩
set_option maxHeartbeats 1000000 in
theorem less_any (x y : Tx) (w : World) : Calls Tryz.prog 134 #[.string (bx x), .string (bx y)] w fun e w' => e = .returned (.bool (decide (x < y))) ∧ w = w' := by
  have h := bx_less x y
  obtain ⟨b, hb⟩ : ∃ b, b = decide (x < y) := ⟨_, rfl⟩
  rw [← hb] at h
  rw [← hb]
  clear hb
  go_enter Tryz.func134, Tryz.ntmps134
  go_wp2_with (go_at_call 178; refine (nanC_any _ _).mono ?_; rintro e w' ⟨rfl, rfl⟩)
  go_ret
  exact ⟨rfl, rfl⟩
set_option maxRecDepth 100000 in
set_option maxHeartbeats 4000000 in
theorem search_any (F : Nat → Prop) (A : Option Addr) (n c : Nat) (ns : List Tx) (t : Tx) (w : World) (hn : ns.length = n) (h : NamesAt F w A ns) (hr : Rise ns) (hsm : n ≤ 1048576) :
    Calls Tryz.prog 88 #[.slice A n c, .string (bx t)] w fun e w' => e = .returned (.tuple #[.int .i64 ((place ns t : Nat) : Int), .bool (decide (t ∈ ns))]) ∧ w = w' := by
  have H := Lib.hid h
  have HN := Lib.hid hn
  have HP := Lib.hid (place_spec hr t)
  have hpl := place_le ns t
  have HM := Lib.hid (place_mem hr t)
  obtain ⟨p, hp⟩ : ∃ p, p = place ns t := ⟨_, rfl⟩
  rw [← hp] at HP hpl HM
  rw [← hp]
  have hpn : p ≤ n := by omega
  clear h hn hp hpl hr
  go_enter Tryz.func88, Tryz.ntmps88
  go_wp2_with fail
  go_loopw [7, 8] (fun a b wr => ∃ lo hi : Nat, a = .int .i64 (lo : Int) ∧ b = .int .i64 (hi : Int) ∧ lo ≤ p ∧ p ≤ hi ∧ hi ≤ n ∧ w = wr) (fun a b _ => (intOf b - intOf a).toNat)
  case atStart => exact ⟨0, n, rfl, rfl, Nat.zero_le _, hpn, Nat.le_refl _, rfl⟩
  case round =>
    obtain ⟨lo, hi, rfl, rfl, hlo, hhi, hin, rfl⟩ := hrel
    by_cases hlt : lo < hi
    · have hm : (lo + hi) / 2 < ns.length := by have := HN.out; omega
      obtain ⟨g, off, hA, _, cm⟩ := H.out ((lo + hi) / 2) hm
      have hsp := HP.out _ hm
      obtain ⟨y, hy⟩ : ∃ y, y = ns[(lo + hi) / 2] := ⟨_, rfl⟩
      rw [← hy] at cm hsp
      subst hA
      clear hm hy
      by_cases hyt : y < t
      · have CL : Hid (Calls Tryz.prog 134 #[.string (bx y), .string (bx t)] w fun e w' => e = .returned (.bool true) ∧ w = w') := by have h := less_any y t w; rw [decide_eq_true hyt] at h; exact h
        have hlp := hsp.2 hyt
        clear hyt hsp
        go_wp2_with (go_at_call 134; refine CL.out.mono ?_; rintro e w' ⟨rfl, rfl⟩)
        go_roundw
        case rel => exact ⟨(lo + hi) / 2 + 1, hi, by rw [show ((lo : Int) + (hi : Int)) / 2 + 1 = (((lo + hi) / 2 + 1 : Nat) : Int) by omega], rfl, by omega, hhi, hin, (by first | rfl | trivial)⟩
        case measure => simp [intOf]; omega
      · have CL : Hid (Calls Tryz.prog 134 #[.string (bx y), .string (bx t)] w fun e w' => e = .returned (.bool false) ∧ w = w') := by have h := less_any y t w; rw [decide_eq_false hyt] at h; exact h
        have hlp : ¬ (lo + hi) / 2 < p := fun h => hyt (hsp.1 h)
        clear hyt hsp
        go_wp2_with (go_at_call 134; refine CL.out.mono ?_; rintro e w' ⟨rfl, rfl⟩)
        go_roundw
        case rel => exact ⟨lo, (lo + hi) / 2, rfl, by rw [show ((lo : Int) + (hi : Int)) / 2 = (((lo + hi) / 2 : Nat) : Int) by omega], hlo, by omega, by omega, (by first | rfl | trivial)⟩
        case measure => simp [intOf]; omega
    · obtain rfl : lo = p := by omega
      obtain rfl : hi = lo := by omega
      by_cases hl : hi < n
      · have hm : hi < ns.length := by have := HN.out; omega
        obtain ⟨g, off, hA, _, cm⟩ := H.out hi hm
        obtain ⟨y, hy⟩ : ∃ y, y = ns[hi] := ⟨_, rfl⟩
        rw [← hy] at cm
        subst hA
        have hb := bx_beq y t
        by_cases hyt : y = t
        · have HE : Hid (decide (t ∈ ns) = true) := decide_eq_true (HM.out.2 ⟨hm, by rw [← hy]; exact hyt⟩)
          rw [decide_eq_true hyt] at hb
          clear hyt hy hm
          go_wp2_with (go_at_call 135; refine (nanS_any _ _).mono ?_; rintro e w' ⟨rfl, rfl⟩)
          go_ret2
          exact ⟨by rw [HE.out]; rfl, rfl⟩
        · have HE : Hid (decide (t ∈ ns) = false) := decide_eq_false (fun h => by obtain ⟨h1, h2⟩ := HM.out.1 h; exact hyt (by rw [hy]; exact h2))
          rw [decide_eq_false hyt] at hb
          clear hyt hy hm
          go_wp2_with (go_at_call 135; refine (nanS_any _ _).mono ?_; rintro e w' ⟨rfl, rfl⟩)
          go_ret2
          exact ⟨by rw [HE.out]; rfl, rfl⟩
      · have HE : Hid (decide (t ∈ ns) = false) := decide_eq_false (fun h => by obtain ⟨h1, h2⟩ := HM.out.1 h; have := HN.out; omega)
        go_wp2_with (go_at_call 135; refine (nanS_any _ _).mono ?_; rintro e w' ⟨rfl, rfl⟩)
        go_ret2
        exact ⟨by rw [HE.out]; rfl, rfl⟩
end Go.Proofs.YtnccefeehkcneaaGreatDoor.Jm
namespace Go.Proofs.YtnccefeehkcneaaGreatDoor.Jm
open Go Go.RowKit Go.Proofs.YtnccefeehkcneaaGreatDoor.Sx Go.Proofs.YtnccefeehkcneaaGreatDoor.Js Go.Proofs.YtnccefeehkcneaaGreatDoor.Gr
def GetPost (F : Nat → Prop) (w : World) (ns : List Tx) (l : List J) (t : Tx) (e : Ending) (w' : World) : Prop :=
  w = w' ∧ ((t ∉ ns ∧ e = .returned (.tuple #[.nilIface, .bool false])) ∨ ∃ (h : place ns t < l.length) (u : Value), t ∈ ns ∧ PV F w l[place ns t] u ∧ e = .returned (.tuple #[u, .bool true]))
set_option maxRecDepth 100000 in
set_option maxHeartbeats 2000000 in
theorem get_any (F : Nat → Prop) (b : Nat) (ns : List Tx) (l : List J) (t : Tx) (w : World) (ho : ObjAt F w b ns l) (hw : ns.length = l.length) (hr : Rise ns) (hsm : l.length ≤ 1048576) :
    Calls Tryz.prog 34 #[.pointer (some ⟨b, 0, none⟩), .string (bx t)] w (GetPost F w ns l t) := by
  obtain ⟨A, c, B, d, hh, hc, hd, hN, hV⟩ := ho
  have z0 : w.cell? ⟨b, 0, none⟩ = some (.slice A ns.length c) := cell_of hh 0
  have z1 : w.cell? ⟨b, 1, none⟩ = some (.slice B l.length d) := cell_of hh 1
  have CS := Lib.hid (search_any F A ns.length c ns t w rfl hN hr (by omega))
  obtain ⟨p, hp⟩ : ∃ p, p = place ns t := ⟨_, rfl⟩
  have HP := Lib.hid hp
  have HM := Lib.hid (place_mem hr t)
  have HV := Lib.hid hV
  rw [← hp] at CS
  have HW := Lib.hid hw
  clear hN hV hh hr hw
  by_cases ht : t ∈ ns
  · rw [decide_eq_true ht] at CS
    have hpl : p < l.length := by
      obtain ⟨h1, _⟩ := HM.out.1 ht
      rw [← hp] at h1
      have := HW.out
      omega
    obtain ⟨g, off, u, rfl, _, hu, hpv⟩ := HV.out p hpl
    have HU : Hid (∃ (h : place ns t < l.length) (v : Value), t ∈ ns ∧ PV F w l[place ns t] v ∧ Ending.returned (.tuple #[u, .bool true]) = .returned (.tuple #[v, .bool true])) := by
      subst hp
      exact ⟨hpl, u, ht, hpv, rfl⟩
    have hp0 : (0 : Int) ≤ (p : Int) := by omega
    have hpI : (p : Int) < (l.length : Int) := by omega
    clear hpv ht hp
    go_enter Tryz.func34, Tryz.ntmps34
    go_wp2_with (go_at_call 88; refine CS.out.mono ?_; rintro e w' ⟨rfl, rfl⟩)
    go_ret2
    exact ⟨rfl, .inr HU.out⟩
  · rw [decide_eq_false ht] at CS
    have HT := Lib.hid ht
    clear ht hp
    go_enter Tryz.func34, Tryz.ntmps34
    go_wp2_with (go_at_call 88; refine CS.out.mono ?_; rintro e w' ⟨rfl, rfl⟩)
    go_ret2
    exact ⟨rfl, .inl ⟨HT.out, rfl⟩⟩
theorem cells_names {F : Nat → Prop} {w : World} {A : Option Addr} {ns : List Tx} (h : NamesAt F w A ns) : CellsAt w A (ns.map fun n => Value.string (bx n)) := fun i hi => by
  obtain ⟨g, off, hA, _, hc⟩ := h i (by simpa using hi)
  exact ⟨g, off, hA, by rw [hc, List.getElem_map]⟩
/-- The values at A, cell by cell. -/
theorem cells_vals {F : Nat → Prop} {w : World} {A : Option Addr} {l : List J} (h : ValsAt F w A l) : ∃ us : List Value, us.length = l.length ∧ CellsAt w A us ∧ ∀ i (hi : i < l.length) (hu : i < us.length), PV F w l[i] us[i] := by
  refine ⟨(List.range l.length).map fun i => if hi : i < l.length then (h i hi).choose_spec.choose_spec.choose else .nilIface, by simp, fun i hi => ?_, fun i hi hu => ?_⟩
  · have hi' : i < l.length := by simpa using hi
    obtain ⟨hA, _, hc, _⟩ := (h i hi').choose_spec.choose_spec.choose_spec
    refine ⟨_, _, hA, ?_⟩
    rw [hc]
    simp [hi']
  · have hs := (h i hi).choose_spec.choose_spec.choose_spec.2.2.2
    simpa [hi] using hs
theorem PV.one {F : Nat → Prop} {w : World} {j : J} {v : Value} (h : PV F w j v) : v.oneCell' = true := by
  cases j with
  | null => rw [PV_null.1 h]; rfl
  | bool b => rw [PV_bool.1 h]; rfl
  | num n => rw [(PV_num.1 h).1]; rfl
  | text s => rw [PV_text.1 h]; rfl
  | list l => obtain ⟨A, c, e, _⟩ := PV_list.1 h; rw [e]; rfl
  | obj ns l => obtain ⟨b, e, _⟩ := PV_obj.1 h; rw [e]; rfl
end Go.Proofs.YtnccefeehkcneaaGreatDoor.Jm
namespace Go.Proofs.YtnccefeehkcneaaGreatDoor.Jm
open Go Go.RowKit Go.Proofs.YtnccefeehkcneaaGreatDoor.Sx Go.Proofs.YtnccefeehkcneaaGreatDoor.Js Go.Proofs.YtnccefeehkcneaaGreatDoor.Gr Go.Proofs.YtnccefeehkcneaaGreatDoor.Ur
theorem ext_al {w W : World} {o : Obj} (h : Ext w W) : Ext w (W.alloc o) := h.trans (new_ext _ _)
theorem ext_dr {w W : World} (h : Ext w W) : Ext w W.drew := h.drew
theorem ext_setCell {w W : World} {g o : Nat} {v : Value} (h : Ext w W) (hg : w.heap.size ≤ g) : Ext w (W.setCell ⟨g, o, none⟩ v) := Below.setCell h (by exact hg) _
def WithPost (F : Nat → Prop) (w : World) (ns : List Tx) (l : List J) (e : Ending) (w' : World) : Prop :=
  ∃ b, e = .returned (.pointer (some ⟨b, 0, none⟩)) ∧ w.heap.size ≤ b ∧ ObjAt (fun g => F g ∨ w.heap.size ≤ g) w' b ns l ∧ Ext w w'
theorem PV.shape {F : Nat → Prop} {w : World} {j : J} {v : Value} (h : PV F w j v) : v = .nilIface ∨ ∃ t x, v = .iface t x := by
  cases j with
  | null => exact .inl (PV_null.1 h)
  | bool b => exact .inr ⟨_, _, PV_bool.1 h⟩
  | num n => exact .inr ⟨_, _, (PV_num.1 h).1⟩
  | text s => exact .inr ⟨_, _, PV_text.1 h⟩
  | list l => obtain ⟨A, c, e, _⟩ := PV_list.1 h; exact .inr ⟨_, _, e⟩
  | obj ns l => obtain ⟨b, e, _⟩ := PV_obj.1 h; exact .inr ⟨_, _, e⟩
abbrev strT' : Nat := 9
def strW (n : Tx) : Value := .string (bx n)
/-- The names' row is laid; both rows are laid. -/
def WA (w W : World) (nv : Value) (zs : List (List Value)) : Prop := Ext w W ∧ GRow strT' 1 w.heap.size W nv zs
def WB (w W : World) (nv lv : Value) (zs us : List (List Value)) : Prop := Ext w W ∧ GRow strT' 1 w.heap.size W nv zs ∧ GRow valT 1 w.heap.size W lv us ∧ ∀ g, nv.ownBlock = some g → lv.ownBlock ≠ some g
section
variable {w W V : World} {nv lv : Value} {zs us : List (List Value)}
theorem WA.ext (h : WA w W nv zs) (hx : Ext W V) : WA w V nv zs := ⟨h.1.trans hx, h.2.ext hx⟩
theorem WA.alloc (h : WA w W nv zs) {o : Obj} : WA w (W.alloc o) nv zs := h.ext (new_ext _ _)
theorem WA.drew (h : WA w W nv zs) : WA w W.drew nv zs := h.ext (Below.refl _ _).drew
theorem WB.ext (h : WB w W nv lv zs us) (hx : Ext W V) : WB w V nv lv zs us := ⟨h.1.trans hx, h.2.1.ext hx, h.2.2.1.ext hx, h.2.2.2⟩
theorem WB.alloc (h : WB w W nv lv zs us) {o : Obj} : WB w (W.alloc o) nv lv zs us := h.ext (new_ext _ _)
theorem WB.drew (h : WB w W nv lv zs us) : WB w W.drew nv lv zs us := h.ext (Below.refl _ _).drew
end
theorem ext_keeps {W V : World} (h : Ext W V) : ∀ (b : Nat) (o : Obj), W.heap[b]? = some o → V.heap[b]? = some o := fun b _ e => (h.block b (heap_lt e)).trans e
/-- The values' cells read as these values. -/
def PVs (F : Nat → Prop) (w : World) (l : List J) (us : List Value) : Prop := us.length = l.length ∧ ∀ i (hi : i < l.length) (hu : i < us.length), PV F w l[i] us[i]
theorem PVs.ins {F : Nat → Prop} {w : World} {l : List J} {us : List Value} (h : PVs F w l us) {j : J} {v : Value} (hv : PV F w j v) {p : Nat} (hp : p ≤ l.length) : PVs F w (l.insertIdx p j) (us.insertIdx p v) := by
  refine ⟨by rw [List.length_insertIdx_of_le_length hp, List.length_insertIdx_of_le_length (by rw [h.1]; exact hp), h.1], fun i hi hu => ?_⟩
  have hl := List.length_insertIdx_of_le_length hp j
  have hul := List.length_insertIdx_of_le_length (show p ≤ us.length by rw [h.1]; exact hp) v
  have h1 := h.1
  by_cases hip : i < p
  · rw [List.getElem_insertIdx_of_lt hip, List.getElem_insertIdx_of_lt hip]
    exact h.2 i (by omega) (by omega)
  · by_cases he : i = p
    · subst he
      rw [List.getElem_insertIdx_self, List.getElem_insertIdx_self]
      exact hv
    · rw [List.getElem_insertIdx_of_gt (by omega), List.getElem_insertIdx_of_gt (by omega)]
      exact h.2 (i - 1) (by omega) (by omega)
theorem PVs.set {F : Nat → Prop} {w : World} {l : List J} {us : List Value} (h : PVs F w l us) {j : J} {v : Value} (hv : PV F w j v) (p : Nat) : PVs F w (l.set p j) (us.set p v) := by
  refine ⟨by rw [List.length_set, List.length_set, h.1], fun i hi hu => ?_⟩
  rw [List.getElem_set, List.getElem_set]
  split
  · exact hv
  · exact h.2 i (by simpa using hi) (by simpa using hu)
theorem names_ins (ns : List Tx) (t : Tx) (p : Nat) (hp : p ≤ ns.length) : (ns.map strW).insertIdx p (strW t) = (ns.insertIdx p t).map strW := by
  rw [ins_eq _ _ _ (by rw [List.length_map]; exact hp), ins_eq _ _ _ hp, List.map_append, List.map_cons, List.map_take, List.map_drop]
theorem names_grow {_w W : World} {A : Option Addr} {n c base : Nat} {ns : List Tx} {F : Nat → Prop} (h : GRow strT' 1 base W (.slice A n c) (one (ns.map strW))) (hF : ∀ g, base ≤ g → F g) : n = ns.length ∧ ns.length ≤ c ∧ NamesAt F W A ns := by
  obtain ⟨A', c', e, hc⟩ := h.slice
  injection e with e1 e2 e3
  have l1 : (one (ns.map strW)).length = ns.length := by rw [one_len, List.length_map]
  rw [l1] at e2 hc
  refine ⟨e2, by omega, fun i hi => ?_⟩
  obtain ⟨g, hA, _, hb, _, hcell⟩ := h.at_ (k := i) (by rw [l1]; exact hi)
  refine ⟨g, 0, hA, hF g hb, ?_⟩
  have := hcell 0 (strW ns[i]) (by simp [one])
  rw [Nat.mul_one, Nat.add_zero] at this
  rw [Nat.zero_add]
  exact this
theorem vals_grow {w W : World} {A : Option Addr} {n c base : Nat} {l : List J} {us : List Value} {F F' : Nat → Prop} (h : GRow valT 1 base W (.slice A n c) (one us)) (hp : PVs F w l us) (hx : Ext w W) (hF : ∀ g, F g → F' g) (hb : ∀ g, base ≤ g → F' g) : n = l.length ∧ l.length ≤ c ∧ ValsAt F' W A l := by
  obtain ⟨A', c', e, hc⟩ := h.slice
  injection e with e1 e2 e3
  have h1 := hp.1
  rw [one_len] at e2 hc
  refine ⟨by omega, by omega, fun i hi => ?_⟩
  obtain ⟨g, hA, _, hbg, _, hcell⟩ := h.at_ (k := i) (by rw [one_len]; omega)
  refine ⟨g, 0, us[i]'(by omega), hA, hb g hbg, ?_, PV.keep (fun b _ hlt => hx.block b hlt) (fun b h _ => hF b h) _ _ (hp.2 i hi (by omega))⟩
  have := hcell 0 (us[i]'(by omega)) (by simp [one])
  rw [Nat.mul_one, Nat.add_zero] at this
  rw [Nat.zero_add]
  exact this
/-- The new object. -/
theorem obj_new {F : Nat → Prop} {w W : World} {A B : Option Addr} {n c d : Nat} {NS us : List Value} {ns : List Tx} {l : List J} (h : WB w W (.slice A n c) (.slice B n d) (one NS) (one us)) (hN : NS = ns.map strW) (hp : PVs F w l us) (h1 : n = ns.length) (h2 : n = l.length) :
    ObjAt (fun g => F g ∨ w.heap.size ≤ g) (W.alloc (.cells #[.slice A n c, .slice B n d] objT (0, 0))) W.heap.size ns l := by
  obtain ⟨hx, r1, r2, _⟩ := h
  subst hN
  have hx2 : Ext W (W.alloc (.cells #[.slice A n c, .slice B n d] objT (0, 0))) := new_ext _ _
  obtain ⟨_, q2, q3⟩ := names_grow (_w := w) (r1.ext hx2) (F := fun g => F g ∨ w.heap.size ≤ g) (fun g hg => .inr hg)
  obtain ⟨_, q5, q6⟩ := vals_grow (w := w) (r2.ext hx2) hp (hx.trans hx2) (F' := fun g => F g ∨ w.heap.size ≤ g) (fun g hg => .inl hg) (fun g hg => .inr hg)
  exact ⟨A, c, B, d, by rw [← h1, ← h2]; exact heap_new rfl, q2, q5, q3, q6⟩
theorem grow_set {et base : Nat} {w : World} {A : Option Addr} {n c p : Nat} {us : List Value} (h : GRow et 1 base w (.slice A n c) (one us)) (hp : p < us.length) {v : Value} (hv : v.oneCell' = true) : ∃ g, A = some ⟨g, 0, none⟩ ∧ base ≤ g ∧ g < w.heap.size ∧ w.cell? ⟨g, p, none⟩ = some us[p] ∧ w.frozen? ⟨g, p, none⟩ = false ∧ GRow et 1 base (w.setCell ⟨g, p, none⟩ v) (.slice A n c) (one (us.set p v)) := by
  obtain ⟨hn, ⟨_, h0, _⟩ | ⟨g, rest, rfl, hb, hg, hc, hm⟩⟩ := grow_to h
  · subst h0; simp at hp
  · have h1 := one_cells h.1
    refine ⟨g, rfl, hb, heap_lt hg, ?_, frozen_of hg, ?_⟩
    · rw [cell_at hg (by rw [List.length_append]; omega), List.getElem_append_left hp]
    · have e : us.set p v = us.take p ++ v :: us.drop (p + 1) := by rw [List.set_eq_take_append_cons_drop, if_pos hp]
      have e0 : us = us.take p ++ [us[p]] ++ us.drop (p + 1) := by simp
      have hl : (us.take p).length = p := by rw [List.length_take]; omega
      have hg2 : w.heap[g]? = some (.cells (us.take p ++ [us[p]] ++ (us.drop (p + 1) ++ rest)).toArray et (0, 0)) := by rw [← List.append_assoc, ← e0]; exact hg
      have hs := heap_setCells [v] (us.take p) [us[p]] (us.drop (p + 1) ++ rest) w rfl hg2
      rw [hl] at hs
      refine grow_of (rest := rest) (fun u hu => ?_) hb ?_ (by rw [List.length_set]; exact hn.symm) hc hm
      · rcases List.mem_or_eq_of_mem_set hu with h2 | rfl
        · exact h1 u h2
        · exact hv
      · rw [e]
        simpa [World.setCells] using hs
set_option maxRecDepth 100000 in
set_option maxHeartbeats 8000000 in
theorem with_old (F : Nat → Prop) (b : Nat) (ns : List Tx) (l : List J) (t : Tx) (j : J) (v : Value) (w : World) (ho : ObjAt F w b ns l) (hw : ns.length = l.length) (hr : Rise ns) (hsm : l.length ≤ 1048570) (hv : PV F w j v) (ht : t ∈ ns) :
    Calls Tryz.prog 35 #[.pointer (some ⟨b, 0, none⟩), .string (bx t), v] w (WithPost F w ns (l.set (place ns t) j)) := by
  obtain ⟨A, c, B, d, hh, hc, hd, hN, hV⟩ := ho
  have CS := Lib.hid (search_any F A ns.length c ns t w rfl hN hr (by omega))
  rw [decide_eq_true ht] at CS
  obtain ⟨p, hp⟩ : ∃ p, p = place ns t := ⟨_, rfl⟩
  have hpn : p < ns.length := by obtain ⟨h1, _⟩ := (place_mem hr t).1 ht; rw [hp]; exact h1
  rw [← hp] at CS ⊢
  obtain ⟨us, hus, hcu, hpu⟩ := cells_vals hV
  have h1u : ∀ u ∈ us, u.oneCell' = true := fun u hu => by
    obtain ⟨i, hi, rfl⟩ := List.mem_iff_getElem.1 hu
    exact (hpu i (by omega) hi).one
  obtain ⟨n, hn⟩ : ∃ n, n = ns.length := ⟨_, rfl⟩
  have hln : l.length = n := by omega
  have hbl := heap_lt hh
  have HS : Hid (∀ W, Ext w W → W.cell? ⟨b, 0, none⟩ = some (.slice A n c) ∧ W.cell? ⟨b, 1, none⟩ = some (.slice B n d)) := fun W hW => by
    have h0 : w.cell? ⟨b, 0, none⟩ = some (.slice A n c) := by rw [hn]; exact cell_of hh 0
    have h1 : w.cell? ⟨b, 1, none⟩ = some (.slice B n d) := by rw [← hln]; exact cell_of hh 1
    exact ⟨(cell_keep (hW.block b hbl)).trans h0, (cell_keep (hW.block b hbl)).trans h1⟩
  have CC2 : Hid (Calls Tryz.prog 87 #[.slice B n d] w fun e w' => ∃ A' c', e = .returned (.slice A' n c') ∧ Ext w w' ∧ GRow valT 1 w.heap.size w' (.slice A' n c') (one us)) :=
    (clone_vals B n d us w (by omega) h1u hcu (by omega)).mono fun e w' ⟨A', c', he, hr, hx⟩ => ⟨A', c', he, hx, hr⟩
  have HPV : Hid (PVs F w (l.set p j) (us.set p v)) := PVs.set ⟨hus, hpu⟩ hv p
  have HO : Hid (n = ns.length ∧ l.length = n ∧ us.length = l.length ∧ p < n ∧ NamesAt F w A ns ∧ ns.length ≤ c) := ⟨hn, hln, hus, by omega, hN, hc⟩
  have HV1 : Hid (v.oneCell' = true) := hv.one
  have HVS := Lib.hid hv.shape
  rw [← hn] at CS
  have z0 := (HS.out w (Below.refl _ _)).1
  have z1 := (HS.out w (Below.refl _ _)).2
  have hp0 : (0 : Int) ≤ (p : Int) := by omega
  have hpI : (p : Int) < (n : Int) := by omega
  have hpN : p < n := by omega
  clear hn hln hus hp hw hcu hpu h1u hh hN hV hr ht hv hc hd hbl hpn
  go_enter Tryz.func35, Tryz.ntmps35
  go_wp2_with (go_at_call 88; refine CS.out.mono ?_; rintro e w' ⟨rfl, rfl⟩)
  refine Calls.mono CC2.out ?_
  rintro e w2 ⟨A9, c9, rfl, hx2, hr2⟩
  have HX2 := Lib.hid hx2
  obtain ⟨g9, rfl, hb9, hlt9, hcell9, hfr9, hg9⟩ := grow_set hr2 (p := p) (v := v) (by have := HO.out; omega) HV1.out
  have HG9 := Lib.hid hg9
  have HB9 := Lib.hid hb9
  obtain ⟨y, hy⟩ : ∃ y, y = us[p]'(by have := HO.out; omega) := ⟨_, rfl⟩
  rw [← hy] at hcell9
  clear hx2 hr2 hb9 hg9 hy z0 z1
  obtain ⟨vs, hvs⟩ : ∃ vs, vs = us.set p v := ⟨_, rfl⟩
  rw [← hvs] at HG9 HPV
  clear hvs HV1
  rcases HVS.out with rfl | ⟨tv, xv, rfl⟩
  all_goals
    go_upto_region 5 with (fail)
    generalize hW : World.setCell w2 _ _ = w3
    have HX3 : Hid (Ext w w3) := by unfold Hid; rw [← hW]; exact ext_setCell HX2.out HB9.out
    have HR3 : Hid (GRow valT 1 w.heap.size w3 (.slice (some ⟨g9, 0, none⟩) n c9) (one vs)) := by unfold Hid; rw [← hW]; exact HG9.out
    clear hW hcell9 hfr9 hlt9
    have z0 := (HS.out w3 HX3.out).1
    go_wp2_with fail
    go_ret
    have hx4 : Ext w3 (w3.alloc (.cells #[.slice A n c, .slice (some ⟨g9, 0, none⟩) n c9] objT (0, 0))) := new_ext _ _
    have hV := vals_grow (w := w) (HR3.out.ext hx4) HPV.out (HX3.out.trans hx4) (F' := fun g => F g ∨ w.heap.size ≤ g) (fun g hg => .inl hg) (fun g hg => .inr hg)
    have hO := HO.out
    refine ⟨_, rfl, HX3.out.size, ⟨A, c, some ⟨g9, 0, none⟩, c9, ?_, hO.2.2.2.2.2, hV.2.1, NamesAt.keep hO.2.2.2.2.1 (fun b _ hlt => (HX3.out.trans hx4).block b hlt) (fun b hb _ => .inl hb), hV.2.2⟩, HX3.out.trans hx4⟩
    rw [← hV.1, ← hO.1]
    exact heap_new rfl
end Go.Proofs.YtnccefeehkcneaaGreatDoor.Jm
