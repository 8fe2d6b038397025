/-
  Entries of the log in plain words; the program's check of one.
  Entries of the log: Line of the program.
  Entries of the log: Parse in plain words; the helpers of its walks.
-/
import Derived.Test.YtplfimoeggecjaaGreatDoorSck
import Derived.Test.YtplfimoeggecjaaGreatDoorTkA
import Derived.BigGuardPart
import Derived.Deep.RegionHeld3
import Derived.Test.YtplfimoeggecjaaGreatDoorPrt
namespace Go.Proofs.YtplfimoeggecjaaGreatDoor.Sx
open Go Go.RowKit Go.Lib Go.Proofs.YtplfimoeggecjaaGreatDoor.Dc Go.Proofs.YtplfimoeggecjaaGreatDoor.Tk

structure Ent where
  who : ByteArray
  verb : ByteArray
  kind : ByteArray
  space : ByteArray
  name : ByteArray
  what : Int
  rev : Int
def Ent.val (e : Ent) : Value := .agg #[.string e.who, .string e.verb, .string e.kind, .string e.space, .string e.name, .int .i64 e.what, .int .i64 e.rev]
def Ent.small (e : Ent) : Prop := e.who.size ≤ 1048576 ∧ e.verb.size ≤ 1048576 ∧ e.kind.size ≤ 1048576 ∧ e.space.size ≤ 1048576 ∧ e.name.size ≤ 1048576
def EntIn (w : World) (g : Nat) (e : Ent) : Prop := w.heap[g]? = some (.cells #[.string e.who, .string e.verb, .string e.kind, .string e.space, .string e.name, .int .i64 e.what, .int .i64 e.rev] 36 (0, 0))
theorem EntIn.cells {w : World} {g : Nat} {e : Ent} (h : EntIn w g e) :
    w.cell? ⟨g, 0, none⟩ = some (.string e.who) ∧ w.cell? ⟨g, 1, none⟩ = some (.string e.verb) ∧ w.cell? ⟨g, 2, none⟩ = some (.string e.kind) ∧ w.cell? ⟨g, 3, none⟩ = some (.string e.space) ∧ w.cell? ⟨g, 4, none⟩ = some (.string e.name) ∧ w.cell? ⟨g, 5, none⟩ = some (.int .i64 e.what) ∧ w.cell? ⟨g, 6, none⟩ = some (.int .i64 e.rev) := by
  refine ⟨?_, ?_, ?_, ?_, ?_, ?_, ?_⟩ <;> rw [cell_of h] <;> rfl
theorem EntIn.ext {w w' : World} {g : Nat} {e : Ent} (h : EntIn w g e) (hx : Ext w w') : EntIn w' g e := (hx.block _ (heap_lt h)).trans h
def rangeBad (e : Ent) : Bool := outB e.what 0 99 || outB e.rev 0 1099511627776
def keysE (e : Ent) : Int := spaceI (spaceI (say 0 (nameI e.kind)) e.space) e.name
/-- What is wrong with an entry. -/
def entE (e : Ent) : Int := say (spaceI (spaceI (say (say (spaceI 0 e.who) (nameI e.verb)) (nameI e.kind)) e.space) e.name) (if rangeBad e = true then 1 else 0)
theorem say_assoc (a b c : Int) : say (say a b) c = say a (say b c) := by
  unfold say
  by_cases h : a = 0
  · simp [h]
  · simp [h]
theorem say_space (a c : Int) (s : ByteArray) : spaceI (say a c) s = say a (spaceI c s) := by
  unfold spaceI
  split
  · rfl
  · rw [say_assoc]
theorem entE_eq (e : Ent) : entE e = say (spaceI 0 e.who) (say (nameI e.verb) (say (keysE e) (if rangeBad e = true then 1 else 0))) := by
  unfold entE keysE
  rw [say_zero (nameI e.kind), say_assoc (spaceI 0 e.who), say_space, say_space, say_assoc, say_space, say_space, say_assoc]
theorem ent_who {e : Ent} (h : spaceI 0 e.who ≠ 0) : entE e = spaceI 0 e.who := by rw [entE_eq, say_ne h]
theorem ent_verb {e : Ent} (h : spaceI 0 e.who = 0) (h2 : nameI e.verb ≠ 0) : entE e = nameI e.verb := by rw [entE_eq, h, say_zero, say_ne h2]
theorem ent_keys {e : Ent} (h : spaceI 0 e.who = 0) (h2 : nameI e.verb = 0) (h3 : keysE e ≠ 0) : entE e = keysE e := by rw [entE_eq, h, say_zero, h2, say_zero, say_ne h3]
theorem ent_range {e : Ent} (h : spaceI 0 e.who = 0) (h2 : nameI e.verb = 0) (h3 : keysE e = 0) : entE e = if rangeBad e = true then 1 else 0 := by rw [entE_eq, h, say_zero, h2, say_zero, h3, say_zero]
theorem name_x : nameI ⟨#[120]⟩ = 0 := by decide +kernel
theorem keys_none {e : Ent} (h : e.name.size = 0) : keyE e.kind e.space ⟨#[120]⟩ = keysE e := by
  unfold keyE keysE
  rw [name_x, say_none]
  unfold spaceI
  rw [if_pos h]
theorem keys_some {e : Ent} (h : e.name.size ≠ 0) : keyE e.kind e.space e.name = keysE e := by
  unfold keyE keysE
  have h2 : spaceI (spaceI (say 0 (nameI e.kind)) e.space) e.name = say (spaceI (say 0 (nameI e.kind)) e.space) (nameI e.name) := if_neg h
  exact h2.symm
/-- The range's tests, one behind the other. -/
def RangeWays (e : Ent) : Prop :=
  (rangeBad e = true ∧ decide (e.what < 0) = true) ∨ (rangeBad e = true ∧ decide (e.what < 0) = false ∧ decide (99 < e.what) = true) ∨ (rangeBad e = true ∧ decide (e.what < 0) = false ∧ decide (99 < e.what) = false ∧ decide (e.rev < 0) = true) ∨
    (rangeBad e = true ∧ decide (e.what < 0) = false ∧ decide (99 < e.what) = false ∧ decide (e.rev < 0) = false ∧ decide (1099511627776 < e.rev) = true) ∨ (rangeBad e = false ∧ decide (e.what < 0) = false ∧ decide (99 < e.what) = false ∧ decide (e.rev < 0) = false ∧ decide (1099511627776 < e.rev) = false)
theorem range_ways (e : Ent) : RangeWays e := by
  unfold RangeWays rangeBad outB
  cases decide (e.what < 0) <;> cases decide (99 < e.what) <;> cases decide (e.rev < 0) <;> cases decide (1099511627776 < e.rev) <;> simp
/-- The name's test on who. -/
theorem who_ways (s : ByteArray) : (s.toList.isEmpty = true ∧ spaceI 0 s = 0) ∨ (s.toList.isEmpty = false ∧ spaceI 0 s = nameI s) := by
  rcases Nat.eq_zero_or_pos s.size with h | h
  · exact .inl ⟨isEmpty_of_zero h, if_pos h⟩
  · exact .inr ⟨isEmpty_of_pos h, by unfold spaceI; rw [if_neg (by omega), say_zero]⟩

set_option maxRecDepth 100000 in
set_option maxHeartbeats 4000000 in
theorem acheck_any (e : Ent) (w : World) (hs : e.small) : Calls Tryz.prog 31 #[e.val] w (CheckPost w (entE e)) := by
  obtain ⟨s1, s2, s3, s4, s5⟩ := hs
  unfold Ent.val
  obtain ⟨g, hg⟩ : ∃ g, g = w.heap.size := ⟨_, rfl⟩
  obtain ⟨w1, hw1⟩ : ∃ w1, w1 = w.alloc (.cells #[.string e.who, .string e.verb, .string e.kind, .string e.space, .string e.name, .int .i64 e.what, .int .i64 e.rev] 36 (0, 0)) := ⟨_, rfl⟩
  have HX1 : Hid (Ext w w1) := by rw [hw1]; exact new_ext _ _
  have HE1 : Hid (EntIn w1 g e) := by rw [hw1]; exact heap_new hg
  -- who
  have hwho : ((e.who.toList.isEmpty = true ∨ (e.who.toList.isEmpty = false ∧ (nameI e.who != 0) = false)) ∧ spaceI 0 e.who = 0) ∨ (e.who.toList.isEmpty = false ∧ (nameI e.who != 0) = true ∧ entE e = nameI e.who) := by
    rcases who_ways e.who with ⟨h, h2⟩ | ⟨h, h2⟩
    · exact .inl ⟨.inl h, h2⟩
    · by_cases h3 : nameI e.who = 0
      · exact .inl ⟨.inr ⟨h, by simp [h3]⟩, by rw [h2, h3]⟩
      · exact .inr ⟨h, by simp [h3], by rw [← h2]; exact ent_who (by rw [h2]; exact h3)⟩
  rcases hwho with ⟨hw, hw0⟩ | ⟨q1, q2, hE⟩
  · by_cases hv : nameI e.verb = 0
    · have v1 : (nameI e.verb != 0) = false := by simp [hv]
      have hnm : ∃ n : ByteArray, n.size ≤ 1048576 ∧ keyE e.kind e.space n = keysE e ∧ ((e.name.toList.isEmpty = true ∧ n = ⟨#[120]⟩) ∨ (e.name.toList.isEmpty = false ∧ n = e.name)) := by
        rcases Nat.eq_zero_or_pos e.name.size with h | h
        · exact ⟨⟨#[120]⟩, by decide, keys_none h, .inl ⟨isEmpty_of_zero h, rfl⟩⟩
        · exact ⟨e.name, s5, keys_some (by omega), .inr ⟨isEmpty_of_pos h, rfl⟩⟩
      obtain ⟨n, hn, hk, hways⟩ := hnm
      obtain ⟨K, hK⟩ : ∃ K, K = keysE e := ⟨_, rfl⟩
      have CK : Hid (∀ W, Calls Tryz.prog 70 #[.agg #[.string e.kind, .string e.space, .string n]] W (CheckPost W K)) := fun W => by
        rw [hK, ← hk]
        exact ckey_any e.kind e.space n W s3 s4 hn
      have CE := Lib.hid (show ∀ W, Ext w1 W → EntIn W g e from fun W hW => HE1.out.ext hW)
      have tail : (K != 0) = true ∧ entE e = K ∨ ((K != 0) = false ∧ ∃ R : Int, entE e = R ∧ ((R = 1 ∧ ((decide (e.what < 0) = true) ∨ (decide (e.what < 0) = false ∧ decide (99 < e.what) = true) ∨ (decide (e.what < 0) = false ∧ decide (99 < e.what) = false ∧ decide (e.rev < 0) = true) ∨ (decide (e.what < 0) = false ∧ decide (99 < e.what) = false ∧ decide (e.rev < 0) = false ∧ decide (1099511627776 < e.rev) = true))) ∨ (R = 0 ∧ decide (e.what < 0) = false ∧ decide (99 < e.what) = false ∧ decide (e.rev < 0) = false ∧ decide (1099511627776 < e.rev) = false))) := by
        by_cases h : K = 0
        · refine .inr ⟨by simp [h], _, ent_range hw0 hv (hK ▸ h), ?_⟩
          rcases range_ways e with ⟨h1, h2⟩ | ⟨h1, h2⟩ | ⟨h1, h2⟩ | ⟨h1, h2⟩ | ⟨h1, h2⟩
          · rw [h1]; exact .inl ⟨rfl, .inl h2⟩
          · rw [h1]; exact .inl ⟨rfl, .inr (.inl h2)⟩
          · rw [h1]; exact .inl ⟨rfl, .inr (.inr (.inl h2))⟩
          · rw [h1]; exact .inl ⟨rfl, .inr (.inr (.inr h2))⟩
          · rw [h1]; exact .inr ⟨rfl, h2⟩
        · exact .inl ⟨by simp [h], by rw [hK]; exact ent_keys hw0 hv (hK ▸ h)⟩
      clear hw0 hv hk hK hn
      have ends : ∀ R : Int, entE e = R → Hid (entE e = R) := fun _ h => h
      rcases tail with ⟨k1, hE⟩ | ⟨k1, R, hE, ⟨rfl, hr⟩ | ⟨rfl, r1, r2, r3, r4⟩⟩
      · have HE := ends _ hE
        clear hE ends
        rcases hw with q1 | ⟨q1, q2⟩ <;> rcases hways with ⟨q3, rfl⟩ | ⟨q3, rfl⟩
        all_goals
          go_enter Tryz.func31, Tryz.ntmps31
          go_wp2_with fail
          rw [← hw1, ← hg]
          obtain ⟨y0, y1, y2, y3, y4, y5, y6⟩ := HE1.out.cells
          clear hw1 hg
          go_wp2_with (first
            | (go_at_call 69; refine (check_any _ _ (by unfold maxLen; omega)).mono ?_; rintro e' w' ⟨rfl, rfl⟩)
            | (go_at_call 70; (with_reducible refine (CK.out _).mono ?_); rintro e' w3 ⟨rfl, hx3⟩; obtain ⟨-, -, -, -, -, z5, z6⟩ := (CE.out w3 ((new_ext w1 _).trans hx3)).cells; have HX3 := Lib.hid hx3; clear hx3))
          go_ret
          exact ⟨ret_int HE.out.symm, HX1.out.trans ((new_ext w1 _).trans HX3.out)⟩
      · have HE := ends _ hE
        clear hE ends
        rcases hr with r1 | ⟨r1, r2⟩ | ⟨r1, r2, r3⟩ | ⟨r1, r2, r3, r4⟩ <;> rcases hw with q1 | ⟨q1, q2⟩ <;> rcases hways with ⟨q3, rfl⟩ | ⟨q3, rfl⟩
        all_goals
          go_enter Tryz.func31, Tryz.ntmps31
          go_wp2_with fail
          rw [← hw1, ← hg]
          obtain ⟨y0, y1, y2, y3, y4, y5, y6⟩ := HE1.out.cells
          clear hw1 hg
          go_wp2_with (first
            | (go_at_call 69; refine (check_any _ _ (by unfold maxLen; omega)).mono ?_; rintro e' w' ⟨rfl, rfl⟩)
            | (go_at_call 70; (with_reducible refine (CK.out _).mono ?_); rintro e' w3 ⟨rfl, hx3⟩; obtain ⟨-, -, -, -, -, z5, z6⟩ := (CE.out w3 ((new_ext w1 _).trans hx3)).cells; have HX3 := Lib.hid hx3; clear hx3))
          go_ret
          exact ⟨ret_int HE.out.symm, HX1.out.trans ((new_ext w1 _).trans HX3.out)⟩
      · have HE := ends _ hE
        clear hE ends
        rcases hw with q1 | ⟨q1, q2⟩ <;> rcases hways with ⟨q3, rfl⟩ | ⟨q3, rfl⟩
        all_goals
          go_enter Tryz.func31, Tryz.ntmps31
          go_wp2_with fail
          rw [← hw1, ← hg]
          obtain ⟨y0, y1, y2, y3, y4, y5, y6⟩ := HE1.out.cells
          clear hw1 hg
          go_wp2_with (first
            | (go_at_call 69; refine (check_any _ _ (by unfold maxLen; omega)).mono ?_; rintro e' w' ⟨rfl, rfl⟩)
            | (go_at_call 70; (with_reducible refine (CK.out _).mono ?_); rintro e' w3 ⟨rfl, hx3⟩; obtain ⟨-, -, -, -, -, z5, z6⟩ := (CE.out w3 ((new_ext w1 _).trans hx3)).cells; have HX3 := Lib.hid hx3; clear hx3))
          go_ret
          exact ⟨ret_int HE.out.symm, HX1.out.trans ((new_ext w1 _).trans HX3.out)⟩
    · have v1 : (nameI e.verb != 0) = true := by simp [hv]
      have HE := Lib.hid (ent_verb hw0 hv)
      clear hw0 hv
      rcases hw with q1 | ⟨q1, q2⟩
      all_goals
        go_enter Tryz.func31, Tryz.ntmps31
        go_wp2_with (go_at_call 69; refine (check_any _ _ (by unfold maxLen; omega)).mono ?_; rintro e w' ⟨rfl, rfl⟩)
        go_ret
        exact ⟨ret_int HE.out.symm, by rw [← hw1]; exact HX1.out⟩
  · have HE := Lib.hid hE
    clear hE
    go_enter Tryz.func31, Tryz.ntmps31
    go_wp2_with (go_at_call 69; refine (check_any _ _ (by unfold maxLen; omega)).mono ?_; rintro e w' ⟨rfl, rfl⟩)
    go_ret
    exact ⟨ret_int HE.out.symm, by rw [← hw1]; exact HX1.out⟩
end Go.Proofs.YtplfimoeggecjaaGreatDoor.Sx
namespace Go.Proofs.YtplfimoeggecjaaGreatDoor.Sx
open Go Go.RowKit Go.Lib Go.Proofs.YtplfimoeggecjaaGreatDoor.Dc Go.Proofs.YtplfimoeggecjaaGreatDoor.Tk

def entL (e : Ent) : List ByteArray := [e.who, e.verb, e.kind, e.space, e.name, decB e.what.toNat, decB e.rev.toNat]
def slashJ (l : List ByteArray) : ByteArray := ⟨(Lib.join (l.map (·.data.toList)) [47]).toArray⟩
def entB (e : Ent) : ByteArray := if entE e = 0 then slashJ (entL e) else ⟨#[]⟩
theorem say_snd {c e : Int} (h : say c e = 0) : e = 0 := by
  unfold say at h
  split at h
  · exact h
  · next h0 => exact absurd h h0
theorem range_fine {e : Ent} (h : entE e = 0) : (0 ≤ e.what ∧ e.what ≤ 99) ∧ 0 ≤ e.rev ∧ e.rev ≤ 1099511627776 := by
  have h2 := say_snd h
  cases hr : rangeBad e with
  | true => rw [hr] at h2; cases h2
  | false =>
    unfold rangeBad outB at hr
    simp at hr
    omega
theorem decB_le {n : Nat} (h : n ≤ 1099511627776) : (decB n).size ≤ 13 := by
  rw [Lib.size_eq]
  exact dec_short h
theorem slash_len (xs : List ByteArray) : (Lib.join (xs.map (·.data.toList)) [47]).length ≤ sumS xs + xs.length := by
  unfold sumS
  induction xs with
  | nil => simp [Lib.join_nil]
  | cons x r ih =>
    cases r with
    | nil => simp [Lib.join_one]
    | cons y r =>
      rw [List.map_cons, List.map_cons, ← glue_join, glue_cons _ _ (by simp), glue_join]
      rw [List.map_cons] at ih
      simp only [List.map_cons, List.sum_cons, List.length_cons, List.length_append, ← Lib.size_eq] at ih ⊢
      omega
theorem slash_any {w : World} {b : Nat} {xs : List ByteArray} {t : TypeId} (h : w.heap[b]? = some (.cells (xs.map Value.string).toArray t (0, 0))) (hz : sumS xs + xs.length ≤ 140737488355328) :
    Calls Tryz.prog 33 #[.slice (some ⟨b, 0, none⟩) xs.length xs.length, .string ⟨#[47]⟩] w fun e w' => e = .returned (.string (slashJ xs)) ∧ Ext w w' := by
  refine Tryz.strings_Join b 0 xs.length xs ⟨#[47]⟩ w ?_ (heap_lt h) (by omega) (Nat.le_refl _) (Nat.le_trans (slash_len xs) hz)
  intro j x hj
  rw [Nat.zero_add, cell_of h]
  simp [hj]

set_option maxRecDepth 100000 in
set_option maxHeartbeats 4000000 in
theorem aline_any (e : Ent) (w : World) (hs : e.small) (ht : Tab10 w) : Calls Tryz.prog 11 #[e.val] w fun r w' => r = .returned (.tuple #[.string (entB e), .int .i64 (entE e)]) ∧ Ext w w' := by
  have HS := Lib.hid hs
  have HT := Lib.hid ht
  clear hs ht
  unfold Ent.val
  obtain ⟨g, hg⟩ : ∃ g, g = w.heap.size := ⟨_, rfl⟩
  obtain ⟨w1, hw1⟩ : ∃ w1, w1 = w.alloc (.cells #[.string e.who, .string e.verb, .string e.kind, .string e.space, .string e.name, .int .i64 e.what, .int .i64 e.rev] 36 (0, 0)) := ⟨_, rfl⟩
  have HX1 : Hid (Ext w w1) := by rw [hw1]; exact new_ext _ _
  have HE1 : Hid (EntIn w1 g e) := by rw [hw1]; exact heap_new hg
  go_enter Tryz.func11, Tryz.ntmps11
  go_wp2_with fail
  rw [← hw1]
  clear hw1
  refine Calls.mono (acheck_any e w1 HS.out) ?_
  rintro r w2 ⟨rfl, hx2⟩
  have HX2 := Lib.hid hx2
  clear hx2
  rw [← hg]
  clear hg
  by_cases h0 : entE e = 0
  · have hb1 : (entE e != 0) = false := by simp [h0]
    have hE : entE e = 0 ∧ entB e = slashJ (entL e) := ⟨h0, if_pos h0⟩
    obtain ⟨⟨r1, r2⟩, r3, r4⟩ := range_fine h0
    have HE := Lib.hid hE
    clear hE h0
    have HL : Hid (entL e = [e.who, e.verb, e.kind, e.space, e.name, decB e.what.toNat, decB e.rev.toNat]) := rfl
    obtain ⟨m1, hm1⟩ := Int.eq_ofNat_of_zero_le r1
    obtain ⟨m2, hm2⟩ := Int.eq_ofNat_of_zero_le r3
    have HM : Hid (m1 ≤ 99 ∧ m2 ≤ 1099511627776 ∧ e.what = (m1 : Int) ∧ e.rev = (m2 : Int)) := ⟨by omega, by omega, hm1, hm2⟩
    clear r1 r2 r3 r4 hm1 hm2
    go_wp2_with fail
    have HEX : Hid (∀ W, Ext w2 W → Ext w2 W ∧ W.cell? ⟨g, 0, none⟩ = some (.string e.who) ∧ W.cell? ⟨g, 1, none⟩ = some (.string e.verb) ∧ W.cell? ⟨g, 2, none⟩ = some (.string e.kind) ∧ W.cell? ⟨g, 3, none⟩ = some (.string e.space) ∧ W.cell? ⟨g, 4, none⟩ = some (.string e.name) ∧ W.cell? ⟨g, 5, none⟩ = some (.int .i64 (m1 : Int)) ∧ W.cell? ⟨g, 6, none⟩ = some (.int .i64 (m2 : Int))) := fun W hW => by
      obtain ⟨a0, a1, a2, a3, a4, a5, a6⟩ := (HE1.out.ext (HX2.out.trans hW)).cells
      rw [HM.out.2.2.1] at a5
      rw [HM.out.2.2.2] at a6
      exact ⟨hW, a0, a1, a2, a3, a4, a5, a6⟩
    have CI : Hid (∀ (u : Nat) W, u ≤ 1099511627776 → Ext w2 W → Calls Tryz.prog 32 #[.int .i64 (u : Int)] W fun r w' => r = .returned (.string (decB u)) ∧ Ext w2 w' ∧ w'.cell? ⟨g, 0, none⟩ = some (.string e.who) ∧ w'.cell? ⟨g, 1, none⟩ = some (.string e.verb) ∧ w'.cell? ⟨g, 2, none⟩ = some (.string e.kind) ∧ w'.cell? ⟨g, 3, none⟩ = some (.string e.space) ∧ w'.cell? ⟨g, 4, none⟩ = some (.string e.name) ∧ w'.cell? ⟨g, 5, none⟩ = some (.int .i64 (m1 : Int)) ∧ w'.cell? ⟨g, 6, none⟩ = some (.int .i64 (m2 : Int))) := fun u W hu hW =>
      (itoa_any u W (HT.out.ext (HX1.out.trans (HX2.out.trans hW))) (by omega)).mono fun r w' ⟨he, hx⟩ => ⟨he, HEX.out w' (hW.trans hx)⟩
    obtain ⟨hxx, a0, a1, a2, a3, a4, a5, a6⟩ := HEX.out w2 (Below.refl _ _)
    go_region_held3 (fun W => Ext w2 W ∧ W.cell? ⟨g, 0, none⟩ = some (.string e.who) ∧ W.cell? ⟨g, 1, none⟩ = some (.string e.verb) ∧ W.cell? ⟨g, 2, none⟩ = some (.string e.kind) ∧ W.cell? ⟨g, 3, none⟩ = some (.string e.space) ∧ W.cell? ⟨g, 4, none⟩ = some (.string e.name) ∧ W.cell? ⟨g, 5, none⟩ = some (.int .i64 (m1 : Int)) ∧ W.cell? ⟨g, 6, none⟩ = some (.int .i64 (m2 : Int)))
      (first | (refine ⟨by assumption, by assumption, by assumption, by assumption, by assumption, by assumption, by assumption, by assumption⟩) | (refine ⟨(Ext.trans (by assumption) (new_ext _ _)), ?_, ?_, ?_, ?_, ?_, ?_, ?_⟩ <;> go_keep) | (refine ⟨Below.drew (by assumption), ?_, ?_, ?_, ?_, ?_, ?_, ?_⟩ <;> go_keep) | (refine ⟨Below.drew (Below.alloc (by assumption) (Nat.le_refl _) _), ?_, ?_, ?_, ?_, ?_, ?_, ?_⟩ <;> go_keep) | go_keep)
      (first
        | (go_at_call 32; refine (CI.out _ _ (by first | exact HM.out.2.1 | (have := HM.out.1; omega)) (by first | assumption | (apply Below.drew; assumption))).mono ?_; rintro r w' ⟨rfl, q0, q1, q2, q3, q4, q5, q6, q7⟩))
    all_goals
      have HX9 := Lib.hid q0
      clear q0 q1 q2 q3 q4 q5 q6 q7 a0 a1 a2 a3 a4 a5 a6 hxx
      have hz : sumS [e.who, e.verb, e.kind, e.space, e.name, decB m1, decB m2] + [e.who, e.verb, e.kind, e.space, e.name, decB m1, decB m2].length ≤ 140737488355328 := by
        have z6 := decB_le (n := m1) (by have := HM.out.1; omega)
        have z7 := decB_le (n := m2) HM.out.2.1
        obtain ⟨z1, z2, z3, z4, z5⟩ := HS.out
        simp only [sumS, List.map_cons, List.map_nil, List.sum_cons, List.sum_nil, List.length_cons, List.length_nil]
        omega
      have HZ := Lib.hid hz
      clear hz
      go_wp2_with fail
      refine Calls.mono (slash_any (xs := [e.who, e.verb, e.kind, e.space, e.name, decB m1, decB m2]) (t := 9) (heap_new rfl) HZ.out) ?_
      rintro r w8 ⟨rfl, hx8⟩
      have HX8 := Lib.hid hx8
      clear hx8
      go_wp2_with fail
      go_ret2
      refine ⟨?_, HX1.out.trans (HX2.out.trans (HX9.out.trans ((new_ext _ _).trans HX8.out)))⟩
      rw [HE.out.1, HE.out.2, HL.out, HM.out.2.2.1, HM.out.2.2.2]
      rfl
  · have hb1 : (entE e != 0) = true := by simp [h0]
    have HB : Hid (entB e = ⟨#[]⟩) := if_neg h0
    clear h0
    go_wp2_with fail
    go_ret2
    exact ⟨by rw [HB.out]; rfl, HX1.out.trans HX2.out⟩
end Go.Proofs.YtplfimoeggecjaaGreatDoor.Sx
namespace Go.Proofs.YtplfimoeggecjaaGreatDoor.Sx
open Go Go.RowKit Go.Lib Go.Proofs.YtplfimoeggecjaaGreatDoor.Dc Go.Proofs.YtplfimoeggecjaaGreatDoor.Pt Go.Proofs.YtplfimoeggecjaaGreatDoor.Tk

def sAt (t : ByteArray) (i : Nat) : ByteArray := (parts 47 t).getD i ⟨#[]⟩
def entOf (t : ByteArray) (a b : Int) : Ent := ⟨sAt t 0, sAt t 1, sAt t 2, sAt t 3, sAt t 4, a, b⟩
def noEnt : Ent := ⟨⟨#[]⟩, ⟨#[]⟩, ⟨#[]⟩, ⟨#[]⟩, ⟨#[]⟩, 0, 0⟩
def timeEnt (t : ByteArray) : Ent := entOf t (timeI (sAt t 5).data.toList) (timeI (sAt t 6).data.toList)
def parE (t : ByteArray) : Int := if (parts 47 t).length ≠ 7 then 16 else if entE (timeEnt t) ≠ 0 then 16 else 0
def parU (t : ByteArray) : Ent := if parE t = 0 then timeEnt t else noEnt
theorem sAt_size {t : ByteArray} (i : Nat) : (sAt t i).size ≤ t.size := by
  unfold sAt
  rcases Nat.lt_or_ge i (parts 47 t).length with h | h
  · rw [List.getD_eq_getElem?_getD, List.getElem?_eq_getElem h]
    exact (parts_le 47 t.size t (Nat.le_refl _)).2 _ (List.getElem_mem h)
  · rw [List.getD_eq_getElem?_getD, List.getElem?_eq_none h]
    exact Nat.zero_le _
theorem entOf_small {t : ByteArray} (h : t.size ≤ 1048576) (a b : Int) : (entOf t a b).small :=
  ⟨Nat.le_trans (sAt_size 0) h, Nat.le_trans (sAt_size 1) h, Nat.le_trans (sAt_size 2) h, Nat.le_trans (sAt_size 3) h, Nat.le_trans (sAt_size 4) h⟩
theorem parts_seven {t : ByteArray} (h : (parts 47 t).length = 7) : (parts 47 t) = [sAt t 0, sAt t 1, sAt t 2, sAt t 3, sAt t 4, sAt t 5, sAt t 6] := by
  unfold sAt
  match hp : parts 47 t, h with
  | [a, b, c, d, e, f, g], _ => rfl
theorem slash_list (a b c d e f h : ByteArray) : (slashJ [a, b, c, d, e, f, h]).data.toList = a.data.toList ++ 47 :: (b.data.toList ++ 47 :: (c.data.toList ++ 47 :: (d.data.toList ++ 47 :: (e.data.toList ++ 47 :: (f.data.toList ++ 47 :: h.data.toList))))) := by
  show Lib.join ([a, b, c, d, e, f, h].map (·.data.toList)) [47] = _
  simp only [List.map_cons, List.map_nil]
  rw [← glue_join]
  simp only [glue]
theorem par_shape {t : ByteArray} (h : (parts 47 t).length = 7) :
    t = slashJ [sAt t 0, sAt t 1, sAt t 2, sAt t 3, sAt t 4, sAt t 5, sAt t 6] ∧ (47 : UInt8) ∉ (sAt t 5).data.toList := by
  have h1 := parts_segs 47 t.size t (Nat.le_refl _)
  rw [parts_seven h] at h1
  simp only [List.map_cons, List.map_nil] at h1
  have h2 := glue_segs 47 t.data.toList
  rw [← h1] at h2
  refine ⟨ba_ext ?_, segs_no 47 t.data.toList _ (by rw [← h1]; simp)⟩
  rw [slash_list]
  exact h2.symm
theorem par_1 {t : ByteArray} (h : (parts 47 t).length ≠ 7) : parE t = 16 := if_pos h
theorem par_2 {t : ByteArray} (h : (parts 47 t).length = 7) (h2 : entE (timeEnt t) ≠ 0) : parE t = 16 := by unfold parE; rw [if_neg (by simp [h]), if_pos h2]
theorem par_3 {t : ByteArray} (h : (parts 47 t).length = 7) (h2 : entE (timeEnt t) = 0) : parE t = 0 := by unfold parE; rw [if_neg (by simp [h]), if_neg (by simp [h2])]
/-- Where nothing is wrong, both numerals are read alike, and the line is told again as it stood. -/
theorem par_good {t : ByteArray} (h : (parts 47 t).length = 7) (h2 : entE (timeEnt t) = 0) :
    atoiAll (sAt t 5).data.toList = .ok (timeI (sAt t 5).data.toList) ∧ atoiAll (sAt t 6).data.toList = .ok (timeI (sAt t 6).data.toList) ∧ entB (timeEnt t) = t := by
  obtain ⟨⟨r1, r2⟩, r3, r4⟩ := range_fine h2
  obtain ⟨u, h5, h6, h7⟩ := time_back (l := (sAt t 5).data.toList) rfl r1
  obtain ⟨u', h5', h6', h7'⟩ := time_back (l := (sAt t 6).data.toList) rfl r3
  refine ⟨by rw [h5, h6]; exact atoi_dec h7, by rw [h5', h6']; exact atoi_dec h7', ?_⟩
  unfold entB
  rw [if_pos h2]
  have e5 : decB (timeEnt t).what.toNat = sAt t 5 := by
    apply ba_ext
    show decDigits (timeI (sAt t 5).data.toList).toNat = _
    rw [h5, h6]
    rfl
  have e6 : decB (timeEnt t).rev.toNat = sAt t 6 := by
    apply ba_ext
    show decDigits (timeI (sAt t 6).data.toList).toNat = _
    rw [h5', h6']
    rfl
  unfold entL
  rw [e5, e6]
  exact (par_shape h).1.symm
theorem par_bad {t : ByteArray} {a b : Int} (h : (parts 47 t).length = 7) (h2 : entE (timeEnt t) ≠ 0) (h3 : entE (entOf t a b) = 0) : entB (entOf t a b) ≠ t := by
  intro e
  obtain ⟨⟨r1, r2⟩, r3, r4⟩ := range_fine h3
  have hr1 : 0 ≤ a := r1
  have hr2 : a ≤ 99 := r2
  have hr3 : 0 ≤ b := r3
  have hr4 : b ≤ 1099511627776 := r4
  unfold entB at e
  rw [if_pos h3] at e
  have e2 := congrArg (fun x : ByteArray => x.data.toList) e
  have e3 := congrArg (fun x : ByteArray => x.data.toList) (par_shape h).1
  try simp only at e2 e3
  unfold entL at e2
  rw [e3, slash_list, slash_list] at e2
  have e4 := List.append_cancel_left e2
  injection e4 with _ e4
  have e5 := List.append_cancel_left e4
  injection e5 with _ e5
  have e6 := List.append_cancel_left e5
  injection e6 with _ e6
  have e7 := List.append_cancel_left e6
  injection e7 with _ e7
  have e8 := List.append_cancel_left e7
  injection e8 with _ e8
  obtain ⟨f1, f2⟩ := front_one (dec_no (by unfold isDig; decide)) (par_shape h).2 e8
  apply h2
  have g1 : timeI (sAt t 5).data.toList = a := by
    rw [← f1]
    show timeI (decDigits a.toNat) = a
    rw [time_dec (by omega)]
    omega
  have g2 : timeI (sAt t 6).data.toList = b := by
    rw [← f2]
    show timeI (decDigits b.toNat) = b
    rw [time_dec (by omega)]
    omega
  unfold timeEnt
  rw [g1, g2]
  exact h3

theorem results_ent {fn : Func} {p u : Tmp} (h : fn.results = #[.cell p 36, .tmp u]) (tmps : Array Value) (w : World) (g : Nat) {e : Ent} (hp : tmps.getD p undef = .pointer (some ⟨g, 0, none⟩)) (hg : EntIn w g e) :
    (results fn tmps).run Tryz.prog w = .ok (.tuple #[e.val, tmps.getD u undef]) w := by
  have hp' : tmps[p]?.getD undef = .pointer (some ⟨g, 0, none⟩) := by simpa using hp
  have hr := run_loadVar_row (P := Tryz.prog) w g 36 _ _ _ _ hg Tryz.underlying36 rfl (by kernel_rfl)
  simp [results, h, hp', asAddr, hr, Ent.val]
def putEnt (W : World) (g : Nat) (e : Ent) : World := (((((((W.setCell ⟨g, 0, none⟩ (.string e.who)).setCell ⟨g, 1, none⟩ (.string e.verb)).setCell ⟨g, 2, none⟩ (.string e.kind)).setCell ⟨g, 3, none⟩ (.string e.space)).setCell ⟨g, 4, none⟩ (.string e.name)).setCell ⟨g, 5, none⟩ (.int .i64 e.what)).setCell ⟨g, 6, none⟩ (.int .i64 e.rev))
theorem put_ent {w W : World} {g : Nat} {x0 x1 x2 x3 x4 x5 x6 : Value} (e : Ent) (hg : W.heap[g]? = some (.cells #[x0, x1, x2, x3, x4, x5, x6] 36 (0, 0))) (hx : Ext w W) (hb : w.heap.size ≤ g) :
    EntIn (putEnt W g e) g e ∧ Ext w (putEnt W g e) := by
  refine ⟨?_, Below.setCell (Below.setCell (Below.setCell (Below.setCell (Below.setCell (Below.setCell (Below.setCell hx (by exact hb) _) (by exact hb) _) (by exact hb) _) (by exact hb) _) (by exact hb) _) (by exact hb) _) (by exact hb) _⟩
  unfold EntIn putEnt
  simp [World.setCell, Array.getElem?_modify, hg]
def ParPost (w : World) (t : ByteArray) (r : Ending) (w' : World) : Prop := r = .returned (.tuple #[(parU t).val, .int .i64 (parE t)]) ∧ Ext w w'
theorem parPost_bad {w w' : World} {t : ByteArray} (h : parE t = 16) (hx : Ext w w') : ParPost w t (.returned (.tuple #[noEnt.val, .int .i64 16])) w' := by
  have hu : parU t = noEnt := by unfold parU; rw [h, if_neg (by decide)]
  exact ⟨by rw [hu, h], hx⟩
theorem parPost_good {w w' : World} {t : ByteArray} (h : parE t = 0) (hx : Ext w w') : ParPost w t (.returned (.tuple #[(timeEnt t).val, .int .i64 0])) w' := by
  have hu : parU t = timeEnt t := by unfold parU; rw [if_pos h]
  exact ⟨by rw [hu, h], hx⟩
theorem seven_cells {w : World} {b : Nat} {t : ByteArray} (h7 : (parts 47 t).length = 7) (h : w.heap[b]? = some (.cells ((parts 47 t).map Value.string).toArray 9 (0, 0))) :
    w.cell? ⟨b, 0, none⟩ = some (.string (sAt t 0)) ∧ w.cell? ⟨b, 1, none⟩ = some (.string (sAt t 1)) ∧ w.cell? ⟨b, 2, none⟩ = some (.string (sAt t 2)) ∧ w.cell? ⟨b, 3, none⟩ = some (.string (sAt t 3)) ∧ w.cell? ⟨b, 4, none⟩ = some (.string (sAt t 4)) ∧ w.cell? ⟨b, 5, none⟩ = some (.string (sAt t 5)) ∧ w.cell? ⟨b, 6, none⟩ = some (.string (sAt t 6)) := by
  rw [parts_seven h7] at h
  refine ⟨?_, ?_, ?_, ?_, ?_, ?_, ?_⟩ <;> rw [cell_of h] <;> rfl
end Go.Proofs.YtplfimoeggecjaaGreatDoor.Sx
