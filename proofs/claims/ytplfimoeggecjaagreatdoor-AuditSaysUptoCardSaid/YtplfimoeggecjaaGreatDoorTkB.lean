/-
  Tokens: Issue of both sides.
  Tokens: the reference's TokenIssue. (Printed by wip/gen/tk4.py.).
  Tokens: what Check answers, in both sides' results; the helpers of their walks.
  Tokens: the program's Check.
  Tokens: the reference's TokenCheck. (Printed by wip/gen/tk8.py.).
  The law TokenSays: it returns true.
-/
import Derived.Test.YtplfimoeggecjaaGreatDoorTkA
import Derived.Test.YtplfimoeggecjaaGreatDoorUsr2
import Derived.Test.YtplfimoeggecjaaGreatDoorSh8
import Derived.Test.YtplfimoeggecjaaGreatDoorSr8
import Derived.Test.YtplfimoeggecjaaGreatDoorDig
import Derived.Deep.RegionHeld3
import Derived.Test.YtplfimoeggecjaaGreatDoorSame
import Derived.Lib.QuietBelow
import Derived.BigQuiet
namespace Go.Proofs.YtplfimoeggecjaaGreatDoor.Sx
open Go Go.RowKit Go.Lib Go.Proofs.YtplfimoeggecjaaGreatDoor.Dc Go.Proofs.YtplfimoeggecjaaGreatDoor.Tk

/-! ### a good user is small -/
theorem say_two {c e : Int} (h : say c e = 0) : c = 0 ∧ e = 0 := by
  unfold say at h
  split at h
  · next h0 => exact ⟨h0, h⟩
  · next h0 => exact absurd h h0
theorem short_fine {s : ByteArray} (h : shortI s = 0) : s.size ≤ 20 := by
  have h1 := (say_two h).2
  split at h1
  · cases h1
  · omega
theorem groups_fine {l : List ByteArray} : ∀ {k : Nat}, groupsTo l k = 0 → ∀ i (h : i < l.length), i < k → l[i].size ≤ 20
  | 0, _, i, _, h => by omega
  | k + 1, h, i, hi, hk => by
    have h1 := say_two h
    rcases Nat.lt_or_ge i k with h2 | h2
    · exact groups_fine h1.1 i hi h2
    · obtain rfl : i = k := by omega
      have h3 := short_fine (say_two h1.2).1
      simpa [List.getD, hi] using h3
theorem user_fine {u : User} (h : userI u = 0) : u.name.size ≤ 20 ∧ u.groups.length ≤ 6 ∧ ∀ x ∈ u.groups, x.size ≤ 20 := by
  have h1 := say_two h
  have h2 := say_two h1.1
  refine ⟨short_fine h2.1, ?_, fun x hx => ?_⟩
  · have := h2.2
    split at this
    · cases this
    · omega
  · obtain ⟨i, hi, rfl⟩ := List.mem_iff_getElem.1 hx
    exact groups_fine h1.2 i hi hi
theorem stem_parts {u : User} (h : userI u = 0) : u.name.size ≤ 20 ∧ (joinC u.groups).size ≤ 126 := by
  have h1 := user_fine h
  have h2 := joinC_size u.groups
  have h3 := sumS_le h1.2.2
  have h4 := Nat.mul_le_mul_right 20 h1.2.1
  exact ⟨h1.1, by omega⟩
theorem decB_size {n : Nat} (h : n ≤ 1099511627776) : (decB n).size ≤ 13 := by
  rw [Lib.size_eq]
  exact dec_short h
theorem stem_size {u : User} (h : userI u = 0) {n : Nat} (hn : n ≤ 1099511627776) : (stemB u n).size ≤ 200 := by
  have h1 := stem_parts h
  have h2 := decB_size hn
  unfold stemB
  have c1 : dotB.size = 1 := rfl
  simp only [ByteArray.size_append, c1]
  omega
theorem signB_size (key s : ByteArray) : (signB key s).size = 64 := by
  rw [Lib.size_eq]
  show (hex (mac key.data.toList s.data.toList)).length = 64
  rw [hex_length]
  rfl
theorem issue_bad1 {key : ByteArray} {u : User} {n : Int} (h : keyBad key = true) : issueE key u n = 1 ∧ issueB key u n = ⟨#[]⟩ := by
  have e : issueE key u n = 1 := if_pos h
  exact ⟨e, by unfold issueB; rw [e]; rfl⟩
theorem issue_bad2 {key : ByteArray} {u : User} {n : Int} (h : keyBad key = false) (hu : userI u ≠ 0) : issueE key u n = userI u ∧ issueB key u n = ⟨#[]⟩ := by
  have e : issueE key u n = userI u := by unfold issueE; rw [h, if_neg (by simp), if_pos hu]
  exact ⟨e, by unfold issueB; rw [e, if_neg hu]⟩
theorem issue_bad3 {key : ByteArray} {u : User} {n : Int} (h : keyBad key = false) (hu : userI u = 0) (ht : timeBad n = true) : issueE key u n = 1 ∧ issueB key u n = ⟨#[]⟩ := by
  have e : issueE key u n = 1 := by unfold issueE; rw [h, if_neg (by simp), if_neg (by simp [hu]), if_pos ht]
  exact ⟨e, by unfold issueB; rw [e]; rfl⟩
theorem issue_fine {key : ByteArray} {u : User} {n : Int} (h : keyBad key = false) (hu : userI u = 0) (ht : timeBad n = false) : issueE key u n = 0 ∧ issueB key u n = stemB u n.toNat ++ signB key (stemB u n.toNat) := by
  have e : issueE key u n = 0 := by unfold issueE; rw [h, hu, ht]; simp
  exact ⟨e, by unfold issueB; rw [if_pos e]⟩
theorem ret_two {a b : Value} {x y : Value} (h1 : a = x) (h2 : b = y) : Ending.returned (.tuple #[a, b]) = .returned (.tuple #[x, y]) := by rw [h1, h2]
theorem timeBad_back {n : Int} (h : timeBad n = false) : 0 ≤ n ∧ n ≤ 1099511627776 := by
  unfold timeBad at h
  simp at h
  omega
theorem signB_of (key s : ByteArray) : (⟨(hex (bs (mac key.data.toList s.data.toList)).data.toList).toArray⟩ : ByteArray) = signB key s := by
  unfold signB bs
  rfl

set_option maxRecDepth 100000 in
set_option maxHeartbeats 4000000 in
theorem issue_any (B : Nat) (v : Value) (key : ByteArray) (u : User) (n : Int) (w : World) (hB : B ≤ w.heap.size) (hk : key.size ≤ 1048576) (hz : u.name.size ≤ 1048576) (hg : StrsAt B w v u.groups) (ht : Tab10 w) :
    Calls Tryz.prog 17 #[.string key, .agg #[.string u.name, v], .int .i64 n] w fun e w' => e = .returned (.tuple #[.string (issueB key u n), .int .i64 (issueE key u n)]) ∧ Ext w w' := by
  have HG := Lib.hid hg
  have HT := Lib.hid ht
  have HKZ := Lib.hid (And.intro hk hz)
  obtain ⟨hn1, Au, cu, rfl, _⟩ := hg
  clear ht
  obtain ⟨kb, hkb⟩ : ∃ kb, kb = w.heap.size := ⟨_, rfl⟩
  obtain ⟨w1, hw1⟩ : ∃ w1, w1 = w.alloc (.cells #[.string u.name, .slice Au u.groups.length cu] 45) := ⟨_, rfl⟩
  have hx1 : Ext w w1 := by rw [hw1]; exact new_ext _ _
  have hu1 : w1.heap[kb]? = some (.cells #[.string u.name, .slice Au u.groups.length cu] 45 (0, 0)) := by rw [hw1]; exact heap_new hkb
  have HX1 := Lib.hid hx1
  have HU1 := Lib.hid hu1
  obtain ⟨y0, y1⟩ := cells2 hu1
  clear hx1 hu1
  cases hkq : keyBad key with
  | true =>
    obtain ⟨e1, e2⟩ := issue_bad1 (u := u) (n := n) hkq
    have HE := Lib.hid (And.intro e1 e2)
    have HQ := Lib.hid hkq
    clear e1 e2 hkq
    go_enter Tryz.func17, Tryz.ntmps17
    go_wp2_with fail
    rw [← hw1]
    clear hw1 hkb
    go_wp2_with (go_at_call 49; refine (isKey_any _ _).mono ?_; rintro e w' ⟨rfl, rfl⟩; rw [HQ.out])
    go_ret2
    exact ⟨by rw [HE.out.1, HE.out.2]; rfl, HX1.out⟩
  | false =>
    have HQ := Lib.hid hkq
    clear hkq
    by_cases hu : userI u = 0
    · have hb1 : (userI u != 0) = false := by simp [hu]
      have HUI := Lib.hid hu
      clear hu
      cases htq : timeBad n with
      | true =>
        obtain ⟨e1, e2⟩ := issue_bad3 HQ.out HUI.out htq
        have HE := Lib.hid (And.intro e1 e2)
        have HTQ := Lib.hid htq
        clear e1 e2 htq
        go_enter Tryz.func17, Tryz.ntmps17
        go_wp2_with fail
        rw [← hw1, ← hkb]
        clear hw1 hkb
        go_wp2_with (first
          | (go_at_call 49; refine (isKey_any _ _).mono ?_; rintro e w' ⟨rfl, rfl⟩; rw [HQ.out])
          | (go_at_call 22; refine (user_any B _ u _ (Nat.le_trans hB HX1.out.size) HKZ.out.2 (HG.out.below (HX1.out.mono hB))).mono ?_; rintro e w2 ⟨rfl, hx2⟩; have HX2 := Lib.hid hx2; clear hx2 y0 y1)
          | (go_at_call 50; refine (isTime_any _ _).mono ?_; rintro e w' ⟨rfl, rfl⟩; rw [HTQ.out]))
        go_ret2
        exact ⟨by rw [HE.out.1, HE.out.2]; rfl, HX1.out.trans HX2.out⟩
      | false =>
        obtain ⟨e1, e2⟩ := issue_fine HQ.out HUI.out htq
        obtain ⟨hlo, hhi⟩ := timeBad_back htq
        obtain ⟨m, rfl⟩ := Int.eq_ofNat_of_zero_le hlo
        rw [Int.toNat_natCast] at e2
        have hm : m ≤ 1099511627776 := by omega
        have HE := Lib.hid (And.intro e1 e2)
        have HTQ := Lib.hid htq
        have HSS := Lib.hid (stem_size HUI.out hm)
        have HM := Lib.hid hm
        have hp := stem_parts HUI.out
        have hd := decB_size hm
        have g1 : (9223372036854775807 < u.name.size + 1) = False := eq_false (by omega)
        have g2 : (9223372036854775807 < u.name.size + 1 + (joinC u.groups).size) = False := eq_false (by omega)
        have g3 : (9223372036854775807 < u.name.size + 1 + (joinC u.groups).size + 1) = False := eq_false (by omega)
        have g4 : (9223372036854775807 < u.name.size + 1 + (joinC u.groups).size + 1 + (decB m).size) = False := eq_false (by omega)
        have g5 : (9223372036854775807 < u.name.size + 1 + (joinC u.groups).size + 1 + (decB m).size + 1) = False := eq_false (by omega)
        have g6 : (9223372036854775807 < u.name.size + 1 + (joinC u.groups).size + 1 + (decB m).size + 1 + (signB key (stemB u m)).size) = False := by rw [signB_size]; exact eq_false (by omega)
        have HG2 := Lib.hid (And.intro g6 (signB_size key (stemB u m)))
        clear e1 e2 htq hp hd hlo hhi hm g6
        go_enter Tryz.func17, Tryz.ntmps17
        go_wp2_with fail
        rw [← hw1, ← hkb]
        clear hw1 hkb
        go_wp2_with (first
          | (go_at_call 49; refine (isKey_any _ _).mono ?_; rintro e w' ⟨rfl, rfl⟩; rw [HQ.out])
          | (go_at_call 22; refine (user_any B _ u _ (Nat.le_trans hB HX1.out.size) HKZ.out.2 (HG.out.below (HX1.out.mono hB))).mono ?_; rintro e w2 ⟨rfl, hx2⟩; have HX2 := Lib.hid hx2; clear hx2 y0 y1)
          | (go_at_call 50; refine (isTime_any _ _).mono ?_; rintro e w' ⟨rfl, rfl⟩; rw [HTQ.out]))
        have hcs : ∀ w', Ext w2 w' → Ext w2 w' ∧ w'.cell? ⟨kb, 0, none⟩ = some (.string u.name) ∧ w'.cell? ⟨kb, 1, none⟩ = some (.slice Au u.groups.length cu) := fun w' hk => by
          obtain ⟨a, b⟩ := cells2 (((HX2.out.trans hk).block _ (heap_lt HU1.out)).trans HU1.out)
          exact ⟨hk, a, b⟩
        have CJ : Hid (∀ wk, Ext w2 wk → Calls Tryz.prog 33 #[.slice Au u.groups.length cu, .string ⟨#[44]⟩] wk fun e w' => e = .returned (.string (joinC u.groups)) ∧ Ext w2 w' ∧ w'.cell? ⟨kb, 0, none⟩ = some (.string u.name) ∧ w'.cell? ⟨kb, 1, none⟩ = some (.slice Au u.groups.length cu)) := fun wk hk => by
          have hx := HX1.out.trans (HX2.out.trans hk)
          exact (joinC_any (HG.out.below (hx.mono hB)) (Nat.le_trans hB hx.size)).mono fun e w' ⟨he, hx⟩ => ⟨he, hcs w' (hk.trans hx)⟩
        have CI : Hid (∀ wk, Ext w2 wk → Calls Tryz.prog 32 #[.int .i64 (m : Int)] wk fun e w' => e = .returned (.string (decB m)) ∧ Ext w2 w' ∧ w'.cell? ⟨kb, 0, none⟩ = some (.string u.name) ∧ w'.cell? ⟨kb, 1, none⟩ = some (.slice Au u.groups.length cu)) := fun wk hk =>
          (itoa_any m wk (HT.out.ext (HX1.out.trans (HX2.out.trans hk))) (by have := HM.out; omega)).mono fun e w' ⟨he, hx⟩ => ⟨he, hcs w' (hk.trans hx)⟩
        obtain ⟨hxx, y0, y1⟩ := hcs w2 (Below.refl _ _)
        clear hcs
        go_region_held3 (fun w' => Ext w2 w' ∧ w'.cell? ⟨kb, 0, none⟩ = some (.string u.name) ∧ w'.cell? ⟨kb, 1, none⟩ = some (.slice Au u.groups.length cu))
          (first | (refine ⟨by assumption, by assumption, by assumption⟩) | (refine ⟨Below.drew (by assumption), ?_, ?_⟩ <;> go_keep) | go_keep)
          (first
            | (go_at_call 33; refine (CJ.out _ (by first | assumption | (apply Below.drew; assumption))).mono ?_; rintro e w' ⟨rfl, q0, q1, q2⟩)
            | (go_at_call 32; refine (CI.out _ (by first | assumption | (apply Below.drew; assumption))).mono ?_; rintro e w' ⟨rfl, q0, q1, q2⟩))
        all_goals
          have HX3 := Lib.hid q0
          clear q0 q1 q2 y0 y1 hxx
          go_wp2_with fail
          refine Calls.mono (mac_any key (stemB u m) _ HKZ.out.1 (by have := HSS.out; omega)) ?_
          rintro e w8 ⟨rfl, hx8⟩
          have HX8 := Lib.hid (HX3.out.trans hx8)
          clear hx8
          obtain ⟨mc, hmc⟩ : ∃ mc : ByteArray, mc = ⟨(mac key.data.toList (stemB u m).data.toList).toArray⟩ := ⟨_, rfl⟩
          rw [← hmc]
          have hms : mc.size ≤ 1099511627776 := by
            rw [hmc, Lib.size_eq]
            have h32 : (mac key.data.toList (stemB u m).data.toList).length = 32 := rfl
            show (mac key.data.toList (stemB u m).data.toList).length ≤ _
            rw [h32]
            omega
          have hsg : (⟨(hex mc.data.toList).toArray⟩ : ByteArray) = signB key (stemB u m) := by rw [hmc]; rfl
          have HMS := Lib.hid hms
          have HSG := Lib.hid hsg
          clear hmc hms hsg
          go_wp2_with fail
          refine Calls.mono (hex_any mc _ HMS.out) ?_
          rintro e w9 ⟨rfl, hx9⟩
          rw [HSG.out]
          have g6 := HG2.out.1
          have HX9 := Lib.hid (HX8.out.trans hx9)
          clear hx9
          obtain ⟨sg, hsg⟩ : ∃ sg, sg = signB key (stemB u m) := ⟨_, rfl⟩
          rw [← hsg] at g6
          rw [← hsg]
          have HSG2 := Lib.hid hsg
          clear hsg
          go_wp2_with fail
          go_ret2
          refine ⟨?_, HX1.out.trans (HX2.out.trans HX9.out)⟩
          rw [HE.out.1, HE.out.2, HSG2.out]
          rfl
    · have hb1 : (userI u != 0) = true := by simp [hu]
      obtain ⟨e1, e2⟩ := issue_bad2 (n := n) HQ.out hu
      have HE := Lib.hid (And.intro e1 e2)
      clear e1 e2 hu
      go_enter Tryz.func17, Tryz.ntmps17
      go_wp2_with fail
      rw [← hw1, ← hkb]
      clear hw1 hkb
      go_wp2_with (first
        | (go_at_call 49; refine (isKey_any _ _).mono ?_; rintro e w' ⟨rfl, rfl⟩; rw [HQ.out])
        | (go_at_call 22; refine (user_any B _ u _ (Nat.le_trans hB HX1.out.size) HKZ.out.2 (HG.out.below (HX1.out.mono hB))).mono ?_; rintro e w2 ⟨rfl, hx2⟩; have HX2 := Lib.hid hx2; clear hx2))
      go_ret2
      exact ⟨by rw [HE.out.1, HE.out.2]; rfl, HX1.out.trans HX2.out⟩
end Go.Proofs.YtplfimoeggecjaaGreatDoor.Sx
namespace Go.Proofs.YtplfimoeggecjaaGreatDoor.Sx
open Go Go.RowKit Go.Lib Go.Proofs.YtplfimoeggecjaaGreatDoor.Dc Go.Proofs.YtplfimoeggecjaaGreatDoor.Tk

theorem keyBad_ways {s : ByteArray} (h : keyBad s = true) : s.toList.isEmpty = true ∨ (s.toList.isEmpty = false ∧ decide ((64 : Int) < (s.size : Int)) = true) := by
  unfold keyBad at h
  rw [Bool.or_eq_true, decide_eq_true_iff, decide_eq_true_iff] at h
  rcases Nat.eq_zero_or_pos s.size with h0 | h0
  · exact .inl (isEmpty_of_zero h0)
  · exact .inr ⟨isEmpty_of_pos h0, decide_eq_true (by omega)⟩
theorem keyBad_not {s : ByteArray} (h : keyBad s = false) : s.toList.isEmpty = false ∧ decide ((64 : Int) < (s.size : Int)) = false := by
  unfold keyBad at h
  rw [Bool.or_eq_false_iff, decide_eq_false_iff_not, decide_eq_false_iff_not] at h
  exact ⟨isEmpty_of_pos (by omega), decide_eq_false (by omega)⟩
theorem timeOut (n : Int) (w : World) : Calls Tryz.prog 38 #[.int .i64 n, .int .i64 0, .int .i64 1099511627776] w fun e w' => e = .returned (.bool (timeBad n)) ∧ w = w' := outside_any n 0 1099511627776 w

set_option maxRecDepth 100000 in
set_option maxHeartbeats 4000000 in
theorem rissue_any (B : Nat) (v : Value) (key : ByteArray) (u : User) (n : Int) (w : World) (hB : B ≤ w.heap.size) (hk : key.size ≤ 1048576) (hz : u.name.size ≤ 1048576) (hg : StrsAt B w v u.groups) :
    Calls Tryz.prog 18 #[.string key, .agg #[.string u.name, v], .int .i64 n] w fun e w' => e = .returned (.tuple #[.string (issueB key u n), .int .i64 (issueE key u n)]) ∧ Ext w w' := by
  have HG := Lib.hid hg
  have HKZ := Lib.hid (And.intro hk hz)
  obtain ⟨hn1, Au, cu, rfl, _⟩ := hg
  obtain ⟨kb, hkb⟩ : ∃ kb, kb = w.heap.size := ⟨_, rfl⟩
  obtain ⟨w1, hw1⟩ : ∃ w1, w1 = w.alloc (.cells #[.string u.name, .slice Au u.groups.length cu] 45) := ⟨_, rfl⟩
  have hx1 : Ext w w1 := by rw [hw1]; exact new_ext _ _
  have hu1 : w1.heap[kb]? = some (.cells #[.string u.name, .slice Au u.groups.length cu] 45 (0, 0)) := by rw [hw1]; exact heap_new hkb
  have HX1 := Lib.hid hx1
  have HU1 := Lib.hid hu1
  obtain ⟨y0, y1⟩ := cells2 hu1
  clear hx1 hu1
  cases hkq : keyBad key with
  | true =>
    obtain ⟨e1, e2⟩ := issue_bad1 (u := u) (n := n) hkq
    have HE := Lib.hid (And.intro e1 e2)
    have HQ := Lib.hid hkq
    have hkey := keyBad_ways hkq
    clear e1 e2 hkq
    rcases hkey with e1 | ⟨e1, e2⟩
    all_goals
      go_enter Tryz.func18, Tryz.ntmps18
      go_wp2_with fail
      go_ret2
      exact ⟨by rw [HE.out.1, HE.out.2]; rfl, by rw [← hw1]; exact HX1.out⟩
  | false =>
    have HQ := Lib.hid hkq
    obtain ⟨k1, k2⟩ := keyBad_not hkq
    clear hkq
    by_cases hu : userI u = 0
    · have hb1 : (userI u != 0) = false := by simp [hu]
      have HUI := Lib.hid hu
      clear hu
      cases htq : timeBad n with
      | true =>
        obtain ⟨e1, e2⟩ := issue_bad3 HQ.out HUI.out htq
        have HE := Lib.hid (And.intro e1 e2)
        have HTQ := Lib.hid htq
        clear e1 e2 htq
        go_enter Tryz.func18, Tryz.ntmps18
        go_wp2_with fail
        rw [← hw1, ← hkb]
        clear hw1 hkb
        go_wp2_with (first
          | (go_at_call 23; refine (ruser_any B _ u _ (Nat.le_trans hB HX1.out.size) HKZ.out.2 (HG.out.below (HX1.out.mono hB))).mono ?_; rintro e w2 ⟨rfl, hx2⟩; have HX2 := Lib.hid hx2; clear hx2 y0 y1)
          | (go_at_call 38; refine (timeOut _ _).mono ?_; rintro e w' ⟨rfl, rfl⟩; rw [HTQ.out]))
        go_ret2
        exact ⟨by rw [HE.out.1, HE.out.2]; rfl, HX1.out.trans HX2.out⟩
      | false =>
        obtain ⟨e1, e2⟩ := issue_fine HQ.out HUI.out htq
        obtain ⟨hlo, hhi⟩ := timeBad_back htq
        obtain ⟨m, rfl⟩ := Int.eq_ofNat_of_zero_le hlo
        rw [Int.toNat_natCast] at e2
        have hm : m ≤ 1099511627776 := by omega
        have HE := Lib.hid (And.intro e1 e2)
        have HTQ := Lib.hid htq
        have HSS := Lib.hid (stem_size HUI.out hm)
        have HM := Lib.hid hm
        have hp := stem_parts HUI.out
        have hd := decB_size hm
        have g1 : (9223372036854775807 < u.name.size + 1) = False := eq_false (by omega)
        have g2 : (9223372036854775807 < u.name.size + 1 + (joinC u.groups).size) = False := eq_false (by omega)
        have g3 : (9223372036854775807 < u.name.size + 1 + (joinC u.groups).size + 1) = False := eq_false (by omega)
        have g4 : (9223372036854775807 < u.name.size + 1 + (joinC u.groups).size + 1 + (decB m).size) = False := eq_false (by omega)
        have g5 : (9223372036854775807 < u.name.size + 1 + (joinC u.groups).size + 1 + (decB m).size + 1) = False := eq_false (by omega)
        have g6 : (9223372036854775807 < u.name.size + 1 + (joinC u.groups).size + 1 + (decB m).size + 1 + (signB key (stemB u m)).size) = False := by rw [signB_size]; exact eq_false (by omega)
        have HG2 := Lib.hid (And.intro g6 (signB_size key (stemB u m)))
        clear e1 e2 htq hp hd hlo hhi hm g6
        go_enter Tryz.func18, Tryz.ntmps18
        go_wp2_with fail
        rw [← hw1, ← hkb]
        clear hw1 hkb
        go_wp2_with (first
          | (go_at_call 23; refine (ruser_any B _ u _ (Nat.le_trans hB HX1.out.size) HKZ.out.2 (HG.out.below (HX1.out.mono hB))).mono ?_; rintro e w2 ⟨rfl, hx2⟩; have HX2 := Lib.hid hx2; clear hx2 y0 y1)
          | (go_at_call 38; refine (timeOut _ _).mono ?_; rintro e w' ⟨rfl, rfl⟩; rw [HTQ.out]))
        have hcs : ∀ w', Ext w2 w' → Ext w2 w' ∧ w'.cell? ⟨kb, 0, none⟩ = some (.string u.name) ∧ w'.cell? ⟨kb, 1, none⟩ = some (.slice Au u.groups.length cu) := fun w' hk => by
          obtain ⟨a, b⟩ := cells2 (((HX2.out.trans hk).block _ (heap_lt HU1.out)).trans HU1.out)
          exact ⟨hk, a, b⟩
        have CJ : Hid (∀ wk, Ext w2 wk → Calls Tryz.prog 33 #[.slice Au u.groups.length cu, .string ⟨#[44]⟩] wk fun e w' => e = .returned (.string (joinC u.groups)) ∧ Ext w2 w' ∧ w'.cell? ⟨kb, 0, none⟩ = some (.string u.name) ∧ w'.cell? ⟨kb, 1, none⟩ = some (.slice Au u.groups.length cu)) := fun wk hk => by
          have hx := HX1.out.trans (HX2.out.trans hk)
          exact (joinC_any (HG.out.below (hx.mono hB)) (Nat.le_trans hB hx.size)).mono fun e w' ⟨he, hx⟩ => ⟨he, hcs w' (hk.trans hx)⟩
        have CI : Hid (∀ wk, Ext w2 wk → Calls Tryz.prog 40 #[.int .i64 (m : Int)] wk fun e w' => e = .returned (.string (decB m)) ∧ Ext w2 w' ∧ w'.cell? ⟨kb, 0, none⟩ = some (.string u.name) ∧ w'.cell? ⟨kb, 1, none⟩ = some (.slice Au u.groups.length cu)) := fun wk hk =>
          (digits_any m wk (by have := HM.out; omega)).mono fun e w' ⟨he, hx⟩ => ⟨he, hcs w' (hk.trans hx)⟩
        obtain ⟨hxx, y0, y1⟩ := hcs w2 (Below.refl _ _)
        clear hcs
        go_region_held3 (fun w' => Ext w2 w' ∧ w'.cell? ⟨kb, 0, none⟩ = some (.string u.name) ∧ w'.cell? ⟨kb, 1, none⟩ = some (.slice Au u.groups.length cu))
          (first | (refine ⟨by assumption, by assumption, by assumption⟩) | (refine ⟨Below.drew (by assumption), ?_, ?_⟩ <;> go_keep) | go_keep)
          (first
            | (go_at_call 33; refine (CJ.out _ (by first | assumption | (apply Below.drew; assumption))).mono ?_; rintro e w' ⟨rfl, q0, q1, q2⟩)
            | (go_at_call 40; refine (CI.out _ (by first | assumption | (apply Below.drew; assumption))).mono ?_; rintro e w' ⟨rfl, q0, q1, q2⟩))
        all_goals
          have HX3 := Lib.hid q0
          clear q0 q1 q2 y0 y1 hxx
          go_wp2_with fail
          refine Calls.mono (rmac_any key (stemB u m) _ HKZ.out.1 (by have := HSS.out; omega)) ?_
          rintro e w8 ⟨rfl, hx8⟩
          have HX8 := Lib.hid (HX3.out.trans hx8)
          clear hx8
          obtain ⟨mc, hmc⟩ : ∃ mc : ByteArray, mc = bs (mac key.data.toList (stemB u m).data.toList) := ⟨_, rfl⟩
          rw [← hmc]
          have hms : mc.size ≤ 1099511627776 := by
            rw [hmc, Lib.size_eq]
            have h32 : (mac key.data.toList (stemB u m).data.toList).length = 32 := rfl
            show (mac key.data.toList (stemB u m).data.toList).length ≤ _
            rw [h32]
            omega
          have hsg : bs (hex mc.data.toList) = signB key (stemB u m) := by rw [hmc]; rfl
          have HMS := Lib.hid hms
          have HSG := Lib.hid hsg
          clear hmc hms hsg
          go_wp2_with fail
          refine Calls.mono (rhex_any mc _ HMS.out) ?_
          rintro e w9 ⟨rfl, hx9⟩
          rw [HSG.out]
          have g6 := HG2.out.1
          have HX9 := Lib.hid (HX8.out.trans hx9)
          clear hx9
          obtain ⟨sg, hsg⟩ : ∃ sg, sg = signB key (stemB u m) := ⟨_, rfl⟩
          rw [← hsg] at g6
          rw [← hsg]
          have HSG2 := Lib.hid hsg
          clear hsg
          go_wp2_with fail
          go_ret2
          refine ⟨?_, HX1.out.trans (HX2.out.trans HX9.out)⟩
          rw [HE.out.1, HE.out.2, HSG2.out]
          rfl
    · have hb1 : (userI u != 0) = true := by simp [hu]
      obtain ⟨e1, e2⟩ := issue_bad2 (n := n) HQ.out hu
      have HE := Lib.hid (And.intro e1 e2)
      clear e1 e2 hu
      go_enter Tryz.func18, Tryz.ntmps18
      go_wp2_with fail
      rw [← hw1, ← hkb]
      clear hw1 hkb
      go_wp2_with (first
        | (go_at_call 23; refine (ruser_any B _ u _ (Nat.le_trans hB HX1.out.size) HKZ.out.2 (HG.out.below (HX1.out.mono hB))).mono ?_; rintro e w2 ⟨rfl, hx2⟩; have HX2 := Lib.hid hx2; clear hx2))
      go_ret2
      exact ⟨by rw [HE.out.1, HE.out.2]; rfl, HX1.out.trans HX2.out⟩
end Go.Proofs.YtplfimoeggecjaaGreatDoor.Sx
namespace Go.Proofs.YtplfimoeggecjaaGreatDoor.Sx
open Go Go.RowKit Go.Lib Go.Proofs.YtplfimoeggecjaaGreatDoor.Dc Go.Proofs.YtplfimoeggecjaaGreatDoor.Tk

def UsrIn (w : World) (g : Nat) (n : ByteArray) (v : Value) : Prop := w.heap[g]? = some (.cells #[.string n, v] 45 (0, 0))
theorem results_user {fn : Func} {p u : Tmp} (h : fn.results = #[.cell p 45, .tmp u]) (tmps : Array Value) (w : World) (g : Nat) {n : ByteArray} {v : Value} (hp : tmps.getD p undef = .pointer (some ⟨g, 0, none⟩)) (hg : UsrIn w g n v) :
    (results fn tmps).run Tryz.prog w = .ok (.tuple #[.agg #[.string n, v], tmps.getD u undef]) w := by
  have hp' : tmps[p]?.getD undef = .pointer (some ⟨g, 0, none⟩) := by simpa using hp
  have hr := run_loadVar_row (P := Tryz.prog) w g 45 _ _ _ _ hg Tryz.underlying45 rfl (by kernel_rfl)
  simp [results, h, hp', asAddr, hr]
theorem put_user {w W : World} {g : Nat} {x0 x1 : Value} (n : ByteArray) (v : Value) (hg : W.heap[g]? = some (.cells #[x0, x1] 45 (0, 0))) (hx : Ext w W) (hb : w.heap.size ≤ g) :
    UsrIn ((W.setCell ⟨g, 0, none⟩ (.string n)).setCell ⟨g, 1, none⟩ v) g n v ∧ Ext w ((W.setCell ⟨g, 0, none⟩ (.string n)).setCell ⟨g, 1, none⟩ v) := by
  refine ⟨?_, Below.setCell (Below.setCell hx (by exact hb) _) (by exact hb) _⟩
  unfold UsrIn
  simp [World.setCell, Array.getElem?_modify, hg]
theorem put_groups {w W : World} {g : Nat} {n : ByteArray} {x1 : Value} (v : Value) (hg : UsrIn W g n x1) (hx : Ext w W) (hb : w.heap.size ≤ g) :
    UsrIn (W.setCell ⟨g, 1, none⟩ v) g n v ∧ Ext w (W.setCell ⟨g, 1, none⟩ v) := by
  refine ⟨?_, Below.setCell hx (by exact hb) _⟩
  unfold UsrIn at *
  simp [World.setCell, Array.getElem?_modify, hg]
theorem free_cells {w : World} {g t : Nat} {C : Array Value} (hg : w.heap[g]? = some (.cells C t (0, 0))) (k : Nat) : w.frozen? ⟨g, k, none⟩ = false := by
  simp [World.frozen?, hg]

/-- The user that Check answers. -/
def tokU (key t : ByteArray) (now : Int) : User := if tokE key t now = 0 then tokUser t else ⟨⟨#[]⟩, []⟩
def TokPost (w : World) (key t : ByteArray) (now : Int) (e : Ending) (w' : World) : Prop :=
  ∃ v, e = .returned (.tuple #[.agg #[.string (tokU key t now).name, v], .int .i64 (tokE key t now)]) ∧ StrsR w'.heap.size w' v (tokU key t now).groups ∧ Ext w w'
theorem tokPost_bad {w w' : World} {key t : ByteArray} {now n : Int} (h : tokE key t now = n) (h0 : n ≠ 0) (hx : Ext w w') : TokPost w key t now (.returned (.tuple #[.agg #[.string ⟨#[]⟩, .slice none 0 0], .int .i64 n])) w' := by
  have hu : tokU key t now = ⟨⟨#[]⟩, []⟩ := by unfold tokU; rw [h, if_neg h0]
  refine ⟨.slice none 0 0, by rw [hu, h], ?_, hx⟩
  rw [hu]
  exact ⟨by simp, none, 0, rfl, fun i hi => by simp at hi⟩
theorem tokPost_good {w w' : World} {key t : ByteArray} {now : Int} {v : Value} (h : tokE key t now = 0) (hv : StrsR w'.heap.size w' v (groupsOf (pAt t 1))) (hx : Ext w w') : TokPost w key t now (.returned (.tuple #[.agg #[.string (pAt t 0), v], .int .i64 0])) w' := by
  have hu : tokU key t now = tokUser t := by unfold tokU; rw [if_pos h]
  refine ⟨v, by rw [hu, h]; rfl, ?_, hx⟩
  rw [hu]
  exact hv

section
variable {key t : ByteArray} {now : Int}
theorem tok_1 (h : keyBad key = true ∨ timeBad now = true) : tokE key t now = 1 := by
  unfold tokE
  rw [if_pos (by rcases h with h | h <;> simp [h])]
theorem tok_2 (hk : keyBad key = false) (hn : timeBad now = false) (h : (parts 46 t).length ≠ 4 ∨ (pAt t 3).size ≠ 64) : tokE key t now = 16 := by
  unfold tokE
  rw [if_neg (by simp [hk, hn]), if_pos h]
theorem tok_3 (hk : keyBad key = false) (hn : timeBad now = false) (h4 : (parts 46 t).length = 4) (h64 : (pAt t 3).size = 64) (h : unhex (pAt t 3).data.toList = none) : tokE key t now = 16 := by
  unfold tokE
  rw [if_neg (by simp [hk, hn]), if_neg (by simp [h4, h64]), if_pos (by rw [h]; rfl)]
theorem tok_4 {m : List UInt8} (hk : keyBad key = false) (hn : timeBad now = false) (h4 : (parts 46 t).length = 4) (h64 : (pAt t 3).size = 64) (h : unhex (pAt t 3).data.toList = some m) (hs : signB key (tokHead t) ≠ pAt t 3) : tokE key t now = 17 := by
  unfold tokE
  rw [if_neg (by simp [hk, hn]), if_neg (by simp [h4, h64]), if_neg (by rw [h]; simp), if_pos hs]
theorem tok_5 {m : List UInt8} (hk : keyBad key = false) (hn : timeBad now = false) (h4 : (parts 46 t).length = 4) (h64 : (pAt t 3).size = 64) (h : unhex (pAt t 3).data.toList = some m) (hs : signB key (tokHead t) = pAt t 3) (hb : tokTime t < 0 ∨ userI (tokUser t) ≠ 0) : tokE key t now = 16 := by
  unfold tokE
  rw [if_neg (by simp [hk, hn]), if_neg (by simp [h4, h64]), if_neg (by rw [h]; simp), if_neg (by simp [hs]), if_pos hb]
theorem tok_6 {m : List UInt8} (hk : keyBad key = false) (hn : timeBad now = false) (h4 : (parts 46 t).length = 4) (h64 : (pAt t 3).size = 64) (h : unhex (pAt t 3).data.toList = some m) (hs : signB key (tokHead t) = pAt t 3) (h0 : 0 ≤ tokTime t) (hu : userI (tokUser t) = 0) : tokE key t now = if tokTime t < now then 15 else 0 := by
  unfold tokE
  rw [if_neg (by simp [hk, hn]), if_neg (by simp [h4, h64]), if_neg (by rw [h]; simp), if_neg (by simp [hs]), if_neg (by rintro (h | h); (· omega); (· exact h hu))]
end
theorem four_cells {w : World} {b : Nat} {t : ByteArray} (h4 : (parts 46 t).length = 4) (h : w.heap[b]? = some (.cells ((parts 46 t).map Value.string).toArray 9 (0, 0))) :
    w.heap[b]? = some (.cells #[.string (pAt t 0), .string (pAt t 1), .string (pAt t 2), .string (pAt t 3)] 9 (0, 0)) := by
  rw [parts_four h4] at h
  exact h
theorem pAt_size {t : ByteArray} (i : Nat) : (pAt t i).size ≤ t.size := by
  unfold pAt
  rcases Nat.lt_or_ge i (parts 46 t).length with h | h
  · rw [List.getD_eq_getElem?_getD, List.getElem?_eq_getElem h]
    exact (parts_le 46 t.size t (Nat.le_refl _)).2 _ (List.getElem_mem h)
  · rw [List.getD_eq_getElem?_getD, List.getElem?_eq_none h]
    exact Nat.zero_le _
theorem four_size {t : ByteArray} (h64 : (pAt t 3).size = 64) : 64 ≤ t.size := by
  have := @pAt_size t 3
  omega
theorem head_cut {t : ByteArray} (h : 64 ≤ t.size) (W : World) : (Instr.slice 9 (.string t) none (some (.int .i64 ((t.size : Int) - 64))) none).run Tryz.prog W = .ok (.string (tokHead t)) W := by
  rw [run_slice_string_h W _ _ Tryz.underlying9 .i64 ((t.size : Int) - 64) (by omega) (by omega)]
  unfold tokHead
  have e : ((t.size : Int) - 64).toNat = t.size - 64 := by omega
  rw [e]
theorem eq_letters {a b : ByteArray} : (a = b → (a.toList == b.toList) = true) ∧ (a ≠ b → (a.toList == b.toList) = false) :=
  ⟨fun h => by rw [h]; simp, fun h => by
    rw [beq_eq_false_iff_ne, toList_data, toList_data]
    exact fun e => h (ba_ext e)⟩
end Go.Proofs.YtplfimoeggecjaaGreatDoor.Sx
namespace Go.Proofs.YtplfimoeggecjaaGreatDoor.Sx
open Go Go.RowKit Go.Lib Go.Proofs.YtplfimoeggecjaaGreatDoor.Dc Go.Proofs.YtplfimoeggecjaaGreatDoor.Tk

theorem unhexV_some {l m : List UInt8} (h : unhex l = some m) : unhexV l = .tuple #[.string ⟨m.toArray⟩, .int .i64 0] := by unfold unhexV; rw [h]
theorem unhexV_none {l : List UInt8} (h : unhex l = none) : unhexV l = .tuple #[.string ⟨#[]⟩, .int .i64 16] := by unfold unhexV; rw [h]

/-- Groups that stand in memory, not in block g. -/
def GrpIn (W : World) (g : Nat) (v : Value) (xs : List ByteArray) : Prop :=
  (v = .slice none 0 0 ∧ xs = []) ∨ ∃ b, b ≠ g ∧ v = .slice (some ⟨b, 0, none⟩) xs.length xs.length ∧ W.heap[b]? = some (.cells (xs.map Value.string).toArray 9 (0, 0)) ∧ xs.length ≤ 1048576 ∧ ∀ x ∈ xs, x.size ≤ 1048576
theorem GrpIn.ext {W W' : World} {g : Nat} {v : Value} {xs : List ByteArray} (h : GrpIn W g v xs) (hx : Ext W W') : GrpIn W' g v xs := by
  rcases h with h | ⟨b, h1, h2, h3, h4⟩
  · exact .inl h
  · exact .inr ⟨b, h1, h2, (hx.block _ (heap_lt h3)).trans h3, h4⟩
theorem GrpIn.set {W : World} {g : Nat} {v : Value} {xs : List ByteArray} (h : GrpIn W g v xs) (o : Nat) (x : Value) : GrpIn (W.setCell ⟨g, o, none⟩ x) g v xs := by
  rcases h with h | ⟨b, h1, h2, h3, h4⟩
  · exact .inl h
  · refine .inr ⟨b, h1, h2, ?_, h4⟩
    rw [← h3]
    simp [World.setCell, Array.getElem?_modify, Ne.symm h1]
theorem GrpIn.strs {W : World} {g : Nat} {v : Value} {xs : List ByteArray} (h : GrpIn W g v xs) : StrsAt W.heap.size W v xs := by
  rcases h with ⟨rfl, rfl⟩ | ⟨b, h1, rfl, h3, h4, h5⟩
  · exact ⟨by simp, none, 0, rfl, by simp, by simp, fun i hi => by simp at hi⟩
  · refine ⟨h4, _, _, rfl, Nat.le_refl _, h4, fun i hi => ⟨b, 0, [.string xs[i]], rfl, heap_lt h3, rfl, ⟨rfl, h5 _ (List.getElem_mem hi)⟩, fun j u hj => ?_⟩⟩
    have hj0 : j = 0 := by
      have := (List.getElem?_eq_some_iff.1 hj).1
      simpa using this
    subst hj0
    simp at hj
    subst hj
    rw [cell_of h3]
    simp [hi]
theorem grp_small {s : ByteArray} (hs : s.size ≤ 1048575) : (parts 44 s).length ≤ 1048576 ∧ ∀ x ∈ parts 44 s, x.size ≤ 1048576 := by
  have h := parts_le 44 s.size s (Nat.le_refl _)
  exact ⟨by omega, fun x hx => by have := h.2 x hx; omega⟩

set_option maxRecDepth 100000 in
set_option maxHeartbeats 8000000 in
theorem tcheck_any (key t : ByteArray) (now : Int) (w : World) (hk : key.size ≤ 1048576) (ht : t.size ≤ 1048575) (hm : MaxC w) (htab : Tab10 w) (her : Errs w) :
    Calls Tryz.prog 19 #[.string key, .string t, .int .i64 now] w (TokPost w key t now) := by
  have HZ := Lib.hid (And.intro hk ht)
  have HW := Lib.hid (And.intro hm (And.intro htab her))
  clear hm htab her hk
  have hti : (t.size : Int) ≤ 1048575 := by omega
  clear ht
  obtain ⟨g, hg⟩ : ∃ g, g = w.heap.size := ⟨_, rfl⟩
  obtain ⟨w1, hw1⟩ : ∃ w1, w1 = w.alloc (.cells #[.string ⟨#[]⟩, .slice none 0 0] 45 (0, 0)) := ⟨_, rfl⟩
  have HX1 : Hid (Ext w w1) := by rw [hw1]; exact new_ext _ _
  have HG1 : Hid (w1.heap[g]? = some (.cells #[.string ⟨#[]⟩, .slice none 0 0] 45 (0, 0))) := by rw [hw1]; exact heap_new hg
  have HGW : Hid (w.heap.size ≤ g) := by rw [hg]; exact Nat.le_refl _
  -- the result's box, and what is stored there
  have HC : Hid (∀ W, Ext w1 W → (W.cell? ⟨g, 0, none⟩ = some (.string ⟨#[]⟩) ∧ W.cell? ⟨g, 1, none⟩ = some (.slice none 0 0)) ∧ (W.frozen? ⟨g, 0, none⟩ = false ∧ W.frozen? ⟨g, 1, none⟩ = false) ∧ (∀ n v, UsrIn ((W.setCell ⟨g, 0, none⟩ (.string n)).setCell ⟨g, 1, none⟩ v) g n v ∧ Ext w ((W.setCell ⟨g, 0, none⟩ (.string n)).setCell ⟨g, 1, none⟩ v)) ∧ Ext w W) := fun W hW => by
    have hb := (hW.block _ (heap_lt HG1.out)).trans HG1.out
    exact ⟨cells2 hb, ⟨free_cells hb 0, free_cells hb 1⟩, fun n v => put_user n v hb (HX1.out.trans hW) HGW.out, HX1.out.trans hW⟩
  go_enter Tryz.func19, Tryz.ntmps19
  go_wp2_with fail
  rw [← hw1, ← hg]
  clear hw1 hg
  by_cases hbad : keyBad key = true ∨ timeBad now = true
  · have HE := Lib.hid (tok_1 (t := t) hbad)
    obtain ⟨⟨c0, c1⟩, ⟨f0, f1⟩, -, -⟩ := HC.out w1 (Below.refl _ _)
    have hways : keyBad key = true ∨ (keyBad key = false ∧ timeBad now = true) := by cases h : keyBad key; (· exact .inr ⟨rfl, by rcases hbad with h2 | h2; (· rw [h] at h2; cases h2); (· exact h2)⟩); (· exact .inl rfl)
    clear hbad
    rcases hways with h | ⟨h, h2⟩
    · have HQ := Lib.hid h
      clear h
      go_wp2_with (go_at_call 49; refine (isKey_any _ _).mono ?_; rintro e w' ⟨rfl, rfl⟩; rw [HQ.out])
      obtain ⟨t1, t2⟩ := (HC.out w1 (Below.refl _ _)).2.2.1 ⟨#[]⟩ (.slice none 0 0)
      refine bodyPost_ret (results_user rfl _ _ g rfl t1) rfl ?_
      exact tokPost_bad HE.out (by decide) t2
    · have HQ := Lib.hid h
      have HQ2 := Lib.hid h2
      clear h h2
      go_wp2_with (first | (go_at_call 49; refine (isKey_any _ _).mono ?_; rintro e w' ⟨rfl, rfl⟩; rw [HQ.out]) | (go_at_call 50; refine (isTime_any _ _).mono ?_; rintro e w' ⟨rfl, rfl⟩; rw [HQ2.out]))
      obtain ⟨t1, t2⟩ := (HC.out w1 (Below.refl _ _)).2.2.1 ⟨#[]⟩ (.slice none 0 0)
      refine bodyPost_ret (results_user rfl _ _ g rfl t1) rfl ?_
      exact tokPost_bad HE.out (by decide) t2
  · obtain ⟨hkf, hnf⟩ : keyBad key = false ∧ timeBad now = false := ⟨by cases h : keyBad key; (· rfl); (· exact absurd (.inl h) hbad), by cases h : timeBad now; (· rfl); (· exact absurd (.inr h) hbad)⟩
    have HKF := Lib.hid hkf
    have HNF := Lib.hid hnf
    clear hbad hkf hnf
    go_wp2_with (first
      | (go_at_call 49; refine (isKey_any _ _).mono ?_; rintro e w' ⟨rfl, rfl⟩; rw [HKF.out])
      | (go_at_call 50; refine (isTime_any _ _).mono ?_; rintro e w' ⟨rfl, rfl⟩; rw [HNF.out]))
    refine Calls.mono (spl_any t 46 w1 (HW.out.1.ext HX1.out) HZ.out.2) ?_
    rintro e w2 ⟨rfl, hr, -, hx⟩
    have HR2 := Lib.hid hr
    have HX2 := Lib.hid hx
    clear hr hx
    obtain ⟨b, hb⟩ : ∃ b, b = w1.heap.size := ⟨_, rfl⟩
    rw [← hb] at HR2
    rw [← hb]
    clear hb
    by_cases h4 : (parts 46 t).length = 4
    · have HP : Hid (∀ W, Ext w2 W → (W.cell? ⟨b, 0, none⟩ = some (.string (pAt t 0)) ∧ W.cell? ⟨b, 1, none⟩ = some (.string (pAt t 1)) ∧ W.cell? ⟨b, 2, none⟩ = some (.string (pAt t 2)) ∧ W.cell? ⟨b, 3, none⟩ = some (.string (pAt t 3)))) := fun W hW =>
        cells4 ((hW.block _ (heap_lt (four_cells h4 HR2.out))).trans (four_cells h4 HR2.out))
      have H4 := Lib.hid h4
      rw [h4]
      clear h4
      obtain ⟨p0, p1, p2, p3⟩ := HP.out w2 (Below.refl _ _)
      have HS3 := Lib.hid (@pAt_size t 3)
      by_cases h64 : (pAt t 3).size = 64
      · have hb1 : (((pAt t 3).size : Int) != 64) = false := by rw [h64]; rfl
        have H64 := Lib.hid h64
        clear h64
        go_wp2_with fail
        refine Calls.mono (unhex_any (pAt t 3) _ (by have := H64.out; omega)) ?_
        rintro e w3 ⟨rfl, hx3⟩
        have HX3 := Lib.hid (HX2.out.trans hx3)
        have HX3' := Lib.hid hx3
        clear hx3 p0 p1 p2 p3 hb1
        cases hu : unhex (pAt t 3).data.toList with
        | none =>
          have HE := Lib.hid (tok_3 (now := now) HKF.out HNF.out H4.out H64.out hu)
          rw [unhexV_none hu]
          clear hu
          obtain ⟨⟨c0, c1⟩, ⟨f0, f1⟩, -, -⟩ := HC.out w3 HX3.out
          go_wp2_with fail
          obtain ⟨t1, t2⟩ := (HC.out w3 HX3.out).2.2.1 ⟨#[]⟩ (.slice none 0 0)
          refine bodyPost_ret (results_user rfl _ _ g rfl t1) rfl ?_
          exact tokPost_bad HE.out (by decide) t2
        | some m =>
          rw [unhexV_some hu]
          have HU := Lib.hid hu
          clear hu
          obtain ⟨mB, hmB⟩ : ∃ mB : ByteArray, mB = ⟨m.toArray⟩ := ⟨_, rfl⟩
          rw [← hmB]
          have HMB := Lib.hid hmB
          clear hmB
          have h64t : (64 : Int) ≤ (t.size : Int) := by have := four_size H64.out; omega
          have hcut := head_cut (t := t) (by omega)
          go_wp2_with fail
          refine Calls.mono (mac_any key (tokHead t) _ HZ.out.1 (by have := HZ.out.2; unfold tokHead; simp; omega)) ?_
          rintro e w4 ⟨rfl, hx4⟩
          have HX4 := Lib.hid (HX3.out.trans hx4)
          have HX34 := Lib.hid (HX3'.out.trans hx4)
          have HP4 := Lib.hid (HP.out w4 (HX3'.out.trans hx4))
          clear hx4 hcut
          obtain ⟨cB, hcB⟩ : ∃ cB : ByteArray, cB = ⟨(mac key.data.toList (tokHead t).data.toList).toArray⟩ := ⟨_, rfl⟩
          rw [← hcB]
          have hiff : mB = cB ↔ signB key (tokHead t) = pAt t 3 := by
            rw [← sign_iff HU.out, HMB.out, hcB]
            constructor
            · intro h
              have := congrArg (fun b : ByteArray => b.data.toList) h
              exact this
            · intro h
              rw [h]
          clear hcB
          by_cases hs : signB key (tokHead t) = pAt t 3
          · have q1 := eq_letters.1 (hiff.2 hs)
            have HS := Lib.hid hs
            clear hs hiff
            have HX4' := HX4
            obtain ⟨p0, p1, p2, p3⟩ := HP4.out
            obtain ⟨k, hk⟩ : ∃ k, k = w4.heap.size := ⟨_, rfl⟩
            obtain ⟨w5, hw5⟩ : ∃ w5, w5 = w4.alloc (.cells #[.string (pAt t 0), .slice none 0 0] 45 (0, 0)) := ⟨_, rfl⟩
            have HX5 : Hid (Ext w4 w5) := by rw [hw5]; exact new_ext _ _
            have HU5 : Hid (UsrIn w5 k (pAt t 0) (.slice none 0 0)) := by rw [hw5]; exact heap_new hk
            have HKG : Hid (g < k) := by rw [hk]; exact heap_lt ((HX4.out.block _ (heap_lt HG1.out)).trans HG1.out)
            have HK4 : Hid (w4.heap.size ≤ k) := by rw [hk]; exact Nat.le_refl _
            have hsz4 : b < w4.heap.size := by
              rcases Nat.lt_or_ge b w4.heap.size with h | h
              · exact h
              · unfold World.cell? at p0
                rw [Array.getElem?_eq_none h] at p0
                cases p0
            by_cases hl : (pAt t 1).size = 0
            · have q2 := isEmpty_of_zero hl
              have HGR0 : Hid (groupsOf (pAt t 1) = []) := if_pos hl
              clear hl
              go_wp2_with fail
              rw [← hw5, ← hk]
              clear hw5 hk p0 p1 p2 p3 hsz4
              obtain ⟨w7, hw7⟩ : ∃ w7, w7 = w5 := ⟨_, rfl⟩
              have HX7 : Hid (Ext w1 w7) := by rw [hw7]; exact HX4.out.trans HX5.out
              have HUS : Hid (UsrIn w7 k (pAt t 0) (.slice none 0 0)) := by rw [hw7]; exact HU5.out
              have HGR : Hid (GrpIn w7 g (.slice none 0 0) (groupsOf (pAt t 1))) := by rw [HGR0.out]; exact .inl ⟨rfl, rfl⟩
              have HP7 : Hid (w7.cell? ⟨b, 0, none⟩ = some (.string (pAt t 0)) ∧ w7.cell? ⟨b, 1, none⟩ = some (.string (pAt t 1)) ∧ w7.cell? ⟨b, 2, none⟩ = some (.string (pAt t 2)) ∧ w7.cell? ⟨b, 3, none⟩ = some (.string (pAt t 3))) := by rw [hw7]; exact HP.out _ (HX34.out.trans HX5.out)
              rw [← hw7]
              clear hw7 HU5 HX5 HGR0
              have HC7 := Lib.hid (HC.out w7 HX7.out)
              obtain ⟨p0, p1, p2, p3⟩ := HP7.out
              go_wp2_with fail
              refine Calls.mono (atoi_any (pAt t 2) w7 (by have := @pAt_size t 2; have := HZ.out.2; omega) (HW.out.2.2.ext HC7.out.2.2.2)) ?_
              rintro e w8 ⟨n, er, rfl, hr, hx8⟩
              have HR := Lib.hid hr
              have HX8 := Lib.hid (HX7.out.trans hx8)
              have HUS8 : Hid (UsrIn w8 k (pAt t 0) (.slice none 0 0)) := (hx8.block _ (heap_lt HUS.out)).trans HUS.out
              have HGR8 : Hid (GrpIn w8 g (.slice none 0 0) (groupsOf (pAt t 1))) := HGR.out.ext hx8
              obtain ⟨u0, u1⟩ := cells2 HUS8.out
              clear hr hx8 p0 p1 p2 p3
              go_wp2_with fail
              refine Calls.mono (issue_any w8.heap.size (.slice none 0 0) key (tokUser t) n w8 (Nat.le_refl _) HZ.out.1 (by have h1 := @pAt_size t 0; have h2 := HZ.out.2; show (pAt t 0).size ≤ 1048576; omega) HGR8.out.strs (HW.out.2.1.ext (HC.out w8 HX8.out).2.2.2)) ?_
              rintro e w9 ⟨rfl, hx9⟩
              have HX9 := Lib.hid (HX8.out.trans hx9)
              have HUS9 : Hid (UsrIn w9 k (pAt t 0) (.slice none 0 0)) := (hx9.block _ (heap_lt HUS8.out)).trans HUS8.out
              have HGR9 : Hid (GrpIn w9 g (.slice none 0 0) (groupsOf (pAt t 1))) := HGR8.out.ext hx9
              obtain ⟨E, hE⟩ : ∃ E, E = issueE key (tokUser t) n := ⟨_, rfl⟩
              obtain ⟨A, hA⟩ : ∃ A, A = issueB key (tokUser t) n := ⟨_, rfl⟩
              rw [← hE, ← hA]
              have HEA := Lib.hid (And.intro hE hA)
              clear hE hA hx9 u0 u1
              obtain ⟨⟨c0, c1⟩, ⟨f0, f1⟩, -, -⟩ := HC.out w9 HX9.out
              obtain ⟨u0, u1⟩ := cells2 HUS9.out
              by_cases hgood : 0 ≤ tokTime t ∧ userI (tokUser t) = 0
              · obtain ⟨a1, a2, a3⟩ := tok_good HKF.out H4.out H64.out HS.out hgood.1 hgood.2
                have HTE := Lib.hid (tok_6 (now := now) HKF.out HNF.out H4.out H64.out HU.out HS.out hgood.1 hgood.2)
                have hne : n = tokTime t ∧ er = .nilIface := by
                  rcases HR.out with ⟨h1, h2⟩ | ⟨h1, _⟩
                  · rw [a1] at h1
                    injection h1 with h1
                    exact ⟨h1.symm, h2⟩
                  · exact absurd a1 (h1 _)
                obtain ⟨rfl, rfl⟩ := hne
                obtain rfl : E = 0 := HEA.out.1.trans a2
                obtain rfl : A = t := HEA.out.2.trans a3
                have q1 : (A.toList == A.toList) = true := by simp
                obtain ⟨N, hN⟩ : ∃ N, N = tokTime A := ⟨_, rfl⟩
                rw [← hN] at HTE
                rw [← hN]
                clear hgood a1 a2 a3 hN HR HEA
                by_cases hlt : N < now
                · have q2 : decide (N < now) = true := decide_eq_true hlt
                  have HE : Hid (tokE key A now = 15) := by unfold Hid; rw [HTE.out, if_pos hlt]
                  clear hlt
                  go_wp2_with fail
                  obtain ⟨t1, t2⟩ := (HC.out w9 HX9.out).2.2.1 ⟨#[]⟩ (.slice none 0 0)
                  refine bodyPost_ret (results_user rfl _ _ g rfl t1) rfl ?_
                  exact tokPost_bad HE.out (by decide) t2
                · have q2 : decide (N < now) = false := decide_eq_false hlt
                  have HE : Hid (tokE key A now = 0) := by unfold Hid; rw [HTE.out, if_neg hlt]
                  clear hlt
                  go_wp2_with fail
                  obtain ⟨t1, t2⟩ := (HC.out w9 HX9.out).2.2.1 (pAt A 0) (.slice none 0 0)
                  refine bodyPost_ret (results_user rfl _ _ g rfl t1) rfl ?_
                  exact tokPost_good HE.out (StrsAt.toR ((HGR9.out.set _ _).set _ _).strs) t2
              · have hbad : tokTime t < 0 ∨ userI (tokUser t) ≠ 0 := by
                  rcases Int.lt_or_le (tokTime t) 0 with h | h
                  · exact .inl h
                  · exact .inr fun h2 => hgood ⟨h, h2⟩
                have HE := Lib.hid (tok_5 (now := now) HKF.out HNF.out H4.out H64.out HU.out HS.out hbad)
                have hways : (∃ tt pp, er = .iface tt pp) ∨ (er = .nilIface ∧ (E != 0) = true) ∨ (er = .nilIface ∧ E = 0 ∧ (A.toList == t.toList) = false) := by
                  rcases HR.out with ⟨_, h2⟩ | ⟨_, h2⟩
                  · by_cases h0 : E = 0
                    · refine .inr (.inr ⟨h2, h0, eq_letters.2 ?_⟩)
                      rw [HEA.out.2]
                      exact tok_bad H4.out hbad (HEA.out.1.symm.trans h0)
                    · exact .inr (.inl ⟨h2, by simp [h0]⟩)
                  · exact .inl h2
                clear hgood hbad HR HEA
                rcases hways with ⟨tt, pp, rfl⟩ | ⟨rfl, q1⟩ | ⟨rfl, rfl, q1⟩
                all_goals
                  go_wp2_with fail
                  obtain ⟨t1, t2⟩ := (HC.out w9 HX9.out).2.2.1 ⟨#[]⟩ (.slice none 0 0)
                  refine bodyPost_ret (results_user rfl _ _ g rfl t1) rfl ?_
                  exact tokPost_bad HE.out (by decide) t2
            · have q2 := isEmpty_of_pos (s := pAt t 1) (by omega)
              have HGR0 : Hid (groupsOf (pAt t 1) = parts 44 (pAt t 1)) := if_neg hl
              clear hl
              go_wp2_with fail
              rw [← hw5, ← hk]
              clear hw5 hk p0 p1 p2 p3 hsz4
              refine Calls.mono (spl_any (pAt t 1) 44 w5 (HW.out.1.ext (HX1.out.trans (HX4.out.trans HX5.out))) (by have := @pAt_size t 1; have := HZ.out.2; omega)) ?_
              rintro e w6 ⟨rfl, hr, -, hx6⟩
              have HR6 := Lib.hid hr
              have HX6 := Lib.hid hx6
              have HU6 : Hid (UsrIn w6 k (pAt t 0) (.slice none 0 0)) := (hx6.block _ (heap_lt HU5.out)).trans HU5.out
              have HB6 : Hid (k < w5.heap.size) := heap_lt HU5.out
              obtain ⟨b6, hb6⟩ : ∃ b6, b6 = w5.heap.size := ⟨_, rfl⟩
              rw [← hb6] at HR6 HB6
              rw [← hb6]
              obtain ⟨L6, hL6⟩ : ∃ L6, L6 = (parts 44 (pAt t 1)).length := ⟨_, rfl⟩
              rw [← hL6]
              have f4 := free_cells HU6.out 1
              obtain ⟨z0, z1⟩ := cells2 HU6.out
              obtain ⟨w7, hw7⟩ : ∃ w7, w7 = w6.setCell ⟨k, 1, none⟩ (.slice (some ⟨b6, 0, none⟩) L6 L6) := ⟨_, rfl⟩
              have HSET := Lib.hid (put_groups (w := w4) (.slice (some ⟨b6, 0, none⟩) L6 L6) HU6.out (HX5.out.trans hx6) HK4.out)
              have HX7 : Hid (Ext w1 w7) := by rw [hw7]; exact HX4.out.trans HSET.out.2
              have HUS : Hid (UsrIn w7 k (pAt t 0) (.slice (some ⟨b6, 0, none⟩) L6 L6)) := by rw [hw7]; exact HSET.out.1
              have HGR : Hid (GrpIn w7 g (.slice (some ⟨b6, 0, none⟩) L6 L6) (groupsOf (pAt t 1))) := by
                rw [HGR0.out, hw7]
                have h6 : GrpIn w6 k (.slice (some ⟨b6, 0, none⟩) L6 L6) (parts 44 (pAt t 1)) := .inr ⟨b6, by have := HB6.out; omega, by rw [hL6], HR6.out, grp_small (by have := @pAt_size t 1; have := HZ.out.2; omega)⟩
                rcases h6.set 1 (.slice (some ⟨b6, 0, none⟩) L6 L6) with h | ⟨b', h1, h2, h3, h4⟩
                · exact .inl h
                · refine .inr ⟨b', ?_, h2, h3, h4⟩
                  injection h2 with h2
                  injection h2 with h2
                  injection h2 with h2
                  have := HB6.out
                  have := HKG.out
                  omega
              have HP7 : Hid (w7.cell? ⟨b, 0, none⟩ = some (.string (pAt t 0)) ∧ w7.cell? ⟨b, 1, none⟩ = some (.string (pAt t 1)) ∧ w7.cell? ⟨b, 2, none⟩ = some (.string (pAt t 2)) ∧ w7.cell? ⟨b, 3, none⟩ = some (.string (pAt t 3))) := by rw [hw7]; exact HP.out _ (HX34.out.trans HSET.out.2)
              clear hL6 hb6 hr hx6 HSET
              have hw7s := hw7.symm
              clear hw7
              obtain ⟨p0, p1, p2, p3⟩ := HP7.out
              go_wp2_with fail
              clear hw7s f4 z0 z1 p0 p1 p2 p3
              have HC7 := Lib.hid (HC.out w7 HX7.out)
              obtain ⟨p0, p1, p2, p3⟩ := HP7.out
              refine Calls.mono (atoi_any (pAt t 2) w7 (by have := @pAt_size t 2; have := HZ.out.2; omega) (HW.out.2.2.ext HC7.out.2.2.2)) ?_
              rintro e w8 ⟨n, er, rfl, hr, hx8⟩
              have HR := Lib.hid hr
              have HX8 := Lib.hid (HX7.out.trans hx8)
              have HUS8 : Hid (UsrIn w8 k (pAt t 0) (.slice (some ⟨b6, 0, none⟩) L6 L6)) := (hx8.block _ (heap_lt HUS.out)).trans HUS.out
              have HGR8 : Hid (GrpIn w8 g (.slice (some ⟨b6, 0, none⟩) L6 L6) (groupsOf (pAt t 1))) := HGR.out.ext hx8
              obtain ⟨u0, u1⟩ := cells2 HUS8.out
              clear hr hx8 p0 p1 p2 p3
              go_wp2_with fail
              refine Calls.mono (issue_any w8.heap.size (.slice (some ⟨b6, 0, none⟩) L6 L6) key (tokUser t) n w8 (Nat.le_refl _) HZ.out.1 (by have h1 := @pAt_size t 0; have h2 := HZ.out.2; show (pAt t 0).size ≤ 1048576; omega) HGR8.out.strs (HW.out.2.1.ext (HC.out w8 HX8.out).2.2.2)) ?_
              rintro e w9 ⟨rfl, hx9⟩
              have HX9 := Lib.hid (HX8.out.trans hx9)
              have HUS9 : Hid (UsrIn w9 k (pAt t 0) (.slice (some ⟨b6, 0, none⟩) L6 L6)) := (hx9.block _ (heap_lt HUS8.out)).trans HUS8.out
              have HGR9 : Hid (GrpIn w9 g (.slice (some ⟨b6, 0, none⟩) L6 L6) (groupsOf (pAt t 1))) := HGR8.out.ext hx9
              obtain ⟨E, hE⟩ : ∃ E, E = issueE key (tokUser t) n := ⟨_, rfl⟩
              obtain ⟨A, hA⟩ : ∃ A, A = issueB key (tokUser t) n := ⟨_, rfl⟩
              rw [← hE, ← hA]
              have HEA := Lib.hid (And.intro hE hA)
              clear hE hA hx9 u0 u1
              obtain ⟨⟨c0, c1⟩, ⟨f0, f1⟩, -, -⟩ := HC.out w9 HX9.out
              obtain ⟨u0, u1⟩ := cells2 HUS9.out
              by_cases hgood : 0 ≤ tokTime t ∧ userI (tokUser t) = 0
              · obtain ⟨a1, a2, a3⟩ := tok_good HKF.out H4.out H64.out HS.out hgood.1 hgood.2
                have HTE := Lib.hid (tok_6 (now := now) HKF.out HNF.out H4.out H64.out HU.out HS.out hgood.1 hgood.2)
                have hne : n = tokTime t ∧ er = .nilIface := by
                  rcases HR.out with ⟨h1, h2⟩ | ⟨h1, _⟩
                  · rw [a1] at h1
                    injection h1 with h1
                    exact ⟨h1.symm, h2⟩
                  · exact absurd a1 (h1 _)
                obtain ⟨rfl, rfl⟩ := hne
                obtain rfl : E = 0 := HEA.out.1.trans a2
                obtain rfl : A = t := HEA.out.2.trans a3
                have q1 : (A.toList == A.toList) = true := by simp
                obtain ⟨N, hN⟩ : ∃ N, N = tokTime A := ⟨_, rfl⟩
                rw [← hN] at HTE
                rw [← hN]
                clear hgood a1 a2 a3 hN HR HEA
                by_cases hlt : N < now
                · have q2 : decide (N < now) = true := decide_eq_true hlt
                  have HE : Hid (tokE key A now = 15) := by unfold Hid; rw [HTE.out, if_pos hlt]
                  clear hlt
                  go_wp2_with fail
                  obtain ⟨t1, t2⟩ := (HC.out w9 HX9.out).2.2.1 ⟨#[]⟩ (.slice none 0 0)
                  refine bodyPost_ret (results_user rfl _ _ g rfl t1) rfl ?_
                  exact tokPost_bad HE.out (by decide) t2
                · have q2 : decide (N < now) = false := decide_eq_false hlt
                  have HE : Hid (tokE key A now = 0) := by unfold Hid; rw [HTE.out, if_neg hlt]
                  clear hlt
                  go_wp2_with fail
                  obtain ⟨t1, t2⟩ := (HC.out w9 HX9.out).2.2.1 (pAt A 0) (.slice (some ⟨b6, 0, none⟩) L6 L6)
                  refine bodyPost_ret (results_user rfl _ _ g rfl t1) rfl ?_
                  exact tokPost_good HE.out (StrsAt.toR ((HGR9.out.set _ _).set _ _).strs) t2
              · have hbad : tokTime t < 0 ∨ userI (tokUser t) ≠ 0 := by
                  rcases Int.lt_or_le (tokTime t) 0 with h | h
                  · exact .inl h
                  · exact .inr fun h2 => hgood ⟨h, h2⟩
                have HE := Lib.hid (tok_5 (now := now) HKF.out HNF.out H4.out H64.out HU.out HS.out hbad)
                have hways : (∃ tt pp, er = .iface tt pp) ∨ (er = .nilIface ∧ (E != 0) = true) ∨ (er = .nilIface ∧ E = 0 ∧ (A.toList == t.toList) = false) := by
                  rcases HR.out with ⟨_, h2⟩ | ⟨_, h2⟩
                  · by_cases h0 : E = 0
                    · refine .inr (.inr ⟨h2, h0, eq_letters.2 ?_⟩)
                      rw [HEA.out.2]
                      exact tok_bad H4.out hbad (HEA.out.1.symm.trans h0)
                    · exact .inr (.inl ⟨h2, by simp [h0]⟩)
                  · exact .inl h2
                clear hgood hbad HR HEA
                rcases hways with ⟨tt, pp, rfl⟩ | ⟨rfl, q1⟩ | ⟨rfl, rfl, q1⟩
                all_goals
                  go_wp2_with fail
                  obtain ⟨t1, t2⟩ := (HC.out w9 HX9.out).2.2.1 ⟨#[]⟩ (.slice none 0 0)
                  refine bodyPost_ret (results_user rfl _ _ g rfl t1) rfl ?_
                  exact tokPost_bad HE.out (by decide) t2
          · have q1 := eq_letters.2 (fun h => hs (hiff.1 h))
            have HE := Lib.hid (tok_4 (now := now) HKF.out HNF.out H4.out H64.out HU.out hs)
            clear hs hiff
            obtain ⟨⟨c0, c1⟩, ⟨f0, f1⟩, -, -⟩ := HC.out w4 HX4.out
            go_wp2_with fail
            obtain ⟨t1, t2⟩ := (HC.out w4 HX4.out).2.2.1 ⟨#[]⟩ (.slice none 0 0)
            refine bodyPost_ret (results_user rfl _ _ g rfl t1) rfl ?_
            exact tokPost_bad HE.out (by decide) t2
      · have hb1 : (((pAt t 3).size : Int) != 64) = true := by rw [bne_iff_ne]; omega
        have HE := Lib.hid (tok_2 HKF.out HNF.out (.inr h64))
        clear h64
        obtain ⟨⟨c0, c1⟩, ⟨f0, f1⟩, -, -⟩ := HC.out w2 HX2.out
        go_wp2_with fail
        obtain ⟨t1, t2⟩ := (HC.out w2 HX2.out).2.2.1 ⟨#[]⟩ (.slice none 0 0)
        refine bodyPost_ret (results_user rfl _ _ g rfl t1) rfl ?_
        exact tokPost_bad HE.out (by decide) t2
    · have hb1 : (((parts 46 t).length : Int) != 4) = true := by rw [bne_iff_ne]; omega
      have HE := Lib.hid (tok_2 HKF.out HNF.out (.inl h4))
      clear h4
      obtain ⟨⟨c0, c1⟩, ⟨f0, f1⟩, -, -⟩ := HC.out w2 HX2.out
      go_wp2_with fail
      obtain ⟨t1, t2⟩ := (HC.out w2 HX2.out).2.2.1 ⟨#[]⟩ (.slice none 0 0)
      refine bodyPost_ret (results_user rfl _ _ g rfl t1) rfl ?_
      exact tokPost_bad HE.out (by decide) t2
end Go.Proofs.YtplfimoeggecjaaGreatDoor.Sx
namespace Go.Proofs.YtplfimoeggecjaaGreatDoor.Sx
open Go Go.RowKit Go.Lib Go.Proofs.YtplfimoeggecjaaGreatDoor.Dc Go.Proofs.YtplfimoeggecjaaGreatDoor.Tk

set_option maxRecDepth 100000 in
set_option maxHeartbeats 8000000 in
theorem rtcheck_any (key t : ByteArray) (now : Int) (w : World) (hk : key.size ≤ 1048576) (ht : t.size ≤ 1048575) (hm : MaxC w) :
    Calls Tryz.prog 20 #[.string key, .string t, .int .i64 now] w (TokPost w key t now) := by
  have HZ := Lib.hid (And.intro hk ht)
  have HW := Lib.hid hm
  clear hm hk
  have hti : (t.size : Int) ≤ 1048575 := by omega
  clear ht
  obtain ⟨g, hg⟩ : ∃ g, g = w.heap.size := ⟨_, rfl⟩
  obtain ⟨w1, hw1⟩ : ∃ w1, w1 = w.alloc (.cells #[.string ⟨#[]⟩, .slice none 0 0] 45 (0, 0)) := ⟨_, rfl⟩
  have HX1 : Hid (Ext w w1) := by rw [hw1]; exact new_ext _ _
  have HG1 : Hid (w1.heap[g]? = some (.cells #[.string ⟨#[]⟩, .slice none 0 0] 45 (0, 0))) := by rw [hw1]; exact heap_new hg
  have HGW : Hid (w.heap.size ≤ g) := by rw [hg]; exact Nat.le_refl _
  -- the result's box, and what is stored there
  have HC : Hid (∀ W, Ext w1 W → (W.cell? ⟨g, 0, none⟩ = some (.string ⟨#[]⟩) ∧ W.cell? ⟨g, 1, none⟩ = some (.slice none 0 0)) ∧ (W.frozen? ⟨g, 0, none⟩ = false ∧ W.frozen? ⟨g, 1, none⟩ = false) ∧ (∀ n v, UsrIn ((W.setCell ⟨g, 0, none⟩ (.string n)).setCell ⟨g, 1, none⟩ v) g n v ∧ Ext w ((W.setCell ⟨g, 0, none⟩ (.string n)).setCell ⟨g, 1, none⟩ v)) ∧ Ext w W) := fun W hW => by
    have hb := (hW.block _ (heap_lt HG1.out)).trans HG1.out
    exact ⟨cells2 hb, ⟨free_cells hb 0, free_cells hb 1⟩, fun n v => put_user n v hb (HX1.out.trans hW) HGW.out, HX1.out.trans hW⟩
  by_cases hbad : keyBad key = true ∨ timeBad now = true
  · have HE := Lib.hid (tok_1 (t := t) hbad)
    obtain ⟨⟨c0, c1⟩, ⟨f0, f1⟩, -, -⟩ := HC.out w1 (Below.refl _ _)
    have hways : keyBad key = true ∨ (keyBad key = false ∧ timeBad now = true) := by cases h : keyBad key; (· exact .inr ⟨rfl, by rcases hbad with h2 | h2; (· rw [h] at h2; cases h2); (· exact h2)⟩); (· exact .inl rfl)
    clear hbad
    have hw2 : (key.toList.isEmpty = true) ∨ (key.toList.isEmpty = false ∧ decide ((64 : Int) < (key.size : Int)) = true) ∨ (key.toList.isEmpty = false ∧ decide ((64 : Int) < (key.size : Int)) = false ∧ timeBad now = true) := by
      rcases hways with h | ⟨h, h2⟩
      · rcases keyBad_ways h with h3 | h3
        · exact .inl h3
        · exact .inr (.inl h3)
      · obtain ⟨h3, h4⟩ := keyBad_not h
        exact .inr (.inr ⟨h3, h4, h2⟩)
    clear hways
    rcases hw2 with k1 | ⟨k1, k2⟩ | ⟨k1, k2, k3⟩
    · go_enter Tryz.func20, Tryz.ntmps20
      go_wp2_with fail
      rw [← hw1, ← hg]
      refine bodyPost_ret (results_user rfl _ _ g rfl HG1.out) rfl ?_
      exact tokPost_bad HE.out (by decide) HX1.out
    · go_enter Tryz.func20, Tryz.ntmps20
      go_wp2_with fail
      rw [← hw1, ← hg]
      refine bodyPost_ret (results_user rfl _ _ g rfl HG1.out) rfl ?_
      exact tokPost_bad HE.out (by decide) HX1.out
    · have HQ2 := Lib.hid k3
      clear k3
      go_enter Tryz.func20, Tryz.ntmps20
      go_wp2_with fail
      rw [← hw1, ← hg]
      clear hw1 hg
      go_wp2_with (go_at_call 38; refine (timeOut _ _).mono ?_; rintro e w' ⟨rfl, rfl⟩; rw [HQ2.out])
      obtain ⟨t1, t2⟩ := (HC.out w1 (Below.refl _ _)).2.2.1 ⟨#[]⟩ (.slice none 0 0)
      refine bodyPost_ret (results_user rfl _ _ g rfl t1) rfl ?_
      exact tokPost_bad HE.out (by decide) t2
  · obtain ⟨hkf, hnf⟩ : keyBad key = false ∧ timeBad now = false := ⟨by cases h : keyBad key; (· rfl); (· exact absurd (.inl h) hbad), by cases h : timeBad now; (· rfl); (· exact absurd (.inr h) hbad)⟩
    have HKF := Lib.hid hkf
    have HNF := Lib.hid hnf
    obtain ⟨k1, k2⟩ := keyBad_not hkf
    clear hbad hkf hnf
    go_enter Tryz.func20, Tryz.ntmps20
    go_wp2_with fail
    rw [← hw1, ← hg]
    clear hw1 hg
    go_wp2_with (go_at_call 38; refine (timeOut _ _).mono ?_; rintro e w' ⟨rfl, rfl⟩; rw [HNF.out])
    refine Calls.mono (spl_any t 46 w1 (HW.out.ext HX1.out) HZ.out.2) ?_
    rintro e w2 ⟨rfl, hr, -, hx⟩
    have HR2 := Lib.hid hr
    have HX2 := Lib.hid hx
    clear hr hx
    obtain ⟨b, hb⟩ : ∃ b, b = w1.heap.size := ⟨_, rfl⟩
    rw [← hb] at HR2
    rw [← hb]
    clear hb
    by_cases h4 : (parts 46 t).length = 4
    · have HP : Hid (∀ W, Ext w2 W → (W.cell? ⟨b, 0, none⟩ = some (.string (pAt t 0)) ∧ W.cell? ⟨b, 1, none⟩ = some (.string (pAt t 1)) ∧ W.cell? ⟨b, 2, none⟩ = some (.string (pAt t 2)) ∧ W.cell? ⟨b, 3, none⟩ = some (.string (pAt t 3)))) := fun W hW =>
        cells4 ((hW.block _ (heap_lt (four_cells h4 HR2.out))).trans (four_cells h4 HR2.out))
      have H4 := Lib.hid h4
      rw [h4]
      clear h4
      obtain ⟨p0, p1, p2, p3⟩ := HP.out w2 (Below.refl _ _)
      have HS3 := Lib.hid (@pAt_size t 3)
      by_cases h64 : (pAt t 3).size = 64
      · have hb1 : (((pAt t 3).size : Int) != 64) = false := by rw [h64]; rfl
        have H64 := Lib.hid h64
        clear h64
        go_wp2_with fail
        refine Calls.mono (runhex_any (pAt t 3) _ (by have := H64.out; omega)) ?_
        rintro e w3 ⟨rfl, hx3⟩
        have HX3 := Lib.hid (HX2.out.trans hx3)
        have HX3' := Lib.hid hx3
        clear hx3 p0 p1 p2 p3 hb1
        cases hu : unhex (pAt t 3).data.toList with
        | none =>
          have HE := Lib.hid (tok_3 (now := now) HKF.out HNF.out H4.out H64.out hu)
          rw [unhexV_none hu]
          clear hu
          obtain ⟨⟨c0, c1⟩, ⟨f0, f1⟩, -, -⟩ := HC.out w3 HX3.out
          go_wp2_with fail
          obtain ⟨t1, t2⟩ := (HC.out w3 HX3.out).2.2.1 ⟨#[]⟩ (.slice none 0 0)
          refine bodyPost_ret (results_user rfl _ _ g rfl t1) rfl ?_
          exact tokPost_bad HE.out (by decide) t2
        | some m =>
          rw [unhexV_some hu]
          have HU := Lib.hid hu
          clear hu
          have h64t : 64 ≤ t.size := four_size H64.out
          have hhs : (tokHead t).size ≤ 1048576 := by have := HZ.out.2; unfold tokHead; simp; omega
          have HHS := Lib.hid hhs
          clear hhs h64t
          have HP3 := Lib.hid (HP.out w3 HX3'.out)
          obtain ⟨mC, hmC⟩ : ∃ mC : ByteArray, mC = bs (mac key.data.toList (tokHead t).data.toList) := ⟨_, rfl⟩
          obtain ⟨cB, hcB⟩ : ∃ cB, cB = signB key (tokHead t) := ⟨_, rfl⟩
          have CT : Hid (∀ W, Ext w3 W → Calls Tryz.prog 55 #[.string t, .string (pAt t 3)] W fun e w' => e = .returned (.string (tokHead t)) ∧ Ext w3 w' ∧ w'.cell? ⟨b, 3, none⟩ = some (.string (pAt t 3))) := fun W hW =>
            (Tryz.strings_TrimSuffix t (pAt t 3) W (by have := HZ.out.2; omega)).mono fun e w' ⟨he, hw⟩ => ⟨by rw [he, head_trim H4.out H64.out], by rw [hw]; exact hW, by rw [hw]; exact (HP.out W (HX3'.out.trans hW)).2.2.2⟩
          have CM : Hid (∀ W, Ext w3 W → Calls Tryz.prog 52 #[.string key, .string (tokHead t)] W fun e w' => e = .returned (.string mC) ∧ Ext w3 w' ∧ w'.cell? ⟨b, 3, none⟩ = some (.string (pAt t 3))) := fun W hW =>
            (rmac_any key (tokHead t) W HZ.out.1 HHS.out).mono fun e w' ⟨he, hx⟩ => ⟨by rw [he, hmC], hW.trans hx, (HP.out w' (HX3'.out.trans (hW.trans hx))).2.2.2⟩
          have CH : Hid (∀ W, Ext w3 W → Calls Tryz.prog 46 #[.string mC] W fun e w' => e = .returned (.string cB) ∧ Ext w3 w' ∧ w'.cell? ⟨b, 3, none⟩ = some (.string (pAt t 3))) := fun W hW => by
            refine (rhex_any mC W ?_).mono fun e w' ⟨he, hx⟩ => ⟨by rw [he, hcB, hmC]; rfl, hW.trans hx, (HP.out w' (HX3'.out.trans (hW.trans hx))).2.2.2⟩
            rw [hmC, Lib.size_eq]
            have h32 : (mac key.data.toList (tokHead t).data.toList).length = 32 := rfl
            show (mac key.data.toList (tokHead t).data.toList).length ≤ _
            rw [h32]
            omega
          have hw : (signB key (tokHead t) = pAt t 3 ∧ (cB.toList == (pAt t 3).toList) = true) ∨ (signB key (tokHead t) ≠ pAt t 3 ∧ (cB.toList == (pAt t 3).toList) = false) := by
            by_cases h : signB key (tokHead t) = pAt t 3
            · exact .inl ⟨h, eq_letters.1 (hcB.trans h)⟩
            · exact .inr ⟨h, eq_letters.2 (by rw [hcB]; exact h)⟩
          clear hmC hcB
          have hxx : Ext w3 w3 := Below.refl _ _
          obtain ⟨-, -, -, p3⟩ := HP3.out
          go_wp2_with fail
          rcases hw with ⟨hs, q1⟩ | ⟨hs, q1⟩
          · have HS := Lib.hid hs
            clear hs
            go_region_held3 (fun w' => Ext w3 w' ∧ w'.cell? ⟨b, 3, none⟩ = some (.string (pAt t 3)))
              (first | (refine ⟨by assumption, by assumption⟩) | (refine ⟨Below.drew (by assumption), ?_⟩ <;> go_keep) | go_keep)
              (first
                | (go_at_call 55; refine (CT.out _ (by first | assumption | (apply Below.drew; assumption))).mono ?_; rintro e w' ⟨rfl, r0, r1⟩)
                | (go_at_call 52; refine (CM.out _ (by first | assumption | (apply Below.drew; assumption))).mono ?_; rintro e w' ⟨rfl, r0, r1⟩)
                | (go_at_call 46; refine (CH.out _ (by first | assumption | (apply Below.drew; assumption))).mono ?_; rintro e w' ⟨rfl, r0, r1⟩))
            have HX4' := Lib.hid r0
            clear r0 r1 p3 hxx q1
            go_wp2_with fail
            obtain ⟨w4, rfl⟩ : ∃ w4 : World, w4 = w' := ⟨_, rfl⟩
            obtain ⟨p0, -, p2, -⟩ := HP.out w4 (HX3'.out.trans HX4'.out)
            have hxx : Ext w4 w4 := Below.refl _ _
            have HX4 := Lib.hid (HX3.out.trans HX4'.out)
            have HSZ2 := Lib.hid (@pAt_size t 2)
            have hp4 : b < w4.heap.size := by
              rcases Nat.lt_or_ge b w4.heap.size with h | h
              · exact h
              · unfold World.cell? at p0
                rw [Array.getElem?_eq_none h] at p0
                cases p0
            go_region_held3 (fun w' => Ext w4 w' ∧ w'.cell? ⟨b, 0, none⟩ = some (.string (pAt t 0)) ∧ w'.cell? ⟨b, 2, none⟩ = some (.string (pAt t 2)))
              (first | (refine ⟨by assumption, by assumption, by assumption⟩) | (refine ⟨Below.drew (by assumption), ?_, ?_⟩ <;> go_keep) | (refine ⟨Below.drew (Below.alloc (by assumption) (Nat.le_refl _) _), ?_, ?_⟩ <;> go_keep) | (refine ⟨Below.drew (Below.alloc (Below.drew (by assumption)) (Nat.le_refl _) _), ?_, ?_⟩ <;> go_keep) | go_keep)
              (first
                | (go_at_call 43; refine (rtime_any (pAt t 2) _ (by have := HSZ2.out; have := HZ.out.2; omega)).mono ?_; rintro e w' ⟨rfl, rfl⟩))
            all_goals
              clear p0 p2 hxx hp4
              go_upto_region 12 with (fail)
              obtain ⟨k, hk⟩ : ∃ k, k = w4.heap.size := ⟨_, rfl⟩
              obtain ⟨w5, hw5⟩ : ∃ w5, w5 = (w4.alloc (.cells #[.string (pAt t 0), .slice none 0 0] 45 (0, 0))).drew := ⟨_, rfl⟩
              have HX5 : Hid (Ext w4 w5) := by rw [hw5]; exact Below.drew (new_ext _ _)
              have HU5 : Hid (UsrIn w5 k (pAt t 0) (.slice none 0 0)) := by rw [hw5]; exact heap_new hk
              have HKG : Hid (g < k) := by rw [hk]; exact heap_lt ((HX4.out.block _ (heap_lt HG1.out)).trans HG1.out)
              have HK4 : Hid (w4.heap.size ≤ k) := by rw [hk]; exact Nat.le_refl _
              have HX34 : Hid (Ext w2 w4) := HX3'.out.trans HX4'.out
              obtain ⟨N, hN⟩ : ∃ N, N = tokTime t := ⟨_, rfl⟩
              have hN' : timeI (pAt t 2).data.toList = N := hN.symm
              rw [hN', ← hw5, ← hk]
              have HN := Lib.hid hN
              clear hw5 hk hN hN'
              obtain ⟨-, p1, -, -⟩ := HP.out w5 (HX34.out.trans HX5.out)
              by_cases hl : (pAt t 1).size = 0
              · have q2 := isEmpty_of_zero hl
                have HGR0 : Hid (groupsOf (pAt t 1) = []) := if_pos hl
                clear hl
                go_upto_region 14 with (fail)
                clear p1 q2
                obtain ⟨w7, hw7⟩ : ∃ w7, w7 = w5 := ⟨_, rfl⟩
                have HX7 : Hid (Ext w1 w7) := by rw [hw7]; exact HX4.out.trans HX5.out
                have HUS : Hid (UsrIn w7 k (pAt t 0) (.slice none 0 0)) := by rw [hw7]; exact HU5.out
                have HGR : Hid (GrpIn w7 g (.slice none 0 0) (groupsOf (pAt t 1))) := by rw [HGR0.out]; exact .inl ⟨rfl, rfl⟩
                rw [← hw7]
                clear hw7 HU5 HX5 HGR0
                obtain ⟨u0, u1⟩ := cells2 HUS.out
                by_cases hneg : N < 0
                · have q3 : decide (N < 0) = true := decide_eq_true hneg
                  have HE := Lib.hid (tok_5 (now := now) HKF.out HNF.out H4.out H64.out HU.out HS.out (.inl (by rw [← HN.out]; exact hneg)))
                  clear hneg
                  obtain ⟨⟨c0, c1⟩, ⟨f0, f1⟩, -, -⟩ := HC.out w7 HX7.out
                  go_wp2_with fail
                  obtain ⟨t1, t2⟩ := (HC.out w7 HX7.out).2.2.1 ⟨#[]⟩ (.slice none 0 0)
                  refine bodyPost_ret (results_user rfl _ _ g rfl t1) rfl ?_
                  exact tokPost_bad HE.out (by decide) t2
                · have q3 : decide (N < 0) = false := decide_eq_false hneg
                  have HNN := Lib.hid hneg
                  clear hneg
                  go_wp2_with fail
                  refine Calls.mono (ruser_any w7.heap.size (.slice none 0 0) (tokUser t) w7 (Nat.le_refl _) (by have h1 := @pAt_size t 0; have h2 := HZ.out.2; show (pAt t 0).size ≤ 1048576; omega) HGR.out.strs) ?_
                  rintro e w9 ⟨rfl, hx9⟩
                  have HX9 := Lib.hid (HX7.out.trans hx9)
                  have HUS9 : Hid (UsrIn w9 k (pAt t 0) (.slice none 0 0)) := (hx9.block _ (heap_lt HUS.out)).trans HUS.out
                  have HGR9 : Hid (GrpIn w9 g (.slice none 0 0) (groupsOf (pAt t 1))) := HGR.out.ext hx9
                  clear hx9 u0 u1
                  obtain ⟨⟨c0, c1⟩, ⟨f0, f1⟩, -, -⟩ := HC.out w9 HX9.out
                  obtain ⟨u0, u1⟩ := cells2 HUS9.out
                  by_cases hu : userI (tokUser t) = 0
                  · have HTE := Lib.hid (tok_6 (now := now) HKF.out HNF.out H4.out H64.out HU.out HS.out (by have := HNN.out; rw [← HN.out]; omega) hu)
                    have q4 : (userI (tokUser t) != 0) = false := by simp [hu]
                    clear hu
                    by_cases hlt : N < now
                    · have q2 : decide (N < now) = true := decide_eq_true hlt
                      have HE : Hid (tokE key t now = 15) := by unfold Hid; rw [HTE.out, if_pos (by rw [← HN.out]; exact hlt)]
                      clear hlt
                      go_wp2_with fail
                      obtain ⟨t1, t2⟩ := (HC.out w9 HX9.out).2.2.1 ⟨#[]⟩ (.slice none 0 0)
                      refine bodyPost_ret (results_user rfl _ _ g rfl t1) rfl ?_
                      exact tokPost_bad HE.out (by decide) t2
                    · have q2 : decide (N < now) = false := decide_eq_false hlt
                      have HE : Hid (tokE key t now = 0) := by unfold Hid; rw [HTE.out, if_neg (by rw [← HN.out]; exact hlt)]
                      clear hlt
                      go_wp2_with fail
                      obtain ⟨t1, t2⟩ := (HC.out w9 HX9.out).2.2.1 (pAt t 0) (.slice none 0 0)
                      refine bodyPost_ret (results_user rfl _ _ g rfl t1) rfl ?_
                      exact tokPost_good HE.out (StrsAt.toR ((HGR9.out.set _ _).set _ _).strs) t2
                  · have q4 : (userI (tokUser t) != 0) = true := by simp [hu]
                    have HE := Lib.hid (tok_5 (now := now) HKF.out HNF.out H4.out H64.out HU.out HS.out (.inr hu))
                    clear hu
                    go_wp2_with fail
                    obtain ⟨t1, t2⟩ := (HC.out w9 HX9.out).2.2.1 ⟨#[]⟩ (.slice none 0 0)
                    refine bodyPost_ret (results_user rfl _ _ g rfl t1) rfl ?_
                    exact tokPost_bad HE.out (by decide) t2
              · have q2 := isEmpty_of_pos (s := pAt t 1) (by omega)
                have HGR0 : Hid (groupsOf (pAt t 1) = parts 44 (pAt t 1)) := if_neg hl
                clear hl
                go_wp2_with fail
                clear p1 q2
                refine Calls.mono (spl_any (pAt t 1) 44 w5 (HW.out.ext (HX1.out.trans (HX4.out.trans HX5.out))) (by have := @pAt_size t 1; have := HZ.out.2; omega)) ?_
                rintro e w6 ⟨rfl, hr, -, hx6⟩
                have HR6 := Lib.hid hr
                have HX6 := Lib.hid hx6
                have HU6 : Hid (UsrIn w6 k (pAt t 0) (.slice none 0 0)) := (hx6.block _ (heap_lt HU5.out)).trans HU5.out
                have HB6 : Hid (k < w5.heap.size) := heap_lt HU5.out
                obtain ⟨b6, hb6⟩ : ∃ b6, b6 = w5.heap.size := ⟨_, rfl⟩
                rw [← hb6] at HR6 HB6
                rw [← hb6]
                obtain ⟨L6, hL6⟩ : ∃ L6, L6 = (parts 44 (pAt t 1)).length := ⟨_, rfl⟩
                rw [← hL6]
                have f4 := free_cells HU6.out 1
                obtain ⟨z0, z1⟩ := cells2 HU6.out
                obtain ⟨w7, hw7⟩ : ∃ w7, w7 = w6.setCell ⟨k, 1, none⟩ (.slice (some ⟨b6, 0, none⟩) L6 L6) := ⟨_, rfl⟩
                have HSET := Lib.hid (put_groups (w := w4) (.slice (some ⟨b6, 0, none⟩) L6 L6) HU6.out (HX5.out.trans hx6) HK4.out)
                have HX7 : Hid (Ext w1 w7) := by rw [hw7]; exact HX4.out.trans HSET.out.2
                have HUS : Hid (UsrIn w7 k (pAt t 0) (.slice (some ⟨b6, 0, none⟩) L6 L6)) := by rw [hw7]; exact HSET.out.1
                have HGR : Hid (GrpIn w7 g (.slice (some ⟨b6, 0, none⟩) L6 L6) (groupsOf (pAt t 1))) := by
                  rw [HGR0.out, hw7]
                  have h6 : GrpIn w6 k (.slice (some ⟨b6, 0, none⟩) L6 L6) (parts 44 (pAt t 1)) := .inr ⟨b6, by have := HB6.out; omega, by rw [hL6], HR6.out, grp_small (by have := @pAt_size t 1; have := HZ.out.2; omega)⟩
                  rcases h6.set 1 (.slice (some ⟨b6, 0, none⟩) L6 L6) with h | ⟨b', h1, h2, h3, h4⟩
                  · exact .inl h
                  · refine .inr ⟨b', ?_, h2, h3, h4⟩
                    injection h2 with h2
                    injection h2 with h2
                    injection h2 with h2
                    have := HB6.out
                    have := HKG.out
                    omega
                have hw7s := hw7.symm
                clear hw7 hL6 hb6 hr hx6 HSET
                go_upto_region 14 with (fail)
                clear hw7s f4 z0 z1
                obtain ⟨u0, u1⟩ := cells2 HUS.out
                by_cases hneg : N < 0
                · have q3 : decide (N < 0) = true := decide_eq_true hneg
                  have HE := Lib.hid (tok_5 (now := now) HKF.out HNF.out H4.out H64.out HU.out HS.out (.inl (by rw [← HN.out]; exact hneg)))
                  clear hneg
                  obtain ⟨⟨c0, c1⟩, ⟨f0, f1⟩, -, -⟩ := HC.out w7 HX7.out
                  go_wp2_with fail
                  obtain ⟨t1, t2⟩ := (HC.out w7 HX7.out).2.2.1 ⟨#[]⟩ (.slice none 0 0)
                  refine bodyPost_ret (results_user rfl _ _ g rfl t1) rfl ?_
                  exact tokPost_bad HE.out (by decide) t2
                · have q3 : decide (N < 0) = false := decide_eq_false hneg
                  have HNN := Lib.hid hneg
                  clear hneg
                  go_wp2_with fail
                  refine Calls.mono (ruser_any w7.heap.size (.slice (some ⟨b6, 0, none⟩) L6 L6) (tokUser t) w7 (Nat.le_refl _) (by have h1 := @pAt_size t 0; have h2 := HZ.out.2; show (pAt t 0).size ≤ 1048576; omega) HGR.out.strs) ?_
                  rintro e w9 ⟨rfl, hx9⟩
                  have HX9 := Lib.hid (HX7.out.trans hx9)
                  have HUS9 : Hid (UsrIn w9 k (pAt t 0) (.slice (some ⟨b6, 0, none⟩) L6 L6)) := (hx9.block _ (heap_lt HUS.out)).trans HUS.out
                  have HGR9 : Hid (GrpIn w9 g (.slice (some ⟨b6, 0, none⟩) L6 L6) (groupsOf (pAt t 1))) := HGR.out.ext hx9
                  clear hx9 u0 u1
                  obtain ⟨⟨c0, c1⟩, ⟨f0, f1⟩, -, -⟩ := HC.out w9 HX9.out
                  obtain ⟨u0, u1⟩ := cells2 HUS9.out
                  by_cases hu : userI (tokUser t) = 0
                  · have HTE := Lib.hid (tok_6 (now := now) HKF.out HNF.out H4.out H64.out HU.out HS.out (by have := HNN.out; rw [← HN.out]; omega) hu)
                    have q4 : (userI (tokUser t) != 0) = false := by simp [hu]
                    clear hu
                    by_cases hlt : N < now
                    · have q2 : decide (N < now) = true := decide_eq_true hlt
                      have HE : Hid (tokE key t now = 15) := by unfold Hid; rw [HTE.out, if_pos (by rw [← HN.out]; exact hlt)]
                      clear hlt
                      go_wp2_with fail
                      obtain ⟨t1, t2⟩ := (HC.out w9 HX9.out).2.2.1 ⟨#[]⟩ (.slice none 0 0)
                      refine bodyPost_ret (results_user rfl _ _ g rfl t1) rfl ?_
                      exact tokPost_bad HE.out (by decide) t2
                    · have q2 : decide (N < now) = false := decide_eq_false hlt
                      have HE : Hid (tokE key t now = 0) := by unfold Hid; rw [HTE.out, if_neg (by rw [← HN.out]; exact hlt)]
                      clear hlt
                      go_wp2_with fail
                      obtain ⟨t1, t2⟩ := (HC.out w9 HX9.out).2.2.1 (pAt t 0) (.slice (some ⟨b6, 0, none⟩) L6 L6)
                      refine bodyPost_ret (results_user rfl _ _ g rfl t1) rfl ?_
                      exact tokPost_good HE.out (StrsAt.toR ((HGR9.out.set _ _).set _ _).strs) t2
                  · have q4 : (userI (tokUser t) != 0) = true := by simp [hu]
                    have HE := Lib.hid (tok_5 (now := now) HKF.out HNF.out H4.out H64.out HU.out HS.out (.inr hu))
                    clear hu
                    go_wp2_with fail
                    obtain ⟨t1, t2⟩ := (HC.out w9 HX9.out).2.2.1 ⟨#[]⟩ (.slice none 0 0)
                    refine bodyPost_ret (results_user rfl _ _ g rfl t1) rfl ?_
                    exact tokPost_bad HE.out (by decide) t2
          · have HE := Lib.hid (tok_4 (now := now) HKF.out HNF.out H4.out H64.out HU.out hs)
            clear hs
            go_region_held3 (fun w' => Ext w3 w' ∧ w'.cell? ⟨b, 3, none⟩ = some (.string (pAt t 3)))
              (first | (refine ⟨by assumption, by assumption⟩) | (refine ⟨Below.drew (by assumption), ?_⟩ <;> go_keep) | go_keep)
              (first
                | (go_at_call 55; refine (CT.out _ (by first | assumption | (apply Below.drew; assumption))).mono ?_; rintro e w' ⟨rfl, r0, r1⟩)
                | (go_at_call 52; refine (CM.out _ (by first | assumption | (apply Below.drew; assumption))).mono ?_; rintro e w' ⟨rfl, r0, r1⟩)
                | (go_at_call 46; refine (CH.out _ (by first | assumption | (apply Below.drew; assumption))).mono ?_; rintro e w' ⟨rfl, r0, r1⟩))
            have HX4 := Lib.hid (HX3.out.trans r0)
            clear r0 r1 p3 hxx q1
            obtain ⟨⟨c0, c1⟩, ⟨f0, f1⟩, -, -⟩ := HC.out _ HX4.out
            go_wp2_with fail
            obtain ⟨t1, t2⟩ := (HC.out _ HX4.out).2.2.1 ⟨#[]⟩ (.slice none 0 0)
            refine bodyPost_ret (results_user rfl _ _ g rfl t1) rfl ?_
            exact tokPost_bad HE.out (by decide) t2
      · have hb1 : (((pAt t 3).size : Int) != 64) = true := by rw [bne_iff_ne]; omega
        have HE := Lib.hid (tok_2 HKF.out HNF.out (.inr h64))
        clear h64
        obtain ⟨⟨c0, c1⟩, ⟨f0, f1⟩, -, -⟩ := HC.out w2 HX2.out
        go_wp2_with fail
        obtain ⟨t1, t2⟩ := (HC.out w2 HX2.out).2.2.1 ⟨#[]⟩ (.slice none 0 0)
        refine bodyPost_ret (results_user rfl _ _ g rfl t1) rfl ?_
        exact tokPost_bad HE.out (by decide) t2
    · have hb1 : (((parts 46 t).length : Int) != 4) = true := by rw [bne_iff_ne]; omega
      have HE := Lib.hid (tok_2 HKF.out HNF.out (.inl h4))
      clear h4
      obtain ⟨⟨c0, c1⟩, ⟨f0, f1⟩, -, -⟩ := HC.out w2 HX2.out
      go_wp2_with fail
      obtain ⟨t1, t2⟩ := (HC.out w2 HX2.out).2.2.1 ⟨#[]⟩ (.slice none 0 0)
      refine bodyPost_ret (results_user rfl _ _ g rfl t1) rfl ?_
      exact tokPost_bad HE.out (by decide) t2
end Go.Proofs.YtplfimoeggecjaaGreatDoor.Sx
namespace Go.Proofs.YtplfimoeggecjaaGreatDoor.Sx
open Go Go.RowKit Go.Sort Go.Lib Go.Proofs.YtplfimoeggecjaaGreatDoor.Dc Go.Proofs.YtplfimoeggecjaaGreatDoor.Tk

set_option maxRecDepth 100000 in
theorem sameUser_any {B B' : Nat} {v v' : Value} {n : ByteArray} {xs : List ByteArray} {w : World} (hB : B ≤ w.heap.size) (hB' : B' ≤ w.heap.size) (h : StrsR B w v xs) (h' : StrsR B' w v' xs) :
    Calls Tryz.prog 21 #[.agg #[.string n, v], .agg #[.string n, v']] w fun e w' => e = .returned (.bool true) ∧ Ext w w' := by
  have HX : Hid (Ext w ((w.alloc (.cells #[.string n, v] 45 (0, 0))).alloc (.cells #[.string n, v'] 45 (0, 0)))) := (new_ext _ _).trans (new_ext _ _)
  have C := Lib.hid (eq_strs (h.below (HX.out.mono hB) (Nat.le_refl _)) (h'.below (HX.out.mono hB') (Nat.le_refl _)))
  have q : (n.toList == n.toList) = true := by simp
  obtain ⟨_, A, c, rfl, -⟩ := h
  obtain ⟨_, A', c', rfl, -⟩ := h'
  go_enter Tryz.func21, Tryz.ntmps21
  go_wp2_with (go_at_call 56; refine C.out.mono ?_; rintro e w' ⟨rfl, rfl⟩)
  go_ret
  exact ⟨rfl, HX.out⟩

set_option maxRecDepth 100000 in
set_option maxHeartbeats 8000000 in
theorem tokenSays_walk (B : Nat) (vu : Value) (key : ByteArray) (u : User) (til : Int) (t : ByteArray) (now : Int) (w : World) (hB : B ≤ w.heap.size) (hk : key.size ≤ 1048576) (hz : u.name.size ≤ 1048576) (hg : StrsAt B w vu u.groups) (ht : t.size ≤ 1048575) (hm : MaxC w) (htab : Tab10 w) (her : Errs w) :
    Calls Tryz.prog 5 #[.string key, .agg #[.string u.name, vu], .int .i64 til, .string t, .int .i64 now] w fun e w' => e = .returned (.bool true) ∧ Ext w w' := by
  have HZ := Lib.hid (And.intro hk (And.intro hz ht))
  have HW := Lib.hid (And.intro hm (And.intro htab her))
  have HG := Lib.hid hg
  obtain ⟨hn1, Au, cu, rfl, _⟩ := hg
  clear hk hz ht hm htab her
  go_enter Tryz.func5, Tryz.ntmps5
  go_wp2_with fail
  obtain ⟨k0, hk0⟩ : ∃ k, k = w.heap.size := ⟨_, rfl⟩
  obtain ⟨w1, hw1⟩ : ∃ w1, w1 = w.alloc (.cells #[.string u.name, .slice Au u.groups.length cu] 45 (0, 0)) := ⟨_, rfl⟩
  rw [← hw1, ← hk0]
  have HX1 : Hid (Ext w w1) := by rw [hw1]; exact new_ext _ _
  have HU1 : Hid (UsrIn w1 k0 u.name (.slice Au u.groups.length cu)) := by rw [hw1]; exact heap_new hk0
  clear hw1 hk0
  have HGW : Hid (∀ W, Ext w1 W → StrsAt B W (.slice Au u.groups.length cu) u.groups ∧ B ≤ W.heap.size ∧ Ext w W ∧ UsrIn W k0 u.name (.slice Au u.groups.length cu)) := fun W hW =>
    have hx := HX1.out.trans hW
    ⟨HG.out.below (hx.mono hB), Nat.le_trans hB hx.size, hx, (hW.block _ (heap_lt HU1.out)).trans HU1.out⟩
  obtain ⟨A, hA⟩ : ∃ A, A = issueB key u til := ⟨_, rfl⟩
  obtain ⟨E, hE⟩ : ∃ E, E = issueE key u til := ⟨_, rfl⟩
  have C1 : Hid (∀ W, Ext w1 W → Calls Tryz.prog 17 #[.string key, .agg #[.string u.name, .slice Au u.groups.length cu], .int .i64 til] W fun e w' => e = .returned (.tuple #[.string A, .int .i64 E]) ∧ Ext W w') := fun W hW => by
    obtain ⟨h1, h2, h3, -⟩ := HGW.out W hW
    rw [hA, hE]
    exact issue_any B _ key u til W h2 HZ.out.1 HZ.out.2.1 h1 (HW.out.2.1.ext h3)
  have C2 : Hid (∀ W, Ext w1 W → Calls Tryz.prog 18 #[.string key, .agg #[.string u.name, .slice Au u.groups.length cu], .int .i64 til] W fun e w' => e = .returned (.tuple #[.string A, .int .i64 E]) ∧ Ext W w') := fun W hW => by
    obtain ⟨h1, h2, h3, -⟩ := HGW.out W hW
    rw [hA, hE]
    exact rissue_any B _ key u til W h2 HZ.out.1 HZ.out.2.1 h1
  clear hA hE
  obtain ⟨y0, y1⟩ := cells2 HU1.out
  refine Calls.mono (C1.out _ (Below.refl _ _)) ?_
  rintro e w2 ⟨rfl, hx2⟩
  have HX2 := Lib.hid hx2
  clear y0 y1 hx2
  obtain ⟨y0, y1⟩ := cells2 (HGW.out _ HX2.out).2.2.2
  go_wp2_with fail
  refine Calls.mono (C2.out _ HX2.out) ?_
  rintro e w3 ⟨rfl, hx3⟩
  have HX3 := Lib.hid (HX2.out.trans hx3)
  clear y0 y1 hx3
  go_wp2_with fail
  refine Calls.mono (tcheck_any key t now _ HZ.out.1 HZ.out.2.2 (HW.out.1.ext (HGW.out _ HX3.out).2.2.1) (HW.out.2.1.ext (HGW.out _ HX3.out).2.2.1) (HW.out.2.2.ext (HGW.out _ HX3.out).2.2.1)) ?_
  rintro e w4 ⟨v, rfl, hs4, hx4⟩
  have HX4 := Lib.hid (HX3.out.trans hx4)
  have HS4 := Lib.hid hs4
  obtain ⟨_, A4, c4, rfl, -⟩ := hs4
  clear hx4
  go_wp2_with fail
  obtain ⟨k5, hk5⟩ : ∃ k, k = w4.heap.size := ⟨_, rfl⟩
  obtain ⟨w5, hw5⟩ : ∃ w5, w5 = w4.alloc (.cells #[.string (tokU key t now).name, .slice A4 (tokU key t now).groups.length c4] 45 (0, 0)) := ⟨_, rfl⟩
  rw [← hw5, ← hk5]
  have HX45 : Hid (Ext w4 w5) := by rw [hw5]; exact new_ext _ _
  have HX5 := Lib.hid (HX4.out.trans HX45.out)
  have HU5 : Hid (UsrIn w5 k5 (tokU key t now).name (.slice A4 (tokU key t now).groups.length c4)) := by rw [hw5]; exact heap_new hk5
  clear hw5 hk5
  refine Calls.mono (rtcheck_any key t now _ HZ.out.1 HZ.out.2.2 (HW.out.1.ext (HGW.out _ HX5.out).2.2.1)) ?_
  rintro e w6 ⟨v, rfl, hs6, hx6⟩
  have HX56 := Lib.hid hx6
  have HS6 := Lib.hid hs6
  obtain ⟨_, A6, c6, rfl, -⟩ := hs6
  clear hx6
  go_wp2_with fail
  obtain ⟨k7, hk7⟩ : ∃ k, k = w6.heap.size := ⟨_, rfl⟩
  obtain ⟨w7, hw7⟩ : ∃ w7, w7 = w6.alloc (.cells #[.string (tokU key t now).name, .slice A6 (tokU key t now).groups.length c6] 45 (0, 0)) := ⟨_, rfl⟩
  rw [← hw7, ← hk7]
  have HX67 : Hid (Ext w6 w7) := by rw [hw7]; exact new_ext _ _
  have HX7 := Lib.hid (HX5.out.trans (HX56.out.trans HX67.out))
  have HU7 : Hid (UsrIn w7 k7 (tokU key t now).name (.slice A6 (tokU key t now).groups.length c6)) := by rw [hw7]; exact heap_new hk7
  have HU57 : Hid (UsrIn w7 k5 (tokU key t now).name (.slice A4 (tokU key t now).groups.length c4)) := ((HX56.out.trans HX67.out).block _ (heap_lt HU5.out)).trans HU5.out
  have HS47 : Hid (∀ W, Ext w7 W → StrsR w4.heap.size W (.slice A4 (tokU key t now).groups.length c4) (tokU key t now).groups ∧ w4.heap.size ≤ W.heap.size) := fun W hW =>
    have hx := HX45.out.trans ((HX56.out.trans HX67.out).trans hW)
    ⟨HS4.out.below hx (Nat.le_refl _), hx.size⟩
  have HS67 : Hid (∀ W, Ext w7 W → StrsR w6.heap.size W (.slice A6 (tokU key t now).groups.length c6) (tokU key t now).groups ∧ w6.heap.size ≤ W.heap.size) := fun W hW =>
    ⟨HS6.out.below (HX67.out.trans hW) (Nat.le_refl _), (HX67.out.trans hW).size⟩
  clear hw7 hk7
  obtain ⟨n, hn⟩ : ∃ n, n = (tokU key t now).name := ⟨_, rfl⟩
  obtain ⟨xs, hxs⟩ : ∃ xs, xs = (tokU key t now).groups := ⟨_, rfl⟩
  obtain ⟨er, her⟩ : ∃ er, er = tokE key t now := ⟨_, rfl⟩
  rw [← hn, ← hxs] at HU7 HU57
  rw [← hxs] at HS47 HS67
  rw [← hn, ← hxs, ← her]
  clear hn hxs her
  obtain ⟨a0, a1⟩ := cells2 (HGW.out _ HX7.out).2.2.2
  obtain ⟨b0, b1⟩ := cells2 HU57.out
  obtain ⟨d0, d1⟩ := cells2 HU7.out
  have m0 := cell_regrown a0
  have m1 := cell_regrown a1
  have m2 := cell_regrown b0
  have m3 := cell_regrown b1
  have m4 := cell_regrown d0
  have m5 := cell_regrown d1
  have hbel : ∀ d os, Ext w7 (grow (redrawn w7 d) os) := fun d os => below_regrown w7 d os
  obtain ⟨U, hU⟩ : ∃ U, U = userI u := ⟨_, rfl⟩
  have cS := fun d os => Calls.regrown_of (w := w7) (d := d) (os := os) (sameUser_any (n := n) (HS47.out _ (hbel d os)).2 (HS67.out _ (hbel d os)).2 (HS47.out _ (hbel d os)).1 (HS67.out _ (hbel d os)).1)
  have cG : ∀ d os, _ := fun d os => Calls.regrown_of (w := w7) (d := d) (os := os) ((user_any B _ u _ (HGW.out _ (HX7.out.trans (hbel d os))).2.1 HZ.out.2.1 (HGW.out _ (HX7.out.trans (hbel d os))).1).mono fun e w' h => (by rw [hU]; exact h : e = .returned (.int .i64 U) ∧ Ext (grow (redrawn w7 d) os) w'))
  have cR : ∀ d os, _ := fun d os => Calls.regrown_of (w := w7) (d := d) (os := os) ((ruser_any B _ u _ (HGW.out _ (HX7.out.trans (hbel d os))).2.1 HZ.out.2.1 (HGW.out _ (HX7.out.trans (hbel d os))).1).mono fun e w' h => (by rw [hU]; exact h : e = .returned (.int .i64 U) ∧ Ext (grow (redrawn w7 d) os) w'))
  have CS := Lib.hid cS
  have CG := Lib.hid cG
  have CR := Lib.hid cR
  have HX9 := Lib.hid (fun d os => (HGW.out _ (HX7.out.trans (hbel d os))).2.2.1)
  have q0 : (A.toList == A.toList) = true := by simp
  have q1 : (E == E) = true := by simp
  have q2 : (er == er) = true := by simp
  have q3 : (U == U) = true := by simp
  clear cS cG cR hbel hU a0 a1 b0 b1 d0 d1
  refine wp_region_quiet_below (by kernel_rfl) (by kernel_rfl) ?_
  repeat (quiet_step (first | (go_at_call 21; exact CS.out _ _) | (go_at_call 22; exact CG.out _ _) | (go_at_call 23; exact CR.out _ _)))
  refine wpQuiet_nil ?_
  intro _ hw'
  obtain ⟨⟨dq, osq⟩, hw''⟩ := hw'
  subst hw''
  go_wp2
  go_ret
  exact ⟨rfl, HX9.out _ _⟩
end Go.Proofs.YtplfimoeggecjaaGreatDoor.Sx
