/-
  The program's Steps.
-/
import Derived.Test.YtpbbohinhbboaaaDoorPt2

namespace Go.Proofs.YtpbbohinhbboaaaDoor.Sx
open Go Go.RowKit Go.Proofs.YtpbbohinhbboaaaDoor.Pt

def mkB (l : List UInt8) : ByteArray := ⟨l.toArray⟩
def goodB (t : ByteArray) : Bool := good t.data.toList
def okS (s : ByteArray) : Bool := (parts 126 s).tail.all goodB
def stepF (s : ByteArray) : ByteArray := mkB (rep [126, 48] [126] (rep [126, 49] [47] s.data.toList))
/-- What Steps gives. -/
def stepsR (p : ByteArray) : List ByteArray × Int :=
  match p.data.toList with
  | [] => ([], 0)
  | c :: r => if c = 47 then (match unescAll (segs 47 r) with | none => ([], 16) | some l => if 10 < l.length then ([], 2) else (l.map mkB, 0)) else ([], 16)
def StepsPost (w : World) (p : ByteArray) (e : Ending) (w' : World) : Prop := ∃ A c, e = .returned (.tuple #[.slice A (stepsR p).1.length c, .int .i64 (stepsR p).2]) ∧ SRow w.heap.size w' (.slice A (stepsR p).1.length c) (stepsR p).1 ∧ Ext w w'
theorem steps_none {w w' : World} {p : ByteArray} {n : Int} (h : stepsR p = ([], n)) (hx : Ext w w') : StepsPost w p (.returned (.tuple #[.slice none 0 0, .int .i64 n])) w' :=
  ⟨none, 0, by rw [h]; rfl, by rw [h]; exact SRow.nil, hx⟩
theorem okS_eq (s : ByteArray) : okS s = okSeg s.data.toList := by
  unfold okS okSeg
  rw [← parts_segs 126 s.size s (Nat.le_refl _), ← List.map_tail, List.all_map]
  rfl
theorem ext_toList {p : ByteArray} {c : UInt8} {r : List UInt8} (h : p.data.toList = c :: r) : (p.extract 1 p.size).data.toList = r := by
  have hs : p.size = r.length + 1 := by
    have : p.data.toList.length = p.size := by simp
    rw [h] at this
    simpa using this.symm
  simp [List.extract_eq_take_drop, h, hs]
theorem steps_bad {p : ByteArray} {c : UInt8} {r : List UInt8} (h : p.data.toList = c :: r) {i : Nat} (hi : i < (parts 47 (p.extract 1 p.size)).length) (hb : okS ((parts 47 (p.extract 1 p.size))[i]) = false) : stepsR p = ([], 16) := by
  have hm := parts_segs 47 _ _ (Nat.le_refl (p.extract 1 p.size).size)
  rw [ext_toList h] at hm
  unfold stepsR
  rw [h]
  by_cases hc : c = 47
  · simp only [if_pos hc]
    cases e : unescAll (segs 47 r) with
    | none => rfl
    | some o =>
      have hl := unescAll_length e
      have hi' : i < (segs 47 r).length := by rw [← hm, List.length_map]; exact hi
      have hu := unescAll_at e i hi' (by omega)
      have he : (segs 47 r)[i] = (parts 47 (p.extract 1 p.size))[i].data.toList := by simp [← hm]
      rw [okS_eq, ← he, ok_unesc _ _ (Nat.le_refl _), hu] at hb
      cases hb
  · simp [hc]
theorem steps_good {p : ByteArray} {r : List UInt8} (h : p.data.toList = 47 :: r) (hb : ∀ i (hi : i < (parts 47 (p.extract 1 p.size)).length), okS ((parts 47 (p.extract 1 p.size))[i]) = true) :
    stepsR p = if 10 < (parts 47 (p.extract 1 p.size)).length then ([], 2) else ((parts 47 (p.extract 1 p.size)).map stepF, 0) := by
  have hm := parts_segs 47 _ _ (Nat.le_refl (p.extract 1 p.size).size)
  rw [ext_toList h] at hm
  unfold stepsR
  rw [h]
  simp only [if_true]
  cases e : unescAll (segs 47 r) with
  | none =>
    obtain ⟨i, hi, hu, _⟩ := unescAll_none e
    have hi' : i < (parts 47 (p.extract 1 p.size)).length := by rw [← hm, List.length_map] at hi; exact hi
    have he : (segs 47 r)[i] = (parts 47 (p.extract 1 p.size))[i].data.toList := by simp [← hm]
    have := hb i hi'
    rw [okS_eq, ← he, ok_unesc _ _ (Nat.le_refl _), hu] at this
    cases this
  | some o =>
    have hl := unescAll_length e
    have hl2 : (segs 47 r).length = (parts 47 (p.extract 1 p.size)).length := by rw [← hm, List.length_map]
    simp only
    rw [hl, hl2]
    congr 2
    refine List.ext_getElem (by simp; omega) fun i h1 h2 => ?_
    simp only [List.length_map] at h1 h2
    have hu := unescAll_at e i (by omega) h1
    have he : (segs 47 r)[i]'(by omega) = (parts 47 (p.extract 1 p.size))[i].data.toList := by simp [← hm]
    rw [List.getElem_map, List.getElem_map, stepF, ← he, unesc_rep _ _ _ (Nat.le_refl _) hu]
theorem rep_le {old new : List UInt8} (h : old ≠ []) (hn : new.length ≤ old.length) : ∀ (n : Nat) (s : List UInt8), s.length ≤ n → (rep old new s).length ≤ s.length := by
  intro n
  induction n with
  | zero =>
    intro s hs
    obtain rfl : s = [] := List.length_eq_zero_iff.1 (by omega)
    rw [rep_nil h]
    simp
  | succ n ih =>
    intro s hs
    cases s with
    | nil => rw [rep_nil h]; simp
    | cons c r =>
      cases hp : old.isPrefixOf (c :: r) with
      | false =>
        rw [rep_miss h c r hp]
        simp only [List.length_cons] at *
        have := ih r (by omega)
        omega
      | true =>
        obtain ⟨t, ht⟩ := List.isPrefixOf_iff_prefix.1 hp
        have hpos : 0 < old.length := List.length_pos_iff.2 h
        rw [← ht] at hs ⊢
        rw [List.length_append] at hs
        rw [rep_hit h, List.length_append, List.length_append]
        have := ih t (by omega)
        omega
theorem first_ways (t : ByteArray) : t.data.toList = [] ∨ ∃ c, 0 < t.size ∧ (∃ h : 0 < t.size, t[0] = c) ∧ goodB t = (decide (c = 48) || decide (c = 49)) := by
  cases h : t.data.toList with
  | nil => exact .inl rfl
  | cons c r =>
    have hs : 0 < t.size := by
      have : t.data.toList.length = t.size := by simp
      rw [h] at this
      simp at this
      omega
    refine .inr ⟨c, hs, ⟨hs, ?_⟩, by unfold goodB; rw [h]; rfl⟩
    have h1 : t.data.toList[0]'(by simpa using hs) = t[0] := rfl
    rw [← h1]
    simp only [h]
    rfl
theorem stepF_row (xs : List ByteArray) {i : Nat} (hi : i < xs.length) : ((xs.take i).map stepF ++ xs.drop i).set i (stepF xs[i]) = (xs.take (i + 1)).map stepF ++ xs.drop (i + 1) := by
  have hl : ((xs.take i).map stepF).length = i := by simp; omega
  rw [List.set_append_right _ _ (by omega), hl, Nat.sub_self, List.drop_eq_getElem_cons hi, List.set_cons_zero, List.take_succ_eq_append_getElem hi, List.map_append, List.append_assoc]
  rfl
theorem stepF_at (xs : List ByteArray) {i : Nat} (hi : i < xs.length) : ((xs.take i).map stepF ++ xs.drop i)[i]'(by simp; omega) = xs[i] := by
  have hl : ((xs.take i).map stepF).length = i := by simp; omega
  have e : i + (i - ((xs.take i).map stepF).length) = i := by omega
  rw [List.getElem_append_right (by omega), List.getElem_drop]
  simp only [e]

set_option maxRecDepth 100000 in
set_option maxHeartbeats 4000000 in
theorem steps_main (p : ByteArray) (r : List UInt8) (w : World) (hs : p.size ≤ 1048576) (hm : MaxC w) (hp : p.data.toList = 47 :: r) :
    Calls Tryd.prog 15 #[.string p] w (StepsPost w p) := by
  have HP := Lib.hid hp
  have hsz : 0 < p.size := by
    have : p.data.toList.length = p.size := by simp
    rw [hp] at this
    simp at this
    omega
  have h0 : p[0] = 47 := by
    have h1 : p.data.toList[0]'(by simpa using hsz) = p[0] := rfl
    rw [← h1]
    simp only [hp]
    rfl
  have hne : p.toList.isEmpty = false := by
    have : p.toList = 47 :: r := by rw [← hp]; exact ByteArray.toList_eq _
    rw [this]
    rfl
  have HX := Lib.hid (parts_le 47 _ _ (Nat.le_refl (p.extract 1 p.size).size))
  clear hp
  go_enter Tryd.func15, Tryd.ntmps15
  go_wp2_with fail
  refine Calls.mono (split_any _ 47 w hm (by simp; omega)) ?_
  obtain ⟨xs, hxs⟩ : ∃ xs, xs = parts 47 (p.extract 1 p.size) := ⟨_, rfl⟩
  rw [← hxs] at HX ⊢
  have HXS := Lib.hid hxs
  clear hxs
  obtain ⟨m, hmm⟩ : ∃ m, m = xs.length := ⟨_, rfl⟩
  rw [← hmm]
  have HL := Lib.hid hmm
  have hml : m ≤ 1048577 := by have := HX.out.1; rw [← HL.out] at this; simp at this; omega
  clear hmm
  rintro e w1 ⟨rfl, hr1, hx1⟩
  obtain ⟨g, hg⟩ : ∃ g, g = w.heap.size := ⟨_, rfl⟩
  rw [← hg] at hr1 ⊢
  have HG := Lib.hid hg
  clear hg
  have hw1 : g ≤ w1.heap.size := by rw [HG.out]; exact hx1.size
  have HR1 := Lib.hid (And.intro hr1 hx1)
  have HM := Lib.hid hm
  clear hr1 hx1 hm
  go_wp2_with fail
  go_loopw [20] (fun q wr => ∃ i : Nat, i ≤ m ∧ q = .int .i64 (i : Int) ∧ Hid ((∀ j (hj : j < i) (hj' : j < xs.length), okS xs[j] = true) ∧ SRow g wr (.slice (some ⟨g, 0, none⟩) m m) ((xs.take i).map stepF ++ xs.drop i) ∧ Ext w wr)) (fun q _ => m - (intOf q).toNat)
  case atStart => exact ⟨0, Nat.zero_le _, rfl, fun j hj => absurd hj (by omega), by simpa using HR1.out.1, HR1.out.2⟩
  case round =>
    obtain ⟨i, hi, rfl, hI⟩ := hrel
    by_cases hlt : i < m
    · have hil : i < xs.length := by rw [← HL.out]; exact hlt
      obtain ⟨s, hse⟩ : ∃ s, s = xs[i] := ⟨_, rfl⟩
      have hss : s.size ≤ 1048576 := by rw [hse]; have := HX.out.2 _ (List.getElem_mem hil); simp at this; omega
      have hcell := (hI.out.2.1.set (i := i) (by simp; omega) s).2.2.2
      rw [stepF_at xs hil, ← hse] at hcell
      have HSE := Lib.hid hse
      clear hse
      go_wp2_with fail
      refine Calls.mono (split_any s 126 wr (HM.out.ext hI.out.2.2) hss) ?_
      obtain ⟨ys, hys⟩ : ∃ ys, ys = parts 126 s := ⟨_, rfl⟩
      have hyl := (parts_le 126 _ s (Nat.le_refl _)).1
      have hyp : 1 ≤ (parts 126 s).length := by rw [parts_len 126 _ s (Nat.le_refl _)]; omega
      rw [← hys] at hyl hyp ⊢
      have HYS := Lib.hid hys
      clear hys
      obtain ⟨n, hn⟩ : ∃ n, n = ys.length := ⟨_, rfl⟩
      rw [← hn] at hyl hyp ⊢
      have HN := Lib.hid hn
      clear hn
      rintro e w2 ⟨rfl, hr2, hx2⟩
      obtain ⟨g2, hg2⟩ : ∃ g2, g2 = wr.heap.size := ⟨_, rfl⟩
      rw [← hg2] at hr2 ⊢
      have HG2 := Lib.hid hg2
      clear hg2
      obtain ⟨q1, q2, o2, hsl0, hat⟩ := hr2.rest1 (by rw [← HN.out]; exact hyp)
      clear q1 q2
      have hsl : ∀ wx, (Instr.slice 27 (.slice (some ⟨g2, 0, none⟩) n n) (some (.int .i64 1)) none none).run Tryd.prog wx = .ok (.slice (some ⟨g2, o2, none⟩) (n - 1) (n - 1)) wx := fun wx => by
        have h := run_slice_l (P := Tryd.prog) (w := wx) 27 (some ⟨g2, 0, none⟩) n n Tryd.underlying27 .i64 1 (by omega) (by omega)
        rw [h]
        have e1 : (sizeOf (Tryd.prog.elem 27)).run Tryd.prog wx = .ok 1 wx := by kernel_rfl
        rw [e1]
        have e2 : (1 : Int).toNat = 1 := rfl
        simp only [Result.andThen, e2, hsl0]
      have HAT := Lib.hid hat
      have HR2 := Lib.hid (And.intro (hI.out.2.1.ext hx2) (hI.out.2.2.trans hx2))
      have HOK := Lib.hid hI.out.1
      obtain ⟨n1, hn1⟩ : ∃ n1, n1 = n - 1 := ⟨_, rfl⟩
      rw [← hn1] at hsl
      have HN1 : Hid (n1 = ys.tail.length) := by unfold Hid; rw [List.length_tail, ← HN.out, hn1]
      have hnb : n1 ≤ 1048577 := by omega
      clear hr2 hx2 hsl0 hat hcell hI hn1 hyl hyp hss
      go_wp2_with fail
      go_loopw [30] (fun q wx => ∃ k : Nat, k ≤ n1 ∧ q = .int .i64 (k : Int) ∧ wx = w2 ∧ Hid (∀ j (hj : j < k) (hj' : j < ys.tail.length), goodB ys.tail[j] = true)) (fun q _ => n1 - (intOf q).toNat)
      case atStart => exact ⟨0, Nat.zero_le _, rfl, rfl, fun j hj => absurd hj (by omega)⟩
      case round =>
        obtain ⟨k, hk, rfl, rfl, hJ⟩ := hrel
        by_cases hkl : k < n1
        · have hkt : k < ys.tail.length := by rw [← HN1.out]; exact hkl
          have hcell := HAT.out k hkt
          obtain ⟨t, ht⟩ : ∃ t, t = ys.tail[k] := ⟨_, rfl⟩
          rw [← ht] at hcell
          have HT := Lib.hid ht
          clear ht hsl
          have HBAD : goodB t = false → Hid (stepsR p = ([], 16)) := fun hb => by
            refine steps_bad HP.out (i := i) (by rw [← HXS.out]; exact hil) ?_
            have e : (parts 47 (p.extract 1 p.size))[i]'(by rw [← HXS.out]; exact hil) = s := by rw [HSE.out]; simp only [HXS.out]
            rw [e]
            unfold okS
            rw [← HYS.out]
            exact List.all_eq_false.2 ⟨t, by rw [HT.out]; exact List.getElem_mem hkt, by rw [hb]; simp⟩
          have HGOOD : goodB t = true → Hid (∀ j (hj : j < k + 1) (hj' : j < ys.tail.length), goodB ys.tail[j] = true) := fun hb j hj hj' => by
            by_cases e : j = k
            · subst e; rw [← HT.out]; exact hb
            · exact hJ.out j (by omega) hj'
          rcases first_ways t with ht | ⟨c, ht1, ⟨ht0, ht2⟩, ht3⟩
          · have hbad := HBAD (by unfold goodB; rw [ht]; rfl)
            have b1 : t.toList.isEmpty = true := by rw [ByteArray.toList_eq, ht]; rfl
            clear HBAD HGOOD ht
            go_wp2
            go_ret2
            exact steps_none hbad.out HR2.out.2
          · have b1 : t.toList.isEmpty = false := by
              have h5 : t.toList.length = t.size := by rw [ByteArray.toList_eq]; simp
              cases h6 : t.toList with
              | nil => rw [h6] at h5; simp at h5; omega
              | cons _ _ => rfl
            by_cases hc : c = 48 ∨ c = 49
            · have hgood := HGOOD (by rw [ht3]; rcases hc with rfl | rfl <;> rfl)
              clear HBAD HGOOD ht3
              rcases hc with rfl | rfl
              all_goals
                go_wp2
                go_roundw
                case rel => exact ⟨k + 1, hkl, by go_num, (by first | rfl | trivial), hgood⟩
                case measure => simp [intOf]; omega
            · have hbad := HBAD (by rw [ht3]; simp at hc; simp [hc])
              have b2 : ((c.toNat : Int) != 48) = true := by rw [bne_iff_ne]; intro e; exact hc (.inl (UInt8.toNat_inj.1 (by simpa using Int.ofNat_inj.1 e)))
              have b3 : ((c.toNat : Int) != 49) = true := by rw [bne_iff_ne]; intro e; exact hc (.inr (UInt8.toNat_inj.1 (by simpa using Int.ofNat_inj.1 e)))
              clear HBAD HGOOD ht3 hc
              go_wp2
              go_ret2
              exact steps_none hbad.out HR2.out.2
        · have hkn : k = ys.tail.length := by rw [← HN1.out]; omega
          have HOK' : Hid (∀ j (hj : j < i + 1) (hj' : j < xs.length), okS xs[j] = true) := fun j hj hj' => by
            by_cases e : j = i
            · subst e
              rw [← HSE.out]
              unfold okS
              rw [← HYS.out]
              refine List.all_eq_true.2 fun t ht => ?_
              obtain ⟨q, hq, rfl⟩ := List.mem_iff_getElem.1 ht
              exact hJ.out q (by omega) hq
            · exact HOK.out j (by omega) hj'
          clear hkn
          have hss : s.size ≤ 1048576 := by rw [HSE.out]; have := HX.out.2 _ (List.getElem_mem hil); simp at this; omega
          have HMM := Lib.hid (HM.out.ext HR2.out.2)
          clear hsl
          go_wp2_with fail
          refine Calls.mono (replace_any s ⟨#[126, 49]⟩ ⟨#[47]⟩ _ HMM.out (by omega) (by decide) (by decide) (by decide)) ?_
          rintro e w3 ⟨rfl, hx3⟩
          obtain ⟨s1, hs1⟩ : ∃ s1 : ByteArray, s1 = ⟨(rep [126, 49] [47] s.data.toList).toArray⟩ := ⟨_, rfl⟩
          have HS1 := Lib.hid hs1
          have hss1 : s1.size ≤ 4194304 := by
            have h1 := rep_le (old := [126, 49]) (new := [47]) (by decide) (by decide) _ s.data.toList (Nat.le_refl _)
            have h2 : s.data.toList.length = s.size := by simp
            have h3 : s1.size = (rep [126, 49] [47] s.data.toList).length := by rw [hs1]; simp [ByteArray.size]
            omega
          have e1 : (⟨(rep (ByteArray.mk #[126, 49]).data.toList (ByteArray.mk #[47]).data.toList s.data.toList).toArray⟩ : ByteArray) = s1 := hs1.symm
          rw [e1]
          clear e1 hs1
          have HMM3 := Lib.hid (HMM.out.ext hx3)
          have HX3 := Lib.hid hx3
          clear hx3
          go_wp2_with fail
          refine Calls.mono (replace_any s1 ⟨#[126, 48]⟩ ⟨#[126]⟩ _ HMM3.out hss1 (by decide) (by decide) (by decide)) ?_
          rintro e w4 ⟨rfl, hx4⟩
          have e1 : (⟨(rep (ByteArray.mk #[126, 48]).data.toList (ByteArray.mk #[126]).data.toList s1.data.toList).toArray⟩ : ByteArray) = stepF s := by rw [HS1.out]; rfl
          rw [e1]
          clear e1
          obtain ⟨y, hy⟩ : ∃ y, y = stepF s := ⟨_, rfl⟩
          rw [← hy]
          have HX4 := Lib.hid (HX3.out.trans hx4)
          obtain ⟨hr5, hg5, hf5, hc5⟩ := (HR2.out.1.ext HX4.out).set (i := i) (by simp; omega) y
          have HR5 : Hid (SRow g (w4.setCell ⟨g, i, none⟩ (.string y)) (.slice (some ⟨g, 0, none⟩) m m) ((xs.take (i + 1)).map stepF ++ xs.drop (i + 1)) ∧ Ext w (w4.setCell ⟨g, i, none⟩ (.string y))) := by
            refine ⟨?_, (HR2.out.2.trans HX4.out).grown hg5 (HR2.out.2.trans HX4.out).size (by intro q e; injection e with e; have := HG.out; omega)⟩
            rw [← stepF_row xs hil, ← HSE.out, ← hy]
            exact hr5
          clear hx4 hy hr5 hg5 HX
          go_wp2
          go_roundw
          case rel => exact ⟨i + 1, hlt, by go_num, HOK'.out, HR5.out⟩
          case measure => simp [intOf]; omega
    · obtain rfl : i = m := by omega
      have HD : Hid (SRow g wr (.slice (some ⟨g, 0, none⟩) i i) (xs.map stepF)) := by
        have h := hI.out.2.1
        have e : (xs.take i).map stepF ++ xs.drop i = xs.map stepF := by rw [HL.out, List.take_length, List.drop_length, List.append_nil]
        rw [e] at h
        exact h
      have HGD : Hid (stepsR p = if 10 < i then ([], 2) else (xs.map stepF, 0)) := by
        have h := steps_good HP.out fun j hj => by
          have hj' : j < xs.length := by rw [HXS.out]; exact hj
          have := hI.out.1 j (by rw [HL.out]; exact hj') hj'
          have e : (parts 47 (p.extract 1 p.size))[j] = xs[j] := by simp only [HXS.out]
          rw [e]
          exact this
        rw [← HXS.out, ← HL.out] at h
        exact h
      have HX9 := Lib.hid hI.out.2.2
      clear hI hi hlt HX
      by_cases h10 : 10 < i
      · have b1 : decide (10 < (i : Int)) = true := decide_eq_true (by omega)
        have b2 : decide (10 < i) = true := decide_eq_true h10
        have HF : Hid (stepsR p = ([], 2)) := by unfold Hid; rw [HGD.out, if_pos h10]
        clear h10
        go_wp2
        go_ret2
        exact steps_none HF.out HX9.out
      · have b1 : decide (10 < (i : Int)) = false := decide_eq_false (by omega)
        have b2 : decide (10 < i) = false := decide_eq_false h10
        have HF : Hid (stepsR p = (xs.map stepF, 0)) := by unfold Hid; rw [HGD.out, if_neg h10]
        clear h10
        go_wp2
        go_ret2
        exact ⟨some ⟨g, 0, none⟩, i, by rw [HF.out]; simp [← HL.out], by rw [HF.out, ← HG.out]; simp only [List.length_map, ← HL.out]; exact HD.out, HX9.out⟩

theorem byte_ne {c d : UInt8} (h : c ≠ d) : ((c.toNat : Int) == (d.toNat : Int)) = false := beq_eq_false_iff_ne.2 fun e => h (UInt8.toNat_inj.1 (Int.ofNat_inj.1 e))
theorem empty_iff {p : ByteArray} (h : p.data.toList = []) : p.toList.isEmpty = true := by rw [ByteArray.toList_eq, h]; rfl
theorem cons_at {p : ByteArray} {c : UInt8} {r : List UInt8} (h : p.data.toList = c :: r) : p.toList.isEmpty = false ∧ ∃ h : 0 < p.size, p[0] = c := by
  refine ⟨by rw [ByteArray.toList_eq, h]; rfl, ?_⟩
  have hs : 0 < p.size := by
    have : p.data.toList.length = p.size := by simp
    rw [h] at this
    simp at this
    omega
  refine ⟨hs, ?_⟩
  have h1 : p.data.toList[0]'(by simpa using hs) = p[0] := rfl
  rw [← h1]
  simp only [h]
  rfl
set_option maxRecDepth 100000 in
theorem steps_any (p : ByteArray) (w : World) (hs : p.size ≤ 1048576) (hm : MaxC w) : Calls Tryd.prog 15 #[.string p] w (StepsPost w p) := by
  cases h : p.data.toList with
  | nil =>
    have HF : Hid (stepsR p = ([], 0)) := by unfold Hid stepsR; rw [h]
    have b1 := empty_iff h
    have HX : Hid (Ext w w) := Below.refl _ _
    clear h
    go_enter Tryd.func15, Tryd.ntmps15
    go_wp2
    go_ret2
    exact steps_none HF.out HX.out
  | cons c r =>
    by_cases hc : c = 47
    · subst hc
      exact steps_main p r w hs hm h
    · have HF : Hid (stepsR p = ([], 16)) := by unfold Hid stepsR; rw [h]; simp only [if_neg hc]
      obtain ⟨b1, h0, h1⟩ := cons_at h
      have b2 : ((c.toNat : Int) != 47) = true := by rw [bne_iff_ne]; intro e; exact hc (UInt8.toNat_inj.1 (by simpa using Int.ofNat_inj.1 e))
      have HX : Hid (Ext w w) := Below.refl _ _
      clear h hc
      go_enter Tryd.func15, Tryd.ntmps15
      go_wp2
      go_ret2
      exact steps_none HF.out HX.out
end Go.Proofs.YtpbbohinhbboaaaDoor.Sx
