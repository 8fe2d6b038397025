/-
  The reference's QueryPrint: the walk.
-/
import Derived.Test.YtpbbohinhbboaaaDoorPrn2
namespace Go.Proofs.YtpbbohinhbboaaaDoor.Sx
open Go Go.RowKit

theorem joinTail_end (r : List (List UInt8)) (y : List UInt8) : Lib.joinTail [44] (r ++ [y]) = Lib.joinTail [44] r ++ [44] ++ y := by
  unfold Lib.joinTail
  simp
theorem mk_toList (x : ByteArray) : (⟨x.data.toList.toArray⟩ : ByteArray) = x := rfl
theorem joinS_first (x : ByteArray) : joinS [x] = x := by
  unfold joinS
  rw [List.map_cons, List.map_nil, Lib.join_one, mk_toList]
theorem joinS_more {xs : List ByteArray} (h : 0 < xs.length) (x : ByteArray) : joinS (xs ++ [x]) = joinS xs ++ ⟨#[44]⟩ ++ x := by
  cases xs with
  | nil => simp at h
  | cons y r =>
    have e1 : joinS (y :: r ++ [x]) = ⟨(y.data.toList ++ Lib.joinTail [44] (r.map fun z : ByteArray => z.data.toList) ++ [44] ++ x.data.toList).toArray⟩ := by
      unfold joinS
      rw [List.cons_append, List.map_cons, Lib.join_cons, List.map_append, List.map_cons, List.map_nil, joinTail_end]
      simp
    have e2 : joinS (y :: r) = ⟨(y.data.toList ++ Lib.joinTail [44] (r.map fun z : ByteArray => z.data.toList)).toArray⟩ := by
      unfold joinS
      rw [List.map_cons, Lib.join_cons]
    have e3 : (⟨#[44]⟩ : ByteArray) = ⟨([44] : List UInt8).toArray⟩ := rfl
    have e5 := ByteArray.mk_append_mk (y.data.toList ++ Lib.joinTail [44] (r.map fun z : ByteArray => z.data.toList)) [44]
    rw [e1, e2, e3, e5]
    have e4 := ByteArray.mk_append_mk (y.data.toList ++ Lib.joinTail [44] (r.map fun z : ByteArray => z.data.toList) ++ [44]) x.data.toList
    rw [mk_toList] at e4
    rw [e4]

set_option maxRecDepth 100000 in
set_option maxHeartbeats 8000000 in
theorem rprint_any (B : Nat) (v : Value) (l : List Req) (w : World) (hB : B ≤ w.heap.size) (hv : ReqsR B w v l) (hm : MaxC w) :
    Calls Tryd.prog 27 #[v] w (PrintPost w l) := by
  have HV := Lib.hid hv
  have HM := Lib.hid hm
  have hn := hv.1
  have HSM := Lib.hid (reqs_small hv)
  obtain ⟨_, A, c, rfl, _⟩ := hv
  clear hm
  go_enter Tryd.func27, Tryd.ntmps27
  go_wp2_with fail
  refine Calls.mono (rqcheck_any B _ l _ hB HV.out HM.out) ?_
  rintro e w1 ⟨rfl, hx1⟩
  have HX1 := Lib.hid hx1
  clear hx1
  by_cases h0 : checkQ l = 0
  · have hb : (checkQ l != 0) = false := by simp [h0]
    have H0 := Lib.hid h0
    have HF := Lib.hid (checkQ_fine h0)
    clear h0
    go_wp2
    go_loopw [5, 6, 7, 8, 9, 17] (fun o _ _ _ _ k wr => ∃ j : Nat, j ≤ l.length ∧ k = .int .i64 (j : Int) ∧ o = .string (joinS ((l.take j).map textB)) ∧ Hid (Ext w wr)) (fun _ _ _ _ _ k _ => l.length - (intOf k).toNat)
    case atStart => exact ⟨0, Nat.zero_le _, rfl, rfl, HX1.out⟩
    case round =>
      obtain ⟨j, hj, rfl, rfl, hX⟩ := hrel
      by_cases hlt : j < l.length
      · have hbl := hX.out.mono hB
        obtain ⟨b, off, A1, c1, rfl, _, x0, x1, x2, hk, t1⟩ := (HV.out.below hbl (Nat.le_refl _)).at_ hlt
        have hcap := (HV.out.below hbl (Nat.le_refl _)).cap hlt x2
        have HRF := Lib.hid (HF.out.2 l[j] (List.getElem_mem hlt))
        have hvsm := (HSM.out l[j] (List.getElem_mem hlt)).2
        have HSUC : Hid ((l.take (j + 1)).map textB = (l.take j).map textB ++ [textB l[j]]) := by unfold Hid; rw [List.take_succ_eq_append_getElem hlt, List.map_append]; rfl
        have hqs : (joinS ((l.take j).map textB)).size ≤ 90000000 := by
          have q1 := texts_size (l := l.take j) (by rw [List.length_take]; have := HF.out.1; omega) (fun r hr => HF.out.2 r (List.mem_of_mem_take hr)) (fun r hr => HSM.out r (List.mem_of_mem_take hr))
          have q2 := joinS_size ((l.take j).map textB)
          have q3 := sizes_le q1.1
          have q4 : ((l.take j).map textB).length ≤ 8 := by rw [List.length_map, List.length_take]; have := HF.out.1; omega
          have q5 := Nat.mul_le_mul_right 10485760 q4
          omega
        have HLN : Hid (((l.take j).map textB).length = j) := by unfold Hid; rw [List.length_map, List.length_take]; omega
        have HQ0 : Hid (j = 0 → joinS ((l.take j).map textB) ++ textB l[j] = joinS ((l.take (j + 1)).map textB)) := fun e => by
          rw [HSUC.out]
          have e2 : (l.take j).map textB = [] := List.length_eq_zero_iff.1 (HLN.out.trans e)
          rw [e2, List.nil_append, joinS_first]
          exact ByteArray.empty_append
        have HQ1 : Hid (0 < j → joinS ((l.take j).map textB) ++ ⟨#[44]⟩ ++ textB l[j] = joinS ((l.take (j + 1)).map textB)) := fun e => by
          rw [HSUC.out, joinS_more (by rw [HLN.out]; exact e)]
        obtain ⟨Q, hQ⟩ : ∃ Q, Q = joinS ((l.take j).map textB) := ⟨_, rfl⟩
        obtain ⟨Q2, hQ2⟩ : ∃ Q2, Q2 = joinS ((l.take (j + 1)).map textB) := ⟨_, rfl⟩
        rw [← hQ] at hqs HQ0 HQ1 ⊢
        rw [← hQ2] at HQ0 HQ1
        have HQ2 := Lib.hid hQ2
        obtain ⟨r, hr⟩ : ∃ r, r = l[j] := ⟨_, rfl⟩
        rw [← hr] at x0 x1 x2 t1 HQ0 HQ1 hk hcap HRF hvsm
        have hvs := valOf_size hvsm
        have hjs : (joinS r.vals).size ≤ 8388616 := by
          have h1 := joinS_size r.vals
          have h2 := sizes_le hvsm
          have h3 := Nat.mul_le_mul_right 1048576 HRF.out.few
          omega
        have HJZ : Hid (sizes r.vals + r.vals.length ≤ 140737488355328) := by
          unfold Hid
          have h2 := sizes_le hvsm
          have h3 := Nat.mul_le_mul_right 1048576 HRF.out.few
          have h4 := HRF.out.few
          omega
        have HBR : Hid (B ≤ wr.heap.size) := Nat.le_trans hB hX.out.size
        obtain ⟨kb, hkb⟩ : ∃ kb, kb = wr.heap.size := ⟨_, rfl⟩
        obtain ⟨w2, hw2⟩ : ∃ w2, w2 = wr.alloc (.cells #[.string r.key, .int .i64 r.kind, .slice A1 r.vals.length c1] 38) := ⟨_, rfl⟩
        have hx2 : Ext wr w2 := by rw [hw2]; exact (Below.refl _ _).alloc (Nat.le_refl _) _
        have hg2 : ReqIn w2 kb r A1 c1 := by rw [hw2]; exact heap_new hkb
        have HX2 : Hid (Ext w w2) := hX.out.trans hx2
        have HG2 := Lib.hid hg2
        have HB2 : Hid (B ≤ w2.heap.size) := Nat.le_trans HBR.out hx2.size
        have HV2 : Hid (StrsR B w2 (.slice A1 r.vals.length c1) r.vals) := t1.below (hx2.mono HBR.out) (Nat.le_refl _)
        have HC2 := Lib.hid hcap
        obtain ⟨k0, k1, k2⟩ := cells3' hg2
        have ways : r.kind = 1 ∨ r.kind = 2 ∨ r.kind = 3 ∨ r.kind = 4 := by have a1 := HRF.out.lo; have a2 := HRF.out.hi; omega
        clear hr hbl t1 hcap hx2 hg2 hvsm hQ hQ2
        by_cases hj0 : 0 < j
        · have d0 : decide (0 < (j : Int)) = true := decide_eq_true (by omega)
          have d1 : decide (0 < j) = true := decide_eq_true hj0
          have HQ := Lib.hid (HQ1.out hj0)
          clear hj0
          rcases ways with k | k | k | k
          · have e2 : (r.kind == 2) = false := by simp [k]
            have e3 : (r.kind == 3) = false := by simp [k]
            have e4 : (r.kind == 4) = false := by simp [k]
            by_cases hl : r.vals.length = 1
            · have hb1 : (((r.vals.length : Nat) : Int) == 1) = true := by simp [hl]
              have HE := Lib.hid (by have h := HQ.out; rw [text_1 k hl] at h; exact h)
              obtain ⟨vb, vo, rfl, _, hval⟩ := val_cell HV2.out hl
              have hp1 : (0 : Int) < ((r.vals.length : Nat) : Int) := by omega
              clear k hl
              go_wp2
              rw [← hw2, ← hkb]
              clear hw2 hkb x0 x1 x2
              go_quiet (fail)
              go_wp2
              go_roundw
              case rel => exact ⟨j + 1, hlt, by go_num, (congrArg Value.string HE.out).trans (congrArg Value.string HQ2.out), HX2.out.trans (ext_drewN w2 _)⟩
              case measure => simp [intOf]; omega
            · have hb1 : (((r.vals.length : Nat) : Int) == 1) = false := beq_eq_false_iff_ne.2 (by omega)
              have HE := Lib.hid (by have h := HQ.out; rw [text_1n k hl] at h; exact h)
              have CJ : Hid (∀ wk, Ext w2 wk → Calls Tryd.prog 50 #[.slice A1 r.vals.length c1, .string ⟨#[44]⟩] wk fun e w' => e = .returned (.string (joinS r.vals)) ∧ Ext w w' ∧ w'.cell? ⟨kb, 0, none⟩ = some (.string r.key) ∧ w'.cell? ⟨kb, 2, none⟩ = some (.slice A1 r.vals.length c1)) := fun wk hk =>
                (join_strs (HV2.out.below (hk.mono HB2.out) (Nat.le_refl _)) (Nat.le_trans HB2.out hk.size) HC2.out HJZ.out).mono fun e w' ⟨he, hx⟩ => ⟨he, HX2.out.trans (hk.trans hx), (cells3' (HG2.out.ext (hk.trans hx))).1, (cells3' (HG2.out.ext (hk.trans hx))).2.2⟩
              have hxx : Ext w2 w2 := Below.refl _ _
              have g1 : (9223372036854775807 < r.key.size + 5) = False := eq_false (by omega)
              have g2 : (9223372036854775807 < r.key.size + 5 + (joinS r.vals).size) = False := eq_false (by omega)
              have g3 : (9223372036854775807 < r.key.size + 5 + (joinS r.vals).size + 1) = False := eq_false (by omega)
              have g4 : (9223372036854775807 < Q.size + 1 + (r.key.size + 5 + (joinS r.vals).size + 1)) = False := eq_false (by omega)
              clear k hl
              go_wp2
              rw [← hw2, ← hkb]
              clear hw2 hkb x0 x1 x2
              go_region_held3 (fun w' => w'.cell? ⟨kb, 0, none⟩ = some (.string r.key) ∧ w'.cell? ⟨kb, 2, none⟩ = some (.slice A1 r.vals.length c1))
                (first | (refine ⟨by assumption, by assumption⟩) | go_keep)
                (first
                  | (go_at_call 50; refine (CJ.out _ (by first | assumption | (apply Below.drew; assumption))).mono ?_; rintro e w' ⟨rfl, r0, r1, r2⟩))
              have HX9 := Lib.hid r0
              clear r0 k0 k1 k2
              go_wp2
              go_roundw
              case rel => exact ⟨j + 1, hlt, by go_num, (congrArg Value.string HE.out).trans (congrArg Value.string HQ2.out), HX9.out⟩
              case measure => simp [intOf]; omega
          · have e2 : (r.kind == 2) = true := by simp [k]
            have e3 : (r.kind == 3) = false := by simp [k]
            have e4 : (r.kind == 4) = false := by simp [k]
            by_cases hl : r.vals.length = 1
            · have hb1 : (((r.vals.length : Nat) : Int) == 1) = true := by simp [hl]
              have HE := Lib.hid (by have h := HQ.out; rw [text_2 k hl] at h; exact h)
              obtain ⟨vb, vo, rfl, _, hval⟩ := val_cell HV2.out hl
              have hp1 : (0 : Int) < ((r.vals.length : Nat) : Int) := by omega
              clear k hl
              go_wp2
              rw [← hw2, ← hkb]
              clear hw2 hkb x0 x1 x2
              go_quiet (fail)
              go_wp2
              go_roundw
              case rel => exact ⟨j + 1, hlt, by go_num, (congrArg Value.string HE.out).trans (congrArg Value.string HQ2.out), HX2.out.trans (ext_drewN w2 _)⟩
              case measure => simp [intOf]; omega
            · have hb1 : (((r.vals.length : Nat) : Int) == 1) = false := beq_eq_false_iff_ne.2 (by omega)
              have HE := Lib.hid (by have h := HQ.out; rw [text_2n k hl] at h; exact h)
              have CJ : Hid (∀ wk, Ext w2 wk → Calls Tryd.prog 50 #[.slice A1 r.vals.length c1, .string ⟨#[44]⟩] wk fun e w' => e = .returned (.string (joinS r.vals)) ∧ Ext w w' ∧ w'.cell? ⟨kb, 0, none⟩ = some (.string r.key) ∧ w'.cell? ⟨kb, 2, none⟩ = some (.slice A1 r.vals.length c1)) := fun wk hk =>
                (join_strs (HV2.out.below (hk.mono HB2.out) (Nat.le_refl _)) (Nat.le_trans HB2.out hk.size) HC2.out HJZ.out).mono fun e w' ⟨he, hx⟩ => ⟨he, HX2.out.trans (hk.trans hx), (cells3' (HG2.out.ext (hk.trans hx))).1, (cells3' (HG2.out.ext (hk.trans hx))).2.2⟩
              have hxx : Ext w2 w2 := Below.refl _ _
              have g1 : (9223372036854775807 < r.key.size + 8) = False := eq_false (by omega)
              have g2 : (9223372036854775807 < r.key.size + 8 + (joinS r.vals).size) = False := eq_false (by omega)
              have g3 : (9223372036854775807 < r.key.size + 8 + (joinS r.vals).size + 1) = False := eq_false (by omega)
              have g4 : (9223372036854775807 < Q.size + 1 + (r.key.size + 8 + (joinS r.vals).size + 1)) = False := eq_false (by omega)
              clear k hl
              go_wp2
              rw [← hw2, ← hkb]
              clear hw2 hkb x0 x1 x2
              go_region_held3 (fun w' => w'.cell? ⟨kb, 0, none⟩ = some (.string r.key) ∧ w'.cell? ⟨kb, 2, none⟩ = some (.slice A1 r.vals.length c1))
                (first | (refine ⟨by assumption, by assumption⟩) | go_keep)
                (first
                  | (go_at_call 50; refine (CJ.out _ (by first | assumption | (apply Below.drew; assumption))).mono ?_; rintro e w' ⟨rfl, r0, r1, r2⟩))
              have HX9 := Lib.hid r0
              clear r0 k0 k1 k2
              go_wp2
              go_roundw
              case rel => exact ⟨j + 1, hlt, by go_num, (congrArg Value.string HE.out).trans (congrArg Value.string HQ2.out), HX9.out⟩
              case measure => simp [intOf]; omega
          · have e2 : (r.kind == 2) = false := by simp [k]
            have e3 : (r.kind == 3) = true := by simp [k]
            have e4 : (r.kind == 4) = false := by simp [k]
            have HE := Lib.hid (by have h := HQ.out; rw [text_3 k] at h; exact h)
            clear k
            go_wp2
            rw [← hw2]
            clear hw2 hkb x0 x1 x2
            go_wp2
            go_roundw
            case rel => exact ⟨j + 1, hlt, by go_num, (congrArg Value.string HE.out).trans (congrArg Value.string HQ2.out), HX2.out⟩
            case measure => simp [intOf]; omega
          · have e2 : (r.kind == 2) = false := by simp [k]
            have e3 : (r.kind == 3) = false := by simp [k]
            have e4 : (r.kind == 4) = true := by simp [k]
            have HE := Lib.hid (by have h := HQ.out; rw [text_4 k] at h; exact h)
            clear k
            go_wp2
            rw [← hw2]
            clear hw2 hkb x0 x1 x2
            go_wp2
            go_roundw
            case rel => exact ⟨j + 1, hlt, by go_num, (congrArg Value.string HE.out).trans (congrArg Value.string HQ2.out), HX2.out⟩
            case measure => simp [intOf]; omega
        · have d0 : decide (0 < (j : Int)) = false := decide_eq_false (by omega)
          have d1 : decide (0 < j) = false := decide_eq_false hj0
          have HQ := Lib.hid (HQ0.out (by omega))
          clear hj0
          rcases ways with k | k | k | k
          · have e2 : (r.kind == 2) = false := by simp [k]
            have e3 : (r.kind == 3) = false := by simp [k]
            have e4 : (r.kind == 4) = false := by simp [k]
            by_cases hl : r.vals.length = 1
            · have hb1 : (((r.vals.length : Nat) : Int) == 1) = true := by simp [hl]
              have HE := Lib.hid (by have h := HQ.out; rw [text_1 k hl] at h; exact h)
              obtain ⟨vb, vo, rfl, _, hval⟩ := val_cell HV2.out hl
              have hp1 : (0 : Int) < ((r.vals.length : Nat) : Int) := by omega
              clear k hl
              go_wp2
              rw [← hw2, ← hkb]
              clear hw2 hkb x0 x1 x2
              go_quiet (fail)
              go_wp2
              go_roundw
              case rel => exact ⟨j + 1, hlt, by go_num, (congrArg Value.string HE.out).trans (congrArg Value.string HQ2.out), HX2.out.trans (ext_drewN w2 _)⟩
              case measure => simp [intOf]; omega
            · have hb1 : (((r.vals.length : Nat) : Int) == 1) = false := beq_eq_false_iff_ne.2 (by omega)
              have HE := Lib.hid (by have h := HQ.out; rw [text_1n k hl] at h; exact h)
              have CJ : Hid (∀ wk, Ext w2 wk → Calls Tryd.prog 50 #[.slice A1 r.vals.length c1, .string ⟨#[44]⟩] wk fun e w' => e = .returned (.string (joinS r.vals)) ∧ Ext w w' ∧ w'.cell? ⟨kb, 0, none⟩ = some (.string r.key) ∧ w'.cell? ⟨kb, 2, none⟩ = some (.slice A1 r.vals.length c1)) := fun wk hk =>
                (join_strs (HV2.out.below (hk.mono HB2.out) (Nat.le_refl _)) (Nat.le_trans HB2.out hk.size) HC2.out HJZ.out).mono fun e w' ⟨he, hx⟩ => ⟨he, HX2.out.trans (hk.trans hx), (cells3' (HG2.out.ext (hk.trans hx))).1, (cells3' (HG2.out.ext (hk.trans hx))).2.2⟩
              have hxx : Ext w2 w2 := Below.refl _ _
              have g1 : (9223372036854775807 < r.key.size + 5) = False := eq_false (by omega)
              have g2 : (9223372036854775807 < r.key.size + 5 + (joinS r.vals).size) = False := eq_false (by omega)
              have g3 : (9223372036854775807 < r.key.size + 5 + (joinS r.vals).size + 1) = False := eq_false (by omega)
              have g4 : (9223372036854775807 < Q.size + (r.key.size + 5 + (joinS r.vals).size + 1)) = False := eq_false (by omega)
              clear k hl
              go_wp2
              rw [← hw2, ← hkb]
              clear hw2 hkb x0 x1 x2
              go_region_held3 (fun w' => w'.cell? ⟨kb, 0, none⟩ = some (.string r.key) ∧ w'.cell? ⟨kb, 2, none⟩ = some (.slice A1 r.vals.length c1))
                (first | (refine ⟨by assumption, by assumption⟩) | go_keep)
                (first
                  | (go_at_call 50; refine (CJ.out _ (by first | assumption | (apply Below.drew; assumption))).mono ?_; rintro e w' ⟨rfl, r0, r1, r2⟩))
              have HX9 := Lib.hid r0
              clear r0 k0 k1 k2
              go_wp2
              go_roundw
              case rel => exact ⟨j + 1, hlt, by go_num, (congrArg Value.string HE.out).trans (congrArg Value.string HQ2.out), HX9.out⟩
              case measure => simp [intOf]; omega
          · have e2 : (r.kind == 2) = true := by simp [k]
            have e3 : (r.kind == 3) = false := by simp [k]
            have e4 : (r.kind == 4) = false := by simp [k]
            by_cases hl : r.vals.length = 1
            · have hb1 : (((r.vals.length : Nat) : Int) == 1) = true := by simp [hl]
              have HE := Lib.hid (by have h := HQ.out; rw [text_2 k hl] at h; exact h)
              obtain ⟨vb, vo, rfl, _, hval⟩ := val_cell HV2.out hl
              have hp1 : (0 : Int) < ((r.vals.length : Nat) : Int) := by omega
              clear k hl
              go_wp2
              rw [← hw2, ← hkb]
              clear hw2 hkb x0 x1 x2
              go_quiet (fail)
              go_wp2
              go_roundw
              case rel => exact ⟨j + 1, hlt, by go_num, (congrArg Value.string HE.out).trans (congrArg Value.string HQ2.out), HX2.out.trans (ext_drewN w2 _)⟩
              case measure => simp [intOf]; omega
            · have hb1 : (((r.vals.length : Nat) : Int) == 1) = false := beq_eq_false_iff_ne.2 (by omega)
              have HE := Lib.hid (by have h := HQ.out; rw [text_2n k hl] at h; exact h)
              have CJ : Hid (∀ wk, Ext w2 wk → Calls Tryd.prog 50 #[.slice A1 r.vals.length c1, .string ⟨#[44]⟩] wk fun e w' => e = .returned (.string (joinS r.vals)) ∧ Ext w w' ∧ w'.cell? ⟨kb, 0, none⟩ = some (.string r.key) ∧ w'.cell? ⟨kb, 2, none⟩ = some (.slice A1 r.vals.length c1)) := fun wk hk =>
                (join_strs (HV2.out.below (hk.mono HB2.out) (Nat.le_refl _)) (Nat.le_trans HB2.out hk.size) HC2.out HJZ.out).mono fun e w' ⟨he, hx⟩ => ⟨he, HX2.out.trans (hk.trans hx), (cells3' (HG2.out.ext (hk.trans hx))).1, (cells3' (HG2.out.ext (hk.trans hx))).2.2⟩
              have hxx : Ext w2 w2 := Below.refl _ _
              have g1 : (9223372036854775807 < r.key.size + 8) = False := eq_false (by omega)
              have g2 : (9223372036854775807 < r.key.size + 8 + (joinS r.vals).size) = False := eq_false (by omega)
              have g3 : (9223372036854775807 < r.key.size + 8 + (joinS r.vals).size + 1) = False := eq_false (by omega)
              have g4 : (9223372036854775807 < Q.size + (r.key.size + 8 + (joinS r.vals).size + 1)) = False := eq_false (by omega)
              clear k hl
              go_wp2
              rw [← hw2, ← hkb]
              clear hw2 hkb x0 x1 x2
              go_region_held3 (fun w' => w'.cell? ⟨kb, 0, none⟩ = some (.string r.key) ∧ w'.cell? ⟨kb, 2, none⟩ = some (.slice A1 r.vals.length c1))
                (first | (refine ⟨by assumption, by assumption⟩) | go_keep)
                (first
                  | (go_at_call 50; refine (CJ.out _ (by first | assumption | (apply Below.drew; assumption))).mono ?_; rintro e w' ⟨rfl, r0, r1, r2⟩))
              have HX9 := Lib.hid r0
              clear r0 k0 k1 k2
              go_wp2
              go_roundw
              case rel => exact ⟨j + 1, hlt, by go_num, (congrArg Value.string HE.out).trans (congrArg Value.string HQ2.out), HX9.out⟩
              case measure => simp [intOf]; omega
          · have e2 : (r.kind == 2) = false := by simp [k]
            have e3 : (r.kind == 3) = true := by simp [k]
            have e4 : (r.kind == 4) = false := by simp [k]
            have HE := Lib.hid (by have h := HQ.out; rw [text_3 k] at h; exact h)
            clear k
            go_wp2
            rw [← hw2]
            clear hw2 hkb x0 x1 x2
            go_wp2
            go_roundw
            case rel => exact ⟨j + 1, hlt, by go_num, (congrArg Value.string HE.out).trans (congrArg Value.string HQ2.out), HX2.out⟩
            case measure => simp [intOf]; omega
          · have e2 : (r.kind == 2) = false := by simp [k]
            have e3 : (r.kind == 3) = false := by simp [k]
            have e4 : (r.kind == 4) = true := by simp [k]
            have HE := Lib.hid (by have h := HQ.out; rw [text_4 k] at h; exact h)
            clear k
            go_wp2
            rw [← hw2]
            clear hw2 hkb x0 x1 x2
            go_wp2
            go_roundw
            case rel => exact ⟨j + 1, hlt, by go_num, (congrArg Value.string HE.out).trans (congrArg Value.string HQ2.out), HX2.out⟩
            case measure => simp [intOf]; omega
      · obtain rfl : j = l.length := by omega
        have HPB : Hid (joinS ((l.take l.length).map textB) = printB l) := by unfold Hid; rw [List.take_length]; rfl
        rw [HPB.out]
        by_cases h3 : 300 < (printB l).size
        · have H3 := Lib.hid h3
          have d1 : decide (300 < ((printB l).size : Int)) = true := decide_eq_true (by omega)
          have d2 : decide (300 < (printB l).size) = true := decide_eq_true h3
          clear h3
          go_wp2
          go_ret2
          exact print_large H0.out H3.out hX.out
        · have H3 := Lib.hid h3
          have d1 : decide (300 < ((printB l).size : Int)) = false := decide_eq_false (by omega)
          have d2 : decide (300 < (printB l).size) = false := decide_eq_false h3
          clear h3
          go_wp2
          go_ret2
          exact print_good H0.out H3.out hX.out
  · have hb1 : (checkQ l != 0) = true := by simp [h0]
    have H0 := Lib.hid h0
    clear h0
    go_wp2
    go_ret2
    exact print_bad H0.out HX1.out
end Go.Proofs.YtpbbohinhbboaaaDoor.Sx
