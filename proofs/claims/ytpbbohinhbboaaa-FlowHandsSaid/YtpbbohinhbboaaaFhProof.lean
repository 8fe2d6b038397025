/-
  The statement FlowHandsSaid: the law FlowHands returns true, whatever is handed in.
-/
import Derived.Test.YtpbbohinhbboaaaHandR
import Derived.Test.YtpbbohinhbboaaaEqInt
import Derived.Test.YtpbbohinhbboaaaFrame
import Derived.OpenShut
import Derived.JoinedOf
namespace Go.Proofs.Ytpbbohinhbboaaa.flowHands
open Go Go.ChangeShapes Go.WideShapes Go.ChangeAt Go.RowKit Go.Proofs.Ytpbbohinhbboaaa.Sx

theorem reads_row {base : Nat} {w : World} {A : Option Addr} {n c : Nat} {zs : List Int} (h : IRow base w (.slice A n c) zs) : Reads w 1 A zs.length (zs.map (Value.int .i64)) := by
  refine ⟨by simp, fun h0 => ?_⟩
  rcases h with ⟨_, rfl⟩ | ⟨g, rest, hv, hb, hg, hm⟩
  · simp at h0
  · injection hv with e1 _ _
    refine ⟨g, 0, e1, heap_lt hg, fun j u hu => ?_⟩
    rw [Nat.zero_add, cell_of hg, List.getElem?_toArray, List.getElem?_append_left (by rw [ints_len]; have := (List.getElem?_eq_some_iff.1 hu).1; simpa using this)]
    exact hu

set_option maxRecDepth 100000 in
theorem law_bad (s D S : Int) (w : World) (h : badHand D S) : Calls Try.prog 5 #[.int .u64 s, .int .i64 D, .int .i64 S] w fun e w' => e = .returned (.bool true) ∧ Ext w w' := by
  have H := Lib.hid h
  clear h
  go_enter Try.func5, Try.ntmps5
  go_wp2_with (first | (go_at_call 20; refine (hand_bad _ _ _ _ H.out).mono ?_; rintro e w' ⟨rfl, rfl⟩) | (go_at_call 21; refine (rhand_bad _ _ _ _ H.out).mono ?_; rintro e w' ⟨rfl, rfl⟩) | (go_at_call 11; refine (eq_int none none 0 0 0 0 [] [] _ Reads.nil Reads.nil (by omega)).mono ?_; rintro e w' ⟨rfl, rfl⟩))
  go_ret
  exact ⟨rfl, Below.refl _ _⟩

set_option maxRecDepth 100000 in
theorem law_good (s D S : Nat) (w : World) (hs : s < 18446744073709551616) (h1 : 1 ≤ D) (h64 : D ≤ 64) (hS : 1 ≤ S) (h6 : S ≤ 6) (hSD : S ≤ D) :
    Calls Try.prog 5 #[.int .u64 (s : Int), .int .i64 (D : Int), .int .i64 (S : Int)] w fun e w' => e = .returned (.bool true) ∧ Ext w w' := by
  have hl : (handL s D S).length = S := by unfold handL; rw [up_len]; exact (deal_good D s S hSD).2.2.1
  have HL := Lib.hid hl
  clear hl
  go_enter Try.func5, Try.ntmps5
  go_wp2_with fail
  refine Calls.mono (hand_good s D S _ hs h1 h64 hS h6 hSD) ?_
  rintro e w1 ⟨A1, c1, rfl, hr1, hx1⟩
  have H1 := Lib.hid (And.intro hr1 hx1)
  clear hr1 hx1
  go_wp2_with fail
  refine Calls.mono (rhand_good s D S _ hs h1 h64 hS h6 hSD) ?_
  rintro e w2 ⟨A2, c2, rfl, hr2, hx2⟩
  have H2 := Lib.hid (And.intro (H1.out.1.ext hx2) (And.intro hr2 (H1.out.2.trans hx2)))
  clear hr2 hx2
  have hd : decide (handL s D S = handL s D S) = true := decide_eq_true rfl
  have HE : Hid (Calls Try.prog 11 #[.slice A1 (handL s D S).length c1, .slice A2 (handL s D S).length c2] w2 fun e w' => e = .returned (.bool true) ∧ w2 = w') :=
    (eq_int A1 A2 _ _ c1 c2 (handL s D S) (handL s D S) w2 (reads_row H2.out.1) (reads_row H2.out.2.1) (by rw [HL.out]; omega)).mono fun e w' ⟨he, hw⟩ => ⟨by rw [he, hd], hw⟩
  clear hd
  go_wp2_with (go_at_call 11; refine HE.out.mono ?_; rintro e w' ⟨rfl, rfl⟩)
  go_ret
  exact ⟨rfl, H2.out.2.2⟩

set_option maxRecDepth 100000 in
theorem lifted (os : Os) (started : os.Started) (H : Type) (enc : TypeId × Value → H) :
    ReturnsInHanded {} Try.checked os 5 .any (Rows.flowHandsSpec.pre6 enc Try.prog Try.f5 Rows.flowHandsRow.domain false) (Rows.flowHandsSpec.post enc Try.prog Try.f5 false true false false) := by
  refine returnsInHanded_of_change (C := Try.checked) Fr.own started (by kernel_rfl) Try.func5
    (ChangeSpec.witness6 (enc := enc) (C := Try.checked) false ⟨#[], #[.int .u64 0, .int .i64 0, .int .i64 0], []⟩ 8 (by kernel_rfl) (by kernel_rfl) (by kernel_rfl) (by kernel_rfl)) ?_
  intro W base args ds gs before hval0 hW hcnd _
  have hW' := hW
  obtain ⟨p, q, hA0, hV, rfl, hfz, hnd⟩ := hW
  have hA : DataW.TrodAll enc Try.prog W 0 (fun _ => true) true Try.f5.params.toList args.toList ds p := hA0
  have hval : ∀ (j : Nat) t v, Try.f5.params[j]? = some t → args[j]? = some v → Value.okWide Try.prog W .any base t v := hval0
  rw [Try.params5] at hA hval
  obtain ⟨v0, v1, v2, d0, d1, d2, p0, p1, p2, rfl, rfl, rfl, h0, h1, h2⟩ := trodAll_three hA
  obtain ⟨s, rfl, rfl, rfl, ws⟩ := open_int Try.underlying45 (hval 0 _ _ rfl rfl) h0
  obtain ⟨D, rfl, rfl, rfl, wD⟩ := open_int Try.underlying3 (hval 1 _ _ rfl rfl) h1
  obtain ⟨S, rfl, rfl, rfl, wS⟩ := open_int Try.underlying3 (hval 2 _ _ rfl rfl) h2
  have bs := bounds_u64 ws
  have walk : Calls Try.prog 5 #[.int .u64 s, .int .i64 D, .int .i64 S] W fun e w' => e = .returned (.bool true) ∧ Ext W w' := by
    by_cases hb : badHand D S
    · exact law_bad s D S W hb
    · unfold badHand at hb
      obtain ⟨s', rfl⟩ := Int.eq_ofNat_of_zero_le bs.1
      obtain ⟨D', rfl⟩ := Int.eq_ofNat_of_zero_le (show 0 ≤ D by omega)
      obtain ⟨S', rfl⟩ := Int.eq_ofNat_of_zero_le (show 0 ≤ S by omega)
      exact law_good s' D' S' W (by omega) (by omega) (by omega) (by omega) (by omega) (by omega)
  refine walk.mono fun e W' ⟨he, hg⟩ => ?_
  subst he
  exact ⟨_, rfl, Fr.post_law Fr.laidOut (by kernel_rfl) rfl Try.underlying4 rfl rfl hW' hg⟩

theorem over : Rows.flowHandsRow.holds Try.pinned (OpenSpec.ofChange Rows.flowHandsSpec) :=
  OpenClaim.holds_of_wide 5 Try.f5 rfl rfl rfl rfl rfl rfl rfl ⟨rfl, rfl, rfl, rfl, rfl⟩ rfl rfl rfl rfl rfl (by kernel_rfl) Try.func5 (by kernel_rfl)
    (of_decide_eq_true (by kernel_rfl)) (by unfold Func.isWrapper; first | (rw [if_pos (by decide +kernel)]; kernel_rfl) | (rw [if_neg (by decide +kernel)]; exact ⟨rfl, rfl⟩))
    (fun os started H enc _ => lifted os started H enc)

theorem proved : Rows.FlowHandsSaid :=
  over
#print axioms proved
end Go.Proofs.Ytpbbohinhbboaaa.flowHands
