/-
  The program's grants.fresh: the first text that no list has.
-/
import Derived.Test.YtplfimoeggecjaaDoorItoa
import Derived.Test.YtplfimoeggecjaaDoorBey0
namespace Go.Proofs.YtplfimoeggecjaaDoor.Sx
open Go Go.RowKit Go.Proofs.YtplfimoeggecjaaDoor.Dc

/-- The slice value v reads as these lists of strings. -/
def VsR (B : Nat) (w : World) (v : Value) (xs : List (List ByteArray)) : Prop := ∃ A c, v = .slice A xs.length c ∧ ∀ j (h : j < xs.length), ∃ b off u, A = some ⟨b, off, none⟩ ∧ b < w.heap.size ∧ w.cell? ⟨b, off + j, none⟩ = some u ∧ StrsR B w u xs[j]
theorem VsR.ext {B : Nat} {w w' : World} {v : Value} {xs : List (List ByteArray)} (h : VsR B w v xs) (he : Ext w w') (hB : B ≤ w.heap.size) : VsR B w' v xs := by
  obtain ⟨A, c, hv, hi⟩ := h
  refine ⟨A, c, hv, fun j hj => ?_⟩
  obtain ⟨b, off, u, h1, h2, h3, h4⟩ := hi j hj
  exact ⟨b, off, u, h1, Nat.lt_of_lt_of_le h2 he.size, (he.cell (p := ⟨b, off + j, none⟩) h2).trans h3, h4.below (he.mono hB) (Nat.le_refl _)⟩
theorem any_flat (xs : List (List ByteArray)) (s : ByteArray) : (xs.any fun m => hasS m s) = hasS xs.flatten s := by
  rw [Bool.eq_iff_iff, List.any_eq_true, hasS_iff, List.mem_flatten]
  constructor
  · rintro ⟨m, h1, h2⟩
    exact ⟨m, h1, (hasS_iff _ _).1 h2⟩
  · rintro ⟨m, h1, h2⟩
    exact ⟨m, h1, (hasS_iff _ _).2 h2⟩
theorem freshClosure (B k : Nat) (v : Value) (m : List ByteArray) (s : ByteArray) (w : World) (hk : w.heap[k]? = some (.cells #[.string s] 9 (0, 0))) (hv : StrsR B w v m) :
    Calls Tryd.prog 29 #[v, .pointer (some ⟨k, 0, none⟩)] w fun e w' => e = .returned (.bool (hasS m s)) ∧ w = w' := by
  have hc : w.cell? ⟨k, 0, none⟩ = some (.string s) := by rw [cell_of hk]; rfl
  have H := Lib.hid hv
  obtain ⟨_, A, c, rfl, _⟩ := hv
  clear hk
  go_enter Tryd.func29, Tryd.ntmps29
  go_wp2_with (go_at_call 30; (with_reducible refine (contains_strs s H.out).mono ?_); rintro e w' ⟨rfl, rfl⟩)
  go_ret
  exact ⟨rfl, rfl⟩
set_option maxRecDepth 100000 in
set_option maxHeartbeats 1000000 in
theorem freshIdx (B k : Nat) (s : ByteArray) (v : Value) (xs : List (List ByteArray)) (w : World) (hk : w.heap[k]? = some (.cells #[.string s] 9 (0, 0))) (h : VsR B w v xs) (hn : xs.length ≤ 1048576) :
    Calls Tryd.prog 45 #[v, .func (.func 29) #[] #[.pointer (some ⟨k, 0, none⟩)]] w fun e w' => ∃ n : Int, e = .returned (.int .i64 n) ∧ decide (0 ≤ n) = (xs.any fun m => hasS m s) ∧ n < 1048577 ∧ -1 ≤ n ∧ w = w' := by
  have H := Lib.hid h
  have HK := Lib.hid hk
  obtain ⟨A, c, rfl, -⟩ := h
  obtain ⟨n, hn'⟩ : ∃ n, n = xs.length := ⟨_, rfl⟩
  rw [← hn'] at hn ⊢
  have HN := Lib.hid hn'
  clear hn' hk
  go_enter Tryd.func45, Tryd.ntmps45
  go_wp2
  go_loopw [5, 8] (fun i k wr => ∃ j : Nat, j ≤ n ∧ k = .int .i64 j ∧ Hid (noneTo (fun m => hasS m s) xs j) ∧ w = wr) (fun _ k _ => n - (intOf k).toNat)
  case atStart => exact ⟨0, Nat.zero_le _, rfl, fun i hi h => by omega, rfl⟩
  case round =>
    obtain ⟨j, hj, rfl, hN, rfl⟩ := hrel
    by_cases hlt : j < n
    · have hjx : j < xs.length := by rw [← HN.out]; exact hlt
      obtain ⟨A', c', e, h2⟩ := H.out
      injection e with e1 e2 e3
      subst e1
      obtain ⟨b, off, u, rfl, hb, hcell, hu⟩ := h2 j hjx
      obtain ⟨m, hm⟩ : ∃ m, m = xs[j] := ⟨_, rfl⟩
      rw [← hm] at hu
      obtain ⟨t, ht⟩ : ∃ t, t = hasS m s := ⟨_, rfl⟩
      have HM := Lib.hid hm
      have HT := Lib.hid ht
      have CB : Hid (Calls Tryd.prog 29 #[u, .pointer (some ⟨k, 0, none⟩)] w fun e w' => e = .returned (.bool t) ∧ w = w') := by rw [ht]; exact freshClosure B k u m s w HK.out hu
      have HJX := Lib.hid hjx
      obtain ⟨_, Au, cu, rfl, -⟩ := hu
      clear hm ht h2 e2 e3
      cases t with
      | true =>
        go_wp2_with (go_at_call 29; (with_reducible refine CB.out.mono ?_); rintro e w' ⟨rfl, rfl⟩)
        go_ret
        refine ⟨j, rfl, ?_, by omega, by omega, rfl⟩
        rw [any_some HJX.out (p := fun m => hasS m s) (by rw [← HM.out]; exact HT.out.symm)]
        simp
      | false =>
        go_wp2_with (go_at_call 29; (with_reducible refine CB.out.mono ?_); rintro e w' ⟨rfl, rfl⟩)
        go_roundw
        case rel => exact ⟨j + 1, hlt, by go_num, noneTo_succ hN.out HJX.out (by rw [← HM.out]; exact HT.out.symm), (by first | rfl | trivial)⟩
        case measure => simp [intOf]; omega
    · have HA : Hid ((xs.any fun m => hasS m s) = false) := any_none hN.out (by have := HN.out; omega)
      go_wp2
      go_ret
      exact ⟨-1, rfl, by rw [HA.out]; rfl, by omega, by omega, rfl⟩
set_option maxRecDepth 100000 in
theorem freshHas (B k : Nat) (s : ByteArray) (v : Value) (xs : List (List ByteArray)) (w : World) (hk : w.heap[k]? = some (.cells #[.string s] 9 (0, 0))) (h : VsR B w v xs) (hn : xs.length ≤ 1048576) :
    Calls Tryd.prog 28 #[v, .func (.func 29) #[] #[.pointer (some ⟨k, 0, none⟩)]] w fun e w' => e = .returned (.bool (hasS xs.flatten s)) ∧ w = w' := by
  have C := Lib.hid (freshIdx B k s v xs w hk h hn)
  have HE := Lib.hid (any_flat xs s)
  obtain ⟨A, c, rfl, -⟩ := h
  clear hk
  go_enter Tryd.func28, Tryd.ntmps28
  go_wp2_with (go_at_call 45; (with_reducible refine C.out.mono ?_); rintro e w' ⟨m, rfl, hm, hm1, hm2, rfl⟩; have HM := Lib.hid hm; clear hm)
  go_ret
  exact ⟨ret_bool (HM.out.trans HE.out), rfl⟩
theorem xN_cat (k : Nat) : (⟨#[120]⟩ : ByteArray) ++ decS k = xN k := by
  unfold decS xN
  apply ByteArray.ext
  simp [ByteArray.data_append]
set_option maxRecDepth 100000 in
set_option maxHeartbeats 1000000 in
theorem fresh_any (B : Nat) (v : Value) (xs : List (List ByteArray)) (w : World) (hB : B ≤ w.heap.size) (h : VsR B w v xs) (hn : xs.length ≤ 1048576) (hf : xs.flatten.length ≤ 1048576) (ht : Tab10 w) :
    Calls Tryd.prog 10 #[v] w fun e w' => e = .returned (.string (freshS xs.flatten)) ∧ Ext w w' := by
  have H := Lib.hid (And.intro h (And.intro ht (And.intro hB hn)))
  obtain ⟨A, c, rfl, -⟩ := h
  obtain ⟨ws, hws⟩ : ∃ ws, ws = xs.flatten := ⟨_, rfl⟩
  rw [← hws] at hf ⊢
  have HWS := Lib.hid hws
  clear ht hB hws hn
  go_enter Tryd.func10, Tryd.ntmps10
  go_wp2_with fail
  go_loopw [3] (fun x wr => ∃ k : Nat, x = .int .i64 (k : Int) ∧ Hid (∀ m, m < k → xN m ∈ ws) ∧ Ext w wr) (fun x _ => ws.length + 1 - (intOf x).toNat)
  case atStart => exact ⟨0, rfl, fun m hm => by omega, Below.refl _ _⟩
  case round =>
    obtain ⟨k, rfl, hk, hE⟩ := hrel
    have hkl : k ≤ ws.length := there_le hk.out
    have hki : (k : Int) ≤ 1048576 := by omega
    have HE := Lib.hid hE
    have CI : Hid (Calls Tryd.prog 27 #[.int .i64 (k : Int)] wr fun e w' => e = .returned (.string (decS k)) ∧ Ext wr w') := itoa_any k wr (H.out.2.1.ext hE) (by omega)
    obtain ⟨t, htt⟩ : ∃ t, t = hasS ws ((⟨#[120]⟩ : ByteArray) ++ decS k) := ⟨_, rfl⟩
    have HT := Lib.hid htt
    have CF : Hid (∀ w2 : World, Ext wr w2 → Calls Tryd.prog 28 #[.slice A xs.length c, .func (.func 29) #[] #[.pointer (some ⟨w2.heap.size, 0, none⟩)]] (w2.alloc (.cells #[.string ((⟨#[120]⟩ : ByteArray) ++ decS k)] 9 (0, 0))) fun e w' => e = .returned (.bool t) ∧ (w2.alloc (.cells #[.string ((⟨#[120]⟩ : ByteArray) ++ decS k)] 9 (0, 0))) = w') := fun w2 hw => by
      rw [htt, HWS.out]
      exact freshHas B w2.heap.size _ _ xs _ (heap_new rfl) (H.out.1.ext ((hE.trans hw).trans (new_ext _ _)) H.out.2.2.1) H.out.2.2.2
    have hz : (decS k).size ≤ 1048577 := by have := decS_size k; omega
    clear hE htt
    cases t with
    | false =>
      have HF : Hid (freshS ws = (⟨#[120]⟩ : ByteArray) ++ decS k) := by
        unfold Hid freshS
        rw [freshN_eq (k := k) ⟨hk.out, fun hm => by
          have := HT.out
          rw [xN_cat, (hasS_iff _ _).2 hm] at this
          cases this⟩, xN_cat]
      go_wp2_with (first
        | (go_at_call 27; (with_reducible refine CI.out.mono ?_); rintro e w2 ⟨rfl, hx2⟩; have HX2 := Lib.hid hx2; clear hx2)
        | (go_at_call 28; (with_reducible refine (CF.out _ HX2.out).mono ?_); rintro e w3 ⟨rfl, rfl⟩))
      go_ret
      exact ⟨by rw [HF.out]; rfl, (HE.out.trans HX2.out).trans (new_ext _ _)⟩
    | true =>
      go_wp2_with (first
        | (go_at_call 27; (with_reducible refine CI.out.mono ?_); rintro e w2 ⟨rfl, hx2⟩; have HX2 := Lib.hid hx2; clear hx2)
        | (go_at_call 28; (with_reducible refine (CF.out _ HX2.out).mono ?_); rintro e w3 ⟨rfl, rfl⟩))
      go_roundw
      case rel => exact ⟨k + 1, by go_num, fun m hm => by
        rcases Nat.lt_or_ge m k with h1 | h1
        · exact hk.out m h1
        · rw [show m = k by omega, ← xN_cat]; exact (hasS_iff _ _).1 HT.out.symm, (HE.out.trans HX2.out).trans (new_ext _ _)⟩
      case measure => simp [intOf]; omega
end Go.Proofs.YtplfimoeggecjaaDoor.Sx
