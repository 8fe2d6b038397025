/-
  slices.Delete of one thing out of a row of strs of one's own (printed by gen/jd.py).
  slices.Delete of one thing out of a row of vals of one's own (printed by gen/jd.py).
  The program's objects: Names, Get, With, Without, in words of objects.
-/
import Derived.Test.YtnccefeehkcneaaGreatDoorJca
import Derived.Lib.SliceRun
import Derived.Deep.RegionLaw
import Derived.Test.YtnccefeehkcneaaGreatDoorJpa
import Derived.Test.YtnccefeehkcneaaGreatDoorMga
namespace Go.Proofs.YtnccefeehkcneaaGreatDoor.Jm
open Go Go.RowKit Go.Proofs.YtnccefeehkcneaaGreatDoor.Sx Go.Proofs.YtnccefeehkcneaaGreatDoor.Js Go.Proofs.YtnccefeehkcneaaGreatDoor.Gr
set_option maxRecDepth 100000 in
set_option maxHeartbeats 4000000 in
theorem delete_strs (base g m c i : Nat) (cs rest : List Value) (w : World) (h1 : ∀ u ∈ cs, u.oneCell' = true) (hb : base ≤ g) (hg : w.heap[g]? = some (.cells (cs ++ rest).toArray 9 (0, 0))) (hn : cs.length = m + 1) (hc : m + 1 + rest.length = c) (hm : c ≤ maxLen) (hi : i ≤ m) (hsm : m ≤ 1048576) :
    Calls Tryz.prog 96 #[.slice (some ⟨g, 0, none⟩) (m + 1) c, .int .i64 (i : Int), .int .i64 ((i : Int) + 1)] w fun e w' => e = .returned (.slice (some ⟨g, 0, none⟩) m c) ∧ GRow 9 1 base w' (.slice (some ⟨g, 0, none⟩) m c) (one (cs.eraseIdx i)) ∧ w.grownBy w' (some g) := by
  obtain ⟨i0, hi0, hz0, hzs, hzb⟩ := info_parts ty_strs.info
  have hlen : (cs ++ rest).length = c := by rw [List.length_append, hn]; exact hc
  have hm63 : c ≤ 9223372036854775807 := by unfold maxLen at hm; omega
  have hg' : w.drew.heap[g]? = some (.cells (cs ++ rest).toArray 9 (0, 0)) := hg
  obtain ⟨news, hnews⟩ : ∃ l, l = cs.drop (i + 1) := ⟨_, rfl⟩
  have hnl : news.length = m - i := by rw [hnews, List.length_drop, hn]; omega
  obtain ⟨A, hA, HS⟩ : ∃ A : Addr, (if c = i + 1 then some (⟨g, 0, none⟩ : Addr) else some ⟨g, i + 1, none⟩) = some A ∧ Hid (∀ t u, news[t]? = some u → w.drew.cell? (A.add t) = some u) := by
    by_cases h : c = i + 1
    · refine ⟨⟨g, 0, none⟩, by simp [h], fun t u hu => ?_⟩
      have h0 : news = [] := List.length_eq_zero_iff.1 (by omega)
      rw [h0] at hu
      cases hu
    · refine ⟨⟨g, i + 1, none⟩, by simp [h], fun t u hu => ?_⟩
      have hlt := (List.getElem?_eq_some_iff.1 hu).1
      rw [hnl] at hlt
      rw [hnews, List.getElem?_drop] at hu
      rw [Addr.add_lit, cell_of hg', List.getElem?_toArray, List.getElem?_append_left (by omega)]
      exact hu
  have s1 : Hid (news.length = (m - i) * 1) := by rw [Nat.mul_one]; exact hnl
  have s2 : Hid (∀ u ∈ news, u.oneCell' = true) := fun u hu => h1 u (by rw [hnews] at hu; exact List.mem_of_mem_drop hu)
  have s3 : Hid (∀ t, t < news.length → (w.drew.cell? ⟨g, 0 + i * 1 + t, none⟩).isSome = true ∧ w.drew.frozen? ⟨g, 0 + i * 1 + t, none⟩ = false) := fun t ht => by
    rw [hnl] at ht
    rw [cell_at hg' (by omega)]
    exact ⟨rfl, frozen_of hg'⟩
  obtain ⟨W1, hW1⟩ : ∃ W1, W1 = w.drew.setCells g (0 + i * 1) news := ⟨_, rfl⟩
  have hti : (cs.take i).length = i := by rw [List.length_take]; omega
  have htl : ((cs.drop i).take (m - i)).length = m - i := by rw [List.length_take, List.length_drop]; omega
  have g1 : W1.heap[g]? = some (.cells (cs.take i ++ news ++ ((cs.drop i).drop (m - i) ++ rest)).toArray 9 (0, 0)) := by
    have e : cs ++ rest = cs.take i ++ (cs.drop i).take (m - i) ++ ((cs.drop i).drop (m - i) ++ rest) := by
      rw [← List.append_assoc, List.append_assoc (cs.take i), List.take_append_drop, List.take_append_drop]
    rw [e] at hg'
    have h := heap_setCells news _ _ _ w.drew (by rw [htl, hnl]) hg'
    rw [hti] at h
    rw [hW1, Nat.mul_one, Nat.zero_add]
    exact h
  obtain ⟨W2, hW2⟩ : ∃ W2, W2 = W1.setCells g m [(Value.string ⟨#[]⟩)] := ⟨_, rfl⟩
  have hcl : ∀ ty, (Builtin.clear_ #[37] ty #[.slice (some ⟨g, m, none⟩) 1 (c - m)]).run Tryz.prog W1 = .ok (.tuple #[]) W2 := fun ty => by
    rw [hW2]
    exact Lib.run_clear_slice W1 _ _ ty (Value.string ⟨#[]⟩) Tryz.underlying37 (fun w => by kernel_rfl) rfl rfl g m 1 _ (by omega) (fun j hj => by rw [cell_at g1 (by simp only [List.length_append, hti, hnl, List.length_drop, hn]; omega)]; rfl) (fun j _ => frozen_of g1)
  have g2 : W2.heap[g]? = some (.cells (cs.eraseIdx i ++ ((Value.string ⟨#[]⟩) :: rest)).toArray 9 (0, 0)) := by
    have h := heap_setCells [(Value.string ⟨#[]⟩)] (cs.take i ++ news) ((cs.drop i).drop (m - i)) rest W1 (by rw [List.length_drop, List.length_drop, hn]; simp; omega) (by rw [List.append_assoc]; exact g1)
    rw [show (cs.take i ++ news).length = m by rw [List.length_append, hti, hnl]; omega, ← hW2] at h
    rw [h, List.eraseIdx_eq_take_drop_succ, hnews]
    simp
  have HG : Hid (w.grownBy W2 (some g) ∧ GRow 9 1 base W2 (.slice (some ⟨g, 0, none⟩) m c) (one (cs.eraseIdx i))) := by
    constructor
    · rw [hW2, hW1]
      have a := grown_setCellsG w.drew g (0 + i * 1) news
      have b := grown_setCellsG (w.drew.setCells g (0 + i * 1) news) g m [(Value.string ⟨#[]⟩)]
      exact ⟨b.os.trans a.os, b.tape.trans a.tape, b.output.trans a.output, Nat.le_trans a.size b.size, fun k hk hnk => (b.block k (Nat.lt_of_lt_of_le hk a.size) hnk).trans (a.block k hk hnk)⟩
    · have hl : (cs.eraseIdx i).length = m := by rw [List.length_eraseIdx_of_lt (by omega), hn]; rfl
      exact grow_of (fun u hu => h1 u (List.mem_of_mem_eraseIdx hu)) hb g2 hl (by rw [List.length_cons]; omega) hm
  have hiI : (i : Int) ≤ (m : Int) := by omega
  have hi1 : (i : Int) + 1 ≤ (m : Int) + 1 := by omega
  have hi00 : (0 : Int) ≤ (i : Int) := by omega
  have hne : ¬ ((i : Int) = (i : Int) + 1) := by omega
  have hb1 : (0 : Int) ≤ (i : Int) + 1 := by omega
  have htn : ((i : Int) + 1).toNat = i + 1 := by omega
  have hmn : ((m : Int) + 1).toNat = m + 1 := by omega
  have hcm : ¬ (c = m) := by omega
  have hmc : m ≤ c := by omega
  have hmc1 : m + 1 ≤ c := by omega
  have hic : i ≤ c := by omega
  have hic1 : i + 1 ≤ c := by omega
  have hcI : (c : Int) ≤ 9223372036854775807 := by omega
  have hk : i + (m - i) = m := by omega
  have hss : m + 1 - m = 1 := by omega
  have HW := Lib.hid hW1
  clear hlen hg hg' hnews hnl hW1 hti htl g1 hW2 g2 h1 hn hc hm
  go_enter Tryz.func96, Tryz.ntmps96
  go_wp2_with fail
  go_region_law (refine step_append_room rfl (.tmp 22) (.tmp 25) 37 rfl 9 i0 1 Tryz.underlying37 hi0 hzs g 0 i c (by simp [Act.eval, Act.put]) A (m - i) (c - (i + 1)) news (by simp [Act.eval, Act.put]) s1.out HS.out s2.out (by omega) s3.out ?_; rw [← HW.out, hk])
  go_wp2
  go_ret
  exact ⟨rfl, HG.out.2, HG.out.1⟩
end Go.Proofs.YtnccefeehkcneaaGreatDoor.Jm
namespace Go.Proofs.YtnccefeehkcneaaGreatDoor.Jm
open Go Go.RowKit Go.Proofs.YtnccefeehkcneaaGreatDoor.Sx Go.Proofs.YtnccefeehkcneaaGreatDoor.Js Go.Proofs.YtnccefeehkcneaaGreatDoor.Gr
set_option maxRecDepth 100000 in
set_option maxHeartbeats 4000000 in
theorem delete_vals (base g m c i : Nat) (cs rest : List Value) (w : World) (h1 : ∀ u ∈ cs, u.oneCell' = true) (hb : base ≤ g) (hg : w.heap[g]? = some (.cells (cs ++ rest).toArray 63 (0, 0))) (hn : cs.length = m + 1) (hc : m + 1 + rest.length = c) (hm : c ≤ maxLen) (hi : i ≤ m) (hsm : m ≤ 1048576) :
    Calls Tryz.prog 97 #[.slice (some ⟨g, 0, none⟩) (m + 1) c, .int .i64 (i : Int), .int .i64 ((i : Int) + 1)] w fun e w' => e = .returned (.slice (some ⟨g, 0, none⟩) m c) ∧ GRow 63 1 base w' (.slice (some ⟨g, 0, none⟩) m c) (one (cs.eraseIdx i)) ∧ w.grownBy w' (some g) := by
  obtain ⟨i0, hi0, hz0, hzs, hzb⟩ := info_parts ty_vals.info
  have hlen : (cs ++ rest).length = c := by rw [List.length_append, hn]; exact hc
  have hm63 : c ≤ 9223372036854775807 := by unfold maxLen at hm; omega
  have hg' : w.drew.heap[g]? = some (.cells (cs ++ rest).toArray 63 (0, 0)) := hg
  obtain ⟨news, hnews⟩ : ∃ l, l = cs.drop (i + 1) := ⟨_, rfl⟩
  have hnl : news.length = m - i := by rw [hnews, List.length_drop, hn]; omega
  obtain ⟨A, hA, HS⟩ : ∃ A : Addr, (if c = i + 1 then some (⟨g, 0, none⟩ : Addr) else some ⟨g, i + 1, none⟩) = some A ∧ Hid (∀ t u, news[t]? = some u → w.drew.cell? (A.add t) = some u) := by
    by_cases h : c = i + 1
    · refine ⟨⟨g, 0, none⟩, by simp [h], fun t u hu => ?_⟩
      have h0 : news = [] := List.length_eq_zero_iff.1 (by omega)
      rw [h0] at hu
      cases hu
    · refine ⟨⟨g, i + 1, none⟩, by simp [h], fun t u hu => ?_⟩
      have hlt := (List.getElem?_eq_some_iff.1 hu).1
      rw [hnl] at hlt
      rw [hnews, List.getElem?_drop] at hu
      rw [Addr.add_lit, cell_of hg', List.getElem?_toArray, List.getElem?_append_left (by omega)]
      exact hu
  have s1 : Hid (news.length = (m - i) * 1) := by rw [Nat.mul_one]; exact hnl
  have s2 : Hid (∀ u ∈ news, u.oneCell' = true) := fun u hu => h1 u (by rw [hnews] at hu; exact List.mem_of_mem_drop hu)
  have s3 : Hid (∀ t, t < news.length → (w.drew.cell? ⟨g, 0 + i * 1 + t, none⟩).isSome = true ∧ w.drew.frozen? ⟨g, 0 + i * 1 + t, none⟩ = false) := fun t ht => by
    rw [hnl] at ht
    rw [cell_at hg' (by omega)]
    exact ⟨rfl, frozen_of hg'⟩
  obtain ⟨W1, hW1⟩ : ∃ W1, W1 = w.drew.setCells g (0 + i * 1) news := ⟨_, rfl⟩
  have hti : (cs.take i).length = i := by rw [List.length_take]; omega
  have htl : ((cs.drop i).take (m - i)).length = m - i := by rw [List.length_take, List.length_drop]; omega
  have g1 : W1.heap[g]? = some (.cells (cs.take i ++ news ++ ((cs.drop i).drop (m - i) ++ rest)).toArray 63 (0, 0)) := by
    have e : cs ++ rest = cs.take i ++ (cs.drop i).take (m - i) ++ ((cs.drop i).drop (m - i) ++ rest) := by
      rw [← List.append_assoc, List.append_assoc (cs.take i), List.take_append_drop, List.take_append_drop]
    rw [e] at hg'
    have h := heap_setCells news _ _ _ w.drew (by rw [htl, hnl]) hg'
    rw [hti] at h
    rw [hW1, Nat.mul_one, Nat.zero_add]
    exact h
  obtain ⟨W2, hW2⟩ : ∃ W2, W2 = W1.setCells g m [Value.nilIface] := ⟨_, rfl⟩
  have hcl : ∀ ty, (Builtin.clear_ #[95] ty #[.slice (some ⟨g, m, none⟩) 1 (c - m)]).run Tryz.prog W1 = .ok (.tuple #[]) W2 := fun ty => by
    rw [hW2]
    exact Lib.run_clear_slice W1 _ _ ty Value.nilIface Tryz.underlying95 (fun w => by kernel_rfl) rfl rfl g m 1 _ (by omega) (fun j hj => by rw [cell_at g1 (by simp only [List.length_append, hti, hnl, List.length_drop, hn]; omega)]; rfl) (fun j _ => frozen_of g1)
  have g2 : W2.heap[g]? = some (.cells (cs.eraseIdx i ++ (Value.nilIface :: rest)).toArray 63 (0, 0)) := by
    have h := heap_setCells [Value.nilIface] (cs.take i ++ news) ((cs.drop i).drop (m - i)) rest W1 (by rw [List.length_drop, List.length_drop, hn]; simp; omega) (by rw [List.append_assoc]; exact g1)
    rw [show (cs.take i ++ news).length = m by rw [List.length_append, hti, hnl]; omega, ← hW2] at h
    rw [h, List.eraseIdx_eq_take_drop_succ, hnews]
    simp
  have HG : Hid (w.grownBy W2 (some g) ∧ GRow 63 1 base W2 (.slice (some ⟨g, 0, none⟩) m c) (one (cs.eraseIdx i))) := by
    constructor
    · rw [hW2, hW1]
      have a := grown_setCellsG w.drew g (0 + i * 1) news
      have b := grown_setCellsG (w.drew.setCells g (0 + i * 1) news) g m [Value.nilIface]
      exact ⟨b.os.trans a.os, b.tape.trans a.tape, b.output.trans a.output, Nat.le_trans a.size b.size, fun k hk hnk => (b.block k (Nat.lt_of_lt_of_le hk a.size) hnk).trans (a.block k hk hnk)⟩
    · have hl : (cs.eraseIdx i).length = m := by rw [List.length_eraseIdx_of_lt (by omega), hn]; rfl
      exact grow_of (fun u hu => h1 u (List.mem_of_mem_eraseIdx hu)) hb g2 hl (by rw [List.length_cons]; omega) hm
  have hiI : (i : Int) ≤ (m : Int) := by omega
  have hi1 : (i : Int) + 1 ≤ (m : Int) + 1 := by omega
  have hi00 : (0 : Int) ≤ (i : Int) := by omega
  have hne : ¬ ((i : Int) = (i : Int) + 1) := by omega
  have hb1 : (0 : Int) ≤ (i : Int) + 1 := by omega
  have htn : ((i : Int) + 1).toNat = i + 1 := by omega
  have hmn : ((m : Int) + 1).toNat = m + 1 := by omega
  have hcm : ¬ (c = m) := by omega
  have hmc : m ≤ c := by omega
  have hmc1 : m + 1 ≤ c := by omega
  have hic : i ≤ c := by omega
  have hic1 : i + 1 ≤ c := by omega
  have hcI : (c : Int) ≤ 9223372036854775807 := by omega
  have hk : i + (m - i) = m := by omega
  have hss : m + 1 - m = 1 := by omega
  have HW := Lib.hid hW1
  clear hlen hg hg' hnews hnl hW1 hti htl g1 hW2 g2 h1 hn hc hm
  go_enter Tryz.func97, Tryz.ntmps97
  go_wp2_with fail
  go_region_law (refine step_append_room rfl (.tmp 22) (.tmp 25) 95 rfl 63 i0 1 Tryz.underlying95 hi0 hzs g 0 i c (by simp [Act.eval, Act.put]) A (m - i) (c - (i + 1)) news (by simp [Act.eval, Act.put]) s1.out HS.out s2.out (by omega) s3.out ?_; rw [← HW.out, hk])
  go_wp2
  go_ret
  exact ⟨rfl, HG.out.2, HG.out.1⟩
end Go.Proofs.YtnccefeehkcneaaGreatDoor.Jm
namespace Go.Proofs.YtnccefeehkcneaaGreatDoor.Jm
open Go Go.RowKit Go.Proofs.YtnccefeehkcneaaGreatDoor.Sx Go.Proofs.YtnccefeehkcneaaGreatDoor.Js Go.Proofs.YtnccefeehkcneaaGreatDoor.Gr Go.Proofs.YtnccefeehkcneaaGreatDoor.Ur
/-- The program's object at block b is a. -/
def OA (w : World) (b : Nat) (a : Ob) : Prop := ObjAt (fun _ => True) w b a.1 a.2
/-- The program's value. -/
def PJ (w : World) (j : J) (u : Value) : Prop := PV (fun _ => True) w j u
section
variable {w w' : World}
theorem OA.ext {b : Nat} {a : Ob} (h : OA w b a) (hx : Ext w w') : OA w' b a := ObjAt.keep h trivial (fun b _ hb => hx.block b hb) (fun _ _ _ => trivial)
theorem PJ.ext {j : J} {u : Value} (h : PJ w j u) (hx : Ext w w') : PJ w' j u := PV.ext h hx
theorem PJ.of {F : Nat → Prop} {j : J} {u : Value} (h : PV F w j u) : PJ w j u := h.all
theorem OA.of {F : Nat → Prop} {b : Nat} {ns : List Tx} {l : List J} (h : ObjAt F w b ns l) : OA w b (ns, l) := by
  obtain ⟨A, c, B, d, hh, hc, hd, hn, hi⟩ := h
  exact ⟨A, c, B, d, hh, hc, hd, hn.keep (fun _ _ _ => rfl) (fun _ _ _ => trivial), hi.keep (fun _ _ _ => rfl) (fun _ _ _ => trivial)⟩
theorem PJ_null {u : Value} : PJ w .null u ↔ u = .nilIface := PV_null
theorem PJ.null : PJ w .null .nilIface := PJ_null.2 rfl
theorem OA.lt {b : Nat} {a : Ob} (h : OA w b a) : b < w.heap.size := by
  obtain ⟨A, c, B, d, hh, _⟩ := h
  exact heap_lt hh
/-- A new object without fields. -/
theorem OA.new {A B : Value} (hA : A = .slice none 0 0) (hB : B = .slice none 0 0) {b : Nat} (hb : b = w.heap.size) : OA (w.alloc (.cells #[A, B] objT (0, 0))) b ([], []) := by
  subst hA hB hb
  exact ⟨none, 0, none, 0, heap_new rfl, Nat.le_refl _, Nat.le_refl _, fun i hi => absurd hi (Nat.not_lt_zero _), fun i hi => absurd hi (Nat.not_lt_zero _)⟩
end
theorem names_del (ns : List Tx) (p : Nat) : (ns.map strW).eraseIdx p = (ns.eraseIdx p).map strW := by
  rw [List.eraseIdx_eq_take_drop_succ, List.eraseIdx_eq_take_drop_succ, List.map_append, List.map_take, List.map_drop]
theorem PVs.del {F : Nat → Prop} {w : World} {l : List J} {us : List Value} (h : PVs F w l us) (p : Nat) : PVs F w (l.eraseIdx p) (us.eraseIdx p) := by
  refine ⟨by rw [List.length_eraseIdx, List.length_eraseIdx, h.1], fun i hi hu => ?_⟩
  rw [List.getElem_eraseIdx, List.getElem_eraseIdx]
  split
  · exact h.2 i _ _
  · exact h.2 (i + 1) _ _
set_option maxRecDepth 100000 in
set_option maxHeartbeats 8000000 in
theorem without_old (F : Nat → Prop) (b : Nat) (ns : List Tx) (l : List J) (t : Tx) (w : World) (ho : ObjAt F w b ns l) (hw : ns.length = l.length) (hr : Rise ns) (hsm : l.length ≤ 1048570) (ht : t ∈ ns) :
    Calls Tryz.prog 43 #[.pointer (some ⟨b, 0, none⟩), .string (bx t)] w (WithPost F w (ns.eraseIdx (place ns t)) (l.eraseIdx (place ns t))) := by
  obtain ⟨A, c, B, d, hh, hc, hd, hN, hV⟩ := ho
  have CS := Lib.hid (search_any F A ns.length c ns t w rfl hN hr (by omega))
  rw [decide_eq_true ht] at CS
  obtain ⟨p, hp⟩ : ∃ p, p = place ns t := ⟨_, rfl⟩
  have hpn : p < ns.length := by obtain ⟨h1, _⟩ := (place_mem hr t).1 ht; rw [hp]; exact h1
  rw [← hp] at CS ⊢
  obtain ⟨NS, hNS⟩ : ∃ NS, NS = ns.map strW := ⟨_, rfl⟩
  obtain ⟨us, hus, hcu, hpu⟩ := cells_vals hV
  have hcn : CellsAt w A NS := by rw [hNS]; exact cells_names hN
  have hNl : NS.length = ns.length := by rw [hNS, List.length_map]
  have h1n : ∀ u ∈ NS, u.oneCell' = true := fun u hu => by rw [hNS] at hu; obtain ⟨x, _, rfl⟩ := List.mem_map.1 hu; rfl
  have h1u : ∀ u ∈ us, u.oneCell' = true := fun u hu => by
    obtain ⟨i, hi, rfl⟩ := List.mem_iff_getElem.1 hu
    exact (hpu i (by omega) hi).one
  obtain ⟨m, hm⟩ : ∃ m, ns.length = m + 1 := ⟨ns.length - 1, by omega⟩
  have hlm : l.length = m + 1 := by omega
  have hbl := heap_lt hh
  have HS : Hid (∀ W, Ext w W → W.cell? ⟨b, 0, none⟩ = some (.slice A (m + 1) c) ∧ W.cell? ⟨b, 1, none⟩ = some (.slice B (m + 1) d)) := fun W hW => by
    have h0 : w.cell? ⟨b, 0, none⟩ = some (.slice A (m + 1) c) := by rw [← hm]; exact cell_of hh 0
    have h1 : w.cell? ⟨b, 1, none⟩ = some (.slice B (m + 1) d) := by rw [← hlm]; exact cell_of hh 1
    exact ⟨(cell_keep (hW.block b hbl)).trans h0, (cell_keep (hW.block b hbl)).trans h1⟩
  have big : ∀ {et : Nat} {base : Nat} {W : World} {A' : Option Addr} {k c' : Nat} {cs : List Value}, GRow et 1 base W (.slice A' (k + 1) c') (one cs) → ∃ g rest, A' = some ⟨g, 0, none⟩ ∧ base ≤ g ∧ W.heap[g]? = some (.cells (cs ++ rest).toArray et (0, 0)) ∧ cs.length = k + 1 ∧ k + 1 + rest.length = c' ∧ c' ≤ maxLen := fun {et base W A' k c' cs} h => by
    obtain ⟨hn, ⟨_, h0, _⟩ | ⟨g, rest, rfl, hb, hg, hc, hm⟩⟩ := grow_to h
    · rw [h0] at hn; simp at hn
    · exact ⟨g, rest, rfl, hb, hg, hn.symm, hc, hm⟩
  have CC1 : Hid (∀ W, Ext w W → Calls Tryz.prog 40 #[.slice A (m + 1) c] W fun e w' => ∃ g c', e = .returned (.slice (some ⟨g, 0, none⟩) (m + 1) c') ∧ Ext w w' ∧ w'.cell? ⟨b, 0, none⟩ = some (.slice A (m + 1) c) ∧ w'.cell? ⟨b, 1, none⟩ = some (.slice B (m + 1) d) ∧ WA w w' (.slice (some ⟨g, 0, none⟩) (m + 1) c') (one NS)) := fun W hW =>
    (clone_strs A (m + 1) c NS W (by omega) h1n (hcn.ext hW) (by omega)).mono fun e w' ⟨A', c', he, hr, hx⟩ => by
      obtain ⟨g, rest, rfl, _⟩ := big hr
      have h := HS.out w' (hW.trans hx)
      exact ⟨g, c', he, hW.trans hx, h.1, h.2, hW.trans hx, hr.low hW.size⟩
  have CD1 : Hid (∀ W g c', WA w W (.slice (some ⟨g, 0, none⟩) (m + 1) c') (one NS) → Calls Tryz.prog 96 #[.slice (some ⟨g, 0, none⟩) (m + 1) c', .int .i64 (p : Int), .int .i64 ((p : Int) + 1)] W fun e w' => e = .returned (.slice (some ⟨g, 0, none⟩) m c') ∧ Ext w w' ∧ w'.cell? ⟨b, 0, none⟩ = some (.slice A (m + 1) c) ∧ w'.cell? ⟨b, 1, none⟩ = some (.slice B (m + 1) d) ∧ WA w w' (.slice (some ⟨g, 0, none⟩) m c') (one (NS.eraseIdx p))) := fun W g c' hW => by
    obtain ⟨g', rest, e0, hb, hg, hn, hc, hmx⟩ := big hW.2
    injection e0 with e0
    injection e0 with e0
    subst e0
    exact (delete_strs w.heap.size g m c' p NS rest W h1n hb hg hn hc hmx (by omega) (by omega)).mono fun e w' ⟨he, hr, hgb⟩ => by
      have hx : Ext w w' := ext_row hW.1 hgb (fun k e => by injection e with e; omega)
      have h := HS.out w' hx
      exact ⟨he, hx, h.1, h.2, hx, hr⟩
  have CC2 : Hid (∀ W nv, WA w W nv (one (NS.eraseIdx p)) → Calls Tryz.prog 87 #[.slice B (m + 1) d] W fun e w' => ∃ g c', e = .returned (.slice (some ⟨g, 0, none⟩) (m + 1) c') ∧ Ext w w' ∧ w'.cell? ⟨b, 0, none⟩ = some (.slice A (m + 1) c) ∧ w'.cell? ⟨b, 1, none⟩ = some (.slice B (m + 1) d) ∧ WB w w' nv (.slice (some ⟨g, 0, none⟩) (m + 1) c') (one (NS.eraseIdx p)) (one us)) := fun W nv hW =>
    (clone_vals B (m + 1) d us W (by omega) h1u (hcu.ext hW.1) (by omega)).mono fun e w' ⟨A', c', he, hr, hx⟩ => by
      obtain ⟨g, rest, rfl, _⟩ := big hr
      have h := HS.out w' (hW.1.trans hx)
      exact ⟨g, c', he, hW.1.trans hx, h.1, h.2, hW.1.trans hx, hW.2.ext hx, hr.low hW.1.size, fun k e1 e2 => by have h1 := (hW.2.block k e1).2; have h2 := (hr.block k e2).1; omega⟩
  have CD2 : Hid (∀ W nv g c', WB w W nv (.slice (some ⟨g, 0, none⟩) (m + 1) c') (one (NS.eraseIdx p)) (one us) → Calls Tryz.prog 97 #[.slice (some ⟨g, 0, none⟩) (m + 1) c', .int .i64 (p : Int), .int .i64 ((p : Int) + 1)] W fun e w' => e = .returned (.slice (some ⟨g, 0, none⟩) m c') ∧ Ext w w' ∧ w'.cell? ⟨b, 0, none⟩ = some (.slice A (m + 1) c) ∧ w'.cell? ⟨b, 1, none⟩ = some (.slice B (m + 1) d) ∧ WB w w' nv (.slice (some ⟨g, 0, none⟩) m c') (one (NS.eraseIdx p)) (one (us.eraseIdx p))) := fun W nv g c' hW => by
    obtain ⟨g', rest, e0, hb, hg, hn, hc, hmx⟩ := big hW.2.2.1
    injection e0 with e0
    injection e0 with e0
    subst e0
    exact (delete_vals w.heap.size g m c' p us rest W h1u hb hg hn hc hmx (by omega) (by omega)).mono fun e w' ⟨he, hr, hgb⟩ => by
      have hx : Ext w w' := ext_row hW.1 hgb (fun k e => by injection e with e; omega)
      have h := HS.out w' hx
      exact ⟨he, hx, h.1, h.2, hx, hW.2.1.kept hgb (fun k e e2 => hW.2.2.2 k e e2), hr, fun k e1 e2 => hW.2.2.2 k e1 e2⟩
  have HO : Hid (m = (ns.eraseIdx p).length ∧ m = (l.eraseIdx p).length ∧ NS.eraseIdx p = (ns.eraseIdx p).map strW ∧ PVs F w (l.eraseIdx p) (us.eraseIdx p)) :=
    ⟨by rw [List.length_eraseIdx_of_lt (by omega), hm]; rfl, by rw [List.length_eraseIdx_of_lt (by omega), hlm]; rfl, by rw [hNS]; exact names_del ns p, PVs.del ⟨hus, hpu⟩ p⟩
  rw [hm] at CS
  have z0 := (HS.out w (Below.refl _ _)).1
  have z1 := (HS.out w (Below.refl _ _)).2
  have hxx : Ext w w := Below.refl _ _
  have hp0 : (0 : Int) ≤ (p : Int) := by omega
  have hpM : (p : Int) ≤ 1048576 := by omega
  have hwr : IntKind.i64.wrap ((p : Int) + 1) = (p : Int) + 1 := IntWalk.i64_in _ (by omega)
  clear hm hlm hus hNl hp hw hNS hcu hcn hpu h1n h1u hh hN hV hr ht hc hd hbl hpn big
  go_enter Tryz.func43, Tryz.ntmps43
  go_wp2_with (go_at_call 88; refine CS.out.mono ?_; rintro e w' ⟨rfl, rfl⟩)
  go_region_held3 (fun W => Ext w W ∧ W.cell? ⟨b, 0, none⟩ = some (.slice A (m + 1) c) ∧ W.cell? ⟨b, 1, none⟩ = some (.slice B (m + 1) d))
    (first | (refine ⟨by assumption, by assumption, by assumption⟩) | (exact (fun h => ⟨h, HS.out _ h⟩) (ext_al (by first | assumption | (apply Below.drew; assumption)))) | (refine ⟨Below.drew (by assumption), ?_, ?_⟩ <;> go_keep) | go_keep)
    (first
      | (go_at_call 40; with_reducible refine (CC1.out _ (by first | assumption | (apply Below.drew; assumption))).mono ?_; rintro r w5 ⟨g1, c1, rfl, x1, y0, y1, q1⟩)
      | (go_at_call 96; with_reducible refine (CD1.out _ _ _ (by first | assumption | (apply WA.drew; assumption))).mono ?_; rintro r w6 ⟨rfl, x2, u0, u1, q2⟩)
      | (go_at_call 87; with_reducible refine (CC2.out _ _ (by first | assumption | (apply WA.drew; assumption))).mono ?_; rintro r w7 ⟨g2, c2, rfl, x3, v0, v1, q3⟩)
      | (go_at_call 97; with_reducible refine (CD2.out _ _ _ _ (by first | assumption | (apply WB.drew; assumption))).mono ?_; rintro r w8 ⟨rfl, x4, t0, t1, q4⟩))
  all_goals
    have Q4 := Lib.hid q4
    have X4 := Lib.hid x4
    clear x1 y0 y1 q1 x2 u0 u1 q2 x3 v0 v1 q3 x4 t0 t1 q4
    go_wp2_with fail
    go_ret
    exact ⟨_, rfl, X4.out.size, obj_new Q4.out HO.out.2.2.1 HO.out.2.2.2 HO.out.1 HO.out.2.1, ext_al X4.out⟩
end Go.Proofs.YtnccefeehkcneaaGreatDoor.Jm
