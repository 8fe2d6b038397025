/-
  Three ways in plain words: what is wanted, in what lives; the ways to what goes.
-/
import Derived.Test.YtnccefeehkcneaaGreatDoorMga
namespace Go.Proofs.YtnccefeehkcneaaGreatDoor.Js
open Go
/-- What was there and is not wanted goes. -/
def stpG (o : Ob) (a : Ob) (n : Tx) (_ : J) : Ob := if n ∈ o.1 then a else dropO a n
/-- What is wanted, in what lives. -/
def stpS (H : Ob) (f : J → J → J → J) (a : Ob) (n : Tx) (x : J) : Ob := setO a n (f (valO H n) (valO a n) x)
def threeJ (last live want : J) : J := match want with
  | .obj ns l => ofO ((ns.zip l).attach.foldl (fun a p => setO a p.1.1 (threeJ (valO (objO last) p.1.1) (valO a p.1.1) p.1.2)) (foldO (stpG (ns, l)) ((objO last).1.zip (objO last).2) (objO live)))
  | .null => .null
  | .bool b => .bool b
  | .num n => .num n
  | .text s => .text s
  | .list l => .list l
termination_by SizeOf.sizeOf want
decreasing_by
  have h : SizeOf.sizeOf p.1.2 < SizeOf.sizeOf l := List.sizeOf_lt_of_mem (List.of_mem_zip p.2).2
  show SizeOf.sizeOf p.1.2 < _
  rw [J.obj.sizeOf_spec]
  omega
/-- What lives, without what goes. -/
def keptT (H L o : Ob) : Ob := foldO (stpG o) (H.1.zip H.2) L
theorem three_obj (a b : J) (o : Ob) : threeJ a b (ofO o) = ofO (foldO (stpS (objO a) threeJ) (o.1.zip o.2) (keptT (objO a) (objO b) o)) := by
  unfold ofO
  rw [threeJ]
  congr 1
  exact List.foldl_attach (l := o.1.zip o.2) (f := fun c p => stpS (objO a) threeJ c p.1 p.2) (b := keptT (objO a) (objO b) o)
theorem three_flat (a b : J) {v : J} (h : isObj v = false) : threeJ a b v = v := by cases v <;> first | (rw [threeJ]; done) | cases h
theorem stp_g (o : Ob) : Step (fun _ _ => True) (stpG o) (fun y n _ => if n ∈ o.1 then y else none) := fun a n x ha _ => by
  unfold stpG
  by_cases h : n ∈ o.1
  · rw [if_pos h]
    refine ⟨ha, fun u => ?_⟩
    by_cases e : u = n
    · rw [if_pos e]; simp [h]
    · rw [if_neg e]
  · rw [if_neg h]
    refine ⟨ha.drop n, fun u => ?_⟩
    rw [get_drop ha]
    by_cases e : u = n
    · rw [if_pos e, if_pos e]; simp [h]
    · rw [if_neg e, if_neg e]
theorem stp_s {H : Ob} (hH : WO H) {f : J → J → J → J} {P : Tx → J → Prop} (hf : ∀ n x y z, P n x → WJ y → WJ z → WJ (f y z x)) : Step P (stpS H f) (fun y n x => some (f (valO H n) (y.getD .null) x)) := fun a n x ha hp => by
  unfold stpS
  refine ⟨ha.set n (hf n x _ _ hp (hH.val n) (ha.val n)), fun u => ?_⟩
  rw [get_set ha]
  by_cases e : u = n
  · rw [if_pos e, if_pos e, e]; rfl
  · rw [if_neg e, if_neg e]
theorem kept3_get {H L : Ob} (hH : WO H) (hL : WO L) (o : Ob) : WO (keptT H L o) ∧ ∀ u, getO (keptT H L o) u = match getO H u with | none => getO L u | some _ => if u ∈ o.1 then getO L u else none :=
  fold_obj (stp_g o) hH (fun _ _ _ => trivial) hL
theorem three_wj : ∀ (m : Nat) (a b v : J), SizeOf.sizeOf v ≤ m → WJ a → WJ b → WJ v → WJ (threeJ a b v)
  | m, a, b, v, hm, ha, hb, hv => by
    cases h : isObj v with
    | false => rw [three_flat a b h]; exact hv
    | true =>
      rw [obj_of h] at hv hm ⊢
      generalize objO v = o at hv hm
      rw [three_obj]
      have ho := wj_ofO.1 hv
      cases m with
      | zero => unfold ofO at hm; rw [J.obj.sizeOf_spec] at hm; omega
      | succ m =>
        exact (fold_obj (stp_s (P := fun _ x => WJ x ∧ SizeOf.sizeOf x ≤ m) (WO.of ha) fun _ x y z hp hy hz => three_wj m y z x hp.2 hy hz hp.1) ho
          (fun n x hx => ⟨ho.get hx, by have := kid_size hx; omega⟩) (kept3_get (WO.of ha) (WO.of hb) o).1).1
theorem threeJ_wj {a b v : J} (ha : WJ a) (hb : WJ b) (hv : WJ v) : WJ (threeJ a b v) := three_wj _ a b v (Nat.le_refl _) ha hb hv
theorem step_three {H : Ob} (hH : WO H) : Step (fun _ x => WJ x) (stpS H threeJ) (fun y n x => some (threeJ (valO H n) (y.getD .null) x)) := stp_s hH fun _ _ _ _ hp hy hz => threeJ_wj hy hz hp
theorem stpS_bulk {H : Ob} {f : J → J → J → J} {a : Ob} (ha : WO a) {n : Tx} {x : J} (h : bulkJ (f (valO H n) (valO a n) x) + 32 ≤ bulkJ (valO a n) + bulkJ x) : bulkO (stpS H f a n x) ≤ bulkO a + feeB n x := by
  unfold stpS feeB
  have := (bulk_put ha n (f (valO H n) (valO a n) x)).1
  omega
theorem kept3_bulk (_H L o : Ob) : ∀ ps : List (Tx × J), bulkO (foldO (stpG o) ps L) ≤ bulkO L := by
  intro ps
  induction ps generalizing L with
  | nil => exact Nat.le_refl _
  | cons p ps ih =>
    refine Nat.le_trans (ih (stpG o L p.1 p.2)) ?_
    unfold stpG
    split
    · exact Nat.le_refl _
    · exact bulk_drop L p.1
theorem three_bulk : ∀ (m : Nat) (a b v : J), SizeOf.sizeOf v ≤ m → WJ a → WJ b → WJ v → bulkJ (threeJ a b v) + 32 ≤ bulkJ b + bulkJ v
  | m, a, b, v, hm, ha, hb, hv => by
    cases h : isObj v with
    | false => rw [three_flat a b h]; have := bulk_low b; omega
    | true =>
      rw [obj_of h] at hv hm ⊢
      generalize objO v = o at hv hm
      rw [three_obj, bulk_of, bulk_of]
      cases m with
      | zero => unfold ofO at hm; rw [J.obj.sizeOf_spec] at hm; omega
      | succ m =>
        have ho := wj_ofO.1 hv
        have key : ∀ (ps : List (Tx × J)) (c : Ob), (∀ p ∈ ps, SizeOf.sizeOf p.2 ≤ m ∧ WJ p.2) → WO c → bulkO (foldO (stpS (objO a) threeJ) ps c) ≤ bulkO c + (ps.map fun p => feeB p.1 p.2).sum := fun ps => by
          induction ps with
          | nil => intro c _ _; simp
          | cons p ps ih =>
            intro c hp hc
            obtain ⟨p1, p2⟩ := hp p (List.mem_cons_self ..)
            have h1 := stpS_bulk (H := objO a) hc (n := p.1) (three_bulk m (valO (objO a) p.1) (valO c p.1) p.2 p1 ((WO.of ha).val _) (hc.val _) p2)
            have h2 := ih (stpS (objO a) threeJ c p.1 p.2) (fun q hq => hp q (List.mem_cons_of_mem _ hq)) (step_three (WO.of ha) c p.1 p.2 hc p2).1
            show bulkO (foldO (stpS (objO a) threeJ) ps (stpS (objO a) threeJ c p.1 p.2)) ≤ _
            rw [List.map_cons, List.sum_cons]
            omega
        have h1 := key (o.1.zip o.2) (keptT (objO a) (objO b) o) (fun p hp => by
          have h2 := (List.of_mem_zip hp).2
          have h3 := List.sizeOf_lt_of_mem h2
          unfold ofO at hm
          rw [J.obj.sizeOf_spec] at hm
          exact ⟨by omega, ho.vals _ h2⟩) (kept3_get (WO.of ha) (WO.of hb) o).1
        rw [fee_sum o ho.len] at h1
        have h4 := kept3_bulk (objO a) (objO b) o ((objO a).1.zip (objO a).2)
        have := bulk_obO b
        unfold keptT at h1 ⊢
        omega
theorem threeJ_bulk {a b v : J} (ha : WJ a) (hb : WJ b) (hv : WJ v) : bulkJ (threeJ a b v) + 32 ≤ bulkJ b + bulkJ v := three_bulk _ a b v (Nat.le_refl _) ha hb hv
/-- Midway. -/
theorem three_mid {a b : J} (ha : WJ a) (hb : WJ b) {o : Ob} (ho : WO o) (q : Nat) :
    WO (foldO (stpS (objO a) threeJ) ((o.1.zip o.2).take q) (keptT (objO a) (objO b) o)) ∧ bulkO (foldO (stpS (objO a) threeJ) ((o.1.zip o.2).take q) (keptT (objO a) (objO b) o)) ≤ bulkO (objO b) + bulkO o ∧
      ∀ h : q < o.1.length, getO (foldO (stpS (objO a) threeJ) ((o.1.zip o.2).take q) (keptT (objO a) (objO b) o)) o.1[q] = getO (objO b) o.1[q] := by
  have hk := kept3_get (WO.of ha) (WO.of hb) o
  obtain ⟨h1, h2⟩ := fold_ahead (step_three (WO.of ha)) ho (fun _ _ hx => ho.get hx) hk.1 q
  refine ⟨h1, ?_, fun h => ?_⟩
  · have key : ∀ (ps : List (Tx × J)) (c : Ob), (∀ p ∈ ps, WJ p.2) → WO c → bulkO (foldO (stpS (objO a) threeJ) ps c) ≤ bulkO c + (ps.map fun p => feeB p.1 p.2).sum := fun ps => by
      induction ps with
      | nil => intro c _ _; simp
      | cons p ps ih =>
        intro c hp hc
        have p2 := hp p (List.mem_cons_self ..)
        have h1 := stpS_bulk (H := objO a) hc (n := p.1) (threeJ_bulk ((WO.of ha).val p.1) (hc.val p.1) p2)
        have h2 := ih (stpS (objO a) threeJ c p.1 p.2) (fun q hq => hp q (List.mem_cons_of_mem _ hq)) (step_three (WO.of ha) c p.1 p.2 hc p2).1
        show bulkO (foldO (stpS (objO a) threeJ) ps (stpS (objO a) threeJ c p.1 p.2)) ≤ _
        rw [List.map_cons, List.sum_cons]
        omega
    have h3 := key ((o.1.zip o.2).take q) (keptT (objO a) (objO b) o) (fun p hp => ho.vals _ (List.of_mem_zip (List.mem_of_mem_take hp)).2) hk.1
    have h4 := sum_take_le (fun p : Tx × J => feeB p.1 p.2) (o.1.zip o.2) q
    rw [fee_sum o ho.len] at h4
    have h5 := kept3_bulk (objO a) (objO b) o ((objO a).1.zip (objO a).2)
    unfold keptT at h3 ⊢
    omega
  · rw [h2 h, hk.2]
    cases getO (objO a) o.1[q] with
    | none => rfl
    | some y => simp only; rw [if_pos (List.getElem_mem h)]
def goesT (H L o : Ob) : List Tx := H.1.filter fun n => decide (n ∈ L.1) && !decide (n ∈ o.1)
def lostJ (last live want : J) (way : List Tx) : List (List Tx) := match want with
  | .obj ns l => ((goesT (objO last) (objO live) (ns, l)).map fun n => way ++ [n]) ++ (ns.zip l).attach.flatMap fun p => lostJ (valO (objO last) p.1.1) (valO (objO live) p.1.1) p.1.2 (way ++ [p.1.1])
  | .null => []
  | .bool _ => []
  | .num _ => []
  | .text _ => []
  | .list _ => []
termination_by SizeOf.sizeOf want
decreasing_by
  have h : SizeOf.sizeOf p.1.2 < SizeOf.sizeOf l := List.sizeOf_lt_of_mem (List.of_mem_zip p.2).2
  show SizeOf.sizeOf p.1.2 < _
  rw [J.obj.sizeOf_spec]
  omega
def lostF (H L : Ob) (way : List Tx) (p : Tx × J) : List (List Tx) := lostJ (valO H p.1) (valO L p.1) p.2 (way ++ [p.1])
theorem lost_obj (a b : J) (o : Ob) (way : List Tx) : lostJ a b (ofO o) way = ((goesT (objO a) (objO b) o).map fun n => way ++ [n]) ++ (o.1.zip o.2).flatMap (lostF (objO a) (objO b) way) := by
  unfold ofO
  rw [lostJ]
  congr 1
  rw [← List.attach_map_subtype_val (o.1.zip o.2), List.flatMap_map, List.attach_map_subtype_val]
  rfl
theorem lost_flat (a b : J) {v : J} (h : isObj v = false) (way : List Tx) : lostJ a b v way = [] := by cases v <;> first | (rw [lostJ]; done) | cases h
theorem gO_val {H : Ob} (hH : WO H) (n : Tx) : bulkO (objO (valO H n)) ≤ gO H n ∧ (n ∈ H.1 → 1 ≤ gO H n) := by
  cases h : getO H n with
  | none =>
    rw [val_none h]
    exact ⟨Nat.zero_le _, fun hm => by have := (get_mem hH n).2 hm; rw [h] at this; cases this⟩
  | some y =>
    rw [val_some h, gO_some h]
    have h1 := bulk_obO y
    have h2 := bulk_low y
    unfold feeB
    exact ⟨by omega, fun _ => by omega⟩
theorem goes_nodup {H L o : Ob} (hH : WO H) (ho : WO o) (q : Nat) : (goesT H L o ++ o.1.take q).Nodup := by
  rw [List.nodup_append]
  refine ⟨List.Nodup.sublist List.filter_sublist (rise_nodup hH.rise), List.Nodup.sublist (List.take_sublist ..) (rise_nodup ho.rise), fun a ha b hb e => ?_⟩
  have h1 := (List.mem_filter.1 ha).2
  have h2 := List.mem_of_mem_take hb
  rw [← e] at h2
  simp [h2] at h1
theorem ones_le (us : List Tx) (f : Tx → Nat) (h : ∀ u ∈ us, 1 ≤ f u) : us.length ≤ (us.map f).sum := by
  induction us with
  | nil => simp
  | cons u r ih =>
    have h1 := h u (List.mem_cons_self ..)
    have h2 := ih fun x hx => h x (List.mem_cons_of_mem _ hx)
    simp only [List.length_cons, List.map_cons, List.sum_cons]
    omega
/-- How many ways there are, up to a field. -/
theorem lost_upto {H L o : Ob} (hH : WO H) (ho : WO o) (way : List Tx) (q : Nat) (hq : ∀ i (h1 : i < o.1.length) (h2 : i < o.2.length), i < q → (lostF H L way (o.1[i], o.2[i])).length ≤ gO H o.1[i]) :
    (goesT H L o).length + (((o.1.zip o.2).take q).flatMap (lostF H L way)).length ≤ ((goesT H L o ++ o.1.take q).map (gO H)).sum := by
  rw [List.map_append, List.sum_append]
  have h1 := ones_le (goesT H L o) (gO H) fun u hu => (gO_val hH u).2 (List.mem_filter.1 hu).1
  have h2 : ∀ m, m ≤ q → (((o.1.zip o.2).take m).flatMap (lostF H L way)).length ≤ ((o.1.take m).map (gO H)).sum := fun m => by
    induction m with
    | zero => intro _; simp
    | succ m ih =>
      intro hm
      have h3 := ih (by omega)
      have hl := ho.len
      by_cases hml : m < o.1.length
      · have hz : m < (o.1.zip o.2).length := by rw [List.length_zip]; omega
        rw [List.take_succ_eq_append_getElem hz, List.flatMap_append, List.length_append, List.take_succ_eq_append_getElem hml, List.map_append, List.sum_append, List.getElem_zip]
        have h4 := hq m hml (by omega) (by omega)
        simp only [List.flatMap_cons, List.flatMap_nil, List.append_nil, List.map_cons, List.map_nil, List.sum_cons, List.sum_nil]
        omega
      · have e1 : (o.1.zip o.2).take (m + 1) = (o.1.zip o.2).take m := by rw [List.take_of_length_le (by rw [List.length_zip]; omega), List.take_of_length_le (by rw [List.length_zip]; omega)]
        have e2 : o.1.take (m + 1) = o.1.take m := by rw [List.take_of_length_le (by omega), List.take_of_length_le (by omega)]
        rw [e1, e2]
        exact h3
  have h3 := h2 q (Nat.le_refl _)
  omega
theorem lost_many : ∀ (m : Nat) (a b v : J) (way : List Tx), SizeOf.sizeOf v ≤ m → WJ a → WJ v → (lostJ a b v way).length ≤ bulkO (objO a)
  | m, a, b, v, way, hm, ha, hv => by
    cases h : isObj v with
    | false => rw [lost_flat a b h]; exact Nat.zero_le _
    | true =>
      rw [obj_of h] at hv hm ⊢
      generalize objO v = o at hv hm
      rw [lost_obj]
      cases m with
      | zero => unfold ofO at hm; rw [J.obj.sizeOf_spec] at hm; omega
      | succ m =>
        have ho := wj_ofO.1 hv
        have hH := WO.of ha
        have h1 := lost_upto (L := objO b) hH ho way o.1.length fun i h1 h2 _ => Nat.le_trans (lost_many m (valO (objO a) o.1[i]) (valO (objO b) o.1[i]) o.2[i] (way ++ [o.1[i]]) (by have := kid_size (at_field ho h1 h2); omega) (hH.val _) (ho.vals _ (List.getElem_mem h2))) (gO_val hH _).1
        have h2 := sum_names (objO a).1 (objO a).2 hH _ (goes_nodup (L := objO b) hH ho o.1.length)
        rw [List.take_of_length_le (by rw [List.length_zip]; omega)] at h1
        rw [List.length_append, List.length_map]
        exact Nat.le_trans h1 h2
/-- .. and what is still to come. -/
theorem lost_room {H L o : Ob} (hH : WO H) (ho : WO o) (way : List Tx) {q : Nat} (hq : q < o.1.length) :
    (goesT H L o).length + (((o.1.zip o.2).take q).flatMap (lostF H L way)).length + bulkO (objO (valO H o.1[q])) ≤ bulkO H := by
  have h1 := lost_upto (L := L) hH ho way q fun i h1 h2 _ => Nat.le_trans (lost_many _ (valO H o.1[i]) (valO L o.1[i]) o.2[i] (way ++ [o.1[i]]) (Nat.le_refl _) (hH.val _) (ho.vals _ (List.getElem_mem h2))) (gO_val hH _).1
  have h2 : ((goesT H L o ++ o.1.take (q + 1)).map (gO H)).sum ≤ bulkO H := sum_names H.1 H.2 hH _ (goes_nodup (L := L) hH ho (q + 1))
  rw [List.take_succ_eq_append_getElem hq, ← List.append_assoc, List.map_append, List.sum_append] at h2
  have h3 := (gO_val hH o.1[q]).1
  simp only [List.map_cons, List.map_nil, List.sum_cons, List.sum_nil] at h2
  omega
def stpQ (H o : Ob) (a : Ob) (n : Tx) (x : J) : Ob := if n ∈ o.1 ∨ n ∈ H.1 then a else setO a n x
def stpR (H L : Ob) (f : J → J → J → J) (a : Ob) (n : Tx) (x : J) : Ob := setO a n (f (valO H n) (valO L n) x)
theorem stp_q (H o : Ob) : Step (fun _ x => WJ x) (stpQ H o) (fun y n x => if n ∈ o.1 ∨ n ∈ H.1 then y else some x) := fun a n x ha hp => by
  unfold stpQ
  by_cases h : n ∈ o.1 ∨ n ∈ H.1
  · rw [if_pos h]
    refine ⟨ha, fun u => ?_⟩
    by_cases e : u = n
    · rw [if_pos e]; exact (if_pos h).symm
    · rw [if_neg e]
  · rw [if_neg h]
    refine ⟨ha.set n hp, fun u => ?_⟩
    rw [get_set ha]
    by_cases e : u = n
    · rw [if_pos e, if_pos e]; exact (if_neg h).symm
    · rw [if_neg e, if_neg e]
theorem stp_r {H L : Ob} (hH : WO H) (hL : WO L) : Step (fun _ x => WJ x) (stpR H L threeJ) (fun _ n x => some (threeJ (valO H n) (valO L n) x)) := fun a n x ha hp => by
  unfold stpR
  refine ⟨ha.set n (threeJ_wj (hH.val n) (hL.val n) hp), fun u => ?_⟩
  rw [get_set ha]
def keptR (H L o : Ob) : Ob := foldO (stpQ H o) (L.1.zip L.2) ([], [])
/-- Both ways are one. -/
theorem three_ref {a b : J} (ha : WJ a) (hb : WJ b) {o : Ob} (ho : WO o) : foldO (stpR (objO a) (objO b) threeJ) (o.1.zip o.2) (keptR (objO a) (objO b) o) = foldO (stpS (objO a) threeJ) (o.1.zip o.2) (keptT (objO a) (objO b) o) := by
  have hH := WO.of ha
  have hL := WO.of hb
  obtain ⟨w1, g1⟩ := fold_obj (stp_q (objO a) o) hL (fun _ _ hx => hL.get hx) WO.nil
  obtain ⟨w2, g2⟩ := fold_obj (stp_r hH hL) ho (fun _ _ hx => ho.get hx) w1
  obtain ⟨k1, k2⟩ := kept3_get hH hL o
  obtain ⟨w3, g3⟩ := fold_obj (step_three hH) ho (fun _ _ hx => ho.get hx) k1
  refine ob_ext w2 w3 fun u => ?_
  show getO (foldO (stpR (objO a) (objO b) threeJ) (o.1.zip o.2) (foldO (stpQ (objO a) o) ((objO b).1.zip (objO b).2) ([], []))) u = _
  rw [g2 u, g3 u, g1 u, k2 u, get_nil]
  cases hx : getO o u with
  | some x =>
    have hm := some_mem ho hx
    simp only
    have e : (match getO (objO a) u with | none => getO (objO b) u | some _ => if u ∈ o.1 then getO (objO b) u else none) = getO (objO b) u := by
      cases getO (objO a) u with
      | none => rfl
      | some y => simp only; rw [if_pos hm]
    rw [e]
    rfl
  | none =>
    have hm : u ∉ o.1 := fun h => by
      have := (get_mem ho u).2 h
      rw [hx] at this
      cases this
    simp only
    cases hy : getO (objO a) u with
    | none =>
      have hn : u ∉ (objO a).1 := fun h => by
        have := (get_mem hH u).2 h
        rw [hy] at this
        cases this
      cases getO (objO b) u with
      | none => rfl
      | some z => simp only; rw [if_neg (fun h => h.elim hm hn)]
    | some y =>
      have hn := some_mem hH hy
      simp only
      rw [if_neg hm]
      cases getO (objO b) u with
      | none => rfl
      | some z => simp only; rw [if_pos (.inr hn)]
def goesR (H L o : Ob) : List Tx := L.1.filter fun n => !decide (n ∈ o.1) && decide (n ∈ H.1)
theorem rise_ext {ns ms : List Tx} (h1 : Rise ns) (h2 : Rise ms) (h : ∀ u, u ∈ ns ↔ u ∈ ms) : ns = ms := by
  refine (obj_ext ns ms (ns.map fun _ => .null) (ms.map fun _ => .null) h1 h2 (by simp) (by simp) fun u => ?_).1
  have e : ∀ ks : List Tx, Rise ks → getJ ks (ks.map fun _ => J.null) u = if u ∈ ks then some .null else none := fun ks hr => by
    by_cases hm : u ∈ ks
    · rw [if_pos hm, getJ_at hm]
      obtain ⟨h1, _⟩ := (place_mem hr u).1 hm
      rw [List.getElem?_map, List.getElem?_eq_getElem h1]
      rfl
    · rw [if_neg hm, getJ_none hm]
  rw [e ns h1, e ms h2]
  by_cases hm : u ∈ ns
  · rw [if_pos hm, if_pos ((h u).1 hm)]
  · rw [if_neg hm, if_neg (fun h3 => hm ((h u).2 h3))]
theorem goes_eq {H L : Ob} (hH : WO H) (hL : WO L) (o : Ob) : goesR H L o = goesT H L o := by
  refine rise_ext (List.Pairwise.sublist List.filter_sublist hL.rise) (List.Pairwise.sublist List.filter_sublist hH.rise) fun u => ?_
  unfold goesR goesT
  rw [List.mem_filter, List.mem_filter]
  simp only [Bool.and_eq_true, decide_eq_true_eq, Bool.not_eq_true', decide_eq_false_iff_not]
  exact ⟨fun h => ⟨h.2.2, h.1, h.2.1⟩, fun h => ⟨h.2.1, h.2.2, h.1⟩⟩
theorem put_fee {a : Ob} (ha : WO a) (n : Tx) (j : J) : bulkO (setO a n j) ≤ bulkO a + feeB n j := by
  have h1 := (bulk_put ha n j).1
  have h2 := bulk_low (valO a n)
  unfold feeB
  omega
theorem ref3_first {H L : Ob} (hL : WO L) (o : Ob) (q : Nat) :
    WO (foldO (stpQ H o) ((L.1.zip L.2).take q) ([], [])) ∧ bulkO (foldO (stpQ H o) ((L.1.zip L.2).take q) ([], [])) ≤ bulkO L := by
  refine ⟨(fold_ahead (stp_q H o) hL (fun _ _ hx => hL.get hx) WO.nil q).1, ?_⟩
  have key : ∀ (ps : List (Tx × J)) (c : Ob), (∀ p ∈ ps, WJ p.2) → WO c → bulkO (foldO (stpQ H o) ps c) ≤ bulkO c + (ps.map fun p => feeB p.1 p.2).sum := fun ps => by
    induction ps with
    | nil => intro c _ _; simp
    | cons p ps ih =>
      intro c hp hc
      have p2 := hp p (List.mem_cons_self ..)
      have h1 : bulkO (stpQ H o c p.1 p.2) ≤ bulkO c + feeB p.1 p.2 := by
        unfold stpQ
        split
        · omega
        · exact put_fee hc p.1 p.2
      have h2 := ih (stpQ H o c p.1 p.2) (fun q hq => hp q (List.mem_cons_of_mem _ hq)) (stp_q H o c p.1 p.2 hc p2).1
      show bulkO (foldO (stpQ H o) ps (stpQ H o c p.1 p.2)) ≤ _
      rw [List.map_cons, List.sum_cons]
      omega
  have h1 := key ((L.1.zip L.2).take q) ([], []) (fun p hp => hL.vals _ (List.of_mem_zip (List.mem_of_mem_take hp)).2) WO.nil
  have h2 := sum_take_le (fun p : Tx × J => feeB p.1 p.2) (L.1.zip L.2) q
  rw [fee_sum L hL.len] at h2
  have h3 : bulkO ([], []) = 0 := rfl
  omega
theorem val_fee {L : Ob} (n : Tx) : bulkJ (valO L n) ≤ gO L n + 32 := by
  cases h : getO L n with
  | none => rw [val_none h, bulk_null]; omega
  | some y => rw [val_some h, gO_some h]; unfold feeB; omega
theorem ref3_second {H L o : Ob} (hH : WO H) (hL : WO L) (ho : WO o) (q : Nat) :
    WO (foldO (stpR H L threeJ) ((o.1.zip o.2).take q) (keptR H L o)) ∧ bulkO (foldO (stpR H L threeJ) ((o.1.zip o.2).take q) (keptR H L o)) ≤ 2 * bulkO L + bulkO o + 32 * o.1.length := by
  have hk : WO (keptR H L o) ∧ bulkO (keptR H L o) ≤ bulkO L := by
    have h1 := ref3_first (H := H) hL o (L.1.zip L.2).length
    rw [List.take_length] at h1
    exact h1
  refine ⟨(fold_ahead (stp_r hH hL) ho (fun _ _ hx => ho.get hx) hk.1 q).1, ?_⟩
  have key : ∀ (ps : List (Tx × J)) (c : Ob), (∀ p ∈ ps, WJ p.2) → WO c → bulkO (foldO (stpR H L threeJ) ps c) ≤ bulkO c + ((ps.map fun p => feeB p.1 p.2).sum + (ps.map fun p => bulkJ (valO L p.1)).sum) := fun ps => by
    induction ps with
    | nil => intro c _ _; simp
    | cons p ps ih =>
      intro c hp hc
      have p2 := hp p (List.mem_cons_self ..)
      have h1 : bulkO (stpR H L threeJ c p.1 p.2) ≤ bulkO c + feeB p.1 p.2 + bulkJ (valO L p.1) := by
        unfold stpR
        have h3 := put_fee hc p.1 (threeJ (valO H p.1) (valO L p.1) p.2)
        have h4 := threeJ_bulk (hH.val p.1) (hL.val p.1) p2
        unfold feeB at h3 ⊢
        omega
      have h2 := ih (stpR H L threeJ c p.1 p.2) (fun q hq => hp q (List.mem_cons_of_mem _ hq)) (stp_r hH hL c p.1 p.2 hc p2).1
      show bulkO (foldO (stpR H L threeJ) ps (stpR H L threeJ c p.1 p.2)) ≤ _
      rw [List.map_cons, List.sum_cons, List.map_cons, List.sum_cons]
      omega
  have h1 := key ((o.1.zip o.2).take q) (keptR H L o) (fun p hp => ho.vals _ (List.of_mem_zip (List.mem_of_mem_take hp)).2) hk.1
  have h2 := sum_take_le (fun p : Tx × J => feeB p.1 p.2) (o.1.zip o.2) q
  rw [fee_sum o ho.len] at h2
  have h3 := sum_take_le (fun p : Tx × J => bulkJ (valO L p.1)) (o.1.zip o.2) q
  have h5 : ((o.1.zip o.2).map fun p => bulkJ (valO L p.1)).sum = (o.1.map fun n => bulkJ (valO L n)).sum := by
    have h6 := zip_names ho.len
    conv => rhs; rw [← h6, List.map_map]
    rfl
  have h6 : ∀ us : List Tx, (us.map fun n => bulkJ (valO L n)).sum ≤ (us.map (gO L)).sum + 32 * us.length := fun us => by
    induction us with
    | nil => simp
    | cons u r ih =>
      have := val_fee (L := L) u
      simp only [List.map_cons, List.sum_cons, List.length_cons]
      omega
  have h7 := h6 o.1
  have h8 : (o.1.map (gO L)).sum ≤ bulkO L := sum_names L.1 L.2 hL _ (rise_nodup ho.rise)
  have h4 := hk.2
  omega
end Go.Proofs.YtnccefeehkcneaaGreatDoor.Js
