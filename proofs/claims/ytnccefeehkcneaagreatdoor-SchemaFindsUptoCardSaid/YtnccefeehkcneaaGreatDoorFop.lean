/-
  The frame of a law's proof: if the call returns true and nothing that was there has turned, the row's post holds (every kind of argument: each reads again as it read).
  What was handed in, opened: slices, structs, strings, as the walks want them; how much there is of it is at most the bulk.
-/
import Derived.Test.YtnccefeehkcneaaGreatDoorBase
import Derived.Test.YtnccefeehkcneaaGreatDoorRows
import Derived.ProofKit
import Derived.JoinedCond
import Derived.OpenShut
import Derived.Deep.Slices
import Derived.Deep.Fields
import Derived.Lib.SmallJoins
namespace Go.Proofs.YtnccefeehkcneaaGreatDoor.Fr
open Go Go.ChangeShapes Go.WideShapes Go.ChangeAt Go.RowKit
theorem own : ownKnob Tryz.prog.godebug = none := by kernel_rfl
theorem laidOut : laidOutB Tryz.prog = true := by kernel_rfl
section
variable {H : Type} {enc : TypeId × Value → H} {P : Program}
theorem trodAll_below {W W' : World} (hl : laidOutB P = true) (hb : Below W.heap.size W W') {sp : Nat → Bool} : ∀ (ts : List TypeId) (vs : List Value) (ds : List (DataW H)) (ps : List MemPlace),
    (ts.all fun t => P.readableRec t && decide (t < P.types.size)) = true → DataW.TrodAll enc P W 0 (fun _ => true) true ts vs ds ps → (∀ p ∈ ps, p.block < W.heap.size) → (∀ p ∈ ps, sp p.block = true) →
    DataW.TrodAll enc P W' 0 sp true ts vs ds ps
  | [], [], [], ps, _, h, _, _ => h
  | t :: ts, v :: vs, d :: ds, ps, hr, h, hlt, hsp => by
    obtain ⟨p, q, h1, h2, rfl⟩ := h
    simp only [List.all_cons, Bool.and_eq_true, decide_eq_true_eq] at hr
    refine ⟨p, q, WideElems.Trod_stays hl hr.1.1 hr.1.2 h1 (fun x hx => hb.same (hlt x (List.mem_append_left _ hx))) (fun x hx => hsp x (List.mem_append_left _ hx)), ?_, rfl⟩
    exact trodAll_below hl hb ts vs ds q hr.2 h2 (fun x hx => hlt x (List.mem_append_right _ hx)) (fun x hx => hsp x (List.mem_append_right _ hx))
  | [], [], _ :: _, _, _, h, _, _ => h.elim
  | [], _ :: _, [], _, _, h, _, _ => h.elim
  | [], _ :: _, _ :: _, _, _, h, _, _ => h.elim
  | _ :: _, [], [], _, _, h, _, _ => h.elim
  | _ :: _, [], _ :: _, _, _, h, _, _ => h.elim
  | _ :: _, _ :: _, [], _, _, h, _, _ => h.elim
theorem post_law {f : Func} {s : ChangeSpec} {apart fresh handsOn again : Bool} {W W' : World} {args : Array Value} {ds gs : List (DataW H)} {before : List MemPlace} {tb : TypeId}
    (hl : laidOutB P = true) (hr : (f.params.toList.all fun t => P.readableRec t && decide (t < P.types.size)) = true) (hres : f.resultTypes = #[tb]) (htb : P.underlying tb = some .bool)
    (hvars : s.vars = []) (hs : s.fn H ds = { results := [.lit (.bool true)], args := ds })
    (hW : DataW.Whole enc P f.params.toList s.vars apart W args.toList ds gs before) (hb : Below W.heap.size W W') :
    s.post enc P f apart fresh handsOn again W args (.bool true) W' := by
  have hlt : ∀ p ∈ before, p.block < W.heap.size := fun p hp => hW.lt p hp
  have hW0 := hW
  obtain ⟨p, q, hA, hV, rfl, hfz, hnd⟩ := hW
  rw [hvars] at hV
  obtain ⟨rfl, rfl⟩ := trodVars_none hV
  simp only [List.append_nil] at *
  have hargs : ∀ sp : Nat → Bool, (∀ x ∈ p, sp x.block = true) → DataW.TrodAll enc P W' 0 sp true f.params.toList args.toList ds p := fun sp hsp =>
    trodAll_below hl hb _ _ _ _ hr hA hlt hsp
  have hold : ∀ x ∈ p, (fun b => decide (b < W.heap.size)) x.block = true := fun x hx => by simpa using hlt x hx
  have hresd : ∀ (b : Nat) (sp : Nat → Bool) (hd : Bool), DataW.TrodAll enc P W' b sp hd f.resultTypes.toList ((Value.bool true).resultList f.resultTypes.size) [.lit (.bool true)] [] := fun b sp hd => by
    rw [hres]
    exact trodAll_mk1 (shut_bool htb _)
  refine ⟨ds, [], p, [], p, [], hW0, ?_, ?_, ?_, World.keptBut_mono (fun x hx => ⟨hx, Or.inr ?_⟩) (hb.frame (· ∈ p)), fun _ => ?_⟩
  · rw [List.append_nil, hs]; exact hresd _ _ _
  · rw [List.append_nil, hs]; exact hargs _ hold
  · rw [List.append_nil, hs, hvars]; rfl
  · simpa using hx
  · refine ⟨?_, _, [], ([] ++ p) ++ [], ⟨[] ++ p, [], trodAll_append (hargs _ (fun _ _ => rfl)) (hresd _ _ _), by rw [hvars]; rfl, rfl, ?_, ?_⟩, ?_⟩
    · exact ok_one (t := tb) hres rfl (okWide_bool_mk htb _)
    · intro b off hp
      have hin : MemPlace.cell b off ∈ p := by simpa using hp
      rw [hb.frozen (hlt _ hin)]
      exact hfz b off hin
    · intro ha
      simpa using hnd ha
    · intro x hx _
      simpa using hx
end
end Go.Proofs.YtnccefeehkcneaaGreatDoor.Fr
namespace Go.Proofs.YtnccefeehkcneaaGreatDoor.Op
open Go Go.ChangeShapes Go.WideShapes Go.ChangeAt Go.RowKit Go.Deep Go.Proofs.YtnccefeehkcneaaGreatDoor.Sx
theorem one_le {H : Type} (d : DataW H) : 1 ≤ Rows.uptoBulk d := by
  cases d with
  | lit l => cases l <;> simp [Rows.uptoBulk]
  | nil => simp [Rows.uptoBulk]
  | ptr d => simp [Rows.uptoBulk]
  | slice elems spare => simp [Rows.uptoBulk]
  | agg parts => simp [Rows.uptoBulk]
  | iface t d => simp [Rows.uptoBulk]
  | map entries => simp [Rows.uptoBulk]
  | held h => simp [Rows.uptoBulk]
theorem length_le {H : Type} (l : List (DataW H)) : l.length ≤ Rows.uptoBulkAll l := by
  induction l with
  | nil => simp [Rows.uptoBulkAll]
  | cons x r ih => have := one_le x; simp only [Rows.uptoBulkAll, List.length_cons]; omega
theorem part_le {H : Type} {d : DataW H} {l : List (DataW H)} (h : d ∈ l) : Rows.uptoBulk d ≤ Rows.uptoBulkAll l := by
  induction l with
  | nil => cases h
  | cons x r ih =>
    simp only [Rows.uptoBulkAll]
    cases List.mem_cons.1 h with
    | inl e => subst e; omega
    | inr e => have := ih e; omega
theorem bulk_bound {H : Type} {l : List (DataW H)} (hk : Rows.uptoSmall H l = true) : Rows.uptoBulkAll l ≤ 1048576 := of_decide_eq_true hk
section
variable {H : Type} {enc : TypeId × Value → H} {P : Program} {W : World}
theorem string_open {t : TypeId} {fuel : Nat} {cs : List Value} {d : DataW H} {ps : List MemPlace} (ht : P.underlying t = some .string) (h : DataW.trod enc P W 0 (fun _ => true) true fuel t cs = some (d, ps)) :
    ∃ s : ByteArray, cs = [.string s] ∧ Rows.uptoBulk d = s.size + 1 := by
  obtain ⟨s, rfl, hx, _⟩ := DataW.trod_string ht h
  injection hx with h1 _
  subst h1
  refine ⟨s, rfl, ?_⟩
  simp [Rows.uptoBulk]
theorem bool_open {t : TypeId} {fuel : Nat} {cs : List Value} {d : DataW H} {ps : List MemPlace} (ht : P.underlying t = some .bool) (h : DataW.trod enc P W 0 (fun _ => true) true fuel t cs = some (d, ps)) :
    ∃ b : Bool, cs = [.bool b] := by
  obtain ⟨b, rfl, _⟩ := DataW.trod_bool ht h
  exact ⟨b, rfl⟩
theorem struct_open {t : TypeId} {fs : Array Field} {fuel : Nat} {cs : List Value} {d : DataW H} {ps : List MemPlace} (ht : P.underlying t = some (.struct fs)) (hone : oneCellFields P fs = true) (hC : P.cellsOf t = fs.size)
    (h : DataW.trod enc P W 0 (fun _ => true) true fuel t cs = some (d, ps)) :
    ∃ (ys : List (DataW H × List MemPlace)) (n : Nat), d = .agg (ys.map (·.1)) ∧ ys.length = fs.size ∧ cs.length = fs.size ∧
      ∀ (j : Nat) (f : Field), fs[j]? = some f → ∃ (v : Value) (y : DataW H × List MemPlace), cs[j]? = some v ∧ ys[j]? = some y ∧ DataW.trod enc P W 0 (fun _ => true) true n f.type [v] = some y := by
  obtain ⟨ys, n, _, hy, hlen, hyl, hf⟩ := DataW.trod_struct ht h
  simp only [Prod.mk.injEq] at hy
  rw [hC] at hlen
  refine ⟨ys, n, hy.1, hyl, hlen, fun j f hj => ?_⟩
  obtain ⟨ho, hk⟩ := hone_of hone j f hj
  have hjl : j < fs.size := (Array.getElem?_eq_some_iff.1 hj).1
  have hv : cs[j]? = some (cs[j]'(by omega)) := List.getElem?_eq_getElem (by omega)
  have h1 := hf j f hj
  rw [ho, hk] at h1
  have hone' : (cs.drop j).take 1 = [cs[j]'(by omega)] := by
    rw [List.drop_eq_getElem_cons (by omega)]
    rfl
  rw [hone'] at h1
  have hys : ys[j]? = some (ys[j]'(by omega)) := List.getElem?_eq_getElem (by omega)
  exact ⟨_, _, hv, hys, h1.trans hys⟩
theorem add_plain (b o n : Nat) : (⟨b, o, none⟩ : Addr).add n = ⟨b, o + n, none⟩ := by
  unfold Addr.add
  split
  · subst_vars; rfl
  · rfl
theorem spot_none {w : World} {a : Addr} {v : Value} (h : w.cell? a = some v) : a.spot = none := by
  unfold World.cell? at h
  split at h
  · split at h
    · cases h
    · rename_i hs; simpa using hs
  · cases h
theorem cell_block_lt {w : World} {a : Addr} {v : Value} (h : w.cell? a = some v) : a.block < w.heap.size := by
  rcases Nat.lt_or_ge a.block w.heap.size with h1 | h1
  · exact h1
  · unfold World.cell? at h
    rw [Array.getElem?_eq_none h1] at h
    cases h
theorem sum_range {H : Type} {α : Type} (D : Nat → DataW H) (xs : List α) (f : α → Nat) (hx : ∀ i (h : i < xs.length), f xs[i] + 1 ≤ Rows.uptoBulk (D i)) :
    (xs.map f).sum + xs.length ≤ Rows.uptoBulkAll ((List.range xs.length).map D) := by
  induction xs generalizing D with
  | nil => simp [Rows.uptoBulkAll]
  | cons x l ih =>
    have h0 := hx 0 (by simp)
    have h1 := ih (fun i => D (i + 1)) (fun i hi => hx (i + 1) (Nat.succ_lt_succ hi))
    have e : (List.range (x :: l).length).map D = D 0 :: (List.range l.length).map (fun i => D (i + 1)) := by
      rw [List.length_cons, List.range_succ_eq_map, List.map_cons, List.map_map]
      rfl
    rw [e]
    simp only [Rows.uptoBulkAll, List.map_cons, List.sum_cons, List.length_cons] at *
    simp at h0
    omega
/-- A slice that came in reads as a list; its elements, each weighed by f, weigh at most the slice's bulk. -/
theorem slice_open {α : Type} {t e : TypeId} {sz fuel : Nat} {R : World → List Value → α → Prop} (f : α → Nat) (ht : P.underlying t = some (.slice e)) (hC : P.cellsOf e = sz) (hsz : 0 < sz)
    (hel : ∀ n cs d ps, DataW.trod enc P W 0 (fun _ => true) true n e cs = some (d, ps) → cs.length = sz → Rows.uptoBulk d ≤ 1048576 → ∃ x, R W cs x ∧ f x + 1 ≤ Rows.uptoBulk d)
    {cs : List Value} {d : DataW H} {ps : List MemPlace} (h : DataW.trod enc P W 0 (fun _ => true) true fuel t cs = some (d, ps)) (hb : Rows.uptoBulk d ≤ 1048576) :
    ∃ v xs, cs = [v] ∧ SlAt R sz W.heap.size W v xs ∧ (xs.map f).sum + xs.length + 1 ≤ Rows.uptoBulk d := by
  rcases open_slice ht h with ⟨rfl, hx⟩ | ⟨a, len, cap, m, n, D, Pl, rfl, _, hl, _, hm, hx, hi⟩
  · simp only [Prod.mk.injEq] at hx
    rw [hx.1]
    refine ⟨_, [], rfl, ⟨by simp, none, 0, rfl, Nat.le_refl _, by omega, fun i hi => by simp at hi⟩, by simp [Rows.uptoBulk]⟩
  · simp only [if_true] at hm
    subst hm
    simp only [Prod.mk.injEq] at hx
    obtain ⟨rfl, _⟩ := hx
    have hbb : Rows.uptoBulkAll ((List.range len).map D) + Rows.uptoBulkAll ((List.range (m - len)).map fun j => D (len + j)) + 1 ≤ 1048576 := by simpa [Rows.uptoBulk] using hb
    have hlen1 := length_le ((List.range len).map D)
    have hlen2 := length_le ((List.range (m - len)).map fun j => D (len + j))
    simp only [List.length_map, List.length_range] at hlen1 hlen2
    have hex : ∀ i : Fin len, ∃ x, ∃ cs', W.cells? 0 (a.add (i.1 * P.cellsOf e)) (P.cellsOf e) = some cs' ∧ R W cs' x ∧ f x + 1 ≤ Rows.uptoBulk (D i.1) := fun i => by
      obtain ⟨cs', hc, ht'⟩ := hi i.1 (by have := i.2; omega)
      have hcl := (World.cells?_some hc).2.1
      have hpl : Rows.uptoBulk (D i.1) ≤ Rows.uptoBulkAll ((List.range len).map D) := part_le (List.mem_map.2 ⟨i.1, List.mem_range.2 i.2, rfl⟩)
      obtain ⟨x, hx1, hx2⟩ := hel n cs' _ _ ht' (by rw [hcl, hC]) (by omega)
      exact ⟨x, cs', hc, hx1, hx2⟩
    have hex' : ∃ g : Fin len → α, ∀ i : Fin len, ∃ cs', W.cells? 0 (a.add (i.1 * P.cellsOf e)) (P.cellsOf e) = some cs' ∧ R W cs' (g i) ∧ f (g i) + 1 ≤ Rows.uptoBulk (D i.1) :=
      ⟨fun i => (hex i).choose, fun i => (hex i).choose_spec⟩
    obtain ⟨g, hg⟩ := hex'
    have hln : (List.ofFn g).length = len := by simp
    refine ⟨_, List.ofFn g, rfl, ⟨by rw [hln]; omega, some a, m, by rw [hln], by rw [hln]; omega, by omega, fun i hi' => ?_⟩, ?_⟩
    · have hil : i < len := by rw [hln] at hi'; exact hi'
      obtain ⟨cs', hc, hr, _⟩ := hg ⟨i, hil⟩
      obtain ⟨_, hcl, hat⟩ := World.cells?_some hc
      rw [hC] at hcl hat
      have h0 := hat 0 (by omega)
      rw [List.getElem?_eq_getElem (by omega), add_of_add, Nat.add_zero] at h0
      have hsp : a.spot = none := by
        unfold Addr.add at h0
        split at h0
        · exact spot_none h0
        · rename_i hne
          have h1 := hg ⟨0, by omega⟩
          obtain ⟨cs0, hc0, _⟩ := h1
          obtain ⟨_, hcl0, hat0⟩ := World.cells?_some hc0
          rw [hC] at hcl0 hat0
          have h2 := hat0 0 (by omega)
          rw [List.getElem?_eq_getElem (by omega)] at h2
          simp [Addr.add] at h2
          exact spot_none h2
      obtain ⟨ab, ao, asp⟩ := a
      simp only at hsp
      subst hsp
      rw [add_plain] at h0
      refine ⟨ab, ao, cs', rfl, ?_, hcl, by simpa using hr, fun j u hu => ?_⟩
      · have hlt := cell_block_lt h0
        exact hlt
      · have hj : j < sz := by
          rcases Nat.lt_or_ge j sz with h1 | h1
          · exact h1
          · rw [List.getElem?_eq_none (by omega)] at hu; cases hu
        have h1 := hat j hj
        rw [add_plain, add_plain, hu] at h1
        exact h1
    · have hs := sum_range D (List.ofFn g) f (fun i hi' => by
        have hil : i < len := by rw [hln] at hi'; exact hi'
        obtain ⟨_, _, _, h3⟩ := hg ⟨i, hil⟩
        simpa using h3)
      rw [hln] at hs
      rw [hln]
      simp only [Rows.uptoBulk]
      omega
end
end Go.Proofs.YtnccefeehkcneaaGreatDoor.Op
