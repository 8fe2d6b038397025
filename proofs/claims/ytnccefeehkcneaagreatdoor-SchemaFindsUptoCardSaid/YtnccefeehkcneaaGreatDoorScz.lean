/-
  Schemas, the program's look: an object.
  Schemas, the program's look: a value.
-/
import Derived.Test.YtnccefeehkcneaaGreatDoorScy
import Derived.Test.YtnccefeehkcneaaGreatDoorOfg
import Derived.Test.YtnccefeehkcneaaGreatDoorDit
import Derived.Deep.DeepCutAuto
namespace Go.Proofs.YtnccefeehkcneaaGreatDoor.Sc
open Go Go.RowKit Go.Proofs.YtnccefeehkcneaaGreatDoor.Js Go.Proofs.YtnccefeehkcneaaGreatDoor.Sx Go.Proofs.YtnccefeehkcneaaGreatDoor.Pt Go.Proofs.YtnccefeehkcneaaGreatDoor.Jm Go.Proofs.YtnccefeehkcneaaGreatDoor.Gr Go.Proofs.YtnccefeehkcneaaGreatDoor.Ur
/-- What the look stands on: the parts, a schema. -/
structure PHyp (s : List PartS) (sv : Value) (w0 : World) : Prop where
  parts : PartsR w0.heap.size w0 sv s
  good : GoodS s
  few : s.length ≤ 30
  max : MaxC w0
  tab : Tab10 w0
def LookC (v : J) : Prop := ∀ (s : List PartS) (k i : Nat) (sv u : Value) (w0 w : World) (fs : List (ByteArray × Int)) (A : Option Addr) (c : Nat) (ws : List ByteArray),
  PHyp s sv w0 → w0.heap.size = k → LookI k sv w0 w fs → i < s.length → PV (LookF k w) w v u → WJ v → WayAt (LookF k w) w A ws → ws.length + bulkJ v ≤ 1000000 → fs.length + bulkJ v ≤ 2900000 → bulkJ v ≤ 1000000 →
  Calls Tryz.prog 27 #[.pointer (some ⟨k, 0, none⟩), .int .i64 (i : Int), u, .slice A ws.length c] w (LookPost k sv w0 w (fs ++ faultsS s v i ws))
theorem has_names {ns : List Tx} {t : ByteArray} : hasS (ns.map bx) t = true ↔ t.data.toList ∈ ns := by
  rw [hasS_iff, List.mem_map]
  constructor
  · rintro ⟨n, hn, rfl⟩
    exact hn
  · intro h
    exact ⟨_, h, of_bx t⟩
def needE (ns : List Tx) (way : List ByteArray) (t : ByteArray) : List (ByteArray × Int) := if hasS (ns.map bx) t = true then [] else [(joinV (way ++ [t]), 7)]
def unkE (p : PartS) (way : List ByteArray) (n : Tx) : List (ByteArray × Int) := if (partOf p.fields (bx n)).isSome = true ∨ p.extra = true then [] else [(joinV (way ++ [bx n]), 6)]
theorem needF_eq (p : PartS) (ns : List Tx) (way : List ByteArray) : needF p ns way = p.need.flatMap (needE ns way) := rfl
theorem unkF_eq (p : PartS) (ns : List Tx) (way : List ByteArray) : unkF p ns way = ns.flatMap (unkE p way) := rfl
theorem flat_many {α β : Type} (f : α → List β) (h : ∀ x, (f x).length ≤ 1) : ∀ l : List α, (l.flatMap f).length ≤ l.length
  | [] => by simp
  | x :: r => by
    rw [List.flatMap_cons, List.length_append, List.length_cons]
    have := h x
    have := flat_many f h r
    omega
theorem flat_take {α β : Type} (f : α → List β) (l : List α) (j : Nat) (h : j < l.length) : (l.take (j + 1)).flatMap f = (l.take j).flatMap f ++ f l[j] := by
  rw [List.take_succ_eq_append_getElem h, List.flatMap_append]
  simp
theorem NamesAt.trn {Fp : World → Nat → Prop} {w w' : World} {A : Option Addr} {ns : List Tx} (h : Trn Fp w w') (hp : NamesAt (Fp w) w A ns) : NamesAt (Fp w') w' A ns := hp.keep (fun b hb hlt => (h.2 b hlt hb).1) (fun b hb hlt => (h.2 b hlt hb).2)
theorem objW_few {F : J → Nat → List ByteArray → List (ByteArray × Int)} (fs : List (ByteArray × Int)) (way : List ByteArray) : ∀ ps : List (Tx × J), (∀ p ∈ ps, ∀ q w, (F p.2 q w).length ≤ bulkJ p.2) → (objW F fs way ps).length ≤ (ps.map fun x => bulkJ x.2 + 1).sum
  | [], _ => by simp [objW]
  | x :: r, h => by
    rw [objW, List.length_append, List.map_cons, List.sum_cons]
    have h2 := objW_few (F := F) fs way r fun y hy => h y (List.mem_cons_of_mem _ hy)
    cases partOf fs (bx x.1) with
    | none => simp only [List.length_nil]; omega
    | some q => have := h x (List.mem_cons_self ..) q.toNat (way ++ [bx x.1]); simp only; omega
set_option maxRecDepth 100000 in
set_option maxHeartbeats 16000000 in
theorem object_core (o : Ob) (hO : WO o) (ih : ∀ x ∈ o.2, LookC x) (s : List PartS) (k : Nat) (sv : Value) (w0 w : World) (fs : List (ByteArray × Int)) (p : PartS) (v1 v2 v3 : Value) (bo : Nat) (A : Option Addr) (c : Nat) (ws : List ByteArray)
    (hh : PHyp s sv w0) (hk : w0.heap.size = k) (hi : LookI k sv w0 w fs) (hp1 : FldsR w0.heap.size w0 v1 p.fields) (hp2 : StrsR w0.heap.size w0 v2 p.need) (hpf : ∀ t q, partOf p.fields t = some q → ∃ i : Nat, q = (i : Int) ∧ i < s.length) (hpn : p.need.length ≤ 8) (hgn : ∀ k, (partAt s k).need.length ≤ 8)
    (ho : OF (LookF k w) w bo o) (hw : WayAt (LookF k w) w A ws) (hl : ws.length + 1 + bulkO o ≤ 1000000) (hf : fs.length + 8 + o.1.length + sumB o.2 ≤ 2900000) (hb : bulkO o ≤ 1000000) :
    Calls Tryz.prog 76 #[.pointer (some ⟨k, 0, none⟩), .agg #[.int .i64 p.kind, v1, v2, .bool p.extra, .int .i64 p.items, .int .i64 p.least, .int .i64 p.most, v3, .string p.dflt], .pointer (some ⟨bo, 0, none⟩), .slice A ws.length c] w
      (LookPost k sv w0 w (fs ++ (needF p o.1 ws ++ unkF p o.1 ws ++ objW (fun x q w => faultsS s x q w) p.fields ws (o.1.zip o.2)))) := by
  obtain ⟨g, hg⟩ : ∃ g, g = w.heap.size := ⟨_, rfl⟩
  obtain ⟨A1, c1, rfl⟩ := hp1.slice
  obtain ⟨A2, c2, rfl⟩ := StrsR.slice' hp2
  obtain ⟨NF, hNF⟩ : ∃ n, n = p.fields.length := ⟨_, rfl⟩
  obtain ⟨NN, hNN⟩ : ∃ n, n = p.need.length := ⟨_, rfl⟩
  obtain ⟨NO, hNO⟩ : ∃ n, n = o.1.length := ⟨_, rfl⟩
  obtain ⟨NW, hNW⟩ : ∃ n, n = ws.length := ⟨_, rfl⟩
  have hol := hO.len
  have hlo := len_bulkO o
  have hNNs : NN ≤ 8 := by omega
  have hNOs : NO ≤ 1000000 := by omega
  have hNWs : NW ≤ 1000000 := by omega
  obtain ⟨w1, hw1⟩ : ∃ w1, w1 = w.alloc (.cells #[.int .i64 p.kind, .slice A1 NF c1, .slice A2 NN c2, .bool p.extra, .int .i64 p.items, .int .i64 p.least, .int .i64 p.most, v3, .string p.dflt] partT (0, 0)) := ⟨_, rfl⟩
  have HX1 : Hid (Ext w w1) := by rw [hw1]; exact new_ext _ _
  have HI1 := Lib.hid (hi.ext HX1.out)
  have HT1 := Lib.hid (hi.turn HX1.out)
  have HB1 : Hid (PBox w1 g p (.slice A1 NF c1) (.slice A2 NN c2) v3) := by rw [hw1]; exact heap_new hg
  have HG1 : Hid (LookF k w1 g) := by unfold Hid; rw [HI1.out.2]; exact hi.new (by omega)
  have HW1 := Lib.hid (HT1.out.way hw)
  have HO1 := Lib.hid (HT1.out.of ho)
  have HK := Lib.hid hk
  have HHH := Lib.hid hh
  have HWO := Lib.hid hO
  have HSZ : Hid (∀ x ∈ ws, x.size ≤ 1048576) := hw.sizes
  rw [← hNF] at hp1 ⊢
  rw [← hNN] at hp2 ⊢
  rw [← hNW]
  have HP1 : Hid (FldsR w0.heap.size w0 (.slice A1 NF c1) p.fields) := hp1
  have HP2 : Hid (StrsR w0.heap.size w0 (.slice A2 NN c2) p.need) := hp2
  have HNN : Hid (NN = p.need.length ∧ NO = o.1.length ∧ NO = o.2.length ∧ NW = ws.length) := ⟨hNN, hNO, by omega, hNW⟩
  obtain ⟨NE, hNE⟩ : ∃ NE : Nat → List (ByteArray × Int), ∀ j, NE j = fs ++ (p.need.take j).flatMap (needE o.1 ws) := ⟨_, fun _ => rfl⟩
  obtain ⟨UN, hUN⟩ : ∃ UN : Nat → List (ByteArray × Int), ∀ j, UN j = fs ++ needF p o.1 ws ++ (o.1.take j).flatMap (unkE p ws) := ⟨_, fun _ => rfl⟩
  obtain ⟨OB, hOB⟩ : ∃ OB : Nat → List (ByteArray × Int), ∀ j, OB j = fs ++ needF p o.1 ws ++ unkF p o.1 ws ++ objW (fun x q w => faultsS s x q w) p.fields ws ((o.1.zip o.2).take j) := ⟨_, fun _ => rfl⟩
  have hneS : ∀ t, (needE o.1 ws t).length ≤ 1 := fun t => by unfold needE; split <;> simp
  have hunS : ∀ t, (unkE p ws t).length ≤ 1 := fun t => by unfold unkE; split <;> simp
  have HNE : Hid (NE 0 = fs ∧ (∀ j (h : j < p.need.length), NE (j + 1) = NE j ++ needE o.1 ws p.need[j]) ∧ (∀ j, (NE j).length ≤ 2900000) ∧ ∀ j, j = p.need.length → NE j = UN 0) := by
    refine ⟨by rw [hNE]; simp, fun j h => by rw [hNE, hNE, flat_take _ _ _ h, List.append_assoc], fun j => ?_, fun j h => ?_⟩
    · rw [hNE, List.length_append]
      have h1 := flat_many _ hneS (p.need.take j)
      rw [List.length_take] at h1
      omega
    · rw [hNE, hUN, h, List.take_length, needF_eq]
      simp
  have HUN : Hid ((∀ j (h : j < o.1.length), UN (j + 1) = UN j ++ unkE p ws o.1[j]) ∧ (∀ j, (UN j).length ≤ 2900000) ∧ ∀ j, j = o.1.length → UN j = OB 0) := by
    refine ⟨fun j h => by rw [hUN, hUN, flat_take _ _ _ h]; simp only [List.append_assoc], fun j => ?_, fun j h => ?_⟩
    · rw [hUN, List.length_append, List.length_append]
      have h1 := flat_many _ hunS (o.1.take j)
      have h2 := needF_many p o.1 ws
      rw [List.length_take] at h1
      omega
    · rw [hUN, hOB, h, List.take_length, unkF_eq]
      simp [objW]
  have HOB : Hid ((∀ j (h1 : j < o.1.length) (h2 : j < o.2.length), OB (j + 1) = OB j ++ (match partOf p.fields (bx o.1[j]) with | none => [] | some q => faultsS s o.2[j] q.toNat (ws ++ [bx o.1[j]])) ∧ (OB j).length + bulkJ o.2[j] ≤ 2900000) ∧ ∀ j, j = o.1.length → OB j = fs ++ (needF p o.1 ws ++ unkF p o.1 ws ++ objW (fun x q w => faultsS s x q w) p.fields ws (o.1.zip o.2))) := by
    refine ⟨fun j h1 h2 => ⟨?_, ?_⟩, fun j h => ?_⟩
    · have hz : j < (o.1.zip o.2).length := by rw [List.length_zip]; omega
      rw [hOB, hOB, List.take_succ_eq_append_getElem hz, objW_snoc, List.getElem_zip]
      simp only [List.append_assoc]
      rfl
    · rw [hOB, List.length_append, List.length_append, List.length_append]
      have h3 := needF_many p o.1 ws
      have h4 := unkF_many p o.1 ws
      have h5 := objW_few (F := fun x q w => faultsS s x q w) p.fields ws ((o.1.zip o.2).take j) fun x hx q w => faults_many hgn x.2 (hO.vals x.2 (List.of_mem_zip (List.mem_of_mem_take hx)).2) q w
      have h6 : (((o.1.zip o.2).take j).map fun x => bulkJ x.2 + 1).sum + bulkJ o.2[j] + 1 ≤ sumB o.2 := by
        have hz : j < (o.1.zip o.2).length := by rw [List.length_zip]; omega
        have h7 := sum_take_le (fun x : Tx × J => bulkJ x.2 + 1) (o.1.zip o.2) (j + 1)
        rw [List.take_succ_eq_append_getElem hz, List.map_append, List.sum_append, List.getElem_zip] at h7
        have h8 : ((o.1.zip o.2).map fun x => bulkJ x.2 + 1).sum = sumB o.2 := by
          have e : (o.1.zip o.2).map Prod.snd = o.2 := List.map_snd_zip (by omega)
          unfold sumB
          conv => rhs; rw [← e, List.map_map]
          rfl
        rw [h8] at h7
        simp only [List.map_cons, List.map_nil, List.sum_cons, List.sum_nil] at h7
        omega
      omega
    · rw [hOB, List.take_of_length_le (by rw [List.length_zip]; omega)]
      simp only [List.append_assoc]
  have CG : Hid (∀ (W : World) (l : List (ByteArray × Int)) (t : Tx), Trn (LookF k) w1 W → Calls Tryz.prog 34 #[.pointer (some ⟨bo, 0, none⟩), .string (bx t)] W fun e w' => ∃ u, e = .returned (.tuple #[u, .bool (getO o t).isSome]) ∧ PV (LookF k W) W (valO o t) u ∧ W = w') := fun W l t hW =>
    getF_any (LookF k W) bo o t W (hW.of HO1.out) hO (by omega)
  have CS : Hid (∀ (W : World) (t : ByteArray), Trn (LookF k) w1 W → t.size ≤ 1048576 → Calls Tryz.prog 74 #[.slice A NW c, .string t] W fun e w' => ∃ A' c', e = .returned (.slice A' (NW + 1) c') ∧ WayAt (fun b => W.heap.size ≤ b) w' A' (ws ++ [t]) ∧ Ext W w') := fun W t hW ht => by
    rw [hNW]
    exact step_any A c ws t W ((hW.way HW1.out).keep (fun _ _ _ => rfl) (fun _ _ _ => trivial)) (by omega) ht
  have CF : Hid (∀ (W : World) (l : List (ByteArray × Int)) (A' : Option Addr) (c' : Nat) (t : ByteArray) (er : Int) (F : Nat → Prop), LookI k sv w0 W l → WayAt F W A' (ws ++ [t]) → l.length ≤ 2900000 → Calls Tryz.prog 69 #[.pointer (some ⟨k, 0, none⟩), .slice A' (NW + 1) c', .int .i64 er] W (LookPost k sv w0 W (l ++ [(joinV (ws ++ [t]), er)]))) := fun W l A' c' t er F h1 h2 h3 => by
    have h := fault_any k sv w0 W l HK.out HHH.out.max h1 A' c' (ws ++ [t]) (h2.keep (fun _ _ _ => rfl) (fun _ _ _ => trivial)) (by rw [List.length_append]; simp; omega) (by omega) er
    rw [List.length_append, ← hNW] at h
    exact h
  have CP : Hid (∀ (W : World) (t : ByteArray), Ext w0 W → Calls Tryz.prog 42 #[.agg #[.int .i64 p.kind, .slice A1 NF c1, .slice A2 NN c2, .bool p.extra, .int .i64 p.items, .int .i64 p.least, .int .i64 p.most, v3, .string p.dflt], .string t] W fun e w' => e = .returned (.tuple #[.int .i64 ((partOf p.fields t).getD 0), .bool (partOf p.fields t).isSome]) ∧ Ext W w') := fun W t hW =>
    field_any w0.heap.size p (.slice A1 NF c1) (.slice A2 NN c2) v3 t W hW.size (HP1.out.below hW)
  have CN : Hid (∀ (W : World), Trn (LookF k) w1 W → Calls Tryz.prog 41 #[.pointer (some ⟨bo, 0, none⟩)] W fun e w' => ∃ A c, e = .returned (.slice A NO c) ∧ NO ≤ c ∧ NamesAt (LookF k W) W A o.1 ∧ W = w') := fun W hW => by
    rw [hNO]
    exact namesF_any (LookF k W) bo o W (hW.of HO1.out)
  have CV : Hid (∀ j (h1 : j < o.1.length) (h2 : j < o.2.length) (q : Int) (W : World) (A' : Option Addr) (c' : Nat) (u : Value), partOf p.fields (bx o.1[j]) = some q → LookI k sv w0 W (OB j) → PV (LookF k W) W o.2[j] u → WayAt (LookF k W) W A' (ws ++ [bx o.1[j]]) → Calls Tryz.prog 27 #[.pointer (some ⟨k, 0, none⟩), .int .i64 q, u, .slice A' (NW + 1) c'] W (LookPost k sv w0 W (OB (j + 1)))) := fun j h1 h2 q W A' c' u hq hI hu hw' => by
    obtain ⟨i, rfl, hi'⟩ := hpf _ _ hq
    have hg1 := (HOB.out.1 j h1 h2).1
    have hg2 := (HOB.out.1 j h1 h2).2
    rw [hq] at hg1
    have hbj := bulk_get (at_field hO h1 h2)
    have h := ih o.2[j] (List.getElem_mem h2) s k i sv u w0 W (OB j) A' c' (ws ++ [bx o.1[j]]) HHH.out HK.out hI hi' hu (hO.vals _ (List.getElem_mem h2)) hw' (by rw [List.length_append]; simp only [List.length_cons, List.length_nil]; omega) hg2 (by omega)
    rw [List.length_append, ← hNW] at h
    rw [hg1]
    exact h
  have HNL : Hid (∀ j (h1 : j < o.1.length), (bx o.1[j]).size ≤ 1048576) := fun j h1 => by
    rw [bx_size]
    have := names_long o o.1[j] (List.getElem_mem h1)
    omega
  have HAT : Hid (∀ j (h1 : j < o.1.length) (h2 : j < o.2.length), valO o o.1[j] = o.2[j]) := fun j h1 h2 => val_some (at_field hO h1 h2)
  have HIN : Hid (∀ t : ByteArray, ((getO o t.data.toList).isSome = true → needE o.1 ws t = []) ∧ ((getO o t.data.toList).isSome = false → needE o.1 ws t = [(joinV (ws ++ [t]), 7)])) := fun t => by
    have h1 := get_mem hO t.data.toList
    refine ⟨fun h => if_pos (has_names.2 (h1.1 h)), fun h => if_neg fun h2 => ?_⟩
    rw [h1.2 (has_names.1 h2)] at h
    cases h
  clear ih hh hk hi hp1 hp2 hpf hpn hgn ho hw hl hf hb hNF hNN hNO hNW hol hlo hNE hUN hOB hneS hunS hO
  obtain ⟨-, -, a2, -, -, -, -, -, -⟩ := HB1.out.at
  go_enter Tryz.func76, Tryz.ntmps76
  go_upto_region 1 with (fail)
  rw [← hw1, ← hg]
  clear hw1 hg
  go_wp2_with fail
  clear a2
  go_loopw [25] (fun ix wr => ∃ j : Nat, j ≤ NN ∧ ix = .int .i64 (j : Int) ∧ Hid (Trn (LookF k) w1 wr ∧ LookI k sv w0 wr (NE j))) (fun ix _ => NN - (intOf ix).toNat)
  case atStart => exact ⟨0, Nat.zero_le _, rfl, Trn.refl, by rw [HNE.out.1]; exact HI1.out.1⟩
  case round =>
    obtain ⟨j, hj, rfl, hR⟩ := hrel
    by_cases hlt : j < NN
    · have hjl : j < p.need.length := by rw [← HNN.out.1]; exact hlt
      obtain ⟨b, off, c9, hv9, hbB, hcl⟩ := (HP2.out.below hR.out.2.1 (Nat.le_refl _)).cells (by omega)
      injection hv9 with e1 e2 e3
      clear e2
      subst e1 e3
      have c0 := (hcl j hjl).1
      have HTZ : Hid (p.need[j].size ≤ 1048576) := (hcl j hjl).2
      have hltI : (j : Int) < (NN : Int) := by omega
      have HE := Lib.hid (HNE.out.2.1 j hjl)
      have HLE := Lib.hid (HNE.out.2.2.1 j)
      obtain ⟨t, ht⟩ : ∃ t, t = p.need[j] := ⟨_, rfl⟩
      rw [← ht] at c0 HTZ HE
      have HI2 := Lib.hid (HIN.out t)
      have C1 := CG.out wr (NE j) t.data.toList hR.out.1
      rw [of_bx] at C1
      have C1 := Lib.hid C1
      clear ht hcl hbB
      cases hin : (getO o t.data.toList).isSome with
      | true =>
        have HS : Hid (NE (j + 1) = NE j) := by unfold Hid; rw [HE.out, HI2.out.1 hin, List.append_nil]
        rw [hin] at C1
        clear hin
        go_wp2_with fail
        refine Calls.mono C1.out ?_
        rintro e w' ⟨u, rfl, -, rfl⟩
        go_wp2_with fail
        go_roundw
        case rel => exact ⟨j + 1, hlt, by go_num, hR.out.1, by rw [HS.out]; exact hR.out.2⟩
        case measure => simp [intOf]; omega
      | false =>
        have HS : Hid (NE (j + 1) = NE j ++ [(joinV (ws ++ [t]), 7)]) := by unfold Hid; rw [HE.out, HI2.out.2 hin]
        rw [hin] at C1
        clear hin
        go_wp2_with fail
        refine Calls.mono C1.out ?_
        rintro e w' ⟨u, rfl, -, rfl⟩
        go_wp2_with fail
        refine Calls.mono (CS.out wr t hR.out.1 HTZ.out) ?_
        rintro e w2 ⟨A9, c9, rfl, hw2, x2⟩
        have HT2 := Lib.hid (hR.out.1.trans (hR.out.2.turn x2))
        have C2 := Lib.hid (CF.out w2 (NE j) A9 c9 t 7 _ (hR.out.2.ext x2).1 hw2 HLE.out)
        clear hw2 x2
        go_wp2_with fail
        refine Calls.mono C2.out ?_
        rintro e w3 ⟨rfl, t3, i3⟩
        have HT3 := Lib.hid (HT2.out.trans t3)
        have HI3 := Lib.hid i3
        clear t3 i3
        go_wp2_with fail
        go_roundw
        case rel => exact ⟨j + 1, hlt, by go_num, HT3.out, by rw [HS.out]; exact HI3.out⟩
        case measure => simp [intOf]; omega
    · have hjN : j = NN := by omega
      have bl : decide ((j : Int) < (NN : Int)) = false := decide_eq_false (by omega)
      have bl2 : decide (j < NN) = false := decide_eq_false hlt
      have HS0 : Hid (LookI k sv w0 wr (UN 0)) := by
        have h := hR.out.2
        rw [HNE.out.2.2.2 j (by rw [hjN]; exact HNN.out.1)] at h
        exact h
      obtain ⟨w5, hw5⟩ : ∃ w5, w5 = wr := ⟨_, rfl⟩
      have HT5 : Hid (Trn (LookF k) w1 w5) := by unfold Hid; rw [hw5]; exact hR.out.1
      rw [← hw5] at HS0 ⊢
      clear hlt hjN hw5 hR hj
      go_wp2_with fail
      refine Calls.mono (CN.out w5 HT5.out) ?_
      rintro e w' ⟨A3, c3, rfl, hc3, hn3, rfl⟩
      have HN3 := Lib.hid hn3
      clear hn3 hc3 bl bl2
      go_wp2_with fail
      go_loopw [46] (fun ix wr => ∃ j : Nat, j ≤ NO ∧ ix = .int .i64 (j : Int) ∧ Hid (Trn (LookF k) w5 wr ∧ LookI k sv w0 wr (UN j))) (fun ix _ => NO - (intOf ix).toNat)
      case atStart => exact ⟨0, Nat.zero_le _, rfl, Trn.refl, HS0.out⟩
      case round =>
        obtain ⟨j, hj, rfl, hR⟩ := hrel
        have HT6 := Lib.hid (HT5.out.trans hR.out.1)
        by_cases hlt : j < NO
        · have hjl : j < o.1.length := by rw [← HNN.out.2.1]; exact hlt
          obtain ⟨b, off, rfl, -, c0⟩ := (NamesAt.trn hR.out.1 HN3.out) j hjl
          have hltI : (j : Int) < (NO : Int) := by omega
          have HE := Lib.hid (HUN.out.1 j hjl)
          have HLE := Lib.hid (HUN.out.2.1 j)
          have HTZ := Lib.hid (HNL.out j hjl)
          obtain ⟨n, hn⟩ : ∃ n, n = o.1[j] := ⟨_, rfl⟩
          rw [← hn] at c0 HTZ HE
          obtain ⟨t, ht⟩ : ∃ t, t = bx n := ⟨_, rfl⟩
          have HNT := Lib.hid ht
          rw [← ht] at c0 HTZ
          have C1 := Lib.hid (CP.out wr t hR.out.2.1)
          clear ht hn
          have hpb := HB1.out.trn HT6.out HG1.out
          obtain ⟨a0, a1, a2, a3, a4, a5, a6, a7, a8⟩ := hpb.1.at
          have HPB := Lib.hid hpb
          clear hpb
          cases hin : (partOf p.fields t).isSome with
          | true =>
            have HS : Hid (UN (j + 1) = UN j) := by unfold Hid; rw [HE.out]; unfold unkE; rw [← HNT.out, if_pos (.inl hin), List.append_nil]
            rw [hin] at C1
            clear hin
            go_wp2_with fail
            refine Calls.mono C1.out ?_
            rintro e w2 ⟨rfl, x2⟩
            have HT7 := Lib.hid (hR.out.1.trans (hR.out.2.turn x2))
            have HI7 := Lib.hid (hR.out.2.ext x2).1
            clear x2 a0 a1 a2 a3 a4 a5 a6 a7 a8
            go_wp2_with fail
            go_roundw
            case rel => exact ⟨j + 1, hlt, by go_num, HT7.out, by rw [HS.out]; exact HI7.out⟩
            case measure => simp [intOf]; omega
          | false =>
            have HNI := Lib.hid hin
            rw [hin] at C1
            clear hin
            go_wp2_with fail
            refine Calls.mono C1.out ?_
            rintro e w2 ⟨rfl, x2⟩
            have HT7 := Lib.hid (hR.out.1.trans (hR.out.2.turn x2))
            have HI7 := Lib.hid (hR.out.2.ext x2).1
            have a3' := (HPB.out.1.ext x2).at.2.2.2.1
            clear x2 a0 a1 a2 a3 a4 a5 a6 a7 a8
            rcases Bool.eq_false_or_eq_true p.extra with hex | hex
            · skip
              have HS : Hid (UN (j + 1) = UN j) := by unfold Hid; rw [HE.out]; unfold unkE; rw [if_pos (.inr hex), List.append_nil]
              rw [hex] at a3'
              clear hex
              go_wp2_with fail
              go_roundw
              case rel => exact ⟨j + 1, hlt, by go_num, HT7.out, by rw [HS.out]; exact HI7.out⟩
              case measure => simp [intOf]; omega
            · skip
              have HS : Hid (UN (j + 1) = UN j ++ [(joinV (ws ++ [t]), 6)]) := by
                unfold Hid
                rw [HE.out]
                unfold unkE
                rw [← HNT.out, if_neg (fun h => by
                  rcases h with h | h
                  · rw [HNI.out] at h; cases h
                  · rw [hex] at h; cases h)]
              rw [hex] at a3'
              clear hex
              go_wp2_with fail
              refine Calls.mono (CS.out w2 t (HT5.out.trans HT7.out) HTZ.out) ?_
              rintro e w3 ⟨A9, c9, rfl, hw3, x3⟩
              have HT8 := Lib.hid (HT7.out.trans (HI7.out.turn x3))
              have C2 := Lib.hid (CF.out w3 (UN j) A9 c9 t 6 _ (HI7.out.ext x3).1 hw3 HLE.out)
              clear hw3 x3 a3'
              go_wp2_with fail
              refine Calls.mono C2.out ?_
              rintro e w4 ⟨rfl, t4, i4⟩
              have HT9 := Lib.hid (HT8.out.trans t4)
              have HI9 := Lib.hid i4
              clear t4 i4
              go_wp2_with fail
              go_roundw
              case rel => exact ⟨j + 1, hlt, by go_num, HT9.out, by rw [HS.out]; exact HI9.out⟩
              case measure => simp [intOf]; omega
        · have hjN : j = NO := by omega
          have bl : decide ((j : Int) < (NO : Int)) = false := decide_eq_false (by omega)
          have bl2 : decide (j < NO) = false := decide_eq_false hlt
          have HS1 : Hid (LookI k sv w0 wr (OB 0)) := by
            have h := hR.out.2
            rw [HUN.out.2.2 j (by rw [hjN]; exact HNN.out.2.1)] at h
            exact h
          obtain ⟨w6, hw6⟩ : ∃ w6, w6 = wr := ⟨_, rfl⟩
          rw [← hw6] at HS1 HT6 ⊢
          clear hlt hjN hw6 hR hj
          go_wp2_with fail
          refine Calls.mono (CN.out w6 HT6.out) ?_
          rintro e w' ⟨A4, c4, rfl, hc4, hn4, rfl⟩
          have HN4 := Lib.hid hn4
          clear hn4 hc4 bl bl2
          go_wp2_with fail
          go_loopw [72] (fun ix wr => ∃ j : Nat, j ≤ NO ∧ ix = .int .i64 (j : Int) ∧ Hid (Trn (LookF k) w6 wr ∧ LookI k sv w0 wr (OB j))) (fun ix _ => NO - (intOf ix).toNat)
          case atStart => exact ⟨0, Nat.zero_le _, rfl, Trn.refl, HS1.out⟩
          case round =>
            obtain ⟨j, hj, rfl, hR⟩ := hrel
            have HT7 := Lib.hid (HT6.out.trans hR.out.1)
            by_cases hlt : j < NO
            · have hjl : j < o.1.length := by rw [← HNN.out.2.1]; exact hlt
              have hjv : j < o.2.length := by rw [← HNN.out.2.2.1]; exact hlt
              obtain ⟨b, off, rfl, -, c0⟩ := (NamesAt.trn hR.out.1 HN4.out) j hjl
              have hltI : (j : Int) < (NO : Int) := by omega
              have HE := Lib.hid (HOB.out.1 j hjl hjv).1
              have HTZ := Lib.hid (HNL.out j hjl)
              have HVJ := Lib.hid (HAT.out j hjl hjv)
              have CVJ := Lib.hid (CV.out j hjl hjv)
              obtain ⟨n, hn⟩ : ∃ n, n = o.1[j] := ⟨_, rfl⟩
              obtain ⟨x, hx⟩ : ∃ x, x = o.2[j] := ⟨_, rfl⟩
              rw [← hn] at c0 HTZ HE HVJ CVJ
              rw [← hx] at HE HVJ CVJ
              obtain ⟨t, ht⟩ : ∃ t, t = bx n := ⟨_, rfl⟩
              rw [← ht] at c0 HTZ HE CVJ
              have C1 := Lib.hid (CP.out wr t hR.out.2.1)
              have CGJ : Hid (∀ W, Trn (LookF k) w1 W → Calls Tryz.prog 34 #[.pointer (some ⟨bo, 0, none⟩), .string t] W fun e w' => ∃ u b, e = .returned (.tuple #[u, .bool b]) ∧ PV (LookF k W) W x u ∧ W = w') := fun W hW => by
                have h := CG.out W [] n hW
                rw [HVJ.out, ← ht] at h
                exact h.mono fun e w' ⟨u, h1, h2, h3⟩ => ⟨u, _, h1, h2, h3⟩
              clear ht hn hx
              have hpb := HB1.out.trn HT7.out HG1.out
              obtain ⟨a0, a1, a2, a3, a4, a5, a6, a7, a8⟩ := hpb.1.at
              clear hpb
              cases hin : partOf p.fields t with
              | none =>
                have HS : Hid (OB (j + 1) = OB j) := by unfold Hid; rw [HE.out, hin]; exact List.append_nil _
                rw [hin] at C1
                simp only [Option.isSome_none, Option.getD_none] at C1
                clear hin
                go_wp2_with fail
                refine Calls.mono C1.out ?_
                rintro e w2 ⟨rfl, x2⟩
                have HT8 := Lib.hid (hR.out.1.trans (hR.out.2.turn x2))
                have HI8 := Lib.hid (hR.out.2.ext x2).1
                clear x2 a0 a1 a2 a3 a4 a5 a6 a7 a8
                go_wp2_with fail
                go_roundw
                case rel => exact ⟨j + 1, hlt, by go_num, HT8.out, by rw [HS.out]; exact HI8.out⟩
                case measure => simp [intOf]; omega
              | some q =>
                have HQ := Lib.hid hin
                rw [hin] at C1
                simp only [Option.isSome_some, Option.getD_some] at C1
                clear hin
                go_wp2_with fail
                refine Calls.mono C1.out ?_
                rintro e w2 ⟨rfl, x2⟩
                have HT8 := Lib.hid (hR.out.1.trans (hR.out.2.turn x2))
                have HI8 := Lib.hid (hR.out.2.ext x2).1
                clear x2 a0 a1 a2 a3 a4 a5 a6 a7 a8
                go_wp2_with fail
                refine Calls.mono (CGJ.out w2 (HT6.out.trans HT8.out)) ?_
                rintro e w' ⟨u, bb, rfl, hu, rfl⟩
                have HU := Lib.hid hu
                clear hu
                go_wp2_with fail
                refine Calls.mono (CS.out w2 t (HT6.out.trans HT8.out) HTZ.out) ?_
                rintro e w3 ⟨A9, c9, rfl, hw3, x3⟩
                have HT9 := Lib.hid (HT8.out.trans (HI8.out.turn x3))
                have HI9 := Lib.hid (HI8.out.ext x3).1
                have C2 := Lib.hid (CVJ.out q w3 A9 c9 u HQ.out HI9.out ((HI8.out.turn x3).pv HU.out) (hw3.keep (fun _ _ _ => rfl) (fun b hb _ => by rw [(HI8.out.ext x3).2]; exact HI8.out.new hb)))
                clear hw3 x3
                go_wp2_with fail
                refine Calls.mono C2.out ?_
                rintro e w4 ⟨rfl, t4, i4⟩
                have HTa := Lib.hid (HT9.out.trans t4)
                have HIa := Lib.hid i4
                clear t4 i4
                go_wp2_with fail
                go_roundw
                case rel => exact ⟨j + 1, hlt, by go_num, HTa.out, HIa.out⟩
                case measure => simp [intOf]; omega
            · have hjN : j = NO := by omega
              have bl : decide ((j : Int) < (NO : Int)) = false := decide_eq_false (by omega)
              have bl2 : decide (j < NO) = false := decide_eq_false hlt
              have HEND := Lib.hid (HOB.out.2 j (by rw [hjN]; exact HNN.out.2.1))
              clear hjN
              go_wp2_with fail
              go_end0
              refine ⟨rfl, HT1.out.trans HT7.out, ?_⟩
              rw [← HEND.out]
              exact hR.out.2
end Go.Proofs.YtnccefeehkcneaaGreatDoor.Sc
namespace Go.Proofs.YtnccefeehkcneaaGreatDoor.Sc
open Go Go.RowKit Go.Proofs.YtnccefeehkcneaaGreatDoor.Js Go.Proofs.YtnccefeehkcneaaGreatDoor.Sx Go.Proofs.YtnccefeehkcneaaGreatDoor.Pt Go.Proofs.YtnccefeehkcneaaGreatDoor.Jm Go.Proofs.YtnccefeehkcneaaGreatDoor.Gr Go.Proofs.YtnccefeehkcneaaGreatDoor.Ur
theorem part_at {s : List PartS} {i : Nat} (hi : i < s.length) : partAt s i = s[i] := by
  unfold partAt
  simp [List.getD, hi]
theorem part_of_mem {fs : List (ByteArray × Int)} {t : ByteArray} {q : Int} (h : partOf fs t = some q) : ∃ f ∈ fs, f.2 = q := by
  unfold partOf at h
  rw [Option.map_eq_some_iff] at h
  obtain ⟨f, h1, h2⟩ := h
  exact ⟨f, List.mem_of_find?_eq_some h1, h2⟩
theorem behind_lt {n i : Nat} {x : Int} (h : behindS n i x = true) : ∃ j : Nat, x = (j : Int) ∧ j < n := by
  unfold behindS at h
  rw [Bool.and_eq_true, decide_eq_true_eq, decide_eq_true_eq] at h
  exact ⟨x.toNat, by omega, by omega⟩
theorem good_need {s : List PartS} (h : GoodS s) (k : Nat) : (partAt s k).need.length ≤ 8 := by
  by_cases hk : k < s.length
  · exact (head_good (part_good (h k hk)).1).2.2.2.1
  · unfold partAt
    rw [List.getD_eq_getElem?_getD, List.getElem?_eq_none (by omega)]
    exact Nat.zero_le _
theorem good_fields {s : List PartS} (h : GoodS s) {i : Nat} (hi : i < s.length) (t : ByteArray) (q : Int) (hq : partOf (partAt s i).fields t = some q) : ∃ j : Nat, q = (j : Int) ∧ j < s.length := by
  obtain ⟨f, hf, rfl⟩ := part_of_mem hq
  exact behind_lt (fields_good (part_good (h i hi)).2.1 f hf)
theorem good_docs {s : List PartS} (h : GoodS s) {i : Nat} (hi : i < s.length) : ∀ d ∈ (partAt s i).enum, ∃ j, readS d.data.toList = .ok j := by
  have h4 := (part_good (h i hi)).2.2.2
  unfold tailS at h4
  by_cases hd : (partAt s i).dflt.size = 0
  · rw [if_pos hd] at h4
    exact docs_good _ h4
  · rw [if_neg hd] at h4
    by_cases hb : (partAt s i).enum.foldl docS 0 = 0
    · exact docs_good _ hb
    · rw [doc_bad hb] at h4
      exact absurd h4 hb
theorem pv_cells {F : Nat → Prop} {w : World} {j : J} {u : Value} (h : PV F w j u) : u.cells = #[u] := by
  cases j with
  | null => obtain rfl := PV_null.1 h; rfl
  | bool b => obtain rfl := PV_bool.1 h; rfl
  | num n => obtain ⟨rfl, _⟩ := PV_num.1 h; rfl
  | text s => obtain rfl := PV_text.1 h; rfl
  | list l => obtain ⟨A, c, rfl, _⟩ := PV_list.1 h; rfl
  | obj ns l => obtain ⟨b, rfl, _⟩ := PV_obj.1 h; rfl
theorem len_sumB (l : List J) : l.length ≤ sumB l := by
  unfold sumB
  induction l with
  | nil => simp
  | cons x r ih => rw [List.map_cons, List.sum_cons, List.length_cons]; omega
theorem len_namesB (ns : List Tx) : ns.length ≤ namesB ns := by
  unfold namesB
  induction ns with
  | nil => simp
  | cons x r ih => rw [List.map_cons, List.sum_cons, List.length_cons]; omega
theorem ValsAt.trn {Fp : World → Nat → Prop} {w w' : World} {A : Option Addr} {l : List J} (h : Trn Fp w w') (hp : ValsAt (Fp w) w A l) : ValsAt (Fp w') w' A l := fun i hi => by
  obtain ⟨g, off, u, hA, hF, hc, hu⟩ := hp i hi
  obtain ⟨h1, h2⟩ := h.2 g (cell_lt hc) hF
  exact ⟨g, off, u, hA, h2, (cell_keep h1).trans hc, h.pv hu⟩
theorem decS_short : ∀ (k u : Nat), u < 10 ^ (k + 1) → (decS u).size ≤ k + 1
  | k, u, h => by
    by_cases h1 : u < 10
    · rw [decS_one h1]
      have : (sgn (UInt8.ofNat (48 + u))).size = 1 := rfl
      omega
    · cases k with
      | zero => omega
      | succ k =>
        rw [decS_more h1, ByteArray.size_append]
        have h2 := decS_short k (u / 10) (Nat.div_lt_of_lt_mul (by rw [Nat.pow_succ, Nat.mul_comm] at h; exact h))
        have : (sgn (UInt8.ofNat (48 + u % 10))).size = 1 := rfl
        omega
theorem decS_len (u : Nat) (h : u ≤ 1125899906842624) : (bx (Lib.decDigits u)).size ≤ 1048576 := by
  have h1 : (bx (Lib.decDigits u)).size ≤ 16 := decS_short 15 u (by omega)
  omega
set_option maxRecDepth 100000 in
set_option maxHeartbeats 16000000 in
theorem value_core (v : J) (ihl : ∀ l, v = .list l → ∀ x ∈ l, LookC x) (iho : ∀ o, v = ofO o → ∀ x ∈ o.2, LookC x) : LookC v := by
  intro s k i sv u w0 w fs A c ws hh hk hi his hu hwj hw hl hf hb
  obtain ⟨b, off, c9, v1, v2, v3, rfl, hbB, hcells, hF, hN, hE, hD⟩ := hh.parts.cells his
  rw [← part_at his] at hcells hF hN hE hD
  obtain ⟨p, hpd⟩ : ∃ p, p = partAt s i := ⟨_, rfl⟩
  have hgood := hh.good i his
  have hgf := good_fields hh.good his
  have hgd := good_docs hh.good his
  have hfe : faultsS s v i ws = faultsS s v i ws := rfl
  rw [← hpd] at hcells hF hN hE hD hgood hgf hgd
  obtain ⟨SN, hSN⟩ : ∃ n, n = s.length := ⟨_, rfl⟩
  obtain ⟨A3, c3, rfl⟩ := StrsR.slice' hE
  obtain ⟨A1, c1, rfl⟩ := hF.slice
  obtain ⟨A2, c2, rfl⟩ := StrsR.slice' hN
  obtain ⟨NE, hNE⟩ : ∃ n, n = p.enum.length := ⟨_, rfl⟩
  obtain ⟨NW, hNW⟩ : ∃ n, n = ws.length := ⟨_, rfl⟩
  have hNWs : NW ≤ 1000000 := by omega
  have hNEs : NE ≤ 8 := by rw [hNE]; exact (head_good (part_good hgood).1).2.2.2.2
  have hiI : (i : Int) < (SN : Int) := by omega
  obtain ⟨g, hg⟩ : ∃ g, g = w.heap.size := ⟨_, rfl⟩
  obtain ⟨w1, hw1⟩ : ∃ w1, w1 = w.alloc (.cells #[u] valT (0, 0)) := ⟨_, rfl⟩
  have HX1 : Hid (Ext w w1) := by rw [hw1]; exact new_ext _ _
  have HI1 := Lib.hid (hi.ext HX1.out)
  have hg1 : w1.heap.size = g + 1 := by rw [hw1, hg]; simp
  obtain ⟨w2, hw2⟩ : ∃ w2, w2 = w1.alloc (.cells #[.int .i64 p.kind, .slice A1 p.fields.length c1, .slice A2 p.need.length c2, .bool p.extra, .int .i64 p.items, .int .i64 p.least, .int .i64 p.most, .slice A3 p.enum.length c3, .string p.dflt] partT (0, 0)) := ⟨_, rfl⟩
  have HX2 : Hid (Ext w w2) := by rw [hw2]; exact HX1.out.trans (new_ext _ _)
  have HI2 := Lib.hid (hi.ext HX2.out)
  have HT2 := Lib.hid (hi.turn HX2.out)
  have HV2 : Hid (w2.heap[g]? = some (.cells #[u] valT (0, 0)) ∧ LookF k w2 g) := by
    refine ⟨?_, by rw [HI2.out.2]; exact hi.new (by omega)⟩
    rw [hw2, hw1]
    exact heap_old (heap_new hg)
  have HB2 : Hid (PBox w2 (g + 1) p (.slice A1 p.fields.length c1) (.slice A2 p.need.length c2) (.slice A3 p.enum.length c3) ∧ LookF k w2 (g + 1)) := by
    refine ⟨?_, by rw [HI2.out.2]; exact hi.new (by omega)⟩
    rw [hw2]
    exact heap_new hg1.symm
  have HU2 := Lib.hid (HT2.out.pv hu)
  have HW2 := Lib.hid (HT2.out.way hw)
  have HK := Lib.hid hk
  have HHH := Lib.hid hh
  have HWJ := Lib.hid hwj
  have HSZ : Hid (∀ x ∈ ws, x.size ≤ 1048576) := hw.sizes
  have HPD := Lib.hid hpd
  have HPF := Lib.hid hF
  have HPN := Lib.hid hN
  have HPE := Lib.hid hE
  have HGF := Lib.hid hgf
  have HGD := Lib.hid hgd
  have HGOOD := Lib.hid hgood
  have HLF := Lib.hid hf
  have HNN : Hid (NE = p.enum.length ∧ NW = ws.length ∧ SN = s.length) := ⟨hNE, hNW, hSN⟩
  have HBV := Lib.hid hb
  have HWL : Hid (ws.length + bulkJ v ≤ 1000000) := hl
  have HIJ : Hid (IJ v) := PV.ij _ _ hu hwj
  have hbx := pv_cells hu
  unfold Value.cells at hbx
  have HBX := Lib.hid hbx
  clear hbx
  have hbk0 : b < w0.heap.size := hbB
  have HCL : Hid (∀ W, Ext w0 W → W.cell? ⟨b, off + i * 9, none⟩ = some (.int .i64 p.kind) ∧ W.cell? ⟨b, off + i * 9 + 1, none⟩ = some (.slice A1 p.fields.length c1) ∧ W.cell? ⟨b, off + i * 9 + 2, none⟩ = some (.slice A2 p.need.length c2) ∧ W.cell? ⟨b, off + i * 9 + 3, none⟩ = some (.bool p.extra) ∧ W.cell? ⟨b, off + i * 9 + 4, none⟩ = some (.int .i64 p.items) ∧ W.cell? ⟨b, off + i * 9 + 5, none⟩ = some (.int .i64 p.least) ∧ W.cell? ⟨b, off + i * 9 + 6, none⟩ = some (.int .i64 p.most) ∧ W.cell? ⟨b, off + i * 9 + 7, none⟩ = some (.slice A3 p.enum.length c3) ∧ W.cell? ⟨b, off + i * 9 + 8, none⟩ = some (.string p.dflt)) := fun W hW => by
    have hk' : ∀ n x, w0.cell? ⟨b, n, none⟩ = some x → W.cell? ⟨b, n, none⟩ = some x := fun n x h => (cell_keep (hW.block b hbk0)).trans h
    obtain ⟨e0, e1, e2, e3, e4, e5, e6, e7, e8⟩ := hcells
    exact ⟨hk' _ _ e0, hk' _ _ e1, hk' _ _ e2, hk' _ _ e3, hk' _ _ e4, hk' _ _ e5, hk' _ _ e6, hk' _ _ e7, hk' _ _ e8⟩
  have HCK : Hid (∀ W f, LookI k (.slice (some ⟨b, off, none⟩) s.length c9) w0 W f → W.cell? ⟨k, 0, none⟩ = some (.slice (some ⟨b, off, none⟩) s.length c9)) := fun W f ⟨_, _, _, h3, _⟩ => cell_of h3 0
  have CF : Hid (∀ (W : World) (l : List (ByteArray × Int)) (er : Int), LookI k (.slice (some ⟨b, off, none⟩) s.length c9) w0 W l → WayAt (LookF k W) W A ws → l.length ≤ 2900000 → Calls Tryz.prog 69 #[.pointer (some ⟨k, 0, none⟩), .slice A NW c, .int .i64 er] W (LookPost k (.slice (some ⟨b, off, none⟩) s.length c9) w0 W (l ++ [(joinV ws, er)]))) := fun W l er h1 h2 h3 => by
    rw [hNW]
    exact fault_any k _ w0 W l HK.out HHH.out.max h1 A c ws (h2.keep (fun _ _ _ => rfl) (fun _ _ _ => trivial)) (by omega) (by omega) er
  have CSP : Hid (∀ (W : World) (l : List (ByteArray × Int)) (n : Int), LookI k (.slice (some ⟨b, off, none⟩) s.length c9) w0 W l → WayAt (LookF k W) W A ws → l.length ≤ 2900000 → Calls Tryz.prog 73 #[.pointer (some ⟨k, 0, none⟩), .agg #[.int .i64 p.kind, .slice A1 p.fields.length c1, .slice A2 p.need.length c2, .bool p.extra, .int .i64 p.items, .int .i64 p.least, .int .i64 p.most, .slice A3 NE c3, .string p.dflt], .int .i64 n, .slice A NW c] W (LookPost k (.slice (some ⟨b, off, none⟩) s.length c9) w0 W (l ++ spanS p n (joinV ws)))) := fun W l n h1 h2 h3 => by
    rw [hNW]
    exact span_any k _ w0 W l HK.out HHH.out.max h1 p (.slice A1 p.fields.length c1) (.slice A2 p.need.length c2) (.slice A3 NE c3) n A c ws h2 (by omega) (by omega)
  have HHM : Hid ((headF p v ws).length ≤ 3) := headF_many p v ws
  have HBL : Hid (32 ≤ bulkJ v) := bulk_low v
  rw [← hNE] at hw2 HB2 HCL HPE
  rw [← hSN] at HCK CF CSP HI1 HI2 HHH
  rw [← hSN, ← hNW]
  clear hh hk hi hu hwj hw hl hf hb hcells hF hN hE hD hgood hgf hgd hpd hSN hNE hNW hbB hbk0
  have z0 := HCK.out w1 _ HI1.out.1
  obtain ⟨p0, p1, p2, p3, p4, p5, p6, p7, p8⟩ := HCL.out w1 HI1.out.1.1
  have CK : Hid (∀ n, Calls Tryz.prog 68 #[u] (w2.drewN n) fun e w' => e = .returned (.int .i64 (kindJ v)) ∧ w' = w2.drewN n) := fun n => (kind_val _ u (w2.drewN n) v (HU2.out.ext (ext_drewN' _ _))).mono fun e w' ⟨h1, h2⟩ => ⟨h1, h2.symm⟩
  go_enter Tryz.func27, Tryz.ntmps27
  go_upto_region 1 with (fail)
  rw [HBX.out, ← hw1, ← hg]
  clear hw1 hg
  go_upto_region 2 with (fail)
  (try rw [hg1])
  rw [← hw2]
  clear hw2 hg1 z0 p0 p1 p2 p3 p4 p5 p6 p7 p8
  have y0 : w2.cell? ⟨g, 0, none⟩ = some u := cell_of HV2.out.1 0
  obtain ⟨q0, -, -, -, -, -, -, -, -⟩ := HB2.out.1.at
  by_cases hkd : kindJ v = p.kind
  · have hkb : (kindJ v != p.kind) = false := by rw [hkd]; exact bne_self_eq_false _
    have HKD := Lib.hid hkd
    clear hkd
    go_quiet ((go_at_call 68; exact Calls.quiet_of_same (CK.out _)))
    generalize hW : World.drewN w2 _ = w3
    have HX3 : Hid (Ext w2 w3) := by rw [← hW]; exact ext_drewN' _ _
    clear hW y0 q0 hkb
    have HT3 : Hid (Trn (LookF k) w w3) := HT2.out.trans (HI2.out.1.turn HX3.out)
    have HI3 := Lib.hid (HI2.out.1.ext HX3.out)
    have hv3 : w3.heap[g]? = some (.cells #[u] valT (0, 0)) := (HX3.out.block g (heap_lt HV2.out.1)).trans HV2.out.1
    have HV3 : Hid (w3.heap[g]? = some (.cells #[u] valT (0, 0)) ∧ LookF k w3 g) := ⟨hv3, by rw [HI3.out.2]; exact HV2.out.2⟩
    have HB3 : Hid (PBox w3 (g + 1) p (.slice A1 p.fields.length c1) (.slice A2 p.need.length c2) (.slice A3 NE c3) ∧ LookF k w3 (g + 1)) := ⟨HB2.out.1.ext HX3.out, by rw [HI3.out.2]; exact HB2.out.2⟩
    have HU3 := Lib.hid ((HI2.out.1.turn HX3.out).pv HU2.out)
    have HW3 := Lib.hid ((HI2.out.1.turn HX3.out).way HW2.out)
    have CC : Hid (Calls Tryz.prog 70 #[.slice A3 NE c3, .func (.func 71) #[] #[.pointer (some ⟨g, 0, none⟩)]] w3 fun e w' => e = .returned (.bool (p.enum.any (sameD v))) ∧ Ext w3 w') := by
      have h := same_has (LookF k w3) g u v A3 c3 p.enum w3 hv3 HU3.out HIJ.out (HHH.out.tab.ext HI3.out.1.1) (by have := HBV.out; omega) HGD.out (by rw [← HNN.out.1]; exact HPE.out.below HI3.out.1.1 HI3.out.1.1.size) (by rw [← HNN.out.1]; omega)
      rw [← HNN.out.1] at h
      exact h
    have HLS : Hid (listedS p v = (decide (NE = 0) || p.enum.any (sameD v))) := by
      unfold Hid listedS
      rw [HNN.out.1]
      cases p.enum <;> simp
    obtain ⟨L1, hL1⟩ : ∃ l, l = fs ++ (if listedS p v = true then [] else [(joinV ws, 19)]) := ⟨_, rfl⟩
    have HL1 := Lib.hid hL1
    obtain ⟨-, -, -, -, -, -, -, q7, -⟩ := HB3.out.1.at
    clear hv3 hL1
    go_upto_region 4 with (fail)
    go_cut [40] (fun bv wx => bv = .bool (!listedS p v) ∧ Hid (Ext w3 wx))
    case first =>
      by_cases he : NE = 0
      · have b1 : decide ((NE : Int) > 0) = false := decide_eq_false (by omega)
        have b2 : decide (0 < NE) = false := decide_eq_false (by omega)
        have HS : Hid (listedS p v = true) := by unfold Hid; rw [HLS.out, he]; rfl
        clear he
        go_wp2_with fail
        go_meet
        case rel => exact ⟨by rw [HS.out]; rfl, Below.refl _ _⟩
      · have b1 : decide ((NE : Int) > 0) = true := decide_eq_true (by omega)
        have b2 : decide (0 < NE) = true := decide_eq_true (by omega)
        have HS : Hid (listedS p v = p.enum.any (sameD v)) := by unfold Hid; rw [HLS.out, decide_eq_false he, Bool.false_or]
        clear he
        go_wp2_with fail
        refine Calls.mono CC.out ?_
        rintro e w4 ⟨rfl, x4⟩
        have X4 := Lib.hid x4
        clear x4 q7
        go_wp2_with fail
        go_meet
        case rel => exact ⟨by rw [HS.out], X4.out⟩
    case rest =>
      obtain ⟨rfl, hx4⟩ := hcut
      obtain ⟨w4, hw4⟩ : ∃ w4, w4 = wc := ⟨_, rfl⟩
      rw [← hw4] at hx4 ⊢
      have HX4 := Lib.hid hx4.out
      clear hx4 hw4 q7
      obtain ⟨ls, hls⟩ : ∃ l, l = listedS p v := ⟨_, rfl⟩
      have HLL := Lib.hid hls
      rw [← hls]
      clear hls
      go_upto_if 40 with (fail)
      go_cut [] (fun wx => Hid (Trn (LookF k) w3 wx ∧ LookI k (.slice (some ⟨b, off, none⟩) SN c9) w0 wx L1))
      case first =>
        cases ls with
        | true =>
          have HS : Hid (L1 = fs) := by unfold Hid; rw [HL1.out, if_pos HLL.out.symm, List.append_nil]
          go_wp2_with fail
          go_meet
          case rel => exact ⟨HI3.out.1.turn HX4.out, by rw [HS.out]; exact (HI3.out.1.ext HX4.out).1⟩
        | false =>
          have HS : Hid (L1 = fs ++ [(joinV ws, 19)]) := by unfold Hid; rw [HL1.out, ← HLL.out]; rfl
          have C2 := Lib.hid (CF.out w4 fs 19 (HI3.out.1.ext HX4.out).1 ((HI3.out.1.turn HX4.out).way HW3.out) (by have := HLF.out; omega))
          go_wp2_with fail
          refine Calls.mono C2.out ?_
          rintro e w5 ⟨rfl, t5, i5⟩
          have T5 := Lib.hid t5
          have I5 := Lib.hid i5
          clear t5 i5
          go_wp2_with fail
          go_meet
          case rel => exact ⟨(HI3.out.1.turn HX4.out).trans T5.out, by rw [HS.out]; exact I5.out⟩
      case rest =>
        have HC := Lib.hid hcut.out
        have HT4 : Hid (Trn (LookF k) w wc) := HT3.out.trans HC.out.1
        have hv4 := HC.out.1.2 g (heap_lt HV3.out.1) HV3.out.2
        have y0 : wc.cell? ⟨g, 0, none⟩ = some u := cell_of (hv4.1.trans HV3.out.1) 0
        have HB4 := Lib.hid (HB3.out.1.trn HC.out.1 HB3.out.2)
        have HU4 := Lib.hid (HC.out.1.pv HU3.out)
        have HW4 := Lib.hid (HC.out.1.way HW3.out)
        obtain ⟨q0, q1, q2, q3, q4, q5, q6, q7, q8⟩ := HB4.out.1.at
        have HFF : Hid (kindJ v ≠ 5 → kindJ v ≠ 6 → faultsS s v i ws = headF p v ws) := fun h5 h6 => by
          rw [HPD.out]
          exact faults_flat (by rw [← HPD.out]; exact HKD.out) ws h5 h6
        have HHF : Hid (fs ++ headF p v ws = L1 ++ (match lenJ v with | some n => spanS p n (joinV ws) | none => [])) := by
          unfold Hid headF
          rw [HL1.out, List.append_assoc]
          rfl
        have HLN : Hid (L1.length ≤ 2900000) := by
          have h1 := HLF.out
          have h2 := HBL.out
          unfold Hid
          rw [HL1.out, List.length_append]
          have : (if listedS p v = true then ([] : List (ByteArray × Int)) else [(joinV ws, 19)]).length ≤ 1 := by split <;> simp
          omega
        clear hcut hv4
        cases v with
        | null =>
          obtain rfl := PV_null.1 HU4.out
          have a2 := ta_nil_int
          have a3 := ta_nil_str
          have a4 := ta_nil_vals
          have a5 := ta_nil_obj
          clear q0 q1 q2 q3 q4 q5 q6 q7 q8
          go_wp2_with fail
          go_end0
          refine ⟨rfl, HT4.out, ?_⟩
          rw [HFF.out (by decide) (by decide), HHF.out]
          simp only [lenJ, List.append_nil]
          exact HC.out.2
        | bool b9 =>
          obtain rfl := PV_bool.1 HU4.out
          have a2 := ta_bool_int (.bool b9)
          have a3 := ta_bool_str (.bool b9)
          have a4 := ta_bool_vals (.bool b9)
          have a5 := ta_bool_obj (.bool b9)
          clear q0 q1 q2 q3 q4 q5 q6 q7 q8
          go_wp2_with fail
          go_end0
          refine ⟨rfl, HT4.out, ?_⟩
          rw [HFF.out (fun h => by cases h) (fun h => by cases h), HHF.out]
          simp only [lenJ, List.append_nil]
          exact HC.out.2
        | num n =>
          obtain ⟨rfl, -⟩ := PV_num.1 HU4.out
          have a2 := ta_int_int (.int .i64 n)
          have C3 := Lib.hid (CSP.out wc L1 n HC.out.2 HW4.out HLN.out)
          go_wp2_with fail
          refine Calls.mono C3.out ?_
          rintro e w5 ⟨rfl, t5, i5⟩
          have T5 := Lib.hid t5
          have I5 := Lib.hid i5
          clear t5 i5 q0 q1 q2 q3 q4 q5 q6 q7 q8 a2 y0
          go_wp2_with fail
          go_end0
          refine ⟨rfl, HT4.out.trans T5.out, ?_⟩
          rw [HFF.out (fun h => by cases h) (fun h => by cases h), HHF.out]
          exact I5.out
        | text tx =>
          obtain rfl := PV_text.1 HU4.out
          obtain ⟨sx, hsx⟩ : ∃ sx, sx = bx tx := ⟨_, rfl⟩
          have HSX : Hid ((sx.size : Int) = (tx.length : Int)) := by unfold Hid; rw [hsx, bx_size]
          rw [← hsx] at y0 ⊢
          have a2 := ta_str_int (.string sx)
          have a3 := ta_str_str (.string sx)
          have C3 := Lib.hid (CSP.out wc L1 (sx.size : Int) HC.out.2 HW4.out HLN.out)
          clear hsx
          go_wp2_with fail
          refine Calls.mono C3.out ?_
          rintro e w5 ⟨rfl, t5, i5⟩
          have T5 := Lib.hid t5
          have I5 := Lib.hid i5
          clear t5 i5 q0 q1 q2 q3 q4 q5 q6 q7 q8 a2 a3 y0
          go_wp2_with fail
          go_end0
          refine ⟨rfl, HT4.out.trans T5.out, ?_⟩
          rw [HFF.out (fun h => by cases h) (fun h => by cases h), HHF.out]
          have h := I5.out
          rw [HSX.out] at h
          exact h
        | list l =>
          obtain ⟨A5, c5, rfl, hc5, hv5⟩ := PV_list.1 HU4.out
          obtain ⟨N, hN⟩ : ∃ n, n = l.length := ⟨_, rfl⟩
          rw [← hN] at y0 ⊢
          have a2 := ta_vals_int (.slice A5 N c5)
          have a3 := ta_vals_str (.slice A5 N c5)
          have a4 := ta_vals_vals (.slice A5 N c5)
          have HV5 : Hid (ValsAt (LookF k wc) wc A5 l) := hv5
          have C3 := Lib.hid (CSP.out wc L1 (N : Int) HC.out.2 HW4.out HLN.out)
          have h5 : (5 : Int) = p.kind := HKD.out
          obtain ⟨it, hit, hitl⟩ := behind_lt (items_good (part_good HGOOD.out).2.2.1 h5.symm)
          have hbl := bulkJ_list l
          have hsb : (l.map fun x => bulkJ x + 1).sum = sumB l := rfl
          have hNl := len_sumB l
          have hNs : N ≤ 1000000 := by have := HBV.out; omega
          obtain ⟨LI, hLI⟩ : ∃ LI : Nat → List (ByteArray × Int), ∀ q, LI q = fs ++ headF p (.list l) ws ++ listW (fun x w => faultsS s x p.items.toNat w) ws 0 (l.take q) := ⟨_, fun _ => rfl⟩
          have HLI : Hid (LI 0 = L1 ++ spanS p (N : Int) (joinV ws) ∧ (∀ q (h : q < l.length), LI (q + 1) = LI q ++ faultsS s l[q] it (ws ++ [bx (Lib.decDigits q)]) ∧ (LI q).length + bulkJ l[q] ≤ 2900000) ∧ ∀ q, q = l.length → LI q = fs ++ faultsS s (.list l) i ws) := by
            refine ⟨?_, fun q h => ⟨?_, ?_⟩, fun q h => ?_⟩
            · rw [hLI, HHF.out, hN]
              simp [listW, lenJ]
            · rw [hLI, hLI, List.take_succ_eq_append_getElem h, listW_snoc, List.append_assoc]
              have e : (l.take q).length = q := by rw [List.length_take]; omega
              rw [e, Nat.zero_add, hit, Int.toNat_natCast]
              simp only [List.append_assoc]
            · rw [hLI, List.length_append, List.length_append]
              have h1 := headF_many p (.list l) ws
              have h2 := listW_many (F := fun x w => faultsS s x p.items.toNat w) ws (l.take q) 0 fun x hx w => faults_many (good_need HHH.out.good) x (WJ_list.1 HWJ.out x (List.mem_of_mem_take hx)) _ w
              have h3 : sumB (l.take q) + bulkJ l[q] + 1 ≤ sumB l := by
                rw [← sumB_snoc, ← List.take_succ_eq_append_getElem h]
                exact sum_take_le (fun x => bulkJ x + 1) l (q + 1)
              have := HLF.out
              omega
            · rw [hLI, h, List.take_length, HPD.out, faults_list (by rw [← HPD.out]; exact h5)]
              rw [List.append_assoc]
          have HIT : Hid (it < s.length ∧ p.items = (it : Int)) := ⟨hitl, hit⟩
          have HN5 : Hid (N = l.length) := hN
          have CI : Hid (∀ q : Nat, q < N → ∀ W, Ext wc.drew W ∨ True → Tab10 W → Calls Tryz.prog 75 #[.int .i64 (q : Int)] W fun e w' => e = .returned (.string (decS q)) ∧ Ext W w') := fun q hq W _ ht => itoa_any q W ht (by omega)
          have CS5 : Hid (∀ (W : World) (q : Nat), q < N → WayAt (LookF k W) W A ws → Calls Tryz.prog 74 #[.slice A NW c, .string (decS q)] W fun e w' => ∃ A' c', e = .returned (.slice A' (NW + 1) c') ∧ WayAt (fun b => W.heap.size ≤ b) w' A' (ws ++ [decS q]) ∧ Ext W w') := fun W q hq hW => by
            rw [HNN.out.2.1]
            exact step_any A c ws (decS q) W (hW.keep (fun _ _ _ => rfl) (fun _ _ _ => trivial)) (by have := HWL.out; omega) (decS_len q (by omega))
          have CV5 : Hid (∀ q (h : q < l.length) (W : World) (A' : Option Addr) (c' : Nat) (uq : Value), LookI k (.slice (some ⟨b, off, none⟩) SN c9) w0 W (LI q) → PV (LookF k W) W l[q] uq → WayAt (LookF k W) W A' (ws ++ [decS q]) → Calls Tryz.prog 27 #[.pointer (some ⟨k, 0, none⟩), .int .i64 (it : Int), uq, .slice A' (NW + 1) c'] W (LookPost k (.slice (some ⟨b, off, none⟩) SN c9) w0 W (LI (q + 1)))) := fun q h W A' c' uq hI hu hw' => by
            have hg := HLI.out.2.1 q h
            have hbq : bulkJ l[q] + 1 ≤ sumB l := by
              have h3 : sumB (l.take q) + bulkJ l[q] + 1 ≤ sumB l := by
                rw [← sumB_snoc, ← List.take_succ_eq_append_getElem h]
                exact sum_take_le (fun x => bulkJ x + 1) l (q + 1)
              omega
            have h9 := ihl l rfl l[q] (List.getElem_mem h) s k it (.slice (some ⟨b, off, none⟩) SN c9) uq w0 W (LI q) A' c' (ws ++ [decS q]) HHH.out HK.out hI HIT.out.1 hu (WJ_list.1 HWJ.out _ (List.getElem_mem h)) hw' (by rw [List.length_append]; simp only [List.length_cons, List.length_nil]; have := HWL.out; omega) hg.2 (by have := HBV.out; omega)
            rw [List.length_append, ← HNN.out.2.1] at h9
            rw [hg.1]
            exact h9
          clear hN hc5 hv5 h5 hit hitl hbl hsb hNl hLI
          go_wp2_with fail
          refine Calls.mono C3.out ?_
          rintro e w5 ⟨rfl, t5, i5⟩
          have T5 := Lib.hid t5
          have I5 := Lib.hid i5
          clear t5 i5 q0 q1 q2 q3 q4 q5 q6 q7 q8 a2 a3 a4 y0
          go_wp2_with fail
          go_loopw [73] (fun ix wr => ∃ q : Nat, q ≤ N ∧ ix = .int .i64 (q : Int) ∧ Hid (Trn (LookF k) w5 wr ∧ LookI k (.slice (some ⟨b, off, none⟩) SN c9) w0 wr (LI q))) (fun ix _ => N - (intOf ix).toNat)
          case atStart => exact ⟨0, Nat.zero_le _, rfl, Trn.refl, by rw [HLI.out.1]; exact I5.out⟩
          case round =>
            obtain ⟨q, hq, rfl, hR⟩ := hrel
            have HT6 := Lib.hid (T5.out.trans hR.out.1)
            by_cases hlt : q < N
            · have hql : q < l.length := by rw [← HN5.out]; exact hlt
              obtain ⟨g5, off5, uq, rfl, -, hcq, huq⟩ := (ValsAt.trn HT6.out HV5.out) q hql
              have hltI : (q : Int) < (N : Int) := by omega
              have CVQ := Lib.hid (CV5.out q hql)
              have HUQ := Lib.hid huq
              have hpb := HB4.out.1.trn HT6.out HB4.out.2
              have HPB := Lib.hid hpb
              have HWR := Lib.hid (HT6.out.way HW4.out)
              obtain ⟨tq, htq⟩ : ∃ t, t = decS q := ⟨_, rfl⟩
              have HTQ := Lib.hid htq
              have HCE : Hid (∀ W, Ext wr W → W.cell? ⟨g + 1, 4, none⟩ = some (.int .i64 p.items)) := fun W hW => (HPB.out.1.ext hW).at.2.2.2.2.1
              have CIQ : Hid (∀ W, Ext wr W → Calls Tryz.prog 75 #[.int .i64 (q : Int)] W fun e w' => e = .returned (.string tq) ∧ Ext wr w' ∧ w'.cell? ⟨g + 1, 4, none⟩ = some (.int .i64 p.items)) := fun W hW => by
                rw [htq]
                exact (CI.out q hlt W (.inr trivial) (HHH.out.tab.ext (hR.out.2.1.trans hW))).mono fun e w' ⟨h1, h2⟩ => ⟨h1, hW.trans h2, HCE.out w' (hW.trans h2)⟩
              have CSQ : Hid (∀ W, Ext wr W → Calls Tryz.prog 74 #[.slice A NW c, .string tq] W fun e w' => ∃ A' c', e = .returned (.slice A' (NW + 1) c') ∧ WayAt (LookF k w') w' A' (ws ++ [tq]) ∧ Ext wr w' ∧ w'.cell? ⟨g + 1, 4, none⟩ = some (.int .i64 p.items)) := fun W hW => by
                rw [htq]
                exact (CS5.out W q hlt ((hR.out.2.turn hW).way HWR.out)).mono fun e w' ⟨A', c', h1, h2, h3⟩ => ⟨A', c', h1, h2.keep (fun _ _ _ => rfl) (fun b hb _ => by rw [((hR.out.2.ext hW).1.ext h3).2]; exact (hR.out.2.ext hW).1.new hb), hW.trans h3, HCE.out w' (hW.trans h3)⟩
              have CVQ2 : Hid (∀ W A' c', Ext wr W → WayAt (LookF k W) W A' (ws ++ [tq]) → Calls Tryz.prog 27 #[.pointer (some ⟨k, 0, none⟩), .int .i64 p.items, uq, .slice A' (NW + 1) c'] W fun e w' => e = .returned (.tuple #[]) ∧ Hid (Trn (LookF k) wr w' ∧ LookI k (.slice (some ⟨b, off, none⟩) SN c9) w0 w' (LI (q + 1))) ∧ w'.cell? ⟨g + 1, 4, none⟩ = some (.int .i64 p.items)) := fun W A' c' hW hw' => by
                rw [htq] at hw'
                rw [HIT.out.2]
                refine (CVQ.out W A' c' uq (hR.out.2.ext hW).1 ((hR.out.2.turn hW).pv HUQ.out) hw').mono fun e w' ⟨h1, h2, h3⟩ => ⟨h1, ⟨(hR.out.2.turn hW).trans h2, h3⟩, ?_⟩
                have h4 := (HPB.out.1.trn ((hR.out.2.turn hW).trans h2) HPB.out.2).1.at.2.2.2.2.1
                rw [HIT.out.2] at h4
                exact h4
              have k4 := HCE.out wr (Below.refl _ _)
              have hxx : Ext wr wr := Below.refl _ _
              clear htq huq hpb
              go_upto_region 19 with (fail)
              go_region_held3 (fun W => W.cell? ⟨g + 1, 4, none⟩ = some (.int .i64 p.items))
                (first | assumption | go_keep)
                (first
                  | (go_at_call 75; refine (CIQ.out _ (by first | assumption | (apply Below.drew; assumption))).mono ?_; rintro r w6 ⟨rfl, x6, l6⟩)
                  | (go_at_call 74; refine (CSQ.out _ (by first | assumption | (apply Below.drew; assumption))).mono ?_; rintro r w7 ⟨A9, c10, rfl, h7, x7, l7⟩)
                  | (go_at_call 27; refine (CVQ2.out _ _ _ (by first | assumption | (apply Below.drew; assumption)) (by assumption)).mono ?_; rintro r w8 ⟨rfl, h8, l8⟩))
              all_goals
                have H8 := Lib.hid h8.out
                clear h8 l8 h7 x7 l7 x6 l6 k4 hcq hxx
                go_wp2_with fail
                go_roundw
                case rel => exact ⟨q + 1, hlt, by go_num, hR.out.1.trans H8.out.1, H8.out.2⟩
                case measure => simp [intOf]; omega
            · have hqN : q = N := by omega
              have bl : decide ((q : Int) < (N : Int)) = false := decide_eq_false (by omega)
              have HEND := Lib.hid (HLI.out.2.2 q (by rw [hqN]; exact HN5.out))
              clear hqN
              go_wp2_with fail
              go_end0
              refine ⟨rfl, HT4.out.trans HT6.out, ?_⟩
              rw [← HEND.out]
              exact hR.out.2
        | obj ns l =>
          obtain ⟨bo, rfl, ho⟩ := PV_obj.1 HU4.out
          have a2 := ta_obj_int (.pointer (some ⟨bo, 0, none⟩))
          have a3 := ta_obj_str (.pointer (some ⟨bo, 0, none⟩))
          have a4 := ta_obj_vals (.pointer (some ⟨bo, 0, none⟩))
          have a5 := ta_obj_obj (.pointer (some ⟨bo, 0, none⟩))
          have h6 : (6 : Int) = p.kind := HKD.out
          have hbo := bulk_obj ns l
          have HFO : Hid (fs ++ faultsS s (.obj ns l) i ws = L1 ++ (needF p ns ws ++ unkF p ns ws ++ objW (fun x q w => faultsS s x q w) p.fields ws (ns.zip l))) := by
            unfold Hid
            rw [HPD.out, faults_obj (by rw [← HPD.out]; exact h6), ← List.append_assoc, ← HPD.out, HHF.out]
            simp only [lenJ, List.append_nil]
          have hL1n : L1.length ≤ fs.length + 1 := by
            rw [HL1.out, List.length_append]
            have : (if listedS p (.obj ns l) = true then ([] : List (ByteArray × Int)) else [(joinV ws, 19)]).length ≤ 1 := by split <;> simp
            omega
          have hwo : WO (ns, l) := HWJ.out
          have hlen : ns.length = l.length := hwo.len
          have hnb := len_namesB ns
          have hbd : bulkO (ns, l) = sumB l + namesB ns := rfl
          have C3 : Hid (Calls Tryz.prog 76 #[.pointer (some ⟨k, 0, none⟩), .agg #[.int .i64 p.kind, .slice A1 p.fields.length c1, .slice A2 p.need.length c2, .bool p.extra, .int .i64 p.items, .int .i64 p.least, .int .i64 p.most, .slice A3 NE c3, .string p.dflt], .pointer (some ⟨bo, 0, none⟩), .slice A NW c] wc (LookPost k (.slice (some ⟨b, off, none⟩) SN c9) w0 wc (L1 ++ (needF p ns ws ++ unkF p ns ws ++ objW (fun x q w => faultsS s x q w) p.fields ws (ns.zip l))))) := by
            have h := object_core (ns, l) hwo (fun x hx => iho (ns, l) rfl x hx) s k (.slice (some ⟨b, off, none⟩) SN c9) w0 wc L1 p (.slice A1 p.fields.length c1) (.slice A2 p.need.length c2) (.slice A3 NE c3) bo A c ws HHH.out HK.out HC.out.2 HPF.out HPN.out HGF.out (by rw [HPD.out]; exact good_need HHH.out.good i) (good_need HHH.out.good) ⟨ho.1, ho.2⟩ HW4.out (by have := HWL.out; omega) (by have := HLF.out; simp only; omega) (by have := HBV.out; omega)
            rw [← HNN.out.2.1] at h
            exact h
          clear h6 hbo hL1n hwo hlen hnb hbd ho
          go_wp2_with fail
          refine Calls.mono C3.out ?_
          rintro e w5 ⟨rfl, t5, i5⟩
          have T5 := Lib.hid t5
          have I5 := Lib.hid i5
          clear t5 i5 q0 q1 q2 q3 q4 q5 q6 q7 q8 a2 a3 a4 a5 y0
          go_wp2_with fail
          go_end0
          refine ⟨rfl, HT4.out.trans T5.out, ?_⟩
          rw [HFO.out]
          exact I5.out
  · have hkb : (kindJ v != p.kind) = true := bne_iff_ne.2 hkd
    have HKD := Lib.hid (faults_kind (s := s) (k := i) (by rw [← HPD.out]; exact hkd) ws)
    clear hkd
    go_quiet ((go_at_call 68; exact Calls.quiet_of_same (CK.out _)))
    generalize hW : World.drewN w2 _ = w3
    have HX3 : Hid (Ext w2 w3) := by rw [← hW]; exact ext_drewN' _ _
    clear hW y0 q0
    have C1 := Lib.hid (CF.out w3 fs 8 (HI2.out.1.ext HX3.out).1 ((HI2.out.1.turn HX3.out).way HW2.out) (by have := HLF.out; omega))
    go_wp2_with fail
    refine Calls.mono C1.out ?_
    rintro e w4 ⟨rfl, t4, i4⟩
    have HT4 := Lib.hid t4
    have HI4 := Lib.hid i4
    clear t4 i4 hkb
    go_wp2_with fail
    go_end0
    refine ⟨rfl, HT2.out.trans ((HI2.out.1.turn HX3.out).trans HT4.out), ?_⟩
    rw [HKD.out]
    exact HI4.out
theorem look_val (v : J) : LookC v := by
  induction v using J.ind with
  | hl l ih => exact value_core _ (fun l' e x hx => by injection e with e; exact ih x (by rw [e]; exact hx)) (fun o e => by cases e)
  | ho ns l ih => exact value_core _ (fun l' e => by cases e) (fun o e x hx => by unfold ofO at e; injection e with e1 e2; exact ih x (by rw [e2]; exact hx))
  | hn => exact value_core _ (fun l' e => by cases e) (fun o e => by cases e)
  | hb b => exact value_core _ (fun l' e => by cases e) (fun o e => by cases e)
  | hi n => exact value_core _ (fun l' e => by cases e) (fun o e => by cases e)
  | ht t => exact value_core _ (fun l' e => by cases e) (fun o e => by cases e)
end Go.Proofs.YtnccefeehkcneaaGreatDoor.Sc
