/-
  The program's Mac.
-/
import Derived.Test.YtplfimoeggecjaaGreatDoorSh7
import Derived.Lib.BufferWrite
import Derived.Maps.RangeWalk
namespace Go.Proofs.YtplfimoeggecjaaGreatDoor.Sx
open Go Go.RowKit

def shaS (s : ByteArray) : ByteArray := ⟨(sha s.data.toList).toArray⟩
theorem shaS_size (s : ByteArray) : (shaS s).size = 32 := rfl
theorem wpList_copy_text {ops : Array Oper} {rest : List Oper} {o : Oper} {a : Act} {w : World} {Q : Exit → Act → World → Prop} (hgd : o.guard = none) (d s : Operand)
    (ho : o.op = .call { callee := .builtin .copy, args := #[d, s], argTypes := #[93, 9] }) (g dLen dCap : Nat) (t : ByteArray) (Z : List UInt8) (ty : TypeId)
    (hd : a.eval d = .slice (some ⟨g, 0, none⟩) dLen dCap) (hs : a.eval s = .string t) (hg : w.heap[g]? = some (.cells (bvals Z).toArray ty (0, 0))) (hle : t.size ≤ dLen) (hfit : t.size ≤ Z.length)
    (h : ∀ K w', Hid (K = t.data.toList ++ Z.drop t.size ∧ w' = w.setRow g (bvals K).toArray) → wpList Tryz.prog ops Q rest (a.put o.dst (goInt t.size)) w') : wpList Tryz.prog ops Q (o :: rest) a w := by
  refine wpList_plain hgd fun K hK => ?_
  have hrun := Lib.run_copy_row_string (P := Tryz.prog) w 93 9 o.type 5 g 0 dLen dCap t (bvals Z).toArray ty Tryz.underlying93 (by kernel_rfl) hg hle (by simp [bvals_len]; exact hfit)
  simp only [List.take_zero, List.nil_append, Nat.zero_add] at hrun
  have e : Lib.byteCells t.data.toList ++ (bvals Z).drop t.size = bvals (t.data.toList ++ Z.drop t.size) := by rw [bvals_append]; simp only [bvals, List.map_drop]; rfl
  rw [e] at hrun
  unfold Oper.wp
  simp [execOp, ho, resolve, invoke, builtin, hd, hs, hrun, Result.andThen]
  exact hK _ _ (h _ _ ⟨rfl, rfl⟩)
def Z64 : List UInt8 := List.replicate 64 0
/-- K, its first i signs turned by x. -/
def xk (x : UInt8) (K : List UInt8) (i : Nat) : List UInt8 := (K.take i).map (· ^^^ x) ++ K.drop i
theorem xk_len (x : UInt8) (K : List UInt8) (i : Nat) : (xk x K i).length = K.length := by simp [xk]; omega
theorem xk_zero (x : UInt8) (K : List UInt8) : xk x K 0 = K := rfl
theorem xk_all (x : UInt8) (K : List UInt8) {n : Nat} (h : K.length ≤ n) : xk x K n = K.map (· ^^^ x) := by
  unfold xk
  rw [List.take_of_length_le h, List.drop_of_length_le h, List.append_nil]
theorem xk_at (x : UInt8) (K : List UInt8) {i : Nat} (h : i < K.length) : (bvals (xk x K i))[i]? = some (bval K[i]) := by
  have h1 : ((K.take i).map (· ^^^ x)).length = i := by simp; omega
  unfold xk bvals
  rw [List.getElem?_map, List.getElem?_append_right (by omega), h1, Nat.sub_self, List.getElem?_drop]
  simp [h]
theorem xk_succ (x : UInt8) (K : List UInt8) {i : Nat} (h : i < K.length) : (bvals (xk x K i)).toArray.setIfInBounds i (bval (K[i] ^^^ x)) = (bvals (xk x K (i + 1))).toArray := by
  have h1 : ((K.take i).map (· ^^^ x)).length = i := by simp; omega
  have e : (xk x K i).set i (K[i] ^^^ x) = xk x K (i + 1) := by
    unfold xk
    rw [List.set_append_right _ _ (by omega), h1, Nat.sub_self, List.take_succ_eq_append_getElem h, List.map_append, List.append_assoc]
    congr 1
    rw [List.drop_eq_getElem_cons h]
    rfl
  rw [← e]
  simp [bvals, List.map_set]
theorem xor8 (c : UInt8) : bits BinOp.xor IntKind.u8 (c.toNat : Int) 54 = ((c ^^^ 54).toNat : Int) ∧ bits BinOp.xor IntKind.u8 (c.toNat : Int) 92 = ((c ^^^ 92).toNat : Int) := by
  have h : ∀ n : Fin 256, bits BinOp.xor IntKind.u8 ((n.1 : Nat) : Int) 54 = (((UInt8.ofNat n.1) ^^^ 54).toNat : Int) ∧ bits BinOp.xor IntKind.u8 ((n.1 : Nat) : Int) 92 = (((UInt8.ofNat n.1) ^^^ 92).toNat : Int) := by decide +kernel
  have := h ⟨c.toNat, c.toNat_lt⟩
  simpa using this
/-- The two keys under way. -/
structure MacI (w : World) (g : Nat) (K : List UInt8) (i j : Nat) (wr : World) : Prop where
  a : wr.heap[g]? = some (.cells (bvals (xk 54 K i)).toArray 117 (0, 0))
  b : wr.heap[g + 1]? = some (.cells (bvals (xk 92 K j)).toArray 117 (0, 0))
  ext : Ext w wr
  le : w.heap.size ≤ g
theorem MacI.setA {w wr : World} {g i j : Nat} {K : List UInt8} (h : MacI w g K i j wr) (hi : i < K.length) : MacI w g K (i + 1) j (wr.setCell ⟨g, i, none⟩ (bval (K[i] ^^^ 54))) :=
  ⟨by rw [← xk_succ 54 K hi]; exact heap_setCell_same _ _ _ _ _ _ h.a, by rw [heap_setCell_other _ _ _ _ (by simp)]; exact h.b, h.ext.setCell (p := ⟨g, i, none⟩) h.le _, h.le⟩
theorem MacI.setB {w wr : World} {g i j : Nat} {K : List UInt8} (h : MacI w g K i j wr) (hj : j < K.length) : MacI w g K i (j + 1) (wr.setCell ⟨g + 1, j, none⟩ (bval (K[j] ^^^ 92))) :=
  ⟨by rw [heap_setCell_other _ _ _ _ (by simp)]; exact h.a, by rw [← xk_succ 92 K hj]; exact heap_setCell_same _ _ _ _ _ _ h.b, h.ext.setCell (p := ⟨g + 1, j, none⟩) (Nat.le_succ_of_le h.le) _, h.le⟩
theorem MacI.exts {w wr w' : World} {g i j : Nat} {K : List UInt8} (h : MacI w g K i j wr) (hx : Ext wr w') : MacI w g K i j w' :=
  ⟨(hx.block _ (heap_lt h.a)).trans h.a, (hx.block _ (heap_lt h.b)).trans h.b, h.ext.trans hx, h.le⟩
theorem MacI.cellA {w wr : World} {g i j : Nat} {K : List UInt8} (h : MacI w g K i j wr) (hi : i < K.length) : wr.cell? ⟨g, i, none⟩ = some (.int .u8 (K[i].toNat : Int)) := by
  rw [cell_of h.a, List.getElem?_toArray, xk_at 54 K hi]; rfl
theorem MacI.cellB {w wr : World} {g i j : Nat} {K : List UInt8} (h : MacI w g K i j wr) (hj : j < K.length) : wr.cell? ⟨g + 1, j, none⟩ = some (.int .u8 (K[j].toNat : Int)) := by
  rw [cell_of h.b, List.getElem?_toArray, xk_at 92 K hj]; rfl
theorem SrcB.of_array {w : World} {g n c : Nat} {t : TypeId} {l : List UInt8} (h : w.heap[g]? = some (.cells (bvals l).toArray t (0, 0))) (hn : l.length = n) : SrcB w (.slice (some ⟨g, 0, none⟩) n c) l := by
  subst hn
  exact .inr ⟨_, _, rfl, fun j u hj => by rw [Addr.add_lit, Nat.zero_add, cell_of h, List.getElem?_toArray]; exact hj⟩
theorem arr_size : (Tryz.prog.info? 117).map (·.size) = some 64 := by kernel_rfl
set_option maxRecDepth 100000 in
set_option maxHeartbeats 4000000 in
theorem mac_any (key s : ByteArray) (w : World) (hk : key.size ≤ 1048576) (hs : s.size ≤ 1048576) :
    Calls Tryz.prog 51 #[.string key, .string s] w fun e w' => e = .returned (.string ⟨(mac key.data.toList s.data.toList).toArray⟩) ∧ Ext w w' := by
  have hk1 : (key.size : Int) ≤ 1048576 := by omega
  have HS := Lib.hid hs
  have HK := Lib.hid hk
  clear hk hs
  by_cases hlong : 64 < key.size
  all_goals
    have HLONG := Lib.hid hlong
    go_enter Tryz.func51, Tryz.ntmps51
    go_upto_region 3 with (go_at_call 45; (with_reducible refine (sum_any key _ (by have := HK.out; omega)).mono ?_); rintro e w1 ⟨rfl, hx1⟩)
  · obtain ⟨k1, hk1⟩ : ∃ k1, k1 = shaS key := ⟨_, rfl⟩
    have e1 : (⟨(sha key.data.toList).toArray⟩ : ByteArray) = k1 := hk1.symm
    rw [e1]
    have hk64 : k1.size ≤ 64 := by rw [hk1, shaS_size]; omega
    have HK_1 : Hid (keyed key.data.toList = k1.data.toList ++ Z64.drop k1.size) := by
      unfold Hid keyed
      rw [if_pos (by have := HLONG.out; simp; omega), hk1]
      rfl
    have HX := Lib.hid hx1
    clear e1 hk1 hx1 HLONG hlong
    have HZ : Hid (((w1.alloc (.cells (bvals Z64).toArray 117 (0, 0))).alloc (.cells (bvals Z64).toArray 117 (0, 0))).heap[w1.heap.size]? = some (.cells (bvals Z64).toArray 117 (0, 0))) := heap_old (heap_new rfl)
    have HZ2 : Hid (((w1.alloc (.cells (bvals Z64).toArray 117 (0, 0))).alloc (.cells (bvals Z64).toArray 117 (0, 0))).heap[w1.heap.size + 1]? = some (.cells (bvals Z64).toArray 117 (0, 0))) := heap_new (by simp)
    have HZX : Hid (Ext w1 ((w1.alloc (.cells (bvals Z64).toArray 117 (0, 0))).alloc (.cells (bvals Z64).toArray 117 (0, 0)))) := Ext.trans (new_ext _ _) (new_ext _ _)
    have HLE : Hid (k1.size ≤ 64) := hk64
    clear hk64
    go_upto_region 5 with (refine wpList_copy_text rfl _ _ (by rfl) w1.heap.size 64 64 k1 Z64 117 (by rfl) (by rfl) HZ.out HLE.out HLE.out ?_; intro K w2 hK2; have HK2 := Lib.hid hK2; clear hK2)
    obtain ⟨g, hg⟩ : ∃ g, g = w1.heap.size := ⟨_, rfl⟩
    have HM : Hid (keyed key.data.toList = K ∧ K.length = 64 ∧ w2.heap[g]? = some (.cells (bvals K).toArray 117 (0, 0)) ∧ w2.heap[g + 1]? = some (.cells (bvals Z64).toArray 117 (0, 0)) ∧ Ext w w2 ∧ w.heap.size ≤ g) := by
      subst hg
      obtain ⟨e1, e2⟩ := HK2.out
      have hl : K.length = 64 := by rw [e1]; have := HLE.out; simp [Z64]; omega
      refine ⟨by rw [HK_1.out, e1], hl, ?_, ?_, ?_, HX.out.size⟩
      · rw [e2]; exact setRow_heap _ _ _ _ _ _ HZ.out
      · rw [e2]; exact (setRow_other _ _ _ _ (by omega)).trans HZ2.out
      · rw [e2]; exact setRow_ext (HX.out.trans HZX.out) _ _ HX.out.size
    clear HK2 HZ HZ2 HZX HK_1 HX
    rw [← hg]
    clear hg
    go_frame
    have HSZ : Hid ((Tryz.prog.info? 117).map (·.size) = some (bvals K).toArray.size) := by
      have e : (bvals K).toArray.size = 64 := by rw [List.size_toArray, bvals_len]; exact HM.out.2.1
      unfold Hid
      rw [e]
      exact arr_size
    have HSO : Hid ((bvals Z64).toArray.size = (bvals K).toArray.size) := by
      unfold Hid
      rw [List.size_toArray, List.size_toArray, bvals_len, bvals_len, HM.out.2.1]
      rfl
    have HONE : Hid ((bvals K).toArray.all (·.oneCell') = true) := all_oneCell_toArray (bvals_one K)
    go_wp2_with (first | (refine wpList_load_row rfl _ _ (by rfl) g (by rfl) 117 (bvals K).toArray (0, 0) (.array 64 5) HM.out.2.2.1 (by kernel_rfl) rfl HSZ.out ?_) | (refine wpList_store_row rfl _ _ _ (by rfl) (g + 1) (bvals K).toArray (by rfl) (by rfl) 117 (bvals Z64).toArray HM.out.2.2.2.1 HSZ.out HSO.out HONE.out ?_))
    obtain ⟨w3, hw3⟩ : ∃ w3, w3 = w2.setRow (g + 1) (bvals K).toArray := ⟨_, rfl⟩
    rw [← hw3]
    have HI : Hid (MacI w g K 0 0 w3) := by
      obtain ⟨e1, e2, e3, e4, e5, e6⟩ := HM.out
      unfold Hid
      rw [hw3]
      exact ⟨(setRow_other _ _ _ _ (by omega)).trans e3, setRow_heap _ _ _ _ _ _ e4, setRow_ext e5 _ _ (by omega), e6⟩
    have HKK : Hid (keyed key.data.toList = K ∧ K.length = 64) := ⟨HM.out.1, HM.out.2.1⟩
    clear hw3 HM HSZ HSO HONE HLE
    go_loopw [17] (fun x wr => ∃ i : Nat, i ≤ 64 ∧ x = .int .i64 (i : Int) ∧ Hid (MacI w g K i i wr)) (fun x _ => 64 - (intOf x).toNat)
    case atStart => exact ⟨0, by omega, rfl, HI⟩
    case round =>
      obtain ⟨i, hi, rfl, hI⟩ := hrel
      by_cases hlt : i < 64
      · have hiK : i < K.length := by rw [HKK.out.2]; exact hlt
        have cA := hI.out.cellA hiK
        have fA := free_of (j := i) hI.out.a
        have cB := (hI.out.setA hiK).cellB hiK
        have fB := free_of (j := i) (hI.out.setA hiK).b
        obtain ⟨x1, x2⟩ := xor8 K[i]
        unfold bval at cB fB
        have e54 : (K[i] ^^^ 54).toNat = K[i].toNat ^^^ 54 := by simp
        have e92 : (K[i] ^^^ 92).toNat = K[i].toNat ^^^ 92 := by simp
        rw [e54] at cB fB x1
        rw [e92] at x2
        have p0 : (0 : Int) ≤ (i : Int) := by omega
        have p1 : (i : Int) < 64 := by omega
        have HA : Hid (MacI w g K (i + 1) (i + 1) ((wr.setCell ⟨g, i, none⟩ (.int .u8 ((K[i].toNat ^^^ 54 : Nat) : Int))).setCell ⟨g + 1, i, none⟩ (.int .u8 ((K[i].toNat ^^^ 92 : Nat) : Int)))) := by
          rw [← e54, ← e92]
          exact (hI.out.setA hiK).setB hiK
        clear e54 e92
        go_wp2_with fail
        go_roundw
        case rel => exact ⟨i + 1, by omega, by go_num, HA⟩
        case measure => simp [intOf]; omega
      · obtain rfl : i = 64 := by omega
        have hle : K.length ≤ 64 := by rw [HKK.out.2]; exact Nat.le_refl _
        obtain ⟨kI, hkI⟩ : ∃ kI : ByteArray, kI = ⟨(K.map (· ^^^ 54)).toArray⟩ := ⟨_, rfl⟩
        obtain ⟨kO, hkO⟩ : ∃ kO : ByteArray, kO = ⟨(K.map (· ^^^ 92)).toArray⟩ := ⟨_, rfl⟩
        have HC : Hid (∀ wk, Ext wr wk → (convert 93 9 (.slice (some ⟨g, 0, none⟩) 64 64)).run Tryz.prog wk = .ok (.string kI) wk ∧ (convert 93 9 (.slice (some ⟨g + 1, 0, none⟩) 64 64)).run Tryz.prog wk = .ok (.string kO) wk) := fun wk hx => by
          have hM := hI.out.exts hx
          have hA := hM.a
          have hB := hM.b
          rw [xk_all _ _ hle] at hA hB
          rw [hkI, hkO]
          exact ⟨run_string (SrcB.of_array hA (by rw [List.length_map]; exact HKK.out.2)), run_string (SrcB.of_array hB (by rw [List.length_map]; exact HKK.out.2))⟩
        have HS1 : Hid (kI.size = 64 ∧ kO.size = 64) := by
          rw [hkI, hkO]
          have h := HKK.out.2
          exact ⟨by show (K.map _).toArray.size = 64; simp [h], by show (K.map _).toArray.size = 64; simp [h]⟩
        have HFIN : Hid (mac key.data.toList s.data.toList = sha (kO.data.toList ++ (shaS (kI ++ s)).data.toList)) := by
          unfold Hid mac shaS
          rw [HKK.out.1, hkI, hkO]
          simp
        have HX : Hid (Ext w wr) := hI.out.ext
        obtain ⟨hc1, hc2⟩ := HC.out wr.drew ((Below.refl _ _).drew)
        obtain ⟨r1, hr1⟩ : ∃ r1, r1 = shaS (kI ++ s) := ⟨_, rfl⟩
        have HR1 := Lib.hid hr1
        have HR2 : Hid (r1.size = 32) := by unfold Hid; rw [hr1]; rfl
        have hsum1 : (9223372036854775807 < kI.size + s.size) = False := by have := HS.out; have := HS1.out.1; simp; omega
        have hsum2 : (9223372036854775807 < kO.size + r1.size) = False := by have := HR2.out; have := HS1.out.2; simp; omega
        have C1 : Hid (∀ wk, Ext wr wk → Calls Tryz.prog 45 #[.string (kI ++ s)] wk fun e w' => e = .returned (.string r1) ∧ Ext wr w' ∧ (convert 93 9 (.slice (some ⟨g, 0, none⟩) 64 64)).run Tryz.prog w' = .ok (.string kI) w' ∧ (convert 93 9 (.slice (some ⟨g + 1, 0, none⟩) 64 64)).run Tryz.prog w' = .ok (.string kO) w') := fun wk hx =>
          (sum_any (kI ++ s) wk (by have h1 := HS.out; have h2 := HS1.out.1; rw [ByteArray.size_append]; omega)).mono fun e w' ⟨he, hx'⟩ => by
            have h := HC.out w' (hx.trans hx')
            exact ⟨by rw [he, HR1.out]; rfl, hx.trans hx', h.1, h.2⟩
        have C2 : Hid (∀ wk, Ext wr wk → Calls Tryz.prog 45 #[.string (kO ++ r1)] wk fun e w' => e = .returned (.string (shaS (kO ++ r1))) ∧ Ext wr w' ∧ (convert 93 9 (.slice (some ⟨g, 0, none⟩) 64 64)).run Tryz.prog w' = .ok (.string kI) w' ∧ (convert 93 9 (.slice (some ⟨g + 1, 0, none⟩) 64 64)).run Tryz.prog w' = .ok (.string kO) w') := fun wk hx =>
          (sum_any (kO ++ r1) wk (by have h1 := HR2.out; have h2 := HS1.out.2; rw [ByteArray.size_append]; omega)).mono fun e w' ⟨he, hx'⟩ => by
            have h := HC.out w' (hx.trans hx')
            exact ⟨he, hx.trans hx', h.1, h.2⟩
        have hxx : Ext wr wr := Below.refl _ _
        clear hI hr1 hkI hkO hle hi
        go_wp2_with fail
        go_region_law (first
          | (go_simp; go_at_call 45; with_reducible refine (C1.out _ (by first | assumption | (apply Below.drew; assumption))).mono ?_; rintro e w4 ⟨rfl, hx4, hc3, hc4⟩)
          | (go_simp; go_at_call 45; with_reducible refine (C2.out _ (by first | assumption | (apply Below.drew; assumption))).mono ?_; rintro e w5 ⟨rfl, hx5, hc5, hc6⟩))
        all_goals
          go_wp2_with fail
          go_ret
          refine ⟨?_, Ext.trans HX.out (by assumption)⟩
          rw [HFIN.out, ← HR1.out]
          rfl
  · have hk64 : key.size ≤ 64 := by omega
    have HK_1 : Hid (keyed key.data.toList = key.data.toList ++ Z64.drop key.size) := by
      unfold Hid keyed
      rw [if_neg (by have := HLONG.out; simp; omega)]
      have e : key.data.toList.length = key.size := by simp
      show key.data.toList ++ List.replicate (64 - key.data.toList.length) 0 = key.data.toList ++ (List.replicate 64 0).drop key.size
      rw [e, List.drop_replicate]
    have HX : Hid (Ext w w) := Below.refl _ _
    have HZ : Hid (((w.alloc (.cells (bvals Z64).toArray 117 (0, 0))).alloc (.cells (bvals Z64).toArray 117 (0, 0))).heap[w.heap.size]? = some (.cells (bvals Z64).toArray 117 (0, 0))) := heap_old (heap_new rfl)
    have HZ2 : Hid (((w.alloc (.cells (bvals Z64).toArray 117 (0, 0))).alloc (.cells (bvals Z64).toArray 117 (0, 0))).heap[w.heap.size + 1]? = some (.cells (bvals Z64).toArray 117 (0, 0))) := heap_new (by simp)
    have HZX : Hid (Ext w ((w.alloc (.cells (bvals Z64).toArray 117 (0, 0))).alloc (.cells (bvals Z64).toArray 117 (0, 0)))) := Ext.trans (new_ext _ _) (new_ext _ _)
    have HLE : Hid (key.size ≤ 64) := hk64
    clear hk64
    go_upto_region 5 with (refine wpList_copy_text rfl _ _ (by rfl) w.heap.size 64 64 key Z64 117 (by rfl) (by rfl) HZ.out HLE.out HLE.out ?_; intro K w2 hK2; have HK2 := Lib.hid hK2; clear hK2)
    obtain ⟨g, hg⟩ : ∃ g, g = w.heap.size := ⟨_, rfl⟩
    have HM : Hid (keyed key.data.toList = K ∧ K.length = 64 ∧ w2.heap[g]? = some (.cells (bvals K).toArray 117 (0, 0)) ∧ w2.heap[g + 1]? = some (.cells (bvals Z64).toArray 117 (0, 0)) ∧ Ext w w2 ∧ w.heap.size ≤ g) := by
      subst hg
      obtain ⟨e1, e2⟩ := HK2.out
      have hl : K.length = 64 := by rw [e1]; have := HLE.out; simp [Z64]; omega
      refine ⟨by rw [HK_1.out, e1], hl, ?_, ?_, ?_, HX.out.size⟩
      · rw [e2]; exact setRow_heap _ _ _ _ _ _ HZ.out
      · rw [e2]; exact (setRow_other _ _ _ _ (by omega)).trans HZ2.out
      · rw [e2]; exact setRow_ext (HX.out.trans HZX.out) _ _ HX.out.size
    clear HK2 HZ HZ2 HZX HK_1 HX
    rw [← hg]
    clear hg
    go_frame
    have HSZ : Hid ((Tryz.prog.info? 117).map (·.size) = some (bvals K).toArray.size) := by
      have e : (bvals K).toArray.size = 64 := by rw [List.size_toArray, bvals_len]; exact HM.out.2.1
      unfold Hid
      rw [e]
      exact arr_size
    have HSO : Hid ((bvals Z64).toArray.size = (bvals K).toArray.size) := by
      unfold Hid
      rw [List.size_toArray, List.size_toArray, bvals_len, bvals_len, HM.out.2.1]
      rfl
    have HONE : Hid ((bvals K).toArray.all (·.oneCell') = true) := all_oneCell_toArray (bvals_one K)
    go_wp2_with (first | (refine wpList_load_row rfl _ _ (by rfl) g (by rfl) 117 (bvals K).toArray (0, 0) (.array 64 5) HM.out.2.2.1 (by kernel_rfl) rfl HSZ.out ?_) | (refine wpList_store_row rfl _ _ _ (by rfl) (g + 1) (bvals K).toArray (by rfl) (by rfl) 117 (bvals Z64).toArray HM.out.2.2.2.1 HSZ.out HSO.out HONE.out ?_))
    obtain ⟨w3, hw3⟩ : ∃ w3, w3 = w2.setRow (g + 1) (bvals K).toArray := ⟨_, rfl⟩
    rw [← hw3]
    have HI : Hid (MacI w g K 0 0 w3) := by
      obtain ⟨e1, e2, e3, e4, e5, e6⟩ := HM.out
      unfold Hid
      rw [hw3]
      exact ⟨(setRow_other _ _ _ _ (by omega)).trans e3, setRow_heap _ _ _ _ _ _ e4, setRow_ext e5 _ _ (by omega), e6⟩
    have HKK : Hid (keyed key.data.toList = K ∧ K.length = 64) := ⟨HM.out.1, HM.out.2.1⟩
    clear hw3 HM HSZ HSO HONE HLE
    go_loopw [17] (fun x wr => ∃ i : Nat, i ≤ 64 ∧ x = .int .i64 (i : Int) ∧ Hid (MacI w g K i i wr)) (fun x _ => 64 - (intOf x).toNat)
    case atStart => exact ⟨0, by omega, rfl, HI⟩
    case round =>
      obtain ⟨i, hi, rfl, hI⟩ := hrel
      by_cases hlt : i < 64
      · have hiK : i < K.length := by rw [HKK.out.2]; exact hlt
        have cA := hI.out.cellA hiK
        have fA := free_of (j := i) hI.out.a
        have cB := (hI.out.setA hiK).cellB hiK
        have fB := free_of (j := i) (hI.out.setA hiK).b
        obtain ⟨x1, x2⟩ := xor8 K[i]
        unfold bval at cB fB
        have e54 : (K[i] ^^^ 54).toNat = K[i].toNat ^^^ 54 := by simp
        have e92 : (K[i] ^^^ 92).toNat = K[i].toNat ^^^ 92 := by simp
        rw [e54] at cB fB x1
        rw [e92] at x2
        have p0 : (0 : Int) ≤ (i : Int) := by omega
        have p1 : (i : Int) < 64 := by omega
        have HA : Hid (MacI w g K (i + 1) (i + 1) ((wr.setCell ⟨g, i, none⟩ (.int .u8 ((K[i].toNat ^^^ 54 : Nat) : Int))).setCell ⟨g + 1, i, none⟩ (.int .u8 ((K[i].toNat ^^^ 92 : Nat) : Int)))) := by
          rw [← e54, ← e92]
          exact (hI.out.setA hiK).setB hiK
        clear e54 e92
        go_wp2_with fail
        go_roundw
        case rel => exact ⟨i + 1, by omega, by go_num, HA⟩
        case measure => simp [intOf]; omega
      · obtain rfl : i = 64 := by omega
        have hle : K.length ≤ 64 := by rw [HKK.out.2]; exact Nat.le_refl _
        obtain ⟨kI, hkI⟩ : ∃ kI : ByteArray, kI = ⟨(K.map (· ^^^ 54)).toArray⟩ := ⟨_, rfl⟩
        obtain ⟨kO, hkO⟩ : ∃ kO : ByteArray, kO = ⟨(K.map (· ^^^ 92)).toArray⟩ := ⟨_, rfl⟩
        have HC : Hid (∀ wk, Ext wr wk → (convert 93 9 (.slice (some ⟨g, 0, none⟩) 64 64)).run Tryz.prog wk = .ok (.string kI) wk ∧ (convert 93 9 (.slice (some ⟨g + 1, 0, none⟩) 64 64)).run Tryz.prog wk = .ok (.string kO) wk) := fun wk hx => by
          have hM := hI.out.exts hx
          have hA := hM.a
          have hB := hM.b
          rw [xk_all _ _ hle] at hA hB
          rw [hkI, hkO]
          exact ⟨run_string (SrcB.of_array hA (by rw [List.length_map]; exact HKK.out.2)), run_string (SrcB.of_array hB (by rw [List.length_map]; exact HKK.out.2))⟩
        have HS1 : Hid (kI.size = 64 ∧ kO.size = 64) := by
          rw [hkI, hkO]
          have h := HKK.out.2
          exact ⟨by show (K.map _).toArray.size = 64; simp [h], by show (K.map _).toArray.size = 64; simp [h]⟩
        have HFIN : Hid (mac key.data.toList s.data.toList = sha (kO.data.toList ++ (shaS (kI ++ s)).data.toList)) := by
          unfold Hid mac shaS
          rw [HKK.out.1, hkI, hkO]
          simp
        have HX : Hid (Ext w wr) := hI.out.ext
        obtain ⟨hc1, hc2⟩ := HC.out wr.drew ((Below.refl _ _).drew)
        obtain ⟨r1, hr1⟩ : ∃ r1, r1 = shaS (kI ++ s) := ⟨_, rfl⟩
        have HR1 := Lib.hid hr1
        have HR2 : Hid (r1.size = 32) := by unfold Hid; rw [hr1]; rfl
        have hsum1 : (9223372036854775807 < kI.size + s.size) = False := by have := HS.out; have := HS1.out.1; simp; omega
        have hsum2 : (9223372036854775807 < kO.size + r1.size) = False := by have := HR2.out; have := HS1.out.2; simp; omega
        have C1 : Hid (∀ wk, Ext wr wk → Calls Tryz.prog 45 #[.string (kI ++ s)] wk fun e w' => e = .returned (.string r1) ∧ Ext wr w' ∧ (convert 93 9 (.slice (some ⟨g, 0, none⟩) 64 64)).run Tryz.prog w' = .ok (.string kI) w' ∧ (convert 93 9 (.slice (some ⟨g + 1, 0, none⟩) 64 64)).run Tryz.prog w' = .ok (.string kO) w') := fun wk hx =>
          (sum_any (kI ++ s) wk (by have h1 := HS.out; have h2 := HS1.out.1; rw [ByteArray.size_append]; omega)).mono fun e w' ⟨he, hx'⟩ => by
            have h := HC.out w' (hx.trans hx')
            exact ⟨by rw [he, HR1.out]; rfl, hx.trans hx', h.1, h.2⟩
        have C2 : Hid (∀ wk, Ext wr wk → Calls Tryz.prog 45 #[.string (kO ++ r1)] wk fun e w' => e = .returned (.string (shaS (kO ++ r1))) ∧ Ext wr w' ∧ (convert 93 9 (.slice (some ⟨g, 0, none⟩) 64 64)).run Tryz.prog w' = .ok (.string kI) w' ∧ (convert 93 9 (.slice (some ⟨g + 1, 0, none⟩) 64 64)).run Tryz.prog w' = .ok (.string kO) w') := fun wk hx =>
          (sum_any (kO ++ r1) wk (by have h1 := HR2.out; have h2 := HS1.out.2; rw [ByteArray.size_append]; omega)).mono fun e w' ⟨he, hx'⟩ => by
            have h := HC.out w' (hx.trans hx')
            exact ⟨he, hx.trans hx', h.1, h.2⟩
        have hxx : Ext wr wr := Below.refl _ _
        clear hI hr1 hkI hkO hle hi
        go_wp2_with fail
        go_region_law (first
          | (go_simp; go_at_call 45; with_reducible refine (C1.out _ (by first | assumption | (apply Below.drew; assumption))).mono ?_; rintro e w4 ⟨rfl, hx4, hc3, hc4⟩)
          | (go_simp; go_at_call 45; with_reducible refine (C2.out _ (by first | assumption | (apply Below.drew; assumption))).mono ?_; rintro e w5 ⟨rfl, hx5, hc5, hc6⟩))
        all_goals
          go_wp2_with fail
          go_ret
          refine ⟨?_, Ext.trans HX.out (by assumption)⟩
          rw [HFIN.out, ← HR1.out]
          rfl
end Go.Proofs.YtplfimoeggecjaaGreatDoor.Sx
