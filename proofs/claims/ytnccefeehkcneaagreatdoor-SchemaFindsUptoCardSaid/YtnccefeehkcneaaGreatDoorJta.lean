/-
  Texts as documents: Quote of the program, quoted of the reference (printed by gen/jt1.py).
  The reference's Digits for every int64.
  How long a value's text is, in plain words; values whose numbers fit.
-/
import Derived.Test.YtnccefeehkcneaaGreatDoorJrd
import Derived.Test.YtnccefeehkcneaaGreatDoorJba
import Derived.Test.YtnccefeehkcneaaGreatDoorMxr
import Derived.Test.YtnccefeehkcneaaGreatDoorDit
namespace Go.Proofs.YtnccefeehkcneaaGreatDoor.Jm
open Go Go.RowKit Go.Proofs.YtnccefeehkcneaaGreatDoor.Sx Go.Proofs.YtnccefeehkcneaaGreatDoor.Js Go.Proofs.YtnccefeehkcneaaGreatDoor.Gr
set_option maxRecDepth 100000 in
set_option maxHeartbeats 4000000 in
theorem quote_any (t : Tx) (w : World) (hs : t.length ≤ 16777216) : Calls Tryz.prog 106 #[.string (bx t)] w fun e w' => e = .returned (.string (bx (quoteS t))) ∧ Ext w w' := by
  obtain ⟨s, hs0⟩ : ∃ s, s = bx t := ⟨_, rfl⟩
  have hsz : s.size ≤ 16777216 := by rw [hs0, bx_size]; exact hs
  have HS : Hid (sfx s 0 = t) := by unfold Hid; rw [hs0]; simp [sfx, bx]
  rw [← hs0]
  clear hs hs0
  have hx0 : Ext w (w.alloc (.cells #[.int .u8 34] 5 (0, 0))) := new_ext _ _
  have HI : Hid (BRow w.heap.size (w.alloc (.cells #[.int .u8 34] 5 (0, 0))) (.slice (some ⟨w.heap.size, 0, none⟩) 1 1) [34]) := .inr ⟨w.heap.size, [], rfl, Nat.le_refl _, heap_new rfl, by unfold maxLen; simp⟩
  have HX0 := Lib.hid hx0
  clear hx0
  go_enter Tryz.func106, Tryz.ntmps106
  go_wp2_with fail
  go_loopw [3, 9] (fun o ix wr => ∃ (q : Nat) (acc : Tx) (n : Nat) (A : Option Addr) (c2 : Nat), q ≤ s.size ∧ n ≤ 2 * q + 1 ∧ o = .slice A n c2 ∧ ix = .int .i64 (q : Int) ∧ Hid (acc.length = n ∧ acc = 34 :: ((sfx s 0).take q).flatMap qc ∧ BRow w.heap.size wr (.slice A n c2) acc ∧ Ext w wr)) (fun _ ix _ => s.size - (intOf ix).toNat)
  case atStart => exact ⟨0, [34], 1, _, _, Nat.zero_le _, by omega, rfl, rfl, rfl, rfl, HI.out, HX0.out⟩
  case round =>
    obtain ⟨q, acc, n, A, c2, hq, hn, rfl, rfl, hR⟩ := hrel
    have hq0 : (0 : Int) ≤ (q : Int) := by omega
    by_cases hlt : q < s.size
    · have hby := run_byte s q hlt
      obtain ⟨c, hcc⟩ : ∃ c, c = byteAt s q := ⟨_, rfl⟩
      have HSX : Hid (sfx s q = c :: sfx s (q + 1)) := by rw [hcc]; exact sfx_cons hlt
      have HTK : Hid ((sfx s 0).take (q + 1) = (sfx s 0).take q ++ [c]) := by
        have h := take_next (a := 0) HSX.out (Nat.zero_le _)
        exact h
      rw [← hcc] at hby
      have hltI : (q : Int) < (s.size : Int) := by omega
      clear hcc
      by_cases hc : c = 34
      · have b34 : ((c.toNat : Int) == 34) = true := by rw [hc]; rfl
        have HQC : Hid (qc c = [92, c]) := by unfold Hid qc; rw [if_pos (.inl hc)]
        clear hc
        go_wp2_with (at_builtin; refine append_bytes rfl _ _ (by rfl) w.heap.size n 2 _ (.slice A n c2) (.slice (some ⟨wr.heap.size, 0, none⟩) 2 2) acc [92, c] (by rfl) (by rfl) (hR.out.2.2.1.ext (new_ext _ _)) (SrcB.of_block (ys := [92, c]) (heap_new rfl)) hR.out.1 rfl (by omega) (Nat.le_trans hR.out.2.2.2.size (new_ext _ _).size) ?_; intro A9 c9 w9 h9 g9 _; have HX9 : Hid (Ext w w9) := ext_row (hR.out.2.2.2.trans (new_ext _ _)) g9 (fun b e => (hR.out.2.2.1.block b e).1); have H9 := Lib.hid h9; clear h9 g9)
        go_roundw
        case rel => exact ⟨q + 1, acc ++ [92, c], n + 2, A9, c9, by omega, by omega, rfl, by go_num, by rw [List.length_append, hR.out.1]; rfl, by rw [hR.out.2.1, HTK.out, List.flatMap_append, List.flatMap_singleton, HQC.out, List.cons_append], H9.out, HX9.out⟩
        case measure => simp [intOf]; omega
      · have b34 : ((c.toNat : Int) == 34) = false := by rw [show (34 : Int) = ((34 : Nat) : Int) from rfl, byte_lit c 34 (by omega)]; simp [hc]
        have h34 := Lib.hid hc
        clear hc
        by_cases hc : c = 92
        · have b92 : ((c.toNat : Int) == 92) = true := by rw [hc]; rfl
          have HQC : Hid (qc c = [92, c]) := by unfold Hid qc; rw [if_pos (.inr hc)]
          clear hc
          go_wp2_with (at_builtin; refine append_bytes rfl _ _ (by rfl) w.heap.size n 2 _ (.slice A n c2) (.slice (some ⟨wr.heap.size, 0, none⟩) 2 2) acc [92, c] (by rfl) (by rfl) (hR.out.2.2.1.ext (new_ext _ _)) (SrcB.of_block (ys := [92, c]) (heap_new rfl)) hR.out.1 rfl (by omega) (Nat.le_trans hR.out.2.2.2.size (new_ext _ _).size) ?_; intro A9 c9 w9 h9 g9 _; have HX9 : Hid (Ext w w9) := ext_row (hR.out.2.2.2.trans (new_ext _ _)) g9 (fun b e => (hR.out.2.2.1.block b e).1); have H9 := Lib.hid h9; clear h9 g9)
          go_roundw
          case rel => exact ⟨q + 1, acc ++ [92, c], n + 2, A9, c9, by omega, by omega, rfl, by go_num, by rw [List.length_append, hR.out.1]; rfl, by rw [hR.out.2.1, HTK.out, List.flatMap_append, List.flatMap_singleton, HQC.out, List.cons_append], H9.out, HX9.out⟩
          case measure => simp [intOf]; omega
        · have b92 : ((c.toNat : Int) == 92) = false := by rw [show (92 : Int) = ((92 : Nat) : Int) from rfl, byte_lit c 92 (by omega)]; simp [hc]
          have h92 := Lib.hid hc
          clear hc
          by_cases hc : c = 10
          · have b10 : ((c.toNat : Int) == 10) = true := by rw [hc]; rfl
            have HQC : Hid (qc c = [92, 110]) := by unfold Hid qc; rw [if_neg (fun h => h.elim h34.out h92.out), if_pos hc]
            clear hc
            go_wp2_with (at_builtin; refine append_bytes rfl _ _ (by rfl) w.heap.size n 2 _ (.slice A n c2) (.slice (some ⟨wr.heap.size, 0, none⟩) 2 2) acc [92, 110] (by rfl) (by rfl) (hR.out.2.2.1.ext (new_ext _ _)) (SrcB.of_block (ys := [92, 110]) (heap_new rfl)) hR.out.1 rfl (by omega) (Nat.le_trans hR.out.2.2.2.size (new_ext _ _).size) ?_; intro A9 c9 w9 h9 g9 _; have HX9 : Hid (Ext w w9) := ext_row (hR.out.2.2.2.trans (new_ext _ _)) g9 (fun b e => (hR.out.2.2.1.block b e).1); have H9 := Lib.hid h9; clear h9 g9)
            go_roundw
            case rel => exact ⟨q + 1, acc ++ [92, 110], n + 2, A9, c9, by omega, by omega, rfl, by go_num, by rw [List.length_append, hR.out.1]; rfl, by rw [hR.out.2.1, HTK.out, List.flatMap_append, List.flatMap_singleton, HQC.out, List.cons_append], H9.out, HX9.out⟩
            case measure => simp [intOf]; omega
          · have b10 : ((c.toNat : Int) == 10) = false := by rw [show (10 : Int) = ((10 : Nat) : Int) from rfl, byte_lit c 10 (by omega)]; simp [hc]
            have h10 := Lib.hid hc
            clear hc
            by_cases hc : c = 9
            · have b9 : ((c.toNat : Int) == 9) = true := by rw [hc]; rfl
              have HQC : Hid (qc c = [92, 116]) := by unfold Hid qc; rw [if_neg (fun h => h.elim h34.out h92.out), if_neg h10.out, if_pos hc]
              clear hc
              go_wp2_with (at_builtin; refine append_bytes rfl _ _ (by rfl) w.heap.size n 2 _ (.slice A n c2) (.slice (some ⟨wr.heap.size, 0, none⟩) 2 2) acc [92, 116] (by rfl) (by rfl) (hR.out.2.2.1.ext (new_ext _ _)) (SrcB.of_block (ys := [92, 116]) (heap_new rfl)) hR.out.1 rfl (by omega) (Nat.le_trans hR.out.2.2.2.size (new_ext _ _).size) ?_; intro A9 c9 w9 h9 g9 _; have HX9 : Hid (Ext w w9) := ext_row (hR.out.2.2.2.trans (new_ext _ _)) g9 (fun b e => (hR.out.2.2.1.block b e).1); have H9 := Lib.hid h9; clear h9 g9)
              go_roundw
              case rel => exact ⟨q + 1, acc ++ [92, 116], n + 2, A9, c9, by omega, by omega, rfl, by go_num, by rw [List.length_append, hR.out.1]; rfl, by rw [hR.out.2.1, HTK.out, List.flatMap_append, List.flatMap_singleton, HQC.out, List.cons_append], H9.out, HX9.out⟩
              case measure => simp [intOf]; omega
            · have b9 : ((c.toNat : Int) == 9) = false := by rw [show (9 : Int) = ((9 : Nat) : Int) from rfl, byte_lit c 9 (by omega)]; simp [hc]
              have HQC : Hid (qc c = [c]) := by unfold Hid qc; rw [if_neg (fun h => h.elim h34.out h92.out), if_neg h10.out, if_neg hc]
              clear hc
              go_wp2_with (at_builtin; refine append_bytes rfl _ _ (by rfl) w.heap.size n 1 _ (.slice A n c2) (.slice (some ⟨wr.heap.size, 0, none⟩) 1 1) acc [c] (by rfl) (by rfl) (hR.out.2.2.1.ext (new_ext _ _)) (SrcB.of_block (ys := [c]) (heap_new rfl)) hR.out.1 rfl (by omega) (Nat.le_trans hR.out.2.2.2.size (new_ext _ _).size) ?_; intro A9 c9 w9 h9 g9 _; have HX9 : Hid (Ext w w9) := ext_row (hR.out.2.2.2.trans (new_ext _ _)) g9 (fun b e => (hR.out.2.2.1.block b e).1); have H9 := Lib.hid h9; clear h9 g9)
              go_roundw
              case rel => exact ⟨q + 1, acc ++ [c], n + 1, A9, c9, by omega, by omega, rfl, by go_num, by rw [List.length_append, hR.out.1]; rfl, by rw [hR.out.2.1, HTK.out, List.flatMap_append, List.flatMap_singleton, HQC.out, List.cons_append], H9.out, HX9.out⟩
              case measure => simp [intOf]; omega
    · have bl : decide ((q : Int) < (s.size : Int)) = false := decide_eq_false (by omega)
      have bl2 : decide (q < s.size) = false := decide_eq_false hlt
      have HEQ : Hid (acc ++ [34] = quoteS t) := by
        unfold Hid quoteS
        rw [hR.out.2.1, HS.out, List.take_of_length_le (by rw [← HS.out, sfx_len]; omega)]
        rfl
      clear hlt
      go_wp2_with (at_builtin; refine append_bytes rfl _ _ (by rfl) w.heap.size n 1 _ (.slice A n c2) (.slice (some ⟨wr.heap.size, 0, none⟩) 1 1) acc [34] (by rfl) (by rfl) (hR.out.2.2.1.ext (new_ext _ _)) (SrcB.of_block (ys := [34]) (heap_new rfl)) hR.out.1 rfl (by omega) (Nat.le_trans hR.out.2.2.2.size (new_ext _ _).size) ?_; intro A9 c9 w9 h9 g9 _; have HX9 : Hid (Ext w w9) := ext_row (hR.out.2.2.2.trans (new_ext _ _)) g9 (fun b e => (hR.out.2.2.1.block b e).1); have hcv := run_string h9.src; have H9 := Lib.hid h9; clear h9 g9)
      go_ret
      exact ⟨by rw [← HEQ.out]; rfl, HX9.out⟩
theorem bx_app (a b : Tx) : bx (a ++ b) = bx a ++ bx b := by
  have h : (bx (a ++ b)).data.toList = (bx a ++ bx b).data.toList := by simp [bx]
  have e1 := of_bx (bx (a ++ b))
  have e2 := of_bx (bx a ++ bx b)
  rw [← e1, ← e2, h]
end Go.Proofs.YtnccefeehkcneaaGreatDoor.Jm
namespace Go.Proofs.YtnccefeehkcneaaGreatDoor.Jm
open Go Go.RowKit Go.Proofs.YtnccefeehkcneaaGreatDoor.Sx Go.Proofs.YtnccefeehkcneaaGreatDoor.Js Go.Proofs.YtnccefeehkcneaaGreatDoor.Gr Go.Proofs.YtnccefeehkcneaaGreatDoor.Dc
theorem dec_len20 : ∀ (k u : Nat), u < 10 ^ (k + 1) → (Lib.decDigits u).length ≤ k + 1
  | 0, u, h => by
    rw [Lib.decDigits, dif_pos (by omega)]
    exact Nat.le_refl _
  | k + 1, u, h => by
    rw [Lib.decDigits]
    split
    · simp
    · have h2 : u / 10 < 10 ^ (k + 1) := by
        rw [Nat.pow_succ] at h
        exact Nat.div_lt_of_lt_mul (by omega)
      have := dec_len20 k (u / 10) h2
      rw [List.length_append]
      simp
      omega
end Go.Proofs.YtnccefeehkcneaaGreatDoor.Jm
namespace Go.Proofs.YtnccefeehkcneaaGreatDoor.Jm
open Go Go.RowKit Go.Proofs.YtnccefeehkcneaaGreatDoor.Sx Go.Proofs.YtnccefeehkcneaaGreatDoor.Js Go.Proofs.YtnccefeehkcneaaGreatDoor.Gr
/-- All numbers are of 64 bits, all through; as many names as values. -/
def IJ : J → Prop
  | .list l => ∀ x, x ∈ l → IJ x
  | .obj ns l => ns.length = l.length ∧ ∀ x, x ∈ l → IJ x
  | .null => True
  | .bool _ => True
  | .num n => I64 n
  | .text _ => True
theorem IJ_list {l : List J} : IJ (.list l) ↔ ∀ x, x ∈ l → IJ x := by rw [IJ]
theorem IJ_obj {ns : List Tx} {l : List J} : IJ (.obj ns l) ↔ ns.length = l.length ∧ ∀ x, x ∈ l → IJ x := by rw [IJ]
theorem IJ_num {n : Int} : IJ (.num n) ↔ I64 n := by rw [IJ]
theorem join_len : ∀ ts : List Tx, (Lib.join ts [44]).length ≤ (ts.map fun t => t.length + 1).sum
  | [] => Nat.zero_le _
  | [x] => by rw [join_one]; simp
  | x :: y :: r => by
    have := join_len (y :: r)
    rw [join_two, List.length_append, List.length_cons, List.map_cons, List.sum_cons]
    omega
theorem numT_len {n : Int} (h : I64 n) : (numT n).length ≤ 21 := by
  obtain ⟨h1, h2⟩ := h
  have hd : ∀ u : Nat, u ≤ 9223372036854775808 → (Lib.decDigits u).length ≤ 20 := fun u hu => dec_len20 19 u (by omega)
  unfold numT Lib.itoa
  split
  · have := hd n.natAbs (by omega)
    rw [List.length_cons]
    omega
  · have := hd n.toNat (by omega)
    omega
theorem sum_map_le {α : Type} (f g : α → Nat) : ∀ l : List α, (∀ x ∈ l, f x ≤ g x) → (l.map f).sum ≤ (l.map g).sum
  | [], _ => Nat.le_refl _
  | a :: l, h => by
    have := sum_map_le f g l (fun x hx => h x (List.mem_cons_of_mem _ hx))
    have h1 := h a (List.mem_cons_self ..)
    rw [List.map_cons, List.map_cons, List.sum_cons, List.sum_cons]
    omega
theorem field_sum : ∀ (ns : List Tx) (l : List J), (∀ x ∈ l, (textJ x).length ≤ bulkJ x) → (((ns.zip l).map fieldT).map fun t => t.length + 1).sum ≤ namesB ns + (l.map fun x => bulkJ x + 1).sum
  | [], l, _ => by simp
  | n :: ns, [], _ => by simp
  | n :: ns, v :: l, h => by
    have ih := field_sum ns l (fun x hx => h x (List.mem_cons_of_mem _ hx))
    have h1 := h v (List.mem_cons_self ..)
    have h2 := quote_len n
    unfold namesB at ih ⊢
    simp only [List.zip_cons_cons, List.map_cons, List.sum_cons, fieldT, List.length_append, List.length_cons] at ih ⊢
    omega
theorem text_len (j : J) : IJ j → (textJ j).length ≤ bulkJ j := by
  induction j using J.ind with
  | hn => intro _; rw [textJ, bulkJ]; decide
  | hb b => intro _; rw [textJ, bulkJ]; cases b <;> decide
  | hi n => intro h; rw [textJ, bulkJ]; have := numT_len (IJ_num.1 h); omega
  | ht s => intro _; rw [textJ, bulkJ]; have := quote_len s; omega
  | hl l ih =>
    intro h
    rw [textJ_list, bulkJ_list, List.length_cons, List.length_append]
    have h1 := join_len (l.map textJ)
    have h2 := sum_map_le (fun x => (textJ x).length + 1) (fun x => bulkJ x + 1) l (fun x hx => by have := ih x hx (IJ_list.1 h x hx); show (textJ x).length + 1 ≤ bulkJ x + 1; omega)
    rw [List.map_map] at h1
    have e : ((fun t : Tx => t.length + 1) ∘ textJ) = fun x => (textJ x).length + 1 := rfl
    rw [e] at h1
    simp only [List.length_cons, List.length_nil]
    omega
  | ho ns l ih =>
    intro h
    rw [textJ_obj, bulkJ, List.length_cons, List.length_append]
    have h1 := join_len ((ns.zip l).map fieldT)
    have h2 := field_sum ns l (fun x hx => ih x hx ((IJ_obj.1 h).2 x hx))
    simp only [List.length_cons, List.length_nil]
    omega
theorem bulk_in {l : List J} {x : J} (h : x ∈ l) : bulkJ x + 1 ≤ (l.map fun x => bulkJ x + 1).sum := by
  induction l with
  | nil => cases h
  | cons a l ih =>
    rw [List.map_cons, List.sum_cons]
    rcases List.mem_cons.1 h with rfl | h
    · omega
    · have := ih h
      omega
theorem bulk_name {ns : List Tx} {n : Tx} (h : n ∈ ns) : 2 * n.length + 8 ≤ namesB ns := by
  unfold namesB
  induction ns with
  | nil => cases h
  | cons a l ih =>
    rw [List.map_cons, List.sum_cons]
    rcases List.mem_cons.1 h with rfl | h
    · omega
    · have := ih h
      omega
theorem bulk_count (l : List J) : l.length ≤ (l.map fun x => bulkJ x + 1).sum := by
  induction l with
  | nil => exact Nat.le_refl _
  | cons a l ih => rw [List.map_cons, List.sum_cons, List.length_cons]; omega
/-- What is well made and lies in the program's memory has numbers that fit. -/
theorem PV.ij {F : Nat → Prop} {w : World} (j : J) : ∀ v, PV F w j v → WJ j → IJ j := by
  induction j using J.ind with
  | hn => intro v _ _; rw [IJ]; trivial
  | hb b => intro v _ _; rw [IJ]; trivial
  | hi n => intro v h _; exact IJ_num.2 (PV_num.1 h).2
  | ht s => intro v _ _; rw [IJ]; trivial
  | hl l ih =>
    intro v h hw
    obtain ⟨A, c, _, _, hv⟩ := PV_list.1 h
    refine IJ_list.2 (fun x hx => ?_)
    obtain ⟨i, hi, rfl⟩ := List.mem_iff_getElem.1 hx
    obtain ⟨g, off, u, _, _, _, hp⟩ := hv i hi
    exact ih _ hx u hp (WJ_list.1 hw _ hx)
  | ho ns l ih =>
    intro v h hw
    obtain ⟨b, _, _, A, c, B, d, _, _, _, _, hv⟩ := PV_obj.1 h
    refine IJ_obj.2 ⟨(WJ_obj.1 hw).1.1, fun x hx => ?_⟩
    obtain ⟨i, hi, rfl⟩ := List.mem_iff_getElem.1 hx
    obtain ⟨g, off, u, _, _, _, hp⟩ := hv i hi
    exact ih _ hx u hp ((WJ_obj.1 hw).2 _ hx)
end Go.Proofs.YtnccefeehkcneaaGreatDoor.Jm
