/-
  Audit: the reference's sides.
  Audit: the reference's proof.
  Audit: the reference's AuditProof; the program's Proof.
  Audit: the program's Proof.
-/
import Derived.Test.YtpbbohinhbboaaaAuA
import Derived.Test.YtpbbohinhbboaaaOrow
namespace Go.Proofs.Ytpbbohinhbboaaa.Sx
open Go Go.RowKit

theorem sidesL_len : ∀ (m i n : Nat), n ≤ m → (sidesL i n).length ≤ n
  | 0, i, n, h => by rw [sidesL_few (by omega)]; simp
  | m + 1, i, n, h => by
    by_cases h2 : 2 ≤ n ∧ n ≤ 200
    · have hh := hp_lt h2.1 h2.2
      rw [sidesL_many h2.1 h2.2]
      split
      · rw [List.length_append]
        have := sidesL_len m i (hp n) (by omega)
        simp
        omega
      · rw [List.length_append]
        have := sidesL_len m (i - hp n) (n - hp n) (by omega)
        simp
        omega
    · rw [sidesL, dif_neg h2]
      simp
set_option maxRecDepth 100000 in
set_option maxHeartbeats 4000000 in
theorem sides_any : ∀ (m i n : Nat) (w : World), n ≤ m → n ≤ 200 → i < n →
    Calls Try.prog 114 #[.int .i64 (i : Int), .int .i64 (n : Int)] w fun e w' => ∃ A c, e = .returned (.slice A (sidesL i n).length c) ∧ tAcc w w' (.slice A (sidesL i n).length c) (sidesL i n) := by
  intro m
  induction m with
  | zero => intro i n w h1 _ h2; omega
  | succ m ih =>
    intro i n w hm h200 hin
    have hi200 : (i : Int) ≤ 200 := by omega
    have hn200 : (n : Int) ≤ 200 := by omega
    by_cases h2 : 2 ≤ n
    · obtain ⟨k, hk⟩ : ∃ k, k = hp n := ⟨_, rfl⟩
      obtain ⟨hk1, hk2, hk3⟩ := hp_lt h2 h200
      rw [← hk] at hk1 hk2 hk3
      have HK := Lib.hid hk
      have HN := Lib.hid (And.intro h2 h200)
      have ht : decide ((n : Int) < 2) = false := by simp; omega
      have hn2 : (2 : Int) ≤ (n : Int) := by omega
      have HIN := Lib.hid hin
      have HK3 := Lib.hid (And.intro hk1 (And.intro hk2 hk3))
      have HMANY := Lib.hid (sidesL_many (i := i) h2 h200)
      rw [← hk] at HMANY
      have C1 : Hid (i < k → ∀ wk, Calls Try.prog 114 #[.int .i64 (i : Int), .int .i64 (k : Int)] wk fun e w' => ∃ A c, e = .returned (.slice A (sidesL i k).length c) ∧ tAcc wk w' (.slice A (sidesL i k).length c) (sidesL i k)) := fun hlt wk =>
        ih i k wk (by omega) (by omega) hlt
      have C2 : Hid (¬ i < k → ∀ wk, Calls Try.prog 114 #[.int .i64 ((i : Int) - (k : Int)), .int .i64 ((n : Int) - (k : Int))] wk fun e w' => ∃ A c, e = .returned (.slice A (sidesL (i - k) (n - k)).length c) ∧ tAcc wk w' (.slice A (sidesL (i - k) (n - k)).length c) (sidesL (i - k) (n - k))) := fun hge wk => by
        have e1 : (i : Int) - (k : Int) = ((i - k : Nat) : Int) := by omega
        have e2 : (n : Int) - (k : Int) = ((n - k : Nat) : Int) := by omega
        rw [e1, e2]
        exact ih (i - k) (n - k) wk (by omega) (by omega) (by omega)
      clear ih hm h200 hin h2 hk hk1 hk2 hk3
      go_enter Try.func114, Try.ntmps114
      go_wp2_with fail
      go_loop [5] (fun x => ∃ q : Nat, x = .int .i64 (q : Int) ∧ Hid (1 ≤ q ∧ q ≤ 199 ∧ Nat.log2 q = Nat.log2 (n - 1))) (fun x => (intOf x).toNat)
      case atStart => exact ⟨n - 1, (by have e : ((n - 1 : Nat) : Int) = (n : Int) - 1 := (by omega); rw [e]), ⟨by have := HN.out; omega, by have := HN.out; omega, rfl⟩⟩
      case round =>
        obtain ⟨q, rfl, hq⟩ := hrel
        have hand := and_strike hq.out.1 (by have := hq.out.2.1; omega)
        obtain ⟨s1', s2', s3'⟩ := strike hq.out.1 (by have := hq.out.2.1; omega)
        obtain ⟨v, hv⟩ : ∃ v, v = q &&& (q - 1) := ⟨_, rfl⟩
        rw [← hv] at hand s1' s2' s3'
        have p0 : (1 : Int) ≤ (q : Int) := by have := hq.out.1; omega
        have p1 : (q : Int) ≤ 199 := by have := hq.out.2.1; omega
        by_cases h0 : v = 0
        · have hqk : q = k := by
            rw [HK.out]
            exact strike_end hq.out.2.2 hq.out.1 (by have := hq.out.2.1; omega) (by rw [← hv]; exact h0)
          have z1 : ((v : Int) == 0) = true := by simp [h0]
          have z2 : ((v : Int) != 0) = false := by simp [h0]
          clear s1' s2' s3' hv h0
          subst hqk
          have hkn : (q : Int) < (n : Int) := by have := HK3.out.2.1; omega
          by_cases hlt : i < q
          · have tl : decide (i < q) = true := by simp; omega
            have C := Lib.hid (C1.out hlt)
            have HS : Hid (sidesL i n = sidesL i q ++ [true]) := by unfold Hid; rw [HMANY.out, if_pos hlt]
            obtain ⟨z, hz⟩ : ∃ z, z = (sidesL i q).length := ⟨_, rfl⟩
            have hz200 : z ≤ 200 := by rw [hz]; have := sidesL_len q i q (Nat.le_refl _); omega
            have HZ := Lib.hid hz
            clear hlt hz
            go_wp2_with (first
              | (go_at_call 114; (with_reducible refine (C.out _).mono ?_); rintro e w2 ⟨A2, c2, rfl, h2⟩; rw [← HZ.out]; rw [← HZ.out] at h2; have H2 := Lib.hid h2; clear h2)
              | (at_builtin; refine tappend_acc rfl _ _ (by rfl) z 1 w _ _ _ (sidesL i q) [true] (by rfl) (by rfl) (H2.out.alloc _) (tSrcB.of_block (ys := [true]) (heap_new rfl)) HZ.out.symm rfl (by omega) ?_; intro A3 c3 w3 h3; have H3 := Lib.hid h3; clear h3))
            go_ret
            refine ⟨A3, c3, ?_, ?_⟩
            · rw [HS.out, List.length_append, ← HZ.out]; rfl
            · rw [HS.out, List.length_append, ← HZ.out]; exact H3.out
          · have tl : decide (i < q) = false := by simp; omega
            have hqi : (q : Int) ≤ (i : Int) := by omega
            have C := Lib.hid (C2.out hlt)
            have HS : Hid (sidesL i n = sidesL (i - q) (n - q) ++ [false]) := by unfold Hid; rw [HMANY.out, if_neg hlt]
            obtain ⟨z, hz⟩ : ∃ z, z = (sidesL (i - q) (n - q)).length := ⟨_, rfl⟩
            have hz200 : z ≤ 200 := by rw [hz]; have := sidesL_len (n - q) (i - q) (n - q) (Nat.le_refl _); omega
            have HZ := Lib.hid hz
            clear hlt hz
            go_wp2_with (first
              | (go_at_call 114; (with_reducible refine (C.out _).mono ?_); rintro e w2 ⟨A2, c2, rfl, h2⟩; rw [← HZ.out]; rw [← HZ.out] at h2; have H2 := Lib.hid h2; clear h2)
              | (at_builtin; refine tappend_acc rfl _ _ (by rfl) z 1 w _ _ _ (sidesL (i - q) (n - q)) [false] (by rfl) (by rfl) (H2.out.alloc _) (tSrcB.of_block (ys := [false]) (heap_new rfl)) HZ.out.symm rfl (by omega) ?_; intro A3 c3 w3 h3; have H3 := Lib.hid h3; clear h3))
            go_ret
            refine ⟨A3, c3, ?_, ?_⟩
            · rw [HS.out, List.length_append, ← HZ.out]; rfl
            · rw [HS.out, List.length_append, ← HZ.out]; exact H3.out
        · have z1 : ((v : Int) == 0) = false := by simp [h0]
          have z2 : ((v : Int) != 0) = true := by simp [h0]
          have HS3 := Lib.hid (s3' h0)
          have hv1 : 1 ≤ v := by omega
          have hlt : v < q := s1'
          clear s1' s2' s3' hv h0
          go_wp2_with fail
          go_round
          case rel => exact ⟨v, rfl, ⟨hv1, by have := hq.out.2.1; omega, by rw [HS3.out]; exact hq.out.2.2⟩⟩
          case measure => simp [intOf]; omega
    · have ht : decide ((n : Int) < 2) = true := by simp; omega
      have HF := Lib.hid (sidesL_few (i := i) h2)
      clear ih hm h200 hin h2
      go_enter Try.func114, Try.ntmps114
      go_wp2_with fail
      go_ret
      exact ⟨none, 0, by rw [HF.out]; rfl, by rw [HF.out]; exact tAcc.nil (Below.refl _ _)⟩
end Go.Proofs.Ytpbbohinhbboaaa.Sx
namespace Go.Proofs.Ytpbbohinhbboaaa.Sx
open Go Go.RowKit

def proofS (xs : List ByteArray) (i : Nat) : List ByteArray := (proofL (bl xs) i).map bs
theorem hexS_root (xs : List ByteArray) : bs (hex (rootL (bl xs))) = hexS (rootS xs) := by unfold hexS rootS; simp [bs]
theorem proofS_many {xs : List ByteArray} {i : Nat} (h : 2 ≤ xs.length) (h2 : xs.length ≤ 200) : proofS xs i = if i < hp xs.length then proofS (xs.take (hp xs.length)) i ++ [hexS (rootS (xs.drop (hp xs.length)))] else proofS (xs.drop (hp xs.length)) (i - hp xs.length) ++ [hexS (rootS (xs.take (hp xs.length)))] := by
  unfold proofS
  rw [proofL_many (l := bl xs) (by rw [bl_len]; exact h) (by rw [bl_len]; exact h2), bl_len, bl_take, bl_drop]
  split
  · rw [List.map_append, List.map_cons, List.map_nil, hexS_root]
  · rw [List.map_append, List.map_cons, List.map_nil, hexS_root]
theorem proofS_few {xs : List ByteArray} {i : Nat} (h : ¬ 2 ≤ xs.length) : proofS xs i = [] := by
  unfold proofS
  rw [proofL_few (by rw [bl_len]; exact h)]
  rfl
theorem proofS_len : ∀ (m : Nat) (xs : List ByteArray) (i : Nat), xs.length ≤ m → (proofS xs i).length ≤ xs.length
  | 0, xs, i, h => by rw [proofS_few (by omega)]; simp
  | m + 1, xs, i, h => by
    by_cases h2 : 2 ≤ xs.length ∧ xs.length ≤ 200
    · have hh := hp_lt h2.1 h2.2
      rw [proofS_many h2.1 h2.2]
      split
      · rw [List.length_append]
        have := proofS_len m (xs.take (hp xs.length)) i (by rw [List.length_take]; omega)
        rw [List.length_take] at this
        simp
        omega
      · rw [List.length_append]
        have := proofS_len m (xs.drop (hp xs.length)) (i - hp xs.length) (by rw [List.length_drop]; omega)
        rw [List.length_drop] at this
        simp
        omega
    · unfold proofS
      rw [proofL, dif_neg (by rw [bl_len]; exact h2)]
      simp
theorem strSrc_one {w : World} {g : Nat} {x : ByteArray} (h : w.heap[g]? = some (.cells #[.string x] strT (0, 0))) : SrcS w (.slice (some ⟨g, 0, none⟩) 1 1) [x] :=
  .inr ⟨_, 1, rfl, fun j u hj => by
    have hj' : j < 1 := by have := (List.getElem?_eq_some_iff.1 hj).1; simpa [strVals] using this
    obtain rfl : j = 0 := by omega
    rw [Addr.add_lit, cell_of h]
    simpa [strVals] using hj⟩
theorem hexS_size (x : ByteArray) : (hexS x).size = 2 * x.size := by unfold hexS; rw [bs_size, hex_len]; simp
theorem SRow.srowBelow {base : Nat} {w w' : World} {v : Value} {xs : List ByteArray} (h : SRow base w v xs) (hg : w.grownBy w' v.ownBlock) (hb : base ≤ w.heap.size) : Below base w w' :=
  ⟨hg.os, hg.tape, hg.output, hg.size, fun k hk => hg.block k (by omega) (fun e => by have := (h.block k e.symm).1; omega)⟩
/-- What the reference's proof leaves. -/
def PfPost (w : World) (zs : List ByteArray) (e : Ending) (w' : World) : Prop := ∃ A c, e = .returned (.slice A zs.length c) ∧ SRow w.heap.size w' (.slice A zs.length c) zs ∧ Ext w w'
set_option maxRecDepth 100000 in
set_option maxHeartbeats 8000000 in
theorem rproof_some : ∀ (m : Nat) (xs : List ByteArray) (b off n c i : Nat) (w : World), n ≤ m → xs.length = n → i < n → n ≤ 200 → n ≤ c → LinesAt w b off xs →
    Calls Try.prog 113 #[.slice (some ⟨b, off, none⟩) n c, .int .i64 (i : Int)] w (PfPost w (proofS xs i)) := by
  intro m
  induction m with
  | zero => intro xs b off n c i w h1 _ h2; omega
  | succ m ih =>
    intro xs b off n c i w hm hl hin h200 hc hx
    have hi200 : (i : Int) ≤ 200 := by omega
    by_cases h2 : 2 ≤ n
    · obtain ⟨k, hk⟩ : ∃ k, k = hp n := ⟨_, rfl⟩
      obtain ⟨hk1, hk2, hk3⟩ := hp_lt h2 h200
      rw [← hk] at hk1 hk2 hk3
      have s1 := run_cut_to b off n c k (by omega)
      have s2 := run_cut_from b off n c k (by omega) (by omega)
      have HK := Lib.hid hk
      have HN := Lib.hid (And.intro h2 h200)
      have HK3 := Lib.hid (And.intro hk1 (And.intro hk2 hk3))
      have ht : decide ((n : Int) < 2) = false := by simp; omega
      have hn2 : (2 : Int) ≤ (n : Int) := by omega
      have hn200 : (n : Int) ≤ 200 := by omega
      have HMANY : Hid (proofS xs i = if i < k then proofS (xs.take k) i ++ [hexS (rootS (xs.drop k))] else proofS (xs.drop k) (i - k) ++ [hexS (rootS (xs.take k))]) := by
        unfold Hid
        rw [hk, ← hl]
        exact proofS_many (by omega) (by omega)
      have hxx : Ext w w := Below.refl _ _
      obtain ⟨r1, hr1⟩ : ∃ r, r = rootS (xs.take k) := ⟨_, rfl⟩
      obtain ⟨r2, hr2⟩ : ∃ r, r = rootS (xs.drop k) := ⟨_, rfl⟩
      obtain ⟨z1, hz1⟩ : ∃ r, r = hexS r1 := ⟨_, rfl⟩
      obtain ⟨z2, hz2⟩ : ∃ r, r = hexS r2 := ⟨_, rfl⟩
      have P1 : Hid (i < k → ∀ wk, Ext w wk → Calls Try.prog 113 #[.slice (some ⟨b, off, none⟩) k c, .int .i64 (i : Int)] wk fun e w' => ∃ A c', e = .returned (.slice A (proofS (xs.take k) i).length c') ∧ SRow w.heap.size w' (.slice A (proofS (xs.take k) i).length c') (proofS (xs.take k) i) ∧ Ext w w') := fun hlt wk hw =>
        (ih (xs.take k) b off k c i wk (by omega) (by rw [List.length_take]; omega) hlt (by omega) (by omega) ((hx.ext hw).take k)).mono fun _ _ ⟨A, c', h1, h2, h3⟩ => ⟨A, c', h1, h2.low hw.size, hw.trans h3⟩
      have P2 : Hid (¬ i < k → ∀ wk, Ext w wk → Calls Try.prog 113 #[.slice (some ⟨b, off + k, none⟩) (n - k) (c - k), .int .i64 ((i : Int) - (k : Int))] wk fun e w' => ∃ A c', e = .returned (.slice A (proofS (xs.drop k) (i - k)).length c') ∧ SRow w.heap.size w' (.slice A (proofS (xs.drop k) (i - k)).length c') (proofS (xs.drop k) (i - k)) ∧ Ext w w') := fun hge wk hw => by
        have e1 : (i : Int) - (k : Int) = ((i - k : Nat) : Int) := by omega
        rw [e1]
        exact (ih (xs.drop k) b (off + k) (n - k) (c - k) (i - k) wk (by omega) (by rw [List.length_drop]; omega) (by omega) (by omega) (by omega) ((hx.ext hw).drop k)).mono fun _ _ ⟨A, c', h1, h2, h3⟩ => ⟨A, c', h1, h2.low hw.size, hw.trans h3⟩
      have R1 : Hid (∀ wk, Ext w wk → Calls Try.prog 111 #[.slice (some ⟨b, off, none⟩) k c] wk fun e w' => e = .returned (.string r1) ∧ Ext wk w' ∧ Ext w w') := fun wk hw =>
        (rrootOf_some k (xs.take k) b off k c wk (Nat.le_refl _) (by rw [List.length_take]; omega) hk1 (by omega) (by omega) ((hx.ext hw).take k)).mono fun _ _ ⟨h1, h2⟩ => ⟨by rw [h1, hr1], h2, hw.trans h2⟩
      have R2 : Hid (∀ wk, Ext w wk → Calls Try.prog 111 #[.slice (some ⟨b, off + k, none⟩) (n - k) (c - k)] wk fun e w' => e = .returned (.string r2) ∧ Ext wk w' ∧ Ext w w') := fun wk hw =>
        (rrootOf_some (n - k) (xs.drop k) b (off + k) (n - k) (c - k) wk (Nat.le_refl _) (by rw [List.length_drop]; omega) (by omega) (by omega) (by omega) ((hx.ext hw).drop k)).mono fun _ _ ⟨h1, h2⟩ => ⟨by rw [h1, hr2], h2, hw.trans h2⟩
      have H1 : Hid (∀ wk, Ext w wk → Calls Try.prog 40 #[.string r1] wk fun e w' => e = .returned (.string z1) ∧ Ext wk w' ∧ Ext w w') := fun wk hw =>
        (rhex_any r1 wk (by rw [hr1, rootS_size]; omega)).mono fun _ _ ⟨h1, h2⟩ => ⟨by rw [h1, hz1]; rfl, h2, hw.trans h2⟩
      have H2 : Hid (∀ wk, Ext w wk → Calls Try.prog 40 #[.string r2] wk fun e w' => e = .returned (.string z2) ∧ Ext wk w' ∧ Ext w w') := fun wk hw =>
        (rhex_any r2 wk (by rw [hr2, rootS_size]; omega)).mono fun _ _ ⟨h1, h2⟩ => ⟨by rw [h1, hz2]; rfl, h2, hw.trans h2⟩
      have HZ := Lib.hid (And.intro (hz1.trans (by rw [hr1])) (hz2.trans (by rw [hr2])))
      have HLS : Hid ((proofS (xs.take k) i).length ≤ 200 ∧ (proofS (xs.drop k) (i - k)).length ≤ 200) := by
        have a1 := proofS_len k (xs.take k) i (by rw [List.length_take]; omega)
        have a2 := proofS_len n (xs.drop k) (i - k) (by rw [List.length_drop]; omega)
        rw [List.length_take] at a1
        rw [List.length_drop] at a2
        exact ⟨by omega, by omega⟩
      clear hr1 hr2 hz1 hz2 ih hm hl hin h200 hc hx h2 hk hk1 hk2 hk3
      go_enter Try.func113, Try.ntmps113
      go_wp2_with fail
      go_loop [5] (fun x => ∃ q : Nat, x = .int .i64 (q : Int) ∧ Hid (1 ≤ q ∧ q ≤ 199 ∧ Nat.log2 q = Nat.log2 (n - 1))) (fun x => (intOf x).toNat)
      case atStart => exact ⟨n - 1, (by have e : ((n - 1 : Nat) : Int) = (n : Int) - 1 := (by omega); rw [e]), ⟨by have := HN.out; omega, by have := HN.out; omega, rfl⟩⟩
      case round =>
        obtain ⟨q, rfl, hq⟩ := hrel
        have hand := and_strike hq.out.1 (by have := hq.out.2.1; omega)
        obtain ⟨s1', s2', s3'⟩ := strike hq.out.1 (by have := hq.out.2.1; omega)
        obtain ⟨v, hv⟩ : ∃ v, v = q &&& (q - 1) := ⟨_, rfl⟩
        rw [← hv] at hand s1' s2' s3'
        have p0 : (1 : Int) ≤ (q : Int) := by have := hq.out.1; omega
        have p1 : (q : Int) ≤ 199 := by have := hq.out.2.1; omega
        by_cases h0 : v = 0
        · have hqk : q = k := by
            rw [HK.out]
            exact strike_end hq.out.2.2 hq.out.1 (by have := hq.out.2.1; omega) (by rw [← hv]; exact h0)
          have z1' : ((v : Int) == 0) = true := by simp [h0]
          have z2' : ((v : Int) != 0) = false := by simp [h0]
          clear s1' s2' s3' hv h0
          subst hqk
          have hkn : (q : Int) < (n : Int) := by have := HK3.out.2.1; omega
          by_cases hlt : i < q
          · have tl : decide (i < q) = true := by simp; omega
            have P := Lib.hid (P1.out hlt)
            have HS : Hid (proofS xs i = proofS (xs.take q) i ++ [z2]) := by unfold Hid; rw [HMANY.out, if_pos hlt, HZ.out.2]
            obtain ⟨ys, hys⟩ : ∃ ys, ys = proofS (xs.take q) i := ⟨_, rfl⟩
            rw [← hys] at P HS
            obtain ⟨z, hz⟩ : ∃ z, z = ys.length := ⟨_, rfl⟩
            rw [← hz] at P
            have hz200 : z ≤ 200 := by rw [hz, hys]; exact HLS.out.1
            have HZL := Lib.hid hz
            clear hlt hz hys P1 P2 R1 H1
            go_wp2_with fail
            go_region_law (first
              | (refine step_append_srs rfl _ _ (by rfl) w.heap.size z 1 _ _ _ ys [z2] (by rfl) (by rfl) (HA4.out.ext (new_ext _ _)) (strSrc_one (heap_new rfl)) HZL.out.symm rfl (by omega) (by omega) (HW4.out.trans (new_ext _ _)).size ?_; intro A9 c9 w9 i1 i2 i3; have H9 := Lib.hid (And.intro i1 (Below.trans (HW4.out.trans (new_ext _ _)) ((HA4.out.ext (new_ext _ _)).srowBelow i2 (HW4.out.trans (new_ext _ _)).size))); clear i1 i2 i3)
              | (go_simp; go_at_call 113; with_reducible refine (P.out _ (by first | assumption | (apply Below.drew; assumption))).mono ?_; rintro e w2 ⟨A2, c2, rfl, ha2, hx2⟩; have HA2 := Lib.hid ha2; clear ha2)
              | (go_simp; go_at_call 111; with_reducible refine (R2.out _ (by first | assumption | (apply Below.drew; assumption))).mono ?_; rintro e w3 ⟨rfl, hy3, hx3⟩; have HA3 := Lib.hid (HA2.out.ext hy3); clear hy3)
              | (go_simp; go_at_call 40; with_reducible refine (H2.out _ (by first | assumption | (apply Below.drew; assumption))).mono ?_; rintro e w4 ⟨rfl, hy4, hx4⟩; have HA4 := Lib.hid (HA3.out.ext hy4); have HW4 := Lib.hid hx4; clear hy4))
            all_goals
              go_wp2_with fail
              go_ret
              refine ⟨A9, c9, ?_, ?_, H9.out.2⟩
              · rw [HS.out, List.length_append, ← HZL.out]; rfl
              · rw [HS.out, List.length_append, ← HZL.out]; exact H9.out.1
          · have tl : decide (i < q) = false := by simp; omega
            have hqi : (q : Int) ≤ (i : Int) := by omega
            have hwr : IntKind.i64.wrap ((i : Int) - (q : Int)) = (i : Int) - (q : Int) := IntWalk.i64_in _ (by omega)
            have P := Lib.hid (P2.out hlt)
            have HS : Hid (proofS xs i = proofS (xs.drop q) (i - q) ++ [z1]) := by unfold Hid; rw [HMANY.out, if_neg hlt, HZ.out.1]
            obtain ⟨ys, hys⟩ : ∃ ys, ys = proofS (xs.drop q) (i - q) := ⟨_, rfl⟩
            rw [← hys] at P HS
            obtain ⟨z, hz⟩ : ∃ z, z = ys.length := ⟨_, rfl⟩
            rw [← hz] at P
            have hz200 : z ≤ 200 := by rw [hz, hys]; exact HLS.out.2
            have HZL := Lib.hid hz
            clear hlt hz hys P1 P2 R2 H2
            go_wp2_with fail
            go_region_law (first
              | (refine step_append_srs rfl _ _ (by rfl) w.heap.size z 1 _ _ _ ys [z1] (by rfl) (by rfl) (HA4.out.ext (new_ext _ _)) (strSrc_one (heap_new rfl)) HZL.out.symm rfl (by omega) (by omega) (HW4.out.trans (new_ext _ _)).size ?_; intro A9 c9 w9 i1 i2 i3; have H9 := Lib.hid (And.intro i1 (Below.trans (HW4.out.trans (new_ext _ _)) ((HA4.out.ext (new_ext _ _)).srowBelow i2 (HW4.out.trans (new_ext _ _)).size))); clear i1 i2 i3)
              | (go_simp; go_at_call 113; with_reducible refine (P.out _ (by first | assumption | (apply Below.drew; assumption))).mono ?_; rintro e w2 ⟨A2, c2, rfl, ha2, hx2⟩; have HA2 := Lib.hid ha2; clear ha2)
              | (go_simp; go_at_call 111; with_reducible refine (R1.out _ (by first | assumption | (apply Below.drew; assumption))).mono ?_; rintro e w3 ⟨rfl, hy3, hx3⟩; have HA3 := Lib.hid (HA2.out.ext hy3); clear hy3)
              | (go_simp; go_at_call 40; with_reducible refine (H1.out _ (by first | assumption | (apply Below.drew; assumption))).mono ?_; rintro e w4 ⟨rfl, hy4, hx4⟩; have HA4 := Lib.hid (HA3.out.ext hy4); have HW4 := Lib.hid hx4; clear hy4))
            all_goals
              go_wp2_with fail
              go_ret
              refine ⟨A9, c9, ?_, ?_, H9.out.2⟩
              · rw [HS.out, List.length_append, ← HZL.out]; rfl
              · rw [HS.out, List.length_append, ← HZL.out]; exact H9.out.1
        · have z1' : ((v : Int) == 0) = false := by simp [h0]
          have z2' : ((v : Int) != 0) = true := by simp [h0]
          have HS3 := Lib.hid (s3' h0)
          have hv1 : 1 ≤ v := by omega
          have hlt : v < q := s1'
          clear s1' s2' s3' hv h0
          go_wp2_with fail
          go_round
          case rel => exact ⟨v, rfl, ⟨hv1, by have := hq.out.2.1; omega, by rw [HS3.out]; exact hq.out.2.2⟩⟩
          case measure => simp [intOf]; omega
    · have ht : decide ((n : Int) < 2) = true := by simp; omega
      have HF := Lib.hid (proofS_few (xs := xs) (i := i) (by omega))
      clear ih hm hl hin h200 hc hx h2
      go_enter Try.func113, Try.ntmps113
      go_wp2_with fail
      go_ret
      exact ⟨none, 0, by rw [HF.out]; rfl, by rw [HF.out]; exact SRow.nil, Below.refl _ _⟩
end Go.Proofs.Ytpbbohinhbboaaa.Sx
namespace Go.Proofs.Ytpbbohinhbboaaa.Sx
open Go Go.RowKit

theorem outside_in (n low high : Int) (w : World) (h1 : low ≤ n) (h2 : n ≤ high) : Calls Try.prog 59 #[.int .i64 n, .int .i64 low, .int .i64 high] w fun e w' => e = .returned (.bool false) ∧ w = w' := by
  have t1 : decide (n < low) = false := by simp; omega
  have t2 : decide (high < n) = false := by simp; omega
  clear h1 h2
  go_enter Try.func59, Try.ntmps59
  go_wp2
  go_ret
  exact ⟨rfl, rfl⟩
theorem outside_low (n low high : Int) (w : World) (h1 : n < low) : Calls Try.prog 59 #[.int .i64 n, .int .i64 low, .int .i64 high] w fun e w' => e = .returned (.bool true) ∧ w = w' := by
  have t1 : decide (n < low) = true := by simp; omega
  clear h1
  go_enter Try.func59, Try.ntmps59
  go_wp2
  go_ret
  exact ⟨rfl, rfl⟩
theorem outside_high (n low high : Int) (w : World) (h1 : low ≤ n) (h2 : high < n) : Calls Try.prog 59 #[.int .i64 n, .int .i64 low, .int .i64 high] w fun e w' => e = .returned (.bool true) ∧ w = w' := by
  have t1 : decide (n < low) = false := by simp; omega
  have t2 : decide (high < n) = true := by simp; omega
  clear h1 h2
  go_enter Try.func59, Try.ntmps59
  go_wp2
  go_ret
  exact ⟨rfl, rfl⟩
/-- Is it outside? -/
def outB (n low high : Int) : Bool := decide (n < low) || decide (high < n)
theorem outside_any (n low high : Int) (w : World) : Calls Try.prog 59 #[.int .i64 n, .int .i64 low, .int .i64 high] w fun e w' => e = .returned (.bool (outB n low high)) ∧ w = w' := by
  unfold outB
  by_cases h1 : n < low
  · exact (outside_low n low high w h1).mono fun _ _ ⟨a, b⟩ => ⟨by rw [a]; simp [h1], b⟩
  · by_cases h2 : high < n
    · exact (outside_high n low high w (by omega) h2).mono fun _ _ ⟨a, b⟩ => ⟨by rw [a]; simp [h2], b⟩
    · exact (outside_in n low high w (by omega) (by omega)).mono fun _ _ ⟨a, b⟩ => ⟨by rw [a]; simp [h1, h2], b⟩
/-- What Proof answers. -/
def pfL (xs : List ByteArray) (i : Int) : List ByteArray := if 200 < xs.length then [] else if i < 0 ∨ (xs.length : Int) ≤ i then [] else proofS xs i.toNat
def pfE (xs : List ByteArray) (i : Int) : Int := if 200 < xs.length then 2 else if i < 0 ∨ (xs.length : Int) ≤ i then 7 else 0
def PrPost (w : World) (zs : List ByteArray) (er : Int) (e : Ending) (w' : World) : Prop := ∃ A c, e = .returned (.tuple #[.slice A zs.length c, .int .i64 er]) ∧ SRow w.heap.size w' (.slice A zs.length c) zs ∧ Ext w w'
theorem Lines.some_ {w : World} {v : Value} {xs : List ByteArray} (h : Lines w v xs) (h0 : 0 < xs.length) : ∃ b off c, v = .slice (some ⟨b, off, none⟩) xs.length c ∧ xs.length ≤ c ∧ LinesAt w b off xs := by
  obtain ⟨A, c, rfl, hc, hh⟩ := h
  obtain ⟨b, off, rfl, hl⟩ := hh h0
  exact ⟨b, off, c, rfl, hc, hl⟩
set_option maxRecDepth 100000 in
set_option maxHeartbeats 4000000 in
theorem rProof_any (v : Value) (xs : List ByteArray) (i : Int) (w : World) (h : Lines w v xs) (hxs : xs.length ≤ 1048576) :
    Calls Try.prog 52 #[v, .int .i64 i] w (PrPost w (pfL xs i) (pfE xs i)) := by
  have HLN := Lib.hid h
  obtain ⟨n, hn⟩ : ∃ n, n = xs.length := ⟨_, rfl⟩
  have HN := Lib.hid hn
  by_cases h2 : 200 < n
  · have HP : Hid (pfL xs i = [] ∧ pfE xs i = 2) := ⟨if_pos (by omega), if_pos (by omega)⟩
    obtain ⟨A, c, rfl, _⟩ := h
    rw [← hn]
    have ht : decide ((200 : Int) < (n : Int)) = true := by simp; omega
    clear h2 hn hxs
    go_enter Try.func52, Try.ntmps52
    go_wp2
    go_ret2
    exact ⟨none, 0, by rw [HP.out.1, HP.out.2]; rfl, by rw [HP.out.1]; exact SRow.nil, Below.refl _ _⟩
  · have ht : decide ((200 : Int) < (n : Int)) = false := by simp; omega
    have hn200 : (n : Int) ≤ 200 := by omega
    by_cases h3 : i < 0 ∨ (n : Int) ≤ i
    · have HP : Hid (pfL xs i = [] ∧ pfE xs i = 7) := ⟨by unfold pfL; rw [if_neg (by omega), if_pos (by omega)], by unfold pfE; rw [if_neg (by omega), if_pos (by omega)]⟩
      have ho : outB i 0 ((n : Int) - 1) = true := by
        unfold outB
        rcases h3 with h3 | h3
        · simp [h3]
        · simp; omega
      obtain ⟨A, c, rfl, _⟩ := h
      rw [← hn]
      clear h2 hn hxs h3
      go_enter Try.func52, Try.ntmps52
      go_wp2_with (go_at_call 59; (with_reducible refine (outside_any _ _ _ _).mono ?_); rintro e w' ⟨he, rfl⟩; rw [ho] at he; subst he)
      go_ret2
      exact ⟨none, 0, by rw [HP.out.1, HP.out.2]; rfl, by rw [HP.out.1]; exact SRow.nil, Below.refl _ _⟩
    · obtain ⟨j, rfl⟩ : ∃ j : Nat, i = (j : Int) := ⟨i.toNat, by omega⟩
      have HP : Hid (pfL xs j = proofS xs j ∧ pfE xs j = 0) := ⟨by unfold pfL; rw [if_neg (by omega), if_neg (by omega)]; rfl, by unfold pfE; rw [if_neg (by omega), if_neg (by omega)]⟩
      have ho : outB (j : Int) 0 ((n : Int) - 1) = false := by
        unfold outB
        simp
        omega
      obtain ⟨b, off, c, rfl, hc, hl⟩ := h.some_ (by omega)
      rw [← hn]
      have C := Lib.hid (rproof_some n xs b off n c j w (Nat.le_refl _) hn.symm (by omega) (by omega) (by omega) hl)
      clear h2 hn hxs h3 hc hl
      go_enter Try.func52, Try.ntmps52
      go_wp2_with (first
        | (go_at_call 59; (with_reducible refine (outside_any _ _ _ _).mono ?_); rintro e w' ⟨he, rfl⟩; rw [ho] at he; subst he)
        | (go_at_call 113; (with_reducible refine C.out.mono ?_); rintro e w2 ⟨A2, c2, rfl, h4, h5⟩; have H4 := Lib.hid (And.intro h4 h5); clear h4 h5))
      go_ret2
      exact ⟨A2, c2, by rw [HP.out.1, HP.out.2]; rfl, by rw [HP.out.1]; exact H4.out.1, H4.out.2⟩
end Go.Proofs.Ytpbbohinhbboaaa.Sx
namespace Go.Proofs.Ytpbbohinhbboaaa.Sx
open Go Go.RowKit

theorem SRow.lit {w : World} (x : ByteArray) : SRow w.heap.size (w.alloc (.cells #[.string x] strT (0, 0))) (.slice (some ⟨w.heap.size, 0, none⟩) 1 1) [x] :=
  .inr ⟨w.heap.size, [], rfl, Nat.le_refl _, heap_new rfl, by unfold maxLen; simp⟩
theorem ext_of_grown_newS {w w' : World} {o : Obj} (h : (w.alloc o).grownBy w' (some w.heap.size)) : Ext w w' :=
  ⟨h.os, h.tape, h.output, by have := h.size; simp at this; omega, fun k hk => (h.block k (by simp; omega) (fun e => by injection e with e; omega)).trans (Below.heap_alloc w o k hk)⟩
/-- The proof under way: what is left of the lines, what is known. -/
structure PfI (w : World) (xs : List ByteArray) (i0 : Nat) (b off : Nat) (ys : List ByteArray) (i : Nat) (v : Value) (zs : List ByteArray) (wr : World) : Prop where
  at_ : LinesAt wr b off ys
  out : SRow w.heap.size wr v zs
  eq : proofS xs i0 = proofS ys i ++ zs
  ext : Ext w wr
set_option maxRecDepth 100000 in
set_option maxHeartbeats 8000000 in
theorem proof_any (v : Value) (xs : List ByteArray) (i : Int) (w : World) (h : Lines w v xs) (hxs : xs.length ≤ 1048576) :
    Calls Try.prog 51 #[v, .int .i64 i] w (PrPost w (pfL xs i) (pfE xs i)) := by
  obtain ⟨n, hn⟩ : ∃ n, n = xs.length := ⟨_, rfl⟩
  have HN := Lib.hid hn
  by_cases h2 : 200 < n
  · have HP : Hid (pfL xs i = [] ∧ pfE xs i = 2) := ⟨if_pos (by omega), if_pos (by omega)⟩
    obtain ⟨A, c, rfl, _⟩ := h
    rw [← hn]
    have ht : decide ((200 : Int) < (n : Int)) = true := by simp; omega
    clear h2 hn hxs
    go_enter Try.func51, Try.ntmps51
    go_wp2
    go_ret2
    exact ⟨none, 0, by rw [HP.out.1, HP.out.2]; rfl, by rw [HP.out.1]; exact SRow.nil, Below.refl _ _⟩
  · have ht : decide ((200 : Int) < (n : Int)) = false := by simp; omega
    have hn200 : (n : Int) ≤ 200 := by omega
    by_cases h3 : i < 0 ∨ (n : Int) ≤ i
    · have HP : Hid (pfL xs i = [] ∧ pfE xs i = 7) := ⟨by unfold pfL; rw [if_neg (by omega), if_pos (by omega)], by unfold pfE; rw [if_neg (by omega), if_pos (by omega)]⟩
      obtain ⟨A, c, rfl, _⟩ := h
      rw [← hn]
      by_cases h4 : i < 0
      · have t1 : decide (i < 0) = true := by simp; omega
        clear h2 hn hxs h3 h4
        go_enter Try.func51, Try.ntmps51
        go_wp2
        go_ret2
        exact ⟨none, 0, by rw [HP.out.1, HP.out.2]; rfl, by rw [HP.out.1]; exact SRow.nil, Below.refl _ _⟩
      · have t1 : decide (i < 0) = false := by simp; omega
        have t2 : decide ((n : Int) ≤ i) = true := by simp; omega
        clear h2 hn hxs h3 h4
        go_enter Try.func51, Try.ntmps51
        go_wp2
        go_ret2
        exact ⟨none, 0, by rw [HP.out.1, HP.out.2]; rfl, by rw [HP.out.1]; exact SRow.nil, Below.refl _ _⟩
    · obtain ⟨j, rfl⟩ : ∃ j : Nat, i = (j : Int) := ⟨i.toNat, by omega⟩
      have HP : Hid (pfL xs j = proofS xs j ∧ pfE xs j = 0) := ⟨by unfold pfL; rw [if_neg (by omega), if_neg (by omega)]; rfl, by unfold pfE; rw [if_neg (by omega), if_neg (by omega)]⟩
      obtain ⟨b, off, c, rfl, hc, hl⟩ := h.some_ (by omega)
      rw [← hn]
      have hjn : j < n := by omega
      have t1 : decide ((j : Int) < 0) = false := by simp
      have t2 : decide (n ≤ j) = false := by simp; omega
      have HST : Hid (PfI w xs j b off xs j (.slice none 0 0) [] w) := ⟨hl, SRow.nil, by simp, Below.refl _ _⟩
      have hnc : n ≤ c := by omega
      have HJN := Lib.hid (And.intro hjn hnc)
      have HX200 : Hid (xs.length ≤ 200) := by unfold Hid; omega
      clear h2 hn hxs h3 hc hl hjn hnc
      go_enter Try.func51, Try.ntmps51
      go_wp2_with fail
      go_loopw [1, 6, 7] (fun x y z wr => ∃ (i m b off n c : Nat) (A : Option Addr) (d : Nat) (ys zs : List ByteArray), n ≤ 200 ∧ x = .int .i64 (i : Int) ∧ y = .slice A m d ∧ z = .slice (some ⟨b, off, none⟩) n c ∧ Hid (m = zs.length ∧ n = ys.length ∧ i < n ∧ n ≤ c) ∧ Hid (PfI w xs j b off ys i (.slice A m d) zs wr)) (fun _ _ z _ => lenV z)
      case atStart => exact ⟨j, 0, b, off, n, c, none, 0, xs, [], by omega, rfl, rfl, rfl, ⟨rfl, HN.out, HJN.out.1, HJN.out.2⟩, HST⟩
      case round =>
        obtain ⟨i, m, b, off, n, c, A, d, ys, zs, hn2, rfl, rfl, rfl, hm, hI⟩ := hrel
        obtain ⟨wo, rfl⟩ : ∃ wo : World, wo = wr := ⟨_, rfl⟩
        by_cases h1 : n = 1
        · have HF : Hid (proofS xs j = zs) := by
            have h := hI.out.eq
            rw [proofS_few (xs := ys) (by have := hm.out.2.1; omega), List.nil_append] at h
            exact h
          subst h1
          go_wp2_with fail
          go_ret2
          refine ⟨A, d, ?_, ?_, hI.out.ext⟩
          · rw [HP.out.1, HP.out.2, HF.out, ← hm.out.1]; rfl
          · rw [HP.out.1, HF.out, ← hm.out.1]; exact hI.out.out
        · have h2 : 2 ≤ n := by have := hm.out; omega
          obtain ⟨k, hk⟩ : ∃ k, k = hp n := ⟨_, rfl⟩
          obtain ⟨hk1, hk2, hk3⟩ := hp_lt h2 hn2
          rw [← hk] at hk1 hk2 hk3
          obtain ⟨hm1, hm2, hm3, hm4⟩ := hm.out
          have s1 := run_cut_to b off n c k (by omega)
          have s2 := run_cut_from b off n c k (by omega) (by omega)
          have ht1 : decide (1 < (n : Int)) = true := by simp; omega
          have HN2 := Lib.hid (And.intro h2 hn2)
          have HK := Lib.hid hk
          have HK3 := Lib.hid (And.intro hk1 (And.intro hk2 hk3))
          have HMANY : Hid (proofS ys i = if i < k then proofS (ys.take k) i ++ [hexS (rootS (ys.drop k))] else proofS (ys.drop k) (i - k) ++ [hexS (rootS (ys.take k))]) := by
            unfold Hid
            rw [hk, hm2]
            exact proofS_many (by omega) (by omega)
          obtain ⟨r1, hr1⟩ : ∃ r, r = rootS (ys.take k) := ⟨_, rfl⟩
          obtain ⟨r2, hr2⟩ : ∃ r, r = rootS (ys.drop k) := ⟨_, rfl⟩
          obtain ⟨z1, hz1⟩ : ∃ r, r = hexS r1 := ⟨_, rfl⟩
          obtain ⟨z2, hz2⟩ : ∃ r, r = hexS r2 := ⟨_, rfl⟩
          have R1 : Hid (∀ wk, Ext wo wk → Calls Try.prog 110 #[.slice (some ⟨b, off, none⟩) k c] wk fun e w' => e = .returned (.string r1) ∧ Ext wo w') := fun wk hw =>
            (rootOf_some k (ys.take k) b off k c wk (Nat.le_refl _) (by rw [List.length_take]; omega) hk1 (by omega) (by omega) ((hI.out.at_.ext hw).take k)).mono fun _ _ ⟨h1, h2⟩ => ⟨by rw [h1, hr1], hw.trans h2⟩
          have R2 : Hid (∀ wk, Ext wo wk → Calls Try.prog 110 #[.slice (some ⟨b, off + k, none⟩) (n - k) (c - k)] wk fun e w' => e = .returned (.string r2) ∧ Ext wo w') := fun wk hw =>
            (rootOf_some (n - k) (ys.drop k) b (off + k) (n - k) (c - k) wk (Nat.le_refl _) (by rw [List.length_drop]; omega) (by omega) (by omega) (by omega) ((hI.out.at_.ext hw).drop k)).mono fun _ _ ⟨h1, h2⟩ => ⟨by rw [h1, hr2], hw.trans h2⟩
          have H1 : Hid (∀ wk, Ext wo wk → Calls Try.prog 39 #[.string r1] wk fun e w' => e = .returned (.string z1) ∧ Ext wo w') := fun wk hw =>
            (hex_any r1 wk (by rw [hr1, rootS_size]; omega)).mono fun _ _ ⟨h1, h2⟩ => ⟨by rw [h1, hz1]; rfl, hw.trans h2⟩
          have H2 : Hid (∀ wk, Ext wo wk → Calls Try.prog 39 #[.string r2] wk fun e w' => e = .returned (.string z2) ∧ Ext wo w') := fun wk hw =>
            (hex_any r2 wk (by rw [hr2, rootS_size]; omega)).mono fun _ _ ⟨h1, h2⟩ => ⟨by rw [h1, hz2]; rfl, hw.trans h2⟩
          have HZ := Lib.hid (And.intro (hz1.trans (by rw [hr1])) (hz2.trans (by rw [hr2])))
          have hm200 : zs.length ≤ 200 := by
            have e1 := congrArg List.length hI.out.eq
            rw [List.length_append] at e1
            have e2 := proofS_len xs.length xs j (Nat.le_refl _)
            have e3 := HX200.out
            omega
          have HZL := Lib.hid hm1
          have hmz : m ≤ 200 := by omega
          have hi200 : (i : Int) ≤ 200 := by omega
          clear hr1 hr2 hz1 hz2 hk hm1 hm2 hm200 h1 h2
          by_cases hlt : i < k
          · have tl : decide (i < k) = true := by simp; omega
            have hkn : (k : Int) < (n : Int) := by omega
            have HS : Hid (proofS ys i = proofS (ys.take k) i ++ [z2]) := by unfold Hid; rw [HMANY.out, if_pos hlt, HZ.out.2]
            have HLT := Lib.hid hlt
            clear hlt hk1 hk2 hk3 hm3 hm4
            go_wp2_with (first
              | (go_at_call 112; (with_reducible refine (half_any n _ HN2.out.1 HN2.out.2).mono ?_); rintro e w1 ⟨rfl, rfl⟩; rw [← HK.out])
              | (go_at_call 110; (with_reducible refine (R2.out _ (Below.refl _ _)).mono ?_); rintro e w3 ⟨rfl, hx3⟩; have HX3 := Lib.hid hx3; clear hx3)
              | (go_at_call 39; (with_reducible refine (H2.out _ HX3.out).mono ?_); rintro e w4 ⟨rfl, hx4⟩; have HX4 := Lib.hid hx4; clear hx4)
              | (at_builtin; refine append_srs rfl _ _ (by rfl) w4.heap.size 1 m _ _ _ [z2] zs (by rfl) (by rfl) (SRow.lit z2) ((hI.out.out.src.ext HX4.out).ext (new_ext _ _)) rfl HZL.out.symm (by omega) (by omega) (by simp) ?_; intro A9 c9 w9 i1 i2 i3; have H9 := Lib.hid (And.intro i1 (ext_of_grown_newS i2)); clear i1 i2 i3))
            obtain ⟨i1, i2⟩ := H9.out
            obtain ⟨m1, m2, m3, m4⟩ := hm.out
            exact ⟨⟨i, 1 + m, b, off, k, c, A9, c9, ys.take k, [z2] ++ zs, by have := HK3.out; omega, rfl, rfl, rfl, ⟨by rw [m1]; simp; omega, by have := HK3.out; rw [List.length_take]; omega, HLT.out, by have := HK3.out; omega⟩,
              ⟨((hI.out.at_.ext (HX4.out.trans i2))).take k, i1.low (hI.out.ext.trans HX4.out).size, by rw [hI.out.eq, HS.out, List.append_assoc], (hI.out.ext.trans HX4.out).trans i2⟩⟩, by have := HK3.out; simp [lenV]; omega⟩
          · have tl : decide (i < k) = false := by simp; omega
            have hki : (k : Int) ≤ (i : Int) := by omega
            have hkn : (k : Int) < (n : Int) := by omega
            have HS : Hid (proofS ys i = proofS (ys.drop k) (i - k) ++ [z1]) := by unfold Hid; rw [HMANY.out, if_neg hlt, HZ.out.1]
            have HLT := Lib.hid hlt
            clear hlt hk1 hk2 hk3 hm3 hm4
            go_wp2_with (first
              | (go_at_call 112; (with_reducible refine (half_any n _ HN2.out.1 HN2.out.2).mono ?_); rintro e w1 ⟨rfl, rfl⟩; rw [← HK.out])
              | (go_at_call 110; (with_reducible refine (R1.out _ (Below.refl _ _)).mono ?_); rintro e w3 ⟨rfl, hx3⟩; have HX3 := Lib.hid hx3; clear hx3)
              | (go_at_call 39; (with_reducible refine (H1.out _ HX3.out).mono ?_); rintro e w4 ⟨rfl, hx4⟩; have HX4 := Lib.hid hx4; clear hx4)
              | (at_builtin; refine append_srs rfl _ _ (by rfl) w4.heap.size 1 m _ _ _ [z1] zs (by rfl) (by rfl) (SRow.lit z1) ((hI.out.out.src.ext HX4.out).ext (new_ext _ _)) rfl HZL.out.symm (by omega) (by omega) (by simp) ?_; intro A9 c9 w9 i1 i2 i3; have H9 := Lib.hid (And.intro i1 (ext_of_grown_newS i2)); clear i1 i2 i3))
            obtain ⟨i1, i2⟩ := H9.out
            obtain ⟨m1, m2, m3, m4⟩ := hm.out
            exact ⟨⟨i - k, 1 + m, b, off + k, n - k, c - k, A9, c9, ys.drop k, [z1] ++ zs, by omega, by have e1 : ((i - k : Nat) : Int) = (i : Int) - (k : Int) := (by omega); rw [e1], rfl, rfl, ⟨by rw [m1]; simp; omega, by rw [List.length_drop]; omega, by have := HK3.out; omega, by omega⟩,
              ⟨((hI.out.at_.ext (HX4.out.trans i2))).drop k, i1.low (hI.out.ext.trans HX4.out).size, by rw [hI.out.eq, HS.out, List.append_assoc], (hI.out.ext.trans HX4.out).trans i2⟩⟩, by have := HK3.out; simp [lenV]; omega⟩
end Go.Proofs.Ytpbbohinhbboaaa.Sx
