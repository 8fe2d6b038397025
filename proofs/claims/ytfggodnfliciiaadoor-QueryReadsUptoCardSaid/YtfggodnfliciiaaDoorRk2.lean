/-
  The reference's signs: the walk.
-/
import Derived.Test.YtfggodnfliciiaaDoorRk0
import Derived.Test.YtfggodnfliciiaaDoorRk1
import Derived.Test.YtfggodnfliciiaaDoorName2
namespace Go.Proofs.YtfggodnfliciiaaDoor.Rd
open Go Go.RowKit Go.Proofs.YtfggodnfliciiaaDoor.Sx

def kw (t : Tok) : Kw := ⟨bx t.text, t.word, t.blank⟩
theorem extract_one {s : ByteArray} {k : Nat} {c : UInt8} (h : sfx s k = c :: sfx s (k + 1)) : s.extract k (k + 1) = ⟨#[c]⟩ := by
  have e : (s.extract k (k + 1)).data.toList = [c] := by
    rw [extract_piece, h, show k + 1 - k = 1 by omega]
    rfl
  exact bx_of e
theorem grown_fresh {w w' : World} {base : Nat} {v : Value} {L : List Kw} (hr : KRow sgT base w v L) (hg : w.grownBy w' v.ownBlock) (_hb : base ≤ w.heap.size) : Below base w w' :=
  ⟨hg.os, hg.tape, hg.output, hg.size, fun k hk => hg.block k (by omega) fun e => by have := (hr.block k e.symm).1; omega⟩

def lit : List UInt8 := [97, 98, 99, 100, 101, 102, 103, 104, 105, 106, 107, 108, 109, 110, 111, 112, 113, 114, 115, 116, 117, 118, 119, 120, 121, 122, 48, 49, 50, 51, 52, 53, 54, 55, 56, 57, 65, 66, 67, 68, 69, 70, 71, 72, 73, 74, 75, 76, 77, 78, 79, 80, 81, 82, 83, 84, 85, 86, 87, 88, 89, 90, 45, 95, 46, 47]
theorem lit_all : ∀ c : Fin 256, lit.contains (UInt8.ofNat c.1) = isW (UInt8.ofNat c.1) := by decide +kernel
theorem lit_isW (c : UInt8) : lit.contains c = isW c := by
  have h := lit_all ⟨c.toNat, c.toNat_lt⟩
  simpa using h
theorem contains_isW (t : ByteArray) (ht : t.data.toList = lit) (c : UInt8) (w : World) : Calls Tryd.prog 21 #[.string t, .string ⟨#[c]⟩] w fun e w' => e = .returned (.bool (isW c)) ∧ w = w' := by
  have h := contains_one t c w
  unfold inB at h
  rw [ht, lit_isW] at h
  exact h

set_option maxRecDepth 100000 in
set_option maxHeartbeats 4000000 in
theorem signs_any (s : ByteArray) (w : World) (hs : s.size ≤ 300) :
    Calls Tryd.prog 13 #[.string s] w fun e w' => ∃ A c, e = .returned (.slice A (toks false (sfx s 0)).length c) ∧ KRow sgT w.heap.size w' (.slice A (toks false (sfx s 0)).length c) ((toks false (sfx s 0)).map kw) ∧ Ext w w' := by
  go_enter Tryd.func13, Tryd.ntmps13
  go_wp2_with fail
  go_loopw [3, 4, 5] (fun o b k wr => ∃ (j : Nat) (bl : Bool) (ts : List Tok) (n : Nat) (A : Option Addr) (c : Nat), j ≤ s.size ∧ n ≤ j ∧ k = .int .i64 (j : Int) ∧ b = .bool bl ∧ o = .slice A n c ∧ Hid (ts.length = n ∧ toks false (sfx s 0) = ts ++ toks bl (sfx s j) ∧ KRow sgT w.heap.size wr (.slice A n c) (ts.map kw) ∧ Ext w wr)) (fun _ _ k _ => s.size - (intOf k).toNat)
  case atStart => exact ⟨0, false, [], 0, none, 0, Nat.zero_le _, Nat.le_refl _, rfl, rfl, rfl, rfl, rfl, KRow.nil, Below.refl _ _⟩
  case round =>
    obtain ⟨j, bl, ts, n, A, c, hj, hnj, rfl, rfl, rfl, hR⟩ := hrel
    by_cases hlt : j < s.size
    · have hby := run_byte s j hlt
      obtain ⟨d, hd⟩ : ∃ d, d = byteAt s j := ⟨_, rfl⟩
      have HSX : Hid (sfx s j = d :: sfx s (j + 1)) := by rw [hd]; exact sfx_cons hlt
      rw [← hd] at hby
      clear hd
      have hltI : (j : Int) < (s.size : Int) := by omega
      have hj0 : (0 : Int) ≤ (j : Int) := by omega
      by_cases h32 : d = 32
      · have b1 : ((d.toNat : Int) == 32) = true := by rw [h32]; rfl
        have HN : Hid (toks false (sfx s 0) = ts ++ toks true (sfx s (j + 1))) := by unfold Hid; rw [hR.out.2.1, HSX.out, h32, toks_blank]
        clear h32
        go_wp2_with fail
        go_roundw
        case rel => exact ⟨j + 1, true, ts, n, A, c, hlt, by omega, by go_num, rfl, rfl, hR.out.1, HN.out, hR.out.2.2.1, hR.out.2.2.2⟩
        case measure => simp [intOf]; omega
      · have b1 : ((d.toNat : Int) == 32) = false := by rw [show (32 : Int) = ((32 : UInt8).toNat : Int) from rfl, byte_eq]; simp [h32]
        have H32 := Lib.hid h32
        obtain ⟨W0, rfl⟩ : ∃ W0, W0 = wr := ⟨_, rfl⟩
        clear h32
        go_wp2_with fail
        go_loopw [6] (fun k wr => ∃ q : Nat, j ≤ q ∧ q ≤ s.size ∧ k = .int .i64 (q : Int) ∧ Hid (restW (sfx s q) = restW (sfx s j) ∧ runW (sfx s j) = (sfx s j).take (q - j) ++ runW (sfx s q) ∧ (j < q → isW d = true) ∧ Ext W0 wr)) (fun k _ => s.size - (intOf k).toNat)
        case atStart => exact ⟨j, Nat.le_refl _, hj, rfl, rfl, by simp, fun h => by omega, Below.refl _ _⟩
        case round =>
          obtain ⟨q, hjq, hq, rfl, hQ⟩ := hrel
          clear hby b1
          by_cases hqs : q < s.size
          · obtain ⟨d2, hd2⟩ : ∃ d2, d2 = byteAt s q := ⟨_, rfl⟩
            have HS2 : Hid (sfx s q = d2 :: sfx s (q + 1)) := by rw [hd2]; exact sfx_cons hqs
            have hone := run_piece s q (q + 1) (by omega) (by omega)
            rw [extract_one HS2.out, show ((q + 1 : Nat) : Int) = (q : Int) + 1 by omega] at hone
            have hqI : (q : Int) < (s.size : Int) := by omega
            have hq0 : (0 : Int) ≤ (q : Int) := by omega
            have HDD : Hid (q = j → d2 = d) := fun e => by have h := HS2.out; rw [e, HSX.out] at h; injection h with h _; exact h.symm
            clear hd2
            cases hw : isW d2 with
            | true =>
              have CC : Hid (∀ (t : ByteArray), t.data.toList = lit → ∀ wk, Calls Tryd.prog 21 #[.string t, .string ⟨#[d2]⟩] wk fun e w' => e = .returned (.bool true) ∧ wk = w') := fun t ht wk => by have h := contains_isW t ht d2 wk; rw [hw] at h; exact h
              have HNX : Hid (restW (sfx s (q + 1)) = restW (sfx s j) ∧ runW (sfx s j) = (sfx s j).take (q + 1 - j) ++ runW (sfx s (q + 1)) ∧ (j < q + 1 → isW d = true)) := by
                obtain ⟨e1, e2⟩ := runW_cons (s := sfx s (q + 1)) hw
                refine ⟨by rw [← hQ.out.1, HS2.out, e2], ?_, fun _ => ?_⟩
                · rw [hQ.out.2.1, HS2.out, e1, take_next HS2.out hjq, List.append_assoc]; rfl
                · rcases Nat.lt_or_ge j q with h1 | h1
                  · exact hQ.out.2.2.1 h1
                  · rw [← HDD.out (by omega)]; exact hw
              clear hw
              go_wp2_with (go_at_call 21; refine (CC.out _ (by rfl) _).mono ?_; rintro e w' ⟨rfl, rfl⟩)
              go_roundw
              case rel => exact ⟨q + 1, by omega, hqs, by go_num, HNX.out.1, HNX.out.2.1, HNX.out.2.2, hQ.out.2.2.2⟩
              case measure => simp [intOf]; omega
            | false =>
              have CC : Hid (∀ (t : ByteArray), t.data.toList = lit → ∀ wk, Calls Tryd.prog 21 #[.string t, .string ⟨#[d2]⟩] wk fun e w' => e = .returned (.bool false) ∧ wk = w') := fun t ht wk => by have h := contains_isW t ht d2 wk; rw [hw] at h; exact h
              have HSTOP : Hid (restW (sfx s j) = sfx s q ∧ runW (sfx s j) = (sfx s j).take (q - j)) := by
                obtain ⟨e1, e2⟩ := runW_stop (s := sfx s (q + 1)) hw
                exact ⟨by rw [← hQ.out.1, HS2.out, e2], by rw [hQ.out.2.1, HS2.out, e1, List.append_nil]⟩
              by_cases hjlt : j < q
              · clear hw
                have HRN : (sfx s j).take (q - j) = runW (sfx s j) := HSTOP.out.2.symm
                have hdw := hQ.out.2.2.1 hjlt
                obtain ⟨tk, htk⟩ : ∃ tk : Tok, tk = ⟨runW (sfx s j), true, bl⟩ := ⟨_, rfl⟩
                have HTK : Hid (toks false (sfx s 0) = (ts ++ [tk]) ++ toks false (sfx s (q))) := by
                  unfold Hid
                  rw [hR.out.2.1, List.append_assoc, htk]
                  congr 1
                  rw [HSX.out, toks_word hdw, ← HSX.out, HSTOP.out.1]
                  rfl
                have HSL : Hid (s.extract j (q) = bx tk.text) := bx_of (by rw [extract_piece, htk]; exact HRN)
                have hsl := run_piece s j (q) (by omega) (by omega)
                rw [HSL.out] at hsl
                obtain ⟨tx, htx⟩ : ∃ tx, tx = bx tk.text := ⟨_, rfl⟩
                rw [← htx] at hsl
                have HKS : Hid (kw tk = ⟨tx, true, bl⟩) := by unfold Hid; rw [htx, htk]; rfl
                have HXA : Hid (Ext w (wr.alloc (.cells #[.string tx, .bool true, .bool bl] sgT)) ∧ KRow sgT w.heap.size (wr.alloc (.cells #[.string tx, .bool true, .bool bl] sgT)) (.slice A n c) (ts.map kw) ∧ KSrc (wr.alloc (.cells #[.string tx, .bool true, .bool bl] sgT)) (.slice (some ⟨wr.heap.size, 0, none⟩) 1 1) [kw tk] ∧ (ts.map kw).length = n) := by
                  have hx : Ext W0 (wr.alloc (.cells #[.string tx, .bool true, .bool bl] sgT)) := hQ.out.2.2.2.trans (new_ext _ _)
                  refine ⟨hR.out.2.2.2.trans hx, hR.out.2.2.1.ext hx, ?_, by rw [List.length_map]; exact hR.out.1⟩
                  rw [HKS.out]
                  exact KSrc.of_block (L := [⟨tx, true, bl⟩]) (et := sgT) (c := 1) (heap_new rfl)
                clear htk htx HRN
                go_wp2_with (first | (go_at_call 21; refine (CC.out _ (by rfl) _).mono ?_; rintro e w' ⟨rfl, rfl⟩) | (at_builtin; refine append_toks sgTyOk rfl _ _ (by rfl) w.heap.size n 1 _ (.slice A n c) (.slice (some ⟨wr.heap.size, 0, none⟩) 1 1) (ts.map kw) [kw tk] (by rfl) (by rfl) HXA.out.2.1 HXA.out.2.2.1 HXA.out.2.2.2 rfl (by omega) HXA.out.1.size ?_; intro A9 c9 w9 h9 g9 _))
                have HX9 : Hid (Ext w w9) := Below.trans HXA.out.1 (grown_fresh HXA.out.2.1 g9 HXA.out.1.size)
                have H9 := Lib.hid h9
                clear h9 g9
                go_wp2
                go_roundw
                case rel => exact ⟨q, false, ts ++ [tk], n + 1, A9, c9, by omega, by omega, by go_num, rfl, rfl, by rw [List.length_append, hR.out.1]; rfl, HTK.out, by rw [List.map_append]; exact H9.out, HX9.out⟩
                case measure => simp [intOf]; omega
              · obtain rfl : q = j := by omega
                have HSGN : Hid (isW d = false) := by rw [← HDD.out rfl]; exact hw
                clear hw
                have hdn : isW d = false := HSGN.out
                have HRN : (sfx s q).take (q + 1 - q) = [d] := by rw [HSX.out, show q + 1 - q = 1 by omega]; rfl
                obtain ⟨tk, htk⟩ : ∃ tk : Tok, tk = ⟨[d], false, bl⟩ := ⟨_, rfl⟩
                have HTK : Hid (toks false (sfx s 0) = (ts ++ [tk]) ++ toks false (sfx s (q + 1))) := by
                  unfold Hid
                  rw [hR.out.2.1, List.append_assoc, htk]
                  congr 1
                  rw [HSX.out, toks_sign H32.out hdn]
                  rfl
                have htx : (⟨#[d2]⟩ : ByteArray) = bx tk.text := by rw [htk, HDD.out rfl]; rfl
                have HKS : Hid (kw tk = ⟨⟨#[d2]⟩, false, bl⟩) := by unfold Hid; unfold kw; rw [← htx, htk]
                have HXA : Hid (Ext w (wr.alloc (.cells #[.string ⟨#[d2]⟩, .bool false, .bool bl] sgT)) ∧ KRow sgT w.heap.size (wr.alloc (.cells #[.string ⟨#[d2]⟩, .bool false, .bool bl] sgT)) (.slice A n c) (ts.map kw) ∧ KSrc (wr.alloc (.cells #[.string ⟨#[d2]⟩, .bool false, .bool bl] sgT)) (.slice (some ⟨wr.heap.size, 0, none⟩) 1 1) [kw tk] ∧ (ts.map kw).length = n) := by
                  have hx : Ext W0 (wr.alloc (.cells #[.string ⟨#[d2]⟩, .bool false, .bool bl] sgT)) := hQ.out.2.2.2.trans (new_ext _ _)
                  refine ⟨hR.out.2.2.2.trans hx, hR.out.2.2.1.ext hx, ?_, by rw [List.length_map]; exact hR.out.1⟩
                  rw [HKS.out]
                  exact KSrc.of_block (L := [⟨⟨#[d2]⟩, false, bl⟩]) (et := sgT) (c := 1) (heap_new rfl)
                clear htk htx HRN
                go_wp2_with (first | (go_at_call 21; refine (CC.out _ (by rfl) _).mono ?_; rintro e w' ⟨rfl, rfl⟩) | (at_builtin; refine append_toks sgTyOk rfl _ _ (by rfl) w.heap.size n 1 _ (.slice A n c) (.slice (some ⟨wr.heap.size, 0, none⟩) 1 1) (ts.map kw) [kw tk] (by rfl) (by rfl) HXA.out.2.1 HXA.out.2.2.1 HXA.out.2.2.2 rfl (by omega) HXA.out.1.size ?_; intro A9 c9 w9 h9 g9 _))
                have HX9 : Hid (Ext w w9) := Below.trans HXA.out.1 (grown_fresh HXA.out.2.1 g9 HXA.out.1.size)
                have H9 := Lib.hid h9
                clear h9 g9
                go_wp2
                go_roundw
                case rel => exact ⟨q + 1, false, ts ++ [tk], n + 1, A9, c9, by omega, by omega, by go_num, rfl, rfl, by rw [List.length_append, hR.out.1]; rfl, HTK.out, by rw [List.map_append]; exact H9.out, HX9.out⟩
                case measure => simp [intOf]; omega
          · obtain rfl : q = s.size := by omega
            have hjlt : j < s.size := hlt
            have HSTOP : Hid (restW (sfx s j) = sfx s s.size ∧ runW (sfx s j) = (sfx s j).take (s.size - j)) := by
              have e := sfx_end (s := s) (i := s.size) (Nat.le_refl _)
              exact ⟨by rw [← hQ.out.1, e]; rfl, by rw [hQ.out.2.1, e]; simp [runW]⟩
            have HRN : (sfx s j).take (s.size - j) = runW (sfx s j) := HSTOP.out.2.symm
            have hdw := hQ.out.2.2.1 hjlt
            obtain ⟨tk, htk⟩ : ∃ tk : Tok, tk = ⟨runW (sfx s j), true, bl⟩ := ⟨_, rfl⟩
            have HTK : Hid (toks false (sfx s 0) = (ts ++ [tk]) ++ toks false (sfx s (s.size))) := by
              unfold Hid
              rw [hR.out.2.1, List.append_assoc, htk]
              congr 1
              rw [HSX.out, toks_word hdw, ← HSX.out, HSTOP.out.1]
              rfl
            have HSL : Hid (s.extract j (s.size) = bx tk.text) := bx_of (by rw [extract_piece, htk]; exact HRN)
            have hsl := run_piece s j (s.size) (by omega) (by omega)
            rw [HSL.out] at hsl
            obtain ⟨tx, htx⟩ : ∃ tx, tx = bx tk.text := ⟨_, rfl⟩
            rw [← htx] at hsl
            have HKS : Hid (kw tk = ⟨tx, true, bl⟩) := by unfold Hid; rw [htx, htk]; rfl
            have HXA : Hid (Ext w (wr.alloc (.cells #[.string tx, .bool true, .bool bl] sgT)) ∧ KRow sgT w.heap.size (wr.alloc (.cells #[.string tx, .bool true, .bool bl] sgT)) (.slice A n c) (ts.map kw) ∧ KSrc (wr.alloc (.cells #[.string tx, .bool true, .bool bl] sgT)) (.slice (some ⟨wr.heap.size, 0, none⟩) 1 1) [kw tk] ∧ (ts.map kw).length = n) := by
              have hx : Ext W0 (wr.alloc (.cells #[.string tx, .bool true, .bool bl] sgT)) := hQ.out.2.2.2.trans (new_ext _ _)
              refine ⟨hR.out.2.2.2.trans hx, hR.out.2.2.1.ext hx, ?_, by rw [List.length_map]; exact hR.out.1⟩
              rw [HKS.out]
              exact KSrc.of_block (L := [⟨tx, true, bl⟩]) (et := sgT) (c := 1) (heap_new rfl)
            clear htk htx HRN
            go_wp2_with ((at_builtin; refine append_toks sgTyOk rfl _ _ (by rfl) w.heap.size n 1 _ (.slice A n c) (.slice (some ⟨wr.heap.size, 0, none⟩) 1 1) (ts.map kw) [kw tk] (by rfl) (by rfl) HXA.out.2.1 HXA.out.2.2.1 HXA.out.2.2.2 rfl (by omega) HXA.out.1.size ?_; intro A9 c9 w9 h9 g9 _))
            have HX9 : Hid (Ext w w9) := Below.trans HXA.out.1 (grown_fresh HXA.out.2.1 g9 HXA.out.1.size)
            have H9 := Lib.hid h9
            clear h9 g9
            go_wp2
            go_roundw
            case rel => exact ⟨s.size, false, ts ++ [tk], n + 1, A9, c9, by omega, by omega, by go_num, rfl, rfl, by rw [List.length_append, hR.out.1]; rfl, HTK.out, by rw [List.map_append]; exact H9.out, HX9.out⟩
            case measure => simp [intOf]; omega
    · obtain rfl : j = s.size := by omega
      have HE : Hid (toks false (sfx s 0) = ts) := by unfold Hid; rw [hR.out.2.1, sfx_end (Nat.le_refl _), toks_nil, List.append_nil]
      go_wp2
      go_ret
      refine ⟨A, c, ?_, ?_, hR.out.2.2.2⟩
      · rw [HE.out, hR.out.1]; rfl
      · rw [HE.out, hR.out.1]; exact hR.out.2.2.1
end Go.Proofs.YtfggodnfliciiaaDoor.Rd
