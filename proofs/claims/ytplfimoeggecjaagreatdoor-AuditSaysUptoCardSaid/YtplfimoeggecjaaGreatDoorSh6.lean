/-
  The program's Hash: Sum.
-/
import Derived.Test.YtplfimoeggecjaaGreatDoorSh5
namespace Go.Proofs.YtplfimoeggecjaaGreatDoor.Sx
open Go Go.RowKit

theorem be_at {n d : Nat} (h : n ≤ 1099511627776) : IntKind.u64.wrap ((n : Int) * 8) / (d : Int) % 256 = ((UInt8.ofNat (8 * n / d)).toNat : Int) := by
  have e1 : IntKind.u64.wrap ((n : Int) * 8) = ((8 * n : Nat) : Int) := by rw [IntKind.wrap_u64]; omega
  rw [e1, ← Int.natCast_ediv]
  simp
theorem be_at0 {n : Nat} (h : n ≤ 1099511627776) : IntKind.u64.wrap ((n : Int) * 8) % 256 = ((UInt8.ofNat (8 * n)).toNat : Int) := by
  have := be_at (d := 1) h
  simpa using this
theorem SrcB.of_one {w : World} {g c : Nat} {x : Int} {y : UInt8} (h : w.heap[g]? = some (.cells #[.int .u8 x] u8T (0, 0))) (e : x = (y.toNat : Int)) : SrcB w (.slice (some ⟨g, 0, none⟩) 1 c) [y] := by
  subst e
  exact SrcB.of_block (ys := [y]) h
theorem bytes_of {base : Nat} {w : World} {v : Value} {z : List UInt8} (h0 : 0 < z.length) (h : BRow base w v z) : ∃ b c, v = .slice (some ⟨b, 0, none⟩) z.length c ∧ z.length ≤ c ∧ BytesAt w b 0 z := by
  rcases h with ⟨_, rfl⟩ | ⟨g, rest, hv, hb, hg, hm⟩
  · simp at h0
  · refine ⟨g, _, hv, by omega, heap_lt hg, fun j hj => ?_⟩
    rw [cell_of hg, Nat.zero_add, List.getElem?_toArray, List.getElem?_append_left (by rw [bvals_len]; exact hj)]
    simp [bvals, bval, hj]
theorem run_index_8 (cs : Array Value) (i : Nat) (v : Value) (w : World) (hi : i < 8) (hc : cs[i]? = some v) : (Instr.index 145 (.agg cs) (.int .i64 (i : Int))).run Tryz.prog w = .ok v w := by
  have h : Tryz.prog.underlying 145 = some (.array 8 110) := by kernel_rfl
  have h1 : ∀ w, (sizeOf 110).run Tryz.prog w = .ok 1 w := fun w => by kernel_rfl
  have h2 : ∀ w, (isAgg 110).run Tryz.prog w = .ok false w := fun w => by kernel_rfl
  have h3 : (0 : Int) ≤ (i : Int) ∧ (i : Int) < ((8 : Nat) : Int) := by omega
  simp [Instr.index, run_underlying h, asIntOf, go_sem, h1, h2, h3, part, hc]
  intro h4
  omega
theorem run_index8 (s : St) (i : Nat) (hi : i < 8) (w : World) : (Instr.index 145 (.agg s.cells.toArray) (.int .i64 (i : Int))).run Tryz.prog w = .ok (.int .u32 ((s.get i).toNat : Int)) w :=
  run_index_8 s.cells.toArray i _ w hi (cells_at s hi)
theorem SrcB.of_four {w : World} {g c : Nat} {x : W32} (h : w.heap[g]? = some (.cells #[.int .u8 ((x.toNat : Int) / 16777216), .int .u8 ((x.toNat : Int) / 65536 % 256), .int .u8 ((x.toNat : Int) / 256 % 256), .int .u8 ((x.toNat : Int) % 256)] u8T (0, 0))) : SrcB w (.slice (some ⟨g, 0, none⟩) 4 c) (bytesOf x) := by
  refine SrcB.of_block (ys := bytesOf x) (h.trans ?_)
  have h1 := x.isLt
  have e : (x.toNat : Int) / 16777216 = ((UInt8.ofNat (x.toNat / 16777216)).toNat : Int) := by simp; omega
  rw [e]
  simp [bytesOf, bvals, bval]
theorem digest_take (s : St) {i : Nat} (h : i < 8) : (digest s).take (4 * (i + 1)) = (digest s).take (4 * i) ++ bytesOf (s.get i) := by
  have : i = 0 ∨ i = 1 ∨ i = 2 ∨ i = 3 ∨ i = 4 ∨ i = 5 ∨ i = 6 ∨ i = 7 := by omega
  rcases this with rfl | rfl | rfl | rfl | rfl | rfl | rfl | rfl <;> rfl
set_option maxRecDepth 100000 in
theorem run_slice64 (b off n c o2 : Nat) (h64 : 64 ≤ n) (e2 : sliced (some ⟨b, off, none⟩) 64 n c 1 = .slice (some ⟨b, o2, none⟩) (n - 64) (c - 64)) (W : World) :
    (Instr.slice 93 (.slice (some ⟨b, off, none⟩) n c) (some (.int .i64 64)) none none).run Tryz.prog W = .ok (.slice (some ⟨b, o2, none⟩) (n - 64) (c - 64)) W := by
  have h := run_slice_l (P := Tryz.prog) (w := W) 93 (some ⟨b, off, none⟩) n c Tryz.underlying93 .i64 64 (by omega) (by omega)
  rw [h]
  have e1 : (sizeOf (Tryz.prog.elem 93)).run Tryz.prog W = .ok 1 W := by kernel_rfl
  rw [e1]
  have e3 : (64 : Int).toNat = 64 := rfl
  simp only [Result.andThen, e3, e2]
theorem grown_setRow (w : World) (g : Nat) (cs : Array Value) : w.grownBy (w.setRow g cs) (some g) :=
  ⟨rfl, rfl, rfl, by simp, fun k hk hne => setRow_other w g k cs (fun e => hne (by rw [e]))⟩
theorem SliceB.bytes {base : Nat} {w : World} {b o n c : Nat} {l : List UInt8} (h : SliceB base w (.slice (some ⟨b, o, none⟩) n c) l) : BytesAt w b o l ∧ n ≤ c := by
  rcases h with ⟨hv, _⟩ | ⟨b', o', c', hv, hc, _, hy⟩
  · cases hv
  · injection hv with e1 e2 e3
    injection e1 with e1
    injection e1 with e1 e4
    subst e1 e2 e3 e4
    exact ⟨hy, hc⟩
def lenV : Value → Nat
  | .slice _ n _ => n
  | _ => 0
def Zs (m : List UInt8) (j : Nat) : List UInt8 := m ++ 128 :: List.replicate j 0
theorem Zs_len (m : List UInt8) (j : Nat) : (Zs m j).length = m.length + 1 + j := by simp [Zs]; omega
theorem Zs_succ (m : List UInt8) (j : Nat) : Zs m j ++ [0] = Zs m (j + 1) := by
  simp [Zs, List.replicate_succ']
set_option maxRecDepth 100000 in
set_option maxHeartbeats 4000000 in
theorem hsum_any (k : Nat) (st : St) (m l : List UInt8) (v : Value) (w : World) (hk : HashAt w k st v l.length) (hv : SliceB (k + 1) w v m) (hu : Under st m l) (hm : m.length < 64) (hl : l.length ≤ 1099511627776) :
    Calls Tryz.prog 82 #[.pointer (some ⟨k, 0, none⟩)] w fun e w' => e = .returned (.string ⟨(sha l).toArray⟩) ∧ Ext w w' := by
  have HK := Lib.hid hk
  have HV := Lib.hid hv
  have HU := Lib.hid hu
  have HM := Lib.hid hm
  have HL := Lib.hid hl
  obtain ⟨A, c, rfl⟩ := hv.slice
  have hr := hk.r
  obtain ⟨mn, hmn⟩ : ∃ mn, mn = m.length := ⟨_, rfl⟩
  rw [← hmn] at hr
  have HMN := Lib.hid hmn
  clear hk hv hu hm hl hmn
  go_enter Tryz.func82, Tryz.ntmps82
  go_upto_region 2 with (at_builtin; refine append_acc rfl _ _ (by rfl) 0 mn w _ _ _ [] m (by rfl) (by rfl) (Acc.nil (Below.refl _ _)) (by rw [HMN.out]; exact HV.out.src) rfl HMN.out.symm (by have := HM.out; have := HMN.out; omega) ?_; intro A1 c1 w1 h1; have H1 := Lib.hid h1; clear h1)
  rw [List.nil_append, Nat.zero_add] at H1
  go_wp2_with (at_builtin; refine append_acc rfl _ _ (by rfl) mn 1 w _ _ _ m [128] (by rfl) (by rfl) (H1.out.alloc _) (SrcB.of_block (ys := [128]) (heap_new rfl)) HMN.out.symm rfl (by have := HM.out; have := HMN.out; omega) ?_; intro A2 c2 w2 h2; have H2 := Lib.hid h2; clear h2)
  obtain ⟨zn, hzn⟩ : ∃ zn, zn = zeros l.length := ⟨_, rfl⟩
  have HZN := Lib.hid hzn
  have hz63 : zn ≤ 63 := by rw [hzn]; unfold zeros; omega
  clear hzn
  go_loopw [3] (fun x wr => ∃ (j p : Nat) (A : Option Addr) (c : Nat), x = .slice A p c ∧ p ≤ 128 ∧ Hid (p = mn + 1 + j ∧ j ≤ zn) ∧ Hid (Acc w wr (.slice A p c) (Zs m j))) (fun x _ => 128 - lenV x)
  case atStart => exact ⟨0, mn + 1, A2, c2, rfl, by have := HM.out; have := HMN.out; omega, ⟨by omega, by omega⟩, by have := H2.out; unfold Zs; exact this⟩
  case round =>
    obtain ⟨j, p, A3, c3, rfl, hp, HP, hacc⟩ := hrel
    have hzi := zeros_iff (n := l.length) (j := j) (by have := HP.out.2; have := HZN.out; omega)
    have hmod : p % 64 = (l.length % 64 + 1 + j) % 64 := by have h1 := HP.out.1; have h2 := HU.out.1; have h3 := HMN.out; have h4 := HM.out; omega
    by_cases hz : j = zn
    · have ht : ((p : Int) % 64 == 56) = true := by have := hzi.2 (by rw [hz, HZN.out]); simp; omega
      have ht2 : ((p : Int) % 64 != 56) = false := by unfold bne; rw [ht]; rfl
      clear hzi hmod hp
      go_wp2_with fail
      have HA : Hid (Acc w wr (.slice A3 p c3) (Zs m zn ++ (be64 (8 * l.length)).take 0)) := by rw [List.take_zero, List.append_nil, ← hz]; exact hacc.out
      have HP2 : Hid (p = mn + 1 + zn) := by unfold Hid; rw [← hz]; exact HP.out.1
      have hp3 : p ≤ 127 := by have := HP2.out; have := HMN.out; have := HM.out; omega
      clear hz ht ht2 hacc HP
      have HLB : Hid ((Zs m zn).length = p) := by unfold Hid; rw [Zs_len]; have := HP2.out; have := HMN.out; omega
      clear hz63
      go_loopw [3, 4] (fun x y wr => ∃ (i : Nat) (A : Option Addr) (c : Nat), i ≤ 8 ∧ x = .slice A (p + i) c ∧ y = .int .i64 (7 - (i : Int)) ∧ Hid (Acc w wr (.slice A (p + i) c) (Zs m zn ++ (be64 (8 * l.length)).take i))) (fun _ y _ => (intOf y + 1).toNat)
      case atStart => exact ⟨0, A3, c3, by omega, rfl, rfl, HA⟩
      case round =>
        obtain ⟨i, A4, c4, hi, rfl, rfl, hacc⟩ := hrel
        by_cases h8 : i = 8
        · subst h8
          have e8 : (7 : Int) - ((8 : Nat) : Int) = -1 := rfl
          rw [e8]
          obtain ⟨pp, hpp⟩ : ∃ pp, pp = p + 8 := ⟨_, rfl⟩
          rw [← hpp] at hacc
          rw [← hpp]
          have hrg := (HK.out.ext hacc.out.2).h
          have HN := Lib.hid (heap_new (w := wr) (o := .cells zero8 145 (0, 0)) rfl)
          have HPP := Lib.hid hpp
          clear hpp
          go_wp2_with (first | (refine wpList_load_mid rfl _ _ (by rfl) k 0 (by rfl) st.cells _ hrg Tryz.underlying145 (by rfl) (by kernel_rfl) ?_) | (refine wpList_store_row rfl _ _ _ (by rfl) wr.heap.size st.cells.toArray (by rfl) (by rfl) 145 zero8 HN.out (by kernel_rfl) (by kernel_rfl) (by kernel_rfl) ?_))
          simp only [Act.put]
          have HST : Hid (∃ b c4', (Value.slice A4 pp c4) = .slice (some ⟨b, 0, none⟩) (Zs m zn ++ be64 (8 * l.length)).length c4' ∧ (Zs m zn ++ be64 (8 * l.length)).length ≤ c4' ∧ BytesAt wr b 0 (Zs m zn ++ be64 (8 * l.length))) := bytes_of (by simp [Zs]; omega) hacc.out.1
          have HX : Hid (Ext w wr) := hacc.out.2
          obtain ⟨b, c5, hv, hc5, hby⟩ := HST.out
          obtain ⟨rfl, hpe, rfl⟩ : A4 = some ⟨b, 0, none⟩ ∧ pp = (Zs m zn ++ be64 (8 * l.length)).length ∧ c4 = c5 := by injection hv with e1 e2 e3; exact ⟨e1, e2, e3⟩
          obtain ⟨Z, hZ⟩ : ∃ Z, Z = Zs m zn ++ be64 (8 * l.length) := ⟨_, rfl⟩
          rw [← hZ] at hby hc5 hpe
          have HZ := Lib.hid hZ
          obtain ⟨gv, hgv⟩ : ∃ gv, gv = wr.heap.size := ⟨_, rfl⟩
          have hrow := setRow_heap (wr.alloc (.cells zero8 145 (0, 0))) wr.heap.size zero8 st.cells.toArray 145 (0, 0) (heap_new rfl)
          have hxr : Ext wr ((wr.alloc (.cells zero8 145 (0, 0))).setRow wr.heap.size st.cells.toArray) := setRow_ext (new_ext _ _) _ _ (Nat.le_refl _)
          obtain ⟨ws, hws⟩ : ∃ ws, ws = (wr.alloc (.cells zero8 145 (0, 0))).setRow wr.heap.size st.cells.toArray := ⟨_, rfl⟩
          have hws2 : (wr.alloc (.cells #[.int .u32 0, .int .u32 0, .int .u32 0, .int .u32 0, .int .u32 0, .int .u32 0, .int .u32 0, .int .u32 0] 145 (0, 0))).setRow wr.heap.size st.cells.toArray = ws := hws.symm
          rw [hws2]
          rw [← hws] at hrow hxr
          have HI : Hid (BytesAt ws b 0 Z ∧ b < gv ∧ w.heap.size ≤ gv ∧ ws.heap[gv]? = some (.cells st.cells.toArray 145 (0, 0)) ∧ Ext w ws) := ⟨hby.ext hxr, by rw [hgv]; exact hby.1, by rw [hgv]; exact HX.out.size, by rw [hgv]; exact hrow, HX.out.trans hxr⟩
          rw [← hgv]
          have hpl : pp = Z.length := hpe
          clear hv hby hZ hgv hrow hxr hws hws2 HX HST hacc HN hrg hi hpe
          rw [hpl]
          have HZL : Hid (Z.length % 64 = 0) := by unfold Hid; rw [← hpl, HPP.out]; have h1 := HP2.out; have h2 := HMN.out; have h3 := HZN.out; have h4 := HU.out.1; unfold zeros at h3; omega
          have HPOS : Hid (Z.length ≤ 200) := by unfold Hid; rw [← hpl, HPP.out]; omega
          clear hpl
          go_loopw [3] (fun x wx => ∃ (s2 : St) (m2 : List UInt8) (off c2 : Nat), x = .slice (some ⟨b, off, none⟩) m2.length c2 ∧ m2.length ≤ c2 ∧ Hid (BytesAt wx b off m2 ∧ b < gv ∧ w.heap.size ≤ gv ∧ wx.heap[gv]? = some (.cells s2.cells.toArray 145 (0, 0)) ∧ Ext w wx) ∧ Hid (hash s2 m2 = hash st Z) ∧ Hid (m2.length % 64 = 0)) (fun x _ => lenV x)
          case atStart => exact ⟨st, Z, 0, c4, rfl, hc5, HI, rfl, HZL.out⟩
          case round =>
            obtain ⟨s2, m2, off, c2, rfl, hc2, hI, HS, HM2⟩ := hrel
            clear hc5
            by_cases h0 : 0 < m2.length
            · have h64 : 64 ≤ m2.length := by have := HM2.out; omega
              have y0 : wr.cell? ⟨gv, 0, none⟩ = some (.int .u32 (s2.a.toNat : Int)) := cell_of hI.out.2.2.2.1 0
              have y1 : wr.cell? ⟨gv, 1, none⟩ = some (.int .u32 (s2.b.toNat : Int)) := cell_of hI.out.2.2.2.1 1
              have y2 : wr.cell? ⟨gv, 2, none⟩ = some (.int .u32 (s2.c.toNat : Int)) := cell_of hI.out.2.2.2.1 2
              have y3 : wr.cell? ⟨gv, 3, none⟩ = some (.int .u32 (s2.d.toNat : Int)) := cell_of hI.out.2.2.2.1 3
              have y4 : wr.cell? ⟨gv, 4, none⟩ = some (.int .u32 (s2.e.toNat : Int)) := cell_of hI.out.2.2.2.1 4
              have y5 : wr.cell? ⟨gv, 5, none⟩ = some (.int .u32 (s2.f.toNat : Int)) := cell_of hI.out.2.2.2.1 5
              have y6 : wr.cell? ⟨gv, 6, none⟩ = some (.int .u32 (s2.g.toNat : Int)) := cell_of hI.out.2.2.2.1 6
              have y7 : wr.cell? ⟨gv, 7, none⟩ = some (.int .u32 (s2.h.toNat : Int)) := cell_of hI.out.2.2.2.1 7
              have hi64 : (64 : Int) ≤ (c2 : Int) := by omega
              go_wp2_with fail
              go_still_tail 3, (by kernel_rfl)
              clear y0 y1 y2 y3 y4 y5 y6 y7
              change wpList _ _ _ _ _ wr.drew
              have HI2 : Hid (BytesAt wr.drew b off m2 ∧ b < gv ∧ w.heap.size ≤ gv ∧ wr.drew.heap[gv]? = some (.cells s2.cells.toArray 145 (0, 0)) ∧ Ext w wr.drew) := ⟨hI.out.1.ext ((Below.refl _ _).drew), hI.out.2.1, hI.out.2.2.1, hI.out.2.2.2.1, hI.out.2.2.2.2.drew⟩
              clear hI
              generalize wr.drew = wd at HI2
              obtain ⟨o2, e2, hs2⟩ := SliceB.rest64 (base := 0) hc2 (Nat.zero_le _) HI2.out.1 h64
              have hsl := fun W => run_slice64 b off m2.length c2 o2 h64 e2 W
              have CB : Hid (∀ wk c', Ext wd wk → Calls Tryz.prog 122 #[.agg #[.int .u32 (s2.a.toNat : Int), .int .u32 (s2.b.toNat : Int), .int .u32 (s2.c.toNat : Int), .int .u32 (s2.d.toNat : Int), .int .u32 (s2.e.toNat : Int), .int .u32 (s2.f.toNat : Int), .int .u32 (s2.g.toNat : Int), .int .u32 (s2.h.toNat : Int)], .slice (some ⟨b, off, none⟩) 64 c'] wk fun e w' => e = .returned (.agg (blk kw s2 (bw (m2.take 64))).cells.toArray) ∧ Ext wk w') := fun wk c' hx =>
                block_any s2 (m2.take 64) b off c' wk (by simp; omega) ((HI2.out.1.ext hx).take 64)
              have HS2 := Lib.hid hs2
              clear hs2 e2
              obtain ⟨q, hq⟩ : ∃ q, q = blk kw s2 (bw (m2.take 64)) := ⟨_, rfl⟩
              rw [← hq] at CB
              have HQ := Lib.hid hq
              clear hq
              go_wp2_with (first | (go_at_call 122; (with_reducible refine (CB.out _ _ (Below.refl _ _)).mono ?_); rintro e w4 ⟨rfl, hx4⟩; have HR4 := Lib.hid ((hx4.block gv (heap_lt HI2.out.2.2.2.1)).trans HI2.out.2.2.2.1)) | (refine wpList_store_row rfl _ _ _ (by rfl) gv q.cells.toArray (by rfl) (by rfl) 145 s2.cells.toArray HR4.out (by kernel_rfl) (by kernel_rfl) (by kernel_rfl) ?_))
              go_roundw
              case rel =>
                obtain ⟨i1, i2, i3, i4, i5⟩ := HI2.out
                have hg : wd.grownBy (w4.setRow gv q.cells.toArray) (some gv) := grown_trans' (grown_of_extB' hx4) (grown_setRow _ _ _)
                obtain ⟨j1, j2⟩ := HS2.out.bytes
                refine ⟨q, m2.drop 64, o2, c2 - 64, by rw [List.length_drop], by rw [List.length_drop]; exact j2, ⟨j1.kept hg (by simp; omega), i2, i3, setRow_heap _ _ _ _ _ _ HR4.out, setRow_ext (i5.trans hx4) _ _ i3⟩, ?_, ?_⟩
                · show hash q (m2.drop 64) = _
                  rw [HQ.out, ← hash_step h64]
                  exact HS.out
                · show (m2.drop 64).length % 64 = 0
                  rw [List.length_drop]
                  have := HM2.out
                  omega
              case measure => simp [lenV]; omega
            · have hm0 : m2 = [] := List.length_eq_zero_iff.1 (by omega)
              subst hm0
              have hrow := hI.out.2.2.2.1
              go_wp2_with (refine wpList_load_row rfl _ _ (by rfl) gv (by rfl) 145 s2.cells.toArray (0, 0) (.array 8 110) hrow (by kernel_rfl) rfl (by kernel_rfl) ?_)
              clear hrow
              have HE : Hid (s2 = hash st Z) := by have h1 := HS.out; rw [hash_end (by decide)] at h1; exact h1
              have HX : Hid (Ext w wr) := hI.out.2.2.2.2
              clear hI HS HM2 HI HZL HPOS
              go_loopw [6, 54] (fun x y wx => ∃ (i : Nat) (A : Option Addr) (c : Nat), i ≤ 8 ∧ x = .slice A (4 * i) c ∧ y = .int .i64 (i : Int) ∧ Hid (Acc w wx (.slice A (4 * i) c) ((digest s2).take (4 * i)))) (fun _ y _ => 8 - (intOf y).toNat)
              case atStart => exact ⟨0, none, 0, by omega, rfl, rfl, Acc.nil HX.out⟩
              case round =>
                obtain ⟨i, A6, c6, hi, rfl, rfl, hacc⟩ := hrel
                by_cases hlt : i < 8
                · obtain ⟨q, hq⟩ : ∃ q, q = 4 * i := ⟨_, rfl⟩
                  have hidx := run_index8 s2 i hlt
                  have HQ := Lib.hid hq
                  rw [← hq] at hacc
                  have HLQ : Hid (((digest s2).take q).length = q) := by unfold Hid; rw [List.length_take, digest_length]; omega
                  have hq2 : q ≤ 28 := by omega
                  rw [← hq]
                  clear hq
                  go_wp2_with (at_builtin; refine append_acc rfl _ _ (by rfl) q 4 w _ _ _ ((digest s2).take q) (bytesOf (s2.get i)) (by rfl) (by rfl) (hacc.out.alloc _) (SrcB.of_four (heap_new rfl)) HLQ.out rfl (by omega) ?_; intro A7 c7 w7 h7; have H7 := Lib.hid h7; clear h7)
                  go_roundw
                  case rel => exact ⟨i + 1, A7, c7, by omega, by rw [HQ.out]; rfl, by go_num, by have h := H7.out; rw [HQ.out, ← digest_take s2 hlt] at h; exact h⟩
                  case measure => simp [intOf]; omega
                · obtain rfl : i = 8 := by omega
                  have h8 : Hid (Acc w wr (.slice A6 32 c6) (digest s2)) := by have h := hacc.out; rw [List.take_of_length_le (by rw [digest_length]; decide)] at h; exact h
                  have hcv := run_string h8.out.src
                  clear hacc
                  go_wp2_with fail
                  go_ret
                  refine ⟨?_, h8.out.2⟩
                  rw [HE.out, HZ.out, HZN.out]
                  have e1 : Zs m (zeros l.length) ++ be64 (8 * l.length) = m ++ pad l.length := by unfold Zs pad; rw [List.append_assoc, List.cons_append]
                  rw [e1, HU.out.2]
                  rfl
        · have hn := (HK.out.ext hacc.out.2).n
          have hi7 : i = 0 ∨ i = 1 ∨ i = 2 ∨ i = 3 ∨ i = 4 ∨ i = 5 ∨ i = 6 ∨ i = 7 := by omega
          clear hi h8
          rcases hi7 with rfl | rfl | rfl | rfl | rfl | rfl | rfl | rfl
          · have e7 : (7 : Int) - ((0 : Nat) : Int) = 7 := rfl
            rw [e7]
            go_wp2_with (at_builtin; refine append_acc rfl _ _ (by rfl) (p + 0) 1 w _ _ _ (Zs m zn ++ (be64 (8 * l.length)).take 0) [UInt8.ofNat (8 * l.length / 72057594037927936)] (by rfl) (by rfl) (hacc.out.alloc _) (SrcB.of_one (heap_new rfl) (be_at HL.out)) (by rw [List.length_append, HLB.out]; rfl) rfl (by omega) ?_; intro A5 c5 w5 h5; have H5 := Lib.hid h5; clear h5)
            go_roundw
            case rel => exact ⟨1, A5, c5, by omega, rfl, rfl, by have h := H5.out; rw [List.append_assoc] at h; exact h⟩
            case measure => simp [intOf]
          · have e7 : (7 : Int) - ((1 : Nat) : Int) = 6 := rfl
            rw [e7]
            go_wp2_with (at_builtin; refine append_acc rfl _ _ (by rfl) (p + 1) 1 w _ _ _ (Zs m zn ++ (be64 (8 * l.length)).take 1) [UInt8.ofNat (8 * l.length / 281474976710656)] (by rfl) (by rfl) (hacc.out.alloc _) (SrcB.of_one (heap_new rfl) (be_at HL.out)) (by rw [List.length_append, HLB.out]; rfl) rfl (by omega) ?_; intro A5 c5 w5 h5; have H5 := Lib.hid h5; clear h5)
            go_roundw
            case rel => exact ⟨2, A5, c5, by omega, rfl, rfl, by have h := H5.out; rw [List.append_assoc] at h; exact h⟩
            case measure => simp [intOf]
          · have e7 : (7 : Int) - ((2 : Nat) : Int) = 5 := rfl
            rw [e7]
            go_wp2_with (at_builtin; refine append_acc rfl _ _ (by rfl) (p + 2) 1 w _ _ _ (Zs m zn ++ (be64 (8 * l.length)).take 2) [UInt8.ofNat (8 * l.length / 1099511627776)] (by rfl) (by rfl) (hacc.out.alloc _) (SrcB.of_one (heap_new rfl) (be_at HL.out)) (by rw [List.length_append, HLB.out]; rfl) rfl (by omega) ?_; intro A5 c5 w5 h5; have H5 := Lib.hid h5; clear h5)
            go_roundw
            case rel => exact ⟨3, A5, c5, by omega, rfl, rfl, by have h := H5.out; rw [List.append_assoc] at h; exact h⟩
            case measure => simp [intOf]
          · have e7 : (7 : Int) - ((3 : Nat) : Int) = 4 := rfl
            rw [e7]
            go_wp2_with (at_builtin; refine append_acc rfl _ _ (by rfl) (p + 3) 1 w _ _ _ (Zs m zn ++ (be64 (8 * l.length)).take 3) [UInt8.ofNat (8 * l.length / 4294967296)] (by rfl) (by rfl) (hacc.out.alloc _) (SrcB.of_one (heap_new rfl) (be_at HL.out)) (by rw [List.length_append, HLB.out]; rfl) rfl (by omega) ?_; intro A5 c5 w5 h5; have H5 := Lib.hid h5; clear h5)
            go_roundw
            case rel => exact ⟨4, A5, c5, by omega, rfl, rfl, by have h := H5.out; rw [List.append_assoc] at h; exact h⟩
            case measure => simp [intOf]
          · have e7 : (7 : Int) - ((4 : Nat) : Int) = 3 := rfl
            rw [e7]
            go_wp2_with (at_builtin; refine append_acc rfl _ _ (by rfl) (p + 4) 1 w _ _ _ (Zs m zn ++ (be64 (8 * l.length)).take 4) [UInt8.ofNat (8 * l.length / 16777216)] (by rfl) (by rfl) (hacc.out.alloc _) (SrcB.of_one (heap_new rfl) (be_at HL.out)) (by rw [List.length_append, HLB.out]; rfl) rfl (by omega) ?_; intro A5 c5 w5 h5; have H5 := Lib.hid h5; clear h5)
            go_roundw
            case rel => exact ⟨5, A5, c5, by omega, rfl, rfl, by have h := H5.out; rw [List.append_assoc] at h; exact h⟩
            case measure => simp [intOf]
          · have e7 : (7 : Int) - ((5 : Nat) : Int) = 2 := rfl
            rw [e7]
            go_wp2_with (at_builtin; refine append_acc rfl _ _ (by rfl) (p + 5) 1 w _ _ _ (Zs m zn ++ (be64 (8 * l.length)).take 5) [UInt8.ofNat (8 * l.length / 65536)] (by rfl) (by rfl) (hacc.out.alloc _) (SrcB.of_one (heap_new rfl) (be_at HL.out)) (by rw [List.length_append, HLB.out]; rfl) rfl (by omega) ?_; intro A5 c5 w5 h5; have H5 := Lib.hid h5; clear h5)
            go_roundw
            case rel => exact ⟨6, A5, c5, by omega, rfl, rfl, by have h := H5.out; rw [List.append_assoc] at h; exact h⟩
            case measure => simp [intOf]
          · have e7 : (7 : Int) - ((6 : Nat) : Int) = 1 := rfl
            rw [e7]
            go_wp2_with (at_builtin; refine append_acc rfl _ _ (by rfl) (p + 6) 1 w _ _ _ (Zs m zn ++ (be64 (8 * l.length)).take 6) [UInt8.ofNat (8 * l.length / 256)] (by rfl) (by rfl) (hacc.out.alloc _) (SrcB.of_one (heap_new rfl) (be_at HL.out)) (by rw [List.length_append, HLB.out]; rfl) rfl (by omega) ?_; intro A5 c5 w5 h5; have H5 := Lib.hid h5; clear h5)
            go_roundw
            case rel => exact ⟨7, A5, c5, by omega, rfl, rfl, by have h := H5.out; rw [List.append_assoc] at h; exact h⟩
            case measure => simp [intOf]
          · have e7 : (7 : Int) - ((7 : Nat) : Int) = 0 := rfl
            rw [e7]
            go_wp2_with (at_builtin; refine append_acc rfl _ _ (by rfl) (p + 7) 1 w _ _ _ (Zs m zn ++ (be64 (8 * l.length)).take 7) [UInt8.ofNat (8 * l.length)] (by rfl) (by rfl) (hacc.out.alloc _) (SrcB.of_one (heap_new rfl) (be_at0 HL.out)) (by rw [List.length_append, HLB.out]; rfl) rfl (by omega) ?_; intro A5 c5 w5 h5; have H5 := Lib.hid h5; clear h5)
            go_roundw
            case rel => exact ⟨8, A5, c5, by omega, rfl, rfl, by have h := H5.out; rw [List.append_assoc] at h; exact h⟩
            case measure => simp [intOf]
    · have hne : ¬ (l.length % 64 + 1 + j) % 64 = 56 := fun e => hz (by rw [hzi.1 e, HZN.out])
      have ht : ((p : Int) % 64 == 56) = false := by simp; omega
      have hp2 : p < 128 := by have := HP.out; have := HMN.out; have := HM.out; omega
      clear hzi hmod hne
      go_wp2_with (at_builtin; refine append_acc rfl _ _ (by rfl) p 1 w _ _ _ (Zs m j) [0] (by rfl) (by rfl) (hacc.out.alloc _) (SrcB.of_block (ys := [0]) (heap_new rfl)) (by rw [Zs_len]; have := HP.out.1; have := HMN.out; omega) rfl (by omega) ?_; intro A4 c4 w4 h4; have H4 := Lib.hid h4; clear h4)
      go_roundw
      case rel => exact ⟨j + 1, p + 1, A4, c4, rfl, by omega, ⟨by have := HP.out.1; omega, by have := HP.out.2; omega⟩, by rw [← Zs_succ]; exact H4.out⟩
      case measure => simp [lenV]; omega
theorem sum_any (s : ByteArray) (w : World) (hs : s.size ≤ 1099511627776) :
    Calls Tryz.prog 45 #[.string s] w fun e w' => e = .returned (.string ⟨(sha s.data.toList).toArray⟩) ∧ Ext w w' := by
  have HS := Lib.hid hs
  clear hs
  go_enter Tryz.func45, Tryz.ntmps45
  go_wp2_with (first
    | (go_at_call 80; (with_reducible refine (new_any _).mono ?_); rintro e w1 ⟨k, rfl, h1, h2, h3, h4⟩; have H1 := Lib.hid (And.intro h1 (And.intro h2 (And.intro h3 h4))); clear h1 h2 h3 h4)
    | (go_at_call 81; (with_reducible refine (write_any k s _ H1.out.1 H1.out.2.2.1 HS.out).mono ?_); rintro e w2 ⟨rfl, h2⟩; have H2 := Lib.hid h2; clear h2)
    | (go_at_call 82; obtain ⟨hb, st, m, v, i1, i2, i3, i4⟩ := H2.out; (with_reducible refine (hsum_any k st m s.data.toList v _ i1 i2 i3 i4 (by simp; exact HS.out)).mono ?_); rintro e w3 ⟨rfl, h3⟩; have H3 := Lib.hid (And.intro hb h3); clear hb i1 i2 i3 i4 h3))
  go_ret
  refine ⟨rfl, ?_⟩
  exact Ext.trans (Below.trans H1.out.2.2.2 (H2.out.1.mono H1.out.2.1)) H3.out.2
end Go.Proofs.YtplfimoeggecjaaGreatDoor.Sx
