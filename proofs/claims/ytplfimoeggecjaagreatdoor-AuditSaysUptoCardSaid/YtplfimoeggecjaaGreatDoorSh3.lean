/-
  The program's block: 64 bytes taken in.
-/
import Derived.Test.YtplfimoeggecjaaGreatDoorSh2
import Derived.Deep.DeepCutAuto
namespace Go.Proofs.YtplfimoeggecjaaGreatDoor.Sx
open Go Go.RowKit

theorem word_or' (x y z u : UInt8) : bits BinOp.or IntKind.u32 (bits BinOp.or IntKind.u32 (bits BinOp.or IntKind.u32 ((x.toNat : Int) % 4294967296 * 16777216 % 4294967296) ((y.toNat : Int) % 4294967296 * 65536 % 4294967296)) ((z.toNat : Int) % 4294967296 * 256 % 4294967296)) ((u.toNat : Int) % 4294967296) = ((wordOf x y z u).toNat : Int) := by
  have h := word_or x y z u
  simp only [IntKind.wrap_u32'] at h
  exact h
theorem w_not (x : W32) : bits BinOp.xor IntKind.u32 (if IntKind.u32.signed = true then -1 else IntKind.u32.max) (x.toNat : Int) = ((~~~x).toNat : Int) := by
  have h : (if IntKind.u32.signed = true then (-1 : Int) else IntKind.u32.max) = 4294967295 := by decide
  have h2 : BitVec.ofInt 32 4294967295 = BitVec.allOnes 32 := by decide
  rw [h]
  show IntKind.u32.wrap ((BitVec.ofInt 32 4294967295 ^^^ BitVec.ofInt 32 (x.toNat : Int)).toNat : Int) = _
  rw [ofInt_w, wrap_w, h2, ← BitVec.not_def]
theorem w_t1 (q : St) (k w : W32) : (((q.h.toNat : Int) + bits BinOp.xor IntKind.u32 (bits BinOp.xor IntKind.u32 ((rotr q.e 6).toNat : Int) ((rotr q.e 11).toNat : Int)) ((rotr q.e 25).toNat : Int) + bits BinOp.xor IntKind.u32 (bits BinOp.and IntKind.u32 (q.e.toNat : Int) (q.f.toNat : Int)) (bits BinOp.and IntKind.u32 (bits BinOp.xor IntKind.u32 (if IntKind.u32.signed = true then -1 else IntKind.u32.max) (q.e.toNat : Int)) (q.g.toNat : Int)) + (k.toNat : Int)) % 4294967296 + (w.toNat : Int)) % 4294967296 = ((q.t1 k w).toNat : Int) := by
  rw [w_not, w_xor, w_xor, w_and, w_and, w_xor]
  unfold St.t1 bsig1 chP
  simp only [BitVec.toNat_add]
  omega
theorem w_t2 (q : St) : (bits BinOp.xor IntKind.u32 (bits BinOp.xor IntKind.u32 ((rotr q.a 2).toNat : Int) ((rotr q.a 13).toNat : Int)) ((rotr q.a 22).toNat : Int) + bits BinOp.xor IntKind.u32 (bits BinOp.xor IntKind.u32 (bits BinOp.and IntKind.u32 (q.a.toNat : Int) (q.b.toNat : Int)) (bits BinOp.and IntKind.u32 (q.a.toNat : Int) (q.c.toNat : Int))) (bits BinOp.and IntKind.u32 (q.b.toNat : Int) (q.c.toNat : Int))) % 4294967296 = (q.t2.toNat : Int) := by
  rw [w_xor, w_xor, w_and, w_and, w_and, w_xor, w_xor, w_add]
  rfl
theorem rnd_cells (q : St) (k w : W32) : #[Value.int .u32 (((q.t1 k w).toNat + q.t2.toNat : Int) % 4294967296), .int .u32 (q.a.toNat : Int), .int .u32 (q.b.toNat : Int), .int .u32 (q.c.toNat : Int), .int .u32 ((q.d.toNat + (q.t1 k w).toNat : Int) % 4294967296), .int .u32 (q.e.toNat : Int), .int .u32 (q.f.toNat : Int), .int .u32 (q.g.toNat : Int)] = (q.rnd k w).cells.toArray := by
  rw [w_add, w_add]
  rfl
def St.get (s : St) (j : Nat) : W32 := match j with
  | 0 => s.a
  | 1 => s.b
  | 2 => s.c
  | 3 => s.d
  | 4 => s.e
  | 5 => s.f
  | 6 => s.g
  | _ => s.h
/-- Eight words when the first n of t's are added. -/
def addc (s t : St) (n : Nat) : Array Value := ((List.range 8).map fun j => w32 (if j < n then s.get j + t.get j else s.get j)).toArray
theorem addc_zero (s t : St) : addc s t 0 = s.cells.toArray := rfl
theorem addc_all (s t : St) : addc s t 8 = (s.add t).cells.toArray := rfl
theorem addc_at (s t : St) (n : Nat) {j : Nat} (h : j < 8) : (addc s t n)[j]? = some (w32 (if j < n then s.get j + t.get j else s.get j)) := by
  simp [addc, List.getElem?_range h]
theorem cells_at (s : St) {j : Nat} (h : j < 8) : s.cells.toArray[j]? = some (w32 (s.get j)) := by
  rw [← addc_zero s s, addc_at s s 0 h, if_neg (by omega)]
theorem addc_set (s t : St) {n : Nat} (h : n < 8) {v : Value} (hv : v = w32 (s.get n + t.get n)) : (addc s t n).setIfInBounds n v = addc s t (n + 1) := by
  subst hv
  apply Array.ext_getElem?
  intro j
  have hs : (addc s t n).size = 8 := by simp [addc]
  rw [Array.getElem?_setIfInBounds]
  rcases Nat.lt_or_ge j 8 with h1 | h1
  · rw [addc_at _ _ _ h1, addc_at _ _ _ h1]
    rcases Nat.lt_trichotomy j n with h3 | h3 | h3
    · rw [if_neg (by omega), if_pos h3, if_pos (by omega)]
    · subst h3
      rw [if_pos rfl, if_pos (by omega), if_pos (by omega)]
    · rw [if_neg (by omega), if_neg (by omega), if_neg (by omega)]
  · have e : ∀ n, (addc s t n)[j]? = none := fun n => by simp [addc, h1]
    rw [e, e, if_neg (by omega)]
theorem BlkV.setH {w wr : World} {s t : St} {rc wc vc : Array Value} {gv n : Nat} {v : Value} (h : BlkV w (addc s t n) rc wc vc gv wr) (hn : n < 8) (hv : v = w32 (s.get n + t.get n)) :
    BlkV w (addc s t (n + 1)) rc wc vc gv (wr.setCell ⟨w.heap.size, n, none⟩ v) := by
  have hgt := h.gt
  refine { ext := h.ext.setCell (by simp) _, h := ?_, r := ?_, ww := ?_, v := ?_, gt := h.gt }
  · rw [← addc_set s t hn hv]
    exact heap_setCell_same _ _ _ _ _ _ h.h
  · rw [heap_setCell_other _ _ _ _ (by simp)]; exact h.r
  · rw [heap_setCell_other _ _ _ _ (by simp; omega)]; exact h.ww
  · rw [heap_setCell_other _ _ _ _ (by simp; omega)]; exact h.v
theorem w_sum (x y : W32) : Value.int .u32 (((x.toNat : Int) + (y.toNat : Int)) % 4294967296) = w32 (x + y) := by
  rw [w_add]
  rfl
theorem rnds_succ (K B : Nat → W32) (s : St) (n : Nat) : rnds K B s (n + 1) = (rnds K B s n).rnd (K n) (wd B n) := rfl
theorem turned_of (x : W32) (m : Int) (h : m ∈ [(2 : Int), 6, 7, 11, 13, 17, 18, 19, 22, 25]) (w : World) : Calls Tryz.prog 162 #[.int .u32 (x.toNat : Int), .int .i64 m] w fun e w' => e = .returned (.int .u32 ((rotr x m.toNat).toNat : Int)) ∧ w' = w := by
  simp only [List.mem_cons, List.not_mem_nil, or_false] at h
  rcases h with rfl | rfl | rfl | rfl | rfl | rfl | rfl | rfl | rfl | rfl
  · exact flip_same (turned_2 x w)
  · exact flip_same (turned_6 x w)
  · exact flip_same (turned_7 x w)
  · exact flip_same (turned_11 x w)
  · exact flip_same (turned_13 x w)
  · exact flip_same (turned_17 x w)
  · exact flip_same (turned_18 x w)
  · exact flip_same (turned_19 x w)
  · exact flip_same (turned_22 x w)
  · exact flip_same (turned_25 x w)
theorem turned_ofw (x : W32) (m : Int) (h : m ∈ [(2 : Int), 6, 7, 11, 13, 17, 18, 19, 22, 25]) (w : World) : Calls Tryz.prog 162 #[.int .u32 (x.toNat : Int), .int .i64 m] w fun e w' => e = .returned (.int .u32 ((rotr x m.toNat).toNat : Int)) ∧ w = w' :=
  (turned_of x m h w).mono fun _ _ hh => ⟨hh.1, hh.2.symm⟩
set_option maxRecDepth 100000 in
set_option maxHeartbeats 4000000 in
theorem block_any (s : St) (l : List UInt8) (b off c : Nat) (w : World) (hl : l.length = 64) (hb : BytesAt w b off l) :
    Calls Tryz.prog 122 #[s.value, .slice (some ⟨b, off, none⟩) 64 c] w fun e w' => e = .returned (blk kw s (bw l)).value ∧ Ext w w' := by
  show Calls Tryz.prog 122 #[.agg #[w32 s.a, w32 s.b, w32 s.c, w32 s.d, w32 s.e, w32 s.f, w32 s.g, w32 s.h], .slice (some ⟨b, off, none⟩) 64 c] w _
  obtain ⟨g, hg⟩ : ∃ g, g = w.heap.size := ⟨_, rfl⟩
  have HL := Lib.hid hl
  have HB := Lib.hid hb
  have HSTART := Lib.hid (BlkW.start (w := w) (hc := s.cells.toArray) (rc := zero8) (wc := wcells (bw l) 0))
  clear hl hb
  go_enter Tryz.func122, Tryz.ntmps122
  go_wp2_with fail
  rw [← hg]
  have HG := Lib.hid hg
  clear hg
  go_loopw [24] (fun q wr => ∃ i : Nat, i ≤ 16 ∧ q = .int .i64 (i : Int) ∧ Hid (BlkW w s.cells.toArray zero8 (wcells (bw l) i) wr)) (fun q _ => 16 - (intOf q).toNat)
  case atStart => exact ⟨0, by omega, rfl, HSTART.out⟩
  case round =>
    obtain ⟨i, hi, rfl, hI⟩ := hrel
    by_cases hlt : i < 16
    · obtain ⟨x, y, z, u, hbw, cx, cy, cz, cu⟩ := (HB.out.ext hI.out.ext).four HL.out hlt
      have HBW := Lib.hid hbw
      clear hbw
      have cf := free_of (j := i) hI.out.ww
      have cc := cell_of (j := i) hI.out.ww
      rw [wcells_at _ _ (by omega), if_neg (Nat.lt_irrefl _)] at cc
      rw [← HG.out] at cf cc
      have p0 : (0 : Int) ≤ (i : Int) := by omega
      have p1 : (i : Int) < 64 := by omega
      have p2 : (i : Int) < 16 := by omega
      have q0 : (0 : Int) ≤ 4 * (i : Int) := by omega
      have q1 : 4 * (i : Int) < 64 := by omega
      have q2 : (0 : Int) ≤ 4 * (i : Int) + 1 := by omega
      have q3 : 4 * (i : Int) + 1 < 64 := by omega
      have q4 : (0 : Int) ≤ 4 * (i : Int) + 2 := by omega
      have q5 : 4 * (i : Int) + 2 < 64 := by omega
      have q6 : (0 : Int) ≤ 4 * (i : Int) + 3 := by omega
      have q7 : 4 * (i : Int) + 3 < 64 := by omega
      have m0 : (4 * (i : Int)).toNat = 4 * i := by omega
      have m1 : (4 * (i : Int) + 1).toNat = 4 * i + 1 := by omega
      have m2 : (4 * (i : Int) + 2).toNat = 4 * i + 2 := by omega
      have m3 : (4 * (i : Int) + 3).toNat = 4 * i + 3 := by omega
      have w0 : IntKind.i64.wrap (4 * (i : Int)) = 4 * (i : Int) := IntWalk.i64_in _ (by omega)
      have w1 : IntKind.i64.wrap (4 * (i : Int) + 1) = 4 * (i : Int) + 1 := IntWalk.i64_in _ (by omega)
      have w2 : IntKind.i64.wrap (4 * (i : Int) + 2) = 4 * (i : Int) + 2 := IntWalk.i64_in _ (by omega)
      have w3 : IntKind.i64.wrap (4 * (i : Int) + 3) = 4 * (i : Int) + 3 := IntWalk.i64_in _ (by omega)
      go_wp2_with fail
      go_still_tail 35, (by kernel_rfl)
      go_wp2_with fail
      clear m0 m1 m2 m3 w0 w1 w2 w3 cx cy cz cu cf cc
      rw [word_or', ← HBW.out]
      go_roundw
      case rel =>
        refine ⟨i + 1, by omega, by go_num, ?_⟩
        rw [HG.out]
        exact (hI.out.setW (by omega) (wd_low _ hlt).symm).drew
      case measure => simp [intOf]; omega
    · have HJ : Hid (BlkW w s.cells.toArray zero8 (wcells (bw l) 16) wr) := (show i = 16 by omega) ▸ hI
      have hle : 16 ≤ i := by omega
      have hdec : decide ((i : Int) < 16) = false := by simp; omega
      clear hI hlt hi
      go_wp2_with fail
      go_loopw [7] (fun q wr => ∃ i : Nat, 16 ≤ i ∧ i ≤ 64 ∧ q = .int .i64 (i : Int) ∧ Hid (BlkW w s.cells.toArray zero8 (wcells (bw l) i) wr)) (fun q _ => 64 - (intOf q).toNat)
      case atStart => exact ⟨16, by omega, by omega, rfl, HJ⟩
      case round =>
        obtain ⟨i, hi0, hi, rfl, hI⟩ := hrel
        by_cases hlt : i < 64
        · obtain ⟨i2, hi2⟩ : ∃ i2, i2 = i - 2 := ⟨_, rfl⟩
          have d2 := hI.out.get (j := i - 2) (by omega)
          have d15 := hI.out.get (j := i - 15) (by omega)
          have HWD := Lib.hid (wd_high (bw l) hi0)
          rw [← HG.out] at d2 d15
          go_wp2_with fail
          have a2 : (0 : Int) ≤ (i : Int) - 2 := by omega
          have b2 : (i : Int) - 2 < 64 := by omega
          have a15 : (0 : Int) ≤ (i : Int) - 15 := by omega
          have b15 : (i : Int) - 15 < 64 := by omega
          have n2 : ((i : Int) - 2).toNat = i - 2 := by omega
          have n15 : ((i : Int) - 15).toNat = i - 15 := by omega
          have w2 : IntKind.i64.wrap ((i : Int) - 2) = (i : Int) - 2 := IntWalk.i64_in _ (by omega)
          have w15 : IntKind.i64.wrap ((i : Int) - 15) = (i : Int) - 15 := IntWalk.i64_in _ (by omega)
          go_quiet (fail)
          obtain ⟨wq, hwq⟩ : ∃ wq, wq = wr.drewN nq := ⟨_, rfl⟩
          rw [← hwq]
          have hI : Hid (BlkW w s.cells.toArray zero8 (wcells (bw l) i) wq) := by unfold Hid; rw [hwq]; exact hI.out.drewN _
          clear n2 n15 w2 w15 a2 b2 a15 b15 hwq d2 d15
          go_wp2_with fail
          refine (turned_7 _ _).mono ?_
          rintro e w' ⟨rfl, rfl⟩
          go_wp2_with fail
          refine (turned_18 _ _).mono ?_
          rintro e w' ⟨rfl, rfl⟩
          go_wp2_with fail
          refine (turned_17 _ _).mono ?_
          rintro e w' ⟨rfl, rfl⟩
          go_wp2_with fail
          refine (turned_19 _ _).mono ?_
          rintro e w' ⟨rfl, rfl⟩
          go_wp2_with fail
          have d7 := hI.out.get (j := i - 7) (by omega)
          have d16 := hI.out.get (j := i - 16) (by omega)
          have cf := free_of (j := i) hI.out.ww
          have cc := cell_of (j := i) hI.out.ww
          rw [wcells_at _ _ (by omega), if_neg (Nat.lt_irrefl _)] at cc
          rw [← HG.out] at cf cc d7 d16
          have a7 : (0 : Int) ≤ (i : Int) - 7 := by omega
          have b7 : (i : Int) - 7 < 64 := by omega
          have a16 : (0 : Int) ≤ (i : Int) - 16 := by omega
          have b16 : (i : Int) - 16 < 64 := by omega
          have p0 : (0 : Int) ≤ (i : Int) := by omega
          have p1 : (i : Int) < 64 := by omega
          have q7 : (7 : Int) ≤ (i : Int) := by omega
          have q16 : (16 : Int) ≤ (i : Int) := by omega
          have f7 : (⟨g + 1 + 1, i, none⟩ : Addr) ≠ ⟨g + 1 + 1, i - 7, none⟩ := by intro e; injection e; omega
          have f16 : (⟨g + 1 + 1, i, none⟩ : Addr) ≠ ⟨g + 1 + 1, i - 16, none⟩ := by intro e; injection e; omega
          have n7 : ((i : Int) - 7).toNat = i - 7 := by omega
          have n16 : ((i : Int) - 16).toNat = i - 16 := by omega
          have w7 : IntKind.i64.wrap ((i : Int) - 7) = (i : Int) - 7 := IntWalk.i64_in _ (by omega)
          have w16 : IntKind.i64.wrap ((i : Int) - 16) = (i : Int) - 16 := IntWalk.i64_in _ (by omega)
          go_region_held3 (fun w' => w'.cell? ⟨g + 1 + 1, i - 7, none⟩ = some (.int .u32 ((wd (bw l) (i - 7)).toNat : Int)) ∧ w'.cell? ⟨g + 1 + 1, i - 16, none⟩ = some (.int .u32 ((wd (bw l) (i - 16)).toNat : Int))) (refine ⟨?_, ?_⟩ <;> (first | (simp only [World.cell?_drew]; assumption) | (simp only [World.cell?_drew, cell_other f7, cell_other f16]; assumption) | (simp only [cell_other f7, cell_other f16]; assumption))) (fail)
          clear n7 n16 w7 w16 f7 f16
          clear d7 d16 cf cc a7 b7 a16 b16 p0 p1 q7 q16
          have e16 := w_sched (wd (bw l) (i - 16)) (wd (bw l) (i - 15)) (wd (bw l) (i - 7)) (wd (bw l) (i - 2))
          rw [e16, ← HWD.out]
          clear e16
          go_wp2
          go_roundw
          case rel =>
            refine ⟨i + 1, by omega, by omega, by go_num, ?_⟩
            rw [HG.out]
            exact (hI.out.setW (by omega) rfl).drew
          case measure => simp [intOf]; omega
        · have HJ : Hid (BlkW w s.cells.toArray zero8 (wcells (bw l) 64) wr) := (show i = 64 by omega) ▸ hI
          have hdec2 : decide ((i : Int) < 64) = false := by simp; omega
          clear hI hlt hi hi0
          have hJh := HJ.out.h
          rw [← HG.out] at hJh
          have HE := Lib.hid (heap_new (w := wr) (o := .cells zero8 145 (0, 0)) rfl)
          obtain ⟨gv, hgv⟩ : ∃ gv, gv = wr.heap.size := ⟨_, rfl⟩
          go_wp2_with (first | (refine wpList_load_row rfl _ _ (by rfl) g (by rfl) 145 s.cells.toArray (0, 0) (.array 8 110) hJh (by kernel_rfl) rfl (by kernel_rfl) ?_) | (refine wpList_store_row rfl _ _ _ (by rfl) wr.heap.size s.cells.toArray (by rfl) (by rfl) 145 zero8 HE.out (by kernel_rfl) (by kernel_rfl) (by kernel_rfl) ?_) | (with_reducible refine (constants_any _).mono ?_; rintro e w4 ⟨rfl, hx4⟩))
          have HV : Hid (BlkV w s.cells.toArray zero8 (wcells (bw l) 64) s.cells.toArray gv w4) := by rw [hgv]; exact HJ.out.withV hx4
          rw [← hgv]
          clear hx4 hgv hJh HE HJ hdec hdec2
          go_loopw [108] (fun q wx => ∃ n : Nat, n ≤ 64 ∧ q = .int .i64 (n : Int) ∧ Hid (BlkV w s.cells.toArray zero8 (wcells (bw l) 64) (rnds kw (bw l) s n).cells.toArray gv wx)) (fun q _ => 64 - (intOf q).toNat)
          case atStart => exact ⟨0, by omega, rfl, HV⟩
          case round =>
            obtain ⟨n, hn, rfl, hI⟩ := hrel
            by_cases hlt : n < 64
            · obtain ⟨q, hq⟩ : ∃ q, q = rnds kw (bw l) s n := ⟨_, rfl⟩
              rw [← hq] at hI
              have HQ := Lib.hid hq
              clear hq
              have hk := run_k n hlt
              go_wp2_with fail
              have v0 := hI.out.cellV 0 (.int .u32 (q.a.toNat : Int)) rfl
              have v1 := hI.out.cellV 1 (.int .u32 (q.b.toNat : Int)) rfl
              have v2 := hI.out.cellV 2 (.int .u32 (q.c.toNat : Int)) rfl
              have v3 := hI.out.cellV 3 (.int .u32 (q.d.toNat : Int)) rfl
              have v4 := hI.out.cellV 4 (.int .u32 (q.e.toNat : Int)) rfl
              have v5 := hI.out.cellV 5 (.int .u32 (q.f.toNat : Int)) rfl
              have v6 := hI.out.cellV 6 (.int .u32 (q.g.toNat : Int)) rfl
              have v7 := hI.out.cellV 7 (.int .u32 (q.h.toNat : Int)) rfl
              go_quiet (fail)
              go_wp2_with fail
              obtain ⟨wq, hwq⟩ : ∃ wq, wq = wr.drewN nq := ⟨_, rfl⟩
              rw [← hwq]
              have hI : Hid (BlkV w s.cells.toArray zero8 (wcells (bw l) 64) q.cells.toArray gv wq) := by unfold Hid; rw [hwq]; exact hI.out.drewN _
              clear hwq v0 v1 v2 v3 v4 v5 v6 v7 hk
              have v7 := hI.out.cellV 7 (.int .u32 (q.h.toNat : Int)) rfl
              have dn := hI.out.get (j := n) ⟨hlt, hlt⟩
              rw [← HG.out] at dn
              have p0 : (0 : Int) ≤ (n : Int) := by omega
              have p1 : (n : Int) < 64 := by omega
              go_quiet ((go_at_call 162; exact Calls.quiet_of_same (turned_of _ _ (by decide) _)))
              obtain ⟨wz, hwz⟩ : ∃ wz, wz = wq.drewN nq := ⟨_, rfl⟩
              rw [← hwz]
              have hI : Hid (BlkV w s.cells.toArray zero8 (wcells (bw l) 64) q.cells.toArray gv wz) := by unfold Hid; rw [hwz]; exact hI.out.drewN _
              clear hwz v7 dn
              have v3 := hI.out.cellV 3 (.int .u32 (q.d.toNat : Int)) rfl
              rw [w_t1]
              go_upto_region 21 with (go_at_call 162; (with_reducible refine (turned_ofw _ _ (by decide) _).mono ?_); rintro e w' ⟨rfl, rfl⟩)
              rw [w_t2]
              have hIv := hI.out.v
              have HR := Lib.hid (rnd_cells q (kw n) (wd (bw l) n))
              go_wp2_with (first | (refine wpList_built rfl _ _ (by rfl) (q.rnd (kw n) (wd (bw l) n)).cells.toArray (by rw [← HR.out]; kernel_rfl) ?_) | (refine wpList_store_row rfl _ _ _ (by rfl) gv (q.rnd (kw n) (wd (bw l) n)).cells.toArray (by rfl) (by rfl) 145 q.cells.toArray hIv (by kernel_rfl) (by kernel_rfl) (by kernel_rfl) ?_))
              go_roundw
              case rel =>
                refine ⟨n + 1, by omega, by go_num, ?_⟩
                rw [rnds_succ, ← HQ.out]
                exact hI.out.setV _
              case measure => simp [intOf]; omega
            · have HK : Hid (BlkV w (addc s (rnds kw (bw l) s 64) 0) zero8 (wcells (bw l) 64) (rnds kw (bw l) s 64).cells.toArray gv wr) := by
                obtain rfl : n = 64 := by omega
                exact hI
              have hdec3 : decide ((n : Int) < 64) = false := by simp; omega
              clear hI hlt hn
              go_wp2_with fail
              obtain ⟨q, hq⟩ : ∃ q, q = rnds kw (bw l) s 64 := ⟨_, rfl⟩
              rw [← hq] at HK
              have HQ := Lib.hid hq
              clear hq
              go_loopw [185] (fun x wx => ∃ n : Nat, n ≤ 8 ∧ x = .int .i64 (n : Int) ∧ Hid (BlkV w (addc s q n) zero8 (wcells (bw l) 64) q.cells.toArray gv wx)) (fun x _ => 8 - (intOf x).toNat)
              case atStart => exact ⟨0, by omega, rfl, HK⟩
              case round =>
                obtain ⟨n, hn, rfl, hI⟩ := hrel
                by_cases hlt : n < 8
                · have c1 := hI.out.cellH n (.int .u32 ((s.get n).toNat : Int)) ((addc_at s q n hlt).trans (by rw [if_neg (Nat.lt_irrefl _)]; rfl))
                  have c2 := hI.out.cellV n (.int .u32 ((q.get n).toNat : Int)) (cells_at q hlt)
                  have cf := free_of (j := n) hI.out.h
                  rw [← HG.out] at c1 cf
                  have p0 : (0 : Int) ≤ (n : Int) := by omega
                  have p1 : (n : Int) < 8 := by omega
                  go_wp2_with fail
                  go_still_tail 8, (by kernel_rfl)
                  go_wp2_with fail
                  go_roundw
                  case rel =>
                    refine ⟨n + 1, by omega, by go_num, ?_⟩
                    rw [HG.out]
                    first | exact (hI.out.setH hlt (w_sum _ _)).drewN _ | exact (hI.out.drewN _).setH hlt (w_sum _ _)
                  case measure => simp [intOf]; omega
                · have HL8 : Hid (BlkV w (s.add q).cells.toArray zero8 (wcells (bw l) 64) q.cells.toArray gv wr) := by
                    obtain rfl : n = 8 := by omega
                    rw [← addc_all]
                    exact hI
                  have hdec4 : decide ((n : Int) < 8) = false := by simp; omega
                  clear hI hlt hn
                  have hh := HL8.out.h
                  have hr := HL8.out.r
                  rw [← HG.out] at hh hr
                  go_wp2_with (first | (refine wpList_load_row rfl _ _ (by rfl) g (by rfl) 145 (s.add q).cells.toArray (0, 0) (.array 8 110) hh (by kernel_rfl) rfl (by kernel_rfl) ?_) | (refine wpList_store_row rfl _ _ _ (by rfl) (g + 1) (s.add q).cells.toArray (by rfl) (by rfl) 145 zero8 hr (by kernel_rfl) (by kernel_rfl) (by kernel_rfl) ?_))
                  have HE : Ext w (wr.setRow (g + 1) (s.add q).cells.toArray) := by rw [HG.out]; exact setRow_ext HL8.out.ext _ _ (by omega)
                  refine bodyPost_ret (results_cell_row (by rfl) _ _ (g + 1) 145 (s.add q).cells.toArray (0, 0) (.array 8 110) (by rfl) (setRow_heap _ _ zero8 _ _ _ hr) (by kernel_rfl) rfl (by kernel_rfl)) rfl ⟨?_, HE⟩
                  rw [HQ.out]
                  rfl
end Go.Proofs.YtplfimoeggecjaaGreatDoor.Sx
