/-
  The program's Hash: Write.
-/
import Derived.Test.YtplfimoeggecjaaGreatDoorSh4
import Derived.Laws.Bits64
import Derived.Deep.RegionLaw
namespace Go.Proofs.YtplfimoeggecjaaGreatDoor.Sx
open Go Go.RowKit

theorem grown_trans' {w w' w'' : World} {row : Option Nat} (h : w.grownBy w' row) (h' : w'.grownBy w'' row) : w.grownBy w'' row :=
  ⟨h'.os.trans h.os, h'.tape.trans h.tape, h'.output.trans h.output, Nat.le_trans h.size h'.size, fun k hk hne => (h'.block k (Nat.lt_of_lt_of_le hk h.size) hne).trans (h.block k hk hne)⟩
theorem lib_hid {p : Prop} (h : p) : Hid p := h
theorem step_store_mid {P : Program} {ops : Array Oper} {op : Oper} {a : Act} {w : World} {K : Act → World → Prop} {Q : Exit → Act → World → Prop} {E : Prop} (hgd : op.guard = none) (ty : TypeId) (x y : Operand) (ho : op.op = .store ty x y)
    (b o : Nat) (cells : Array Value) (hx : a.eval x = .pointer (some ⟨b, o, none⟩)) (hy : a.eval y = .agg cells)
    (ht : w.there b o cells.size) (hi : (P.info? ty).map (·.size) = some cells.size) (h1 : cells.all (·.oneCell') = true)
    (h : K (a.put op.dst undef) (w.setCells b o cells.toList)) : if Region.wanted op (yielded ops a.tmps) = true then Oper.wp P op a w K Q else E := by
  have hw : Region.wanted op (yielded ops a.tmps) = true := by simp [Region.wanted, hgd]
  rw [if_pos hw]
  exact wp_store_mid ty x y ho b o cells hx hy ht hi h1 h
theorem st_one (s : St) : s.cells.toArray.all (·.oneCell') = true := all_oneCell_toArray fun v hv => by
  simp only [St.cells, List.mem_cons, List.not_mem_nil, or_false] at hv
  rcases hv with rfl | rfl | rfl | rfl | rfl | rfl | rfl | rfl <;> rfl
theorem st_there {w : World} {k : Nat} {st : St} {rv : Value} {many : Nat} (h : HashAt w k st rv many) (t : St) : w.there k 0 t.cells.toArray.size := h.there
theorem st_size (s : St) : (Tryz.prog.info? 145).map (·.size) = some s.cells.toArray.size := by kernel_rfl
/-- What Write leaves behind. -/
def Wrote (k : Nat) (w : World) (l : List UInt8) (e : Ending) (w' : World) : Prop :=
  e = .returned (.tuple #[]) ∧ Below k w w' ∧ ∃ st m v, HashAt w' k st v l.length ∧ SliceB (k + 1) w' v m ∧ Under st m l ∧ m.length < 64
set_option maxRecDepth 100000 in
set_option maxHeartbeats 4000000 in
theorem write_any (k : Nat) (s : ByteArray) (w : World) (hk : HashAt w k h0 (.slice none 0 0) 0) (hz : k + 1 = w.heap.size) (hs : s.size ≤ 1099511627776) :
    Calls Tryz.prog 81 #[.pointer (some ⟨k, 0, none⟩), .string s] w (Wrote k w s.data.toList) := by
  have HS := Lib.hid hk
  have HZ := Lib.hid hz
  have hn := hk.n
  have hr := hk.r
  have hf9 := hk.free 9
  have hf8 := hk.free 8
  have HSZ := Lib.hid hs
  have hu : IntKind.u64.wrap (s.size : Int) = (s.size : Int) := by rw [IntKind.wrap_u64]; omega
  have hs2 : (s.size : Int) ≤ 1099511627776 := by omega
  clear hk hz hs
  go_enter Tryz.func81, Tryz.ntmps81
  go_wp2_with (at_builtin; refine append_text rfl _ _ (by rfl) (k + 1) 0 _ _ s [] (by rfl) (by rfl) BRow.nil rfl (by omega) (by simp; have := HZ.out; omega) ?_; intro A c w1 h1 h2; have h3 : HashAt w1 k h0 (.slice none 0 0) s.size := (HS.out.setN s.size).kept (row := none) h2 (by simp); have hr1 := h3.r; have hf1 := h3.free 8; have H1 := Lib.hid (And.intro h1 (And.intro h2 h3)); clear h1 h2 h3)
  obtain ⟨w2, hw2⟩ : ∃ w2, w2 = w1.setCell ⟨k, 8, none⟩ (.slice A s.size c) := ⟨_, rfl⟩
  rw [← hw2]
  have HI : Hid (Below k w w2 ∧ ∃ st m v, HashAt w2 k st v s.size ∧ SliceB (k + 1) w2 v m ∧ Under st m s.data.toList) := by
    obtain ⟨h1, h2, h3⟩ := H1.out
    subst hw2
    have hsz : ([] ++ s.data.toList).length = s.size := by simp
    refine ⟨?_, h0, s.data.toList, .slice A s.size c, h3.setR _, ?_, .start _⟩
    · have hb1 : Below k w (w.setCell ⟨k, 9, none⟩ (.int .u64 (s.size : Int))) := (Below.refl _ _).setCell (p := ⟨k, 9, none⟩) (Nat.le_refl k) _
      have hb2 : Below k (w.setCell ⟨k, 9, none⟩ (.int .u64 (s.size : Int))) w1 := ⟨h2.os, h2.tape, h2.output, h2.size, fun j hj => h2.block j (by simp; have := HZ.out; omega) (by simp [Value.ownBlock])⟩
      exact (hb1.trans hb2).setCell (p := ⟨k, 8, none⟩) (Nat.le_refl k) _
    · rw [List.nil_append, Nat.zero_add] at h1
      exact SliceB.kept (base := k + 1) h1.sliceB (grown_setCell _ _ _ _) (fun g hg e => by injection e with e; omega)
  clear hw2 H1 hr1 hf1 hn hr hf9 hf8 hu
  go_loopw [] (fun wr => Hid (Below k w wr ∧ ∃ st m v, HashAt wr k st v s.size ∧ SliceB (k + 1) wr v m ∧ Under st m s.data.toList)) (fun wr => lenAt wr k)
  case atStart => exact HI
  case round =>
    obtain ⟨hb, st, m, v, hh, hv, hu⟩ := hrel.out
    have hlen : lenAt wr k = m.length := by
      obtain ⟨A, c, rfl⟩ := hv.slice
      unfold lenAt
      rw [hh.r]
    have HL := Lib.hid hlen
    have HB := Lib.hid hb
    have HH := Lib.hid hh
    have HV := Lib.hid hv
    have HU := Lib.hid hu
    clear hlen hb hrel HI
    by_cases hlt : 64 ≤ m.length
    · rcases hv with ⟨_, rfl⟩ | ⟨b, off, c, rfl, hc, hbb, hy⟩
      · simp at hlt
      · have hr := hh.r
        have c0 : wr.cell? ⟨k, 0, none⟩ = some (.int .u32 (st.a.toNat : Int)) := hh.h 0 _ rfl
        have c1 : wr.cell? ⟨k, 1, none⟩ = some (.int .u32 (st.b.toNat : Int)) := hh.h 1 _ rfl
        have c2 : wr.cell? ⟨k, 2, none⟩ = some (.int .u32 (st.c.toNat : Int)) := hh.h 2 _ rfl
        have c3 : wr.cell? ⟨k, 3, none⟩ = some (.int .u32 (st.d.toNat : Int)) := hh.h 3 _ rfl
        have c4 : wr.cell? ⟨k, 4, none⟩ = some (.int .u32 (st.e.toNat : Int)) := hh.h 4 _ rfl
        have c5 : wr.cell? ⟨k, 5, none⟩ = some (.int .u32 (st.f.toNat : Int)) := hh.h 5 _ rfl
        have c6 : wr.cell? ⟨k, 6, none⟩ = some (.int .u32 (st.g.toNat : Int)) := hh.h 6 _ rfl
        have c7 : wr.cell? ⟨k, 7, none⟩ = some (.int .u32 (st.h.toNat : Int)) := hh.h 7 _ rfl
        clear hh hu
        go_wp2_with fail
        have hi64 : (64 : Int) ≤ (c : Int) := by omega
        obtain ⟨q, hq⟩ : ∃ q, q = blk kw st (bw (m.take 64)) := ⟨_, rfl⟩
        have CB : Hid (∀ wk c', Ext wr wk → Calls Tryz.prog 122 #[.agg #[.int .u32 (st.a.toNat : Int), .int .u32 (st.b.toNat : Int), .int .u32 (st.c.toNat : Int), .int .u32 (st.d.toNat : Int), .int .u32 (st.e.toNat : Int), .int .u32 (st.f.toNat : Int), .int .u32 (st.g.toNat : Int), .int .u32 (st.h.toNat : Int)], .slice (some ⟨b, off, none⟩) 64 c'] wk fun e w' => e = .returned (.agg #[.int .u32 (q.a.toNat : Int), .int .u32 (q.b.toNat : Int), .int .u32 (q.c.toNat : Int), .int .u32 (q.d.toNat : Int), .int .u32 (q.e.toNat : Int), .int .u32 (q.f.toNat : Int), .int .u32 (q.g.toNat : Int), .int .u32 (q.h.toNat : Int)]) ∧ Ext wr w' ∧ w'.cell? ⟨k, 0, none⟩ = some (.int .u32 (st.a.toNat : Int)) ∧ w'.cell? ⟨k, 1, none⟩ = some (.int .u32 (st.b.toNat : Int)) ∧ w'.cell? ⟨k, 2, none⟩ = some (.int .u32 (st.c.toNat : Int)) ∧ w'.cell? ⟨k, 3, none⟩ = some (.int .u32 (st.d.toNat : Int)) ∧ w'.cell? ⟨k, 4, none⟩ = some (.int .u32 (st.e.toNat : Int)) ∧ w'.cell? ⟨k, 5, none⟩ = some (.int .u32 (st.f.toNat : Int)) ∧ w'.cell? ⟨k, 6, none⟩ = some (.int .u32 (st.g.toNat : Int)) ∧ w'.cell? ⟨k, 7, none⟩ = some (.int .u32 (st.h.toNat : Int)) ∧ w'.frozen? ⟨k, 0, none⟩ = false ∧ w'.frozen? ⟨k, 1, none⟩ = false ∧ w'.frozen? ⟨k, 2, none⟩ = false ∧ w'.frozen? ⟨k, 3, none⟩ = false ∧ w'.frozen? ⟨k, 4, none⟩ = false ∧ w'.frozen? ⟨k, 5, none⟩ = false ∧ w'.frozen? ⟨k, 6, none⟩ = false ∧ w'.frozen? ⟨k, 7, none⟩ = false) := fun wk c' hx =>
          (block_any st (m.take 64) b off c' wk (by simp; omega) ((hy.ext hx).take 64)).mono fun e w' ⟨he, hx'⟩ => by
            have hh := HH.out.ext (hx.trans hx')
            rw [← hq] at he
            exact ⟨he, hx.trans hx', hh.h 0 _ rfl, hh.h 1 _ rfl, hh.h 2 _ rfl, hh.h 3 _ rfl, hh.h 4 _ rfl, hh.h 5 _ rfl, hh.h 6 _ rfl, hh.h 7 _ rfl, hh.free 0, hh.free 1, hh.free 2, hh.free 3, hh.free 4, hh.free 5, hh.free 6, hh.free 7⟩
        have hxx : Ext wr wr := Below.refl _ _
        have HY := Lib.hid hy
        have HQ := Lib.hid hq
        clear hy hq
        go_region_law (go_simp; go_at_call 122; with_reducible refine (CB.out _ _ (by first | assumption | (apply Below.drew; assumption))).mono ?_; rintro e w4 ⟨rfl, hx4, d0, d1, d2, d3, d4, d5, d6, d7, f0, f1, f2, f3, f4, f5, f6, f7⟩)
        all_goals
          obtain ⟨o2, e2, hs2⟩ := SliceB.rest64 hc hbb HY.out hlt
          have hsl : ∀ W, (Instr.slice 93 (.slice (some ⟨b, off, none⟩) m.length c) (some (.int .i64 64)) none none).run Tryz.prog W = .ok (.slice (some ⟨b, o2, none⟩) (m.length - 64) (c - 64)) W := fun W => by
            have h := run_slice_l (P := Tryz.prog) (w := W) 93 (some ⟨b, off, none⟩) m.length c Tryz.underlying93 .i64 64 (by omega) (by omega)
            rw [h]
            have e1 : (sizeOf (Tryz.prog.elem 93)).run Tryz.prog W = .ok 1 W := by kernel_rfl
            rw [e1]
            have e3 : (64 : Int).toNat = 64 := rfl
            simp only [Result.andThen, e3, e2]
          have HS2 := Lib.hid hs2
          clear e2 hs2
          obtain ⟨W, hW⟩ : ∃ W, W = w4.setCells k 0 q.cells := ⟨_, rfl⟩
          have e : ((((((((w4.setCell ⟨k, 0, none⟩ (.int .u32 (q.a.toNat : Int))).setCell ⟨k, 1, none⟩ (.int .u32 (q.b.toNat : Int))).setCell ⟨k, 2, none⟩ (.int .u32 (q.c.toNat : Int))).setCell ⟨k, 3, none⟩ (.int .u32 (q.d.toNat : Int))).setCell ⟨k, 4, none⟩ (.int .u32 (q.e.toNat : Int))).setCell ⟨k, 5, none⟩ (.int .u32 (q.f.toNat : Int))).setCell ⟨k, 6, none⟩ (.int .u32 (q.g.toNat : Int))).setCell ⟨k, 7, none⟩ (.int .u32 (q.h.toNat : Int))) = W := hW.symm
          rw [e]
          have hh := (HH.out.ext hx4).setH q
          rw [← hW] at hh
          have hr := hh.r
          have hf := hh.free 8
          have HW := Lib.hid (And.intro hh (And.intro hW hx4))
          clear hh hW e hx4 hxx c0 c1 c2 c3 c4 c5 c6 c7 d0 d1 d2 d3 d4 d5 d6 d7 f0 f1 f2 f3 f4 f5 f6 f7
          go_wp2_with fail
          obtain ⟨hh, hW, hx4⟩ := HW.out
          have hwk : k < wr.heap.size := HH.out.lt
          have hg1 : wr.grownBy W (some k) := by rw [hW]; exact grown_trans' (grown_of_extB' hx4) (grown_setCellsB _ _ _ _)
          have hg2 := grown_trans' hg1 (grown_setCell W k 8 (.slice (some ⟨b, o2, none⟩) (m.length - 64) (c - 64)))
          have hh2 := hh.setR (.slice (some ⟨b, o2, none⟩) (m.length - 64) (c - 64))
          refine ⟨lib_hid ⟨?_, q, m.drop 64, _, hh2, HS2.out.kept hg2 (fun g hg e => by injection e with e; omega), by rw [HQ.out]; exact HU.out.step hlt⟩, ?_⟩
          · exact HB.out.trans ⟨hg2.os, hg2.tape, hg2.output, hg2.size, fun j hj => hg2.block j (by omega) (fun e => by injection e with e; omega)⟩
          · rw [HL.out]
            unfold lenAt
            rw [hh2.r]
            show m.length - 64 < m.length
            omega
    · obtain ⟨A, c, rfl⟩ := hv.slice
      have hr := hh.r
      clear hh hu hv
      go_wp2_with fail
      go_end0
      exact ⟨rfl, HB.out, st, m, _, HH.out, HV.out, HU.out, by omega⟩
end Go.Proofs.YtplfimoeggecjaaGreatDoor.Sx
