/-
  The program's grants.Beyond.
-/
import Derived.Test.YtplfimoeggecjaaDoorWrd
import Derived.Test.YtplfimoeggecjaaDoorAlw3
import Derived.BigRegion
import Derived.Deep.RegionHeld3
namespace Go.Proofs.YtplfimoeggecjaaDoor.Sx
open Go Go.RowKit Go.Proofs.YtplfimoeggecjaaDoor.Dc

set_option maxRecDepth 100000 in
set_option maxHeartbeats 8000000 in
theorem gbeyond_any (B : Nat) (v v1 v2 v3 : Value) (l : List Rule) (r : Rule) (w : World) (hB : B ≤ w.heap.size) (hv : RulesR B w v l) (h1 : StrsR B w v1 r.verbs) (h2 : StrsR B w v2 r.kinds) (h3 : StrsR B w v3 r.names) (hl : l.length ≤ 1048576) (htab : Tab10 w) (hf1 : (verbsOf l).length ≤ 1048576) (hf2 : (kindsOf l).length ≤ 1048576) (hf3 : (namesOf l).length ≤ 1048576) :
    Calls Tryd.prog 4 #[v, .agg #[v1, v2, v3]] w fun e w' => e = .returned (beyV (beyondL l r)) ∧ Ext w w' := by
  have HV := Lib.hid (And.intro hv (And.intro h1 (And.intro h2 h3)))
  have HTAB := Lib.hid htab
  have HFL := Lib.hid (And.intro hf1 (And.intro hf2 hf3))
  clear htab hf1 hf2 hf3
  obtain ⟨_, A, c, rfl, -⟩ := hv
  obtain ⟨_, A1, c1, rfl, -⟩ := h1
  obtain ⟨_, A2, c2, rfl, -⟩ := h2
  obtain ⟨_, A3, c3, rfl, -⟩ := h3
  go_enter Tryd.func4, Tryd.ntmps4
  go_wp2_with fail
  obtain ⟨n, hn⟩ : ∃ n, n = l.length := ⟨_, rfl⟩
  rw [← hn] at hl ⊢
  have HN := Lib.hid hn
  obtain ⟨w0, hw0⟩ : ∃ w0, w0 = (w.alloc (.cells #[.slice A1 r.verbs.length c1, .slice A2 r.kinds.length c2, .slice A3 r.names.length c3] 31 (0, 0))).alloc (.cells #[.string ⟨#[]⟩, .string ⟨#[]⟩, .string ⟨#[]⟩, .string ⟨#[]⟩] 33 (0, 0)) := ⟨_, rfl⟩
  rw [← hw0]
  have HX0 : Hid (Ext w w0) := by rw [hw0]; exact (new_ext _ _).trans (new_ext _ _)
  have HW0 := Lib.hid hw0
  clear hw0 hn
  go_loopw [6, 7, 8, 22] (fun x y z i wr => ∃ (k : Nat) (D1 : Option Addr) (d1 : Nat) (D2 : Option Addr) (d2 : Nat) (D3 : Option Addr) (d3 : Nat) (u1 u2 u3 : List Value), i = .int .i64 (k : Int) ∧ k ≤ n ∧ x = .slice D1 k d1 ∧ y = .slice D2 k d2 ∧ z = .slice D3 k d3 ∧ Hid (Thr B w l k u1 u2 u3) ∧ Hid (Tri w0 wr (.slice D1 k d1) u1 (.slice D2 k d2) u2 (.slice D3 k d3) u3)) (fun _ _ _ i _ => n - (intOf i).toNat)
  case atStart => exact ⟨0, none, 0, none, 0, none, 0, [], [], [], rfl, Nat.zero_le _, rfl, rfl, rfl, Thr.nil, Tri.nil⟩
  case round =>
    obtain ⟨k, D1, d1, D2, d2, D3, d3, u1, u2, u3, rfl, hk, rfl, rfl, rfl, HT, T0⟩ := hrel
    by_cases hlt : k < n
    · have hkl : k < l.length := by rw [← HN.out]; exact hlt
      have hxr : Ext w wr := HX0.out.trans T0.out.ext
      obtain ⟨b, off, E1, f1, E2, f2, E3, f3, e, hbl, z1, z2, z3, s1, s2, s3⟩ := HV.out.1.at_ hkl
      have HS := Lib.hid (And.intro s1 (And.intro s2 s3))
      subst e
      have hbw : b < w.heap.size := Nat.lt_of_lt_of_le hbl hB
      have z1' := (hxr.cell (p := ⟨b, off + k * 3, none⟩) hbw).trans z1
      have z2' := (hxr.cell (p := ⟨b, off + k * 3 + 1, none⟩) hbw).trans z2
      have z3' := (hxr.cell (p := ⟨b, off + k * 3 + 2, none⟩) hbw).trans z3
      obtain ⟨q1, hq1⟩ : ∃ q, q = l[k].verbs.length := ⟨_, rfl⟩
      obtain ⟨q2, hq2⟩ : ∃ q, q = l[k].kinds.length := ⟨_, rfl⟩
      obtain ⟨q3, hq3⟩ : ∃ q, q = l[k].names.length := ⟨_, rfl⟩
      rw [← hq1] at z1' HS
      rw [← hq2] at z2' HS
      rw [← hq3] at z3' HS
      have hbr : b < wr.heap.size := Nat.lt_of_lt_of_le hbw hxr.size
      have HL : Hid (u1.length = k ∧ u2.length = k ∧ u3.length = k) := ⟨HT.out.1, HT.out.2.1, HT.out.2.2.1⟩
      have HA : Hid (∀ g, (Value.slice D1 k d1).ownBlock = some g → g < wr.heap.size) := fun g h => (T0.out.one.block g h).2
      have HB1 : Hid (∀ g, (Value.slice D2 k d2).ownBlock = some g → g < wr.heap.size) := fun g h => (T0.out.two.block g h).2
      have HC : Hid (∀ g, (Value.slice D3 k d3).ownBlock = some g → g < wr.heap.size) := fun g h => (T0.out.three.block g h).2
      have HBOX : Hid (∀ W : World, W.heap[wr.heap.size]? = some (.cells #[.slice E1 q1 f1, .slice E2 q2 f2, .slice E3 q3 f3] 31 (0, 0)) → W.cell? ⟨wr.heap.size, 0, none⟩ = some (.slice E1 q1 f1) ∧ W.cell? ⟨wr.heap.size, 1, none⟩ = some (.slice E2 q2 f2) ∧ W.cell? ⟨wr.heap.size, 2, none⟩ = some (.slice E3 q3 f3)) := fun W hW => by
        refine ⟨?_, ?_, ?_⟩ <;> simp [cell_of hW]
      clear hq1 hq2 hq3 z1 z2 z3 s1 s2 s3 hxr hbl
      go_wp2_with fail
      go_region_held3 (fun w' => w'.cell? ⟨wr.heap.size, 0, none⟩ = some (.slice E1 q1 f1) ∧ w'.cell? ⟨wr.heap.size, 1, none⟩ = some (.slice E2 q2 f2) ∧ w'.cell? ⟨wr.heap.size, 2, none⟩ = some (.slice E3 q3 f3))
        (first | (refine ⟨by assumption, by assumption, by assumption⟩) | go_keep)
        (first | (refine step_vappend rfl (.tmp 26) (.tmp 29) (by rfl) w0 _ _ _ _ _ _ _ k (.slice E1 q1 f1) _ (by rfl) (by rfl) (T0.out.kept (by repeat (first | assumption | exact Below.refl _ _ | apply ext_drew1 | apply ext_alloc1))) HL.out.1 rfl (by first | exact heap_new (by simp) | (refine heap_old ?_; (first | exact heap_new (by simp) | (refine heap_old ?_; (first | exact heap_new (by simp) | (refine heap_old ?_; (first | exact heap_new (by simp) | (refine heap_old ?_; (first | exact heap_new (by simp)))))))))) (by omega) ?_; intro B1 e1 W1 t1 g1; have k1 := Lib.hid (fun b o (hb : wr.heap.size ≤ b) h => keep_lit (b := b) (o := o) g1 HA.out hb h); have xx : W1.heap[wr.heap.size]? = some (.cells #[.slice E1 q1 f1, .slice E2 q2 f2, .slice E3 q3 f3] 31 (0, 0)) := k1.out _ _ (Nat.le_refl _) (by first | exact heap_new (by simp) | (refine heap_old ?_; (first | exact heap_new (by simp) | (refine heap_old ?_; (first | exact heap_new (by simp) | (refine heap_old ?_; (first | exact heap_new (by simp) | (refine heap_old ?_; (first | exact heap_new (by simp)))))))))); have z1s := heap_lt xx; obtain ⟨x1a, x1b, x1c⟩ := HBOX.out W1 xx; clear xx; have T1 := Lib.hid t1; have F1 := Lib.hid (Below.refl W1.heap.size W1); clear t1 g1) | (refine step_vappend rfl (.tmp 31) (.tmp 34) (by rfl) w0 _ _ _ _ _ _ _ k (.slice E2 q2 f2) _ (by rfl) (by rfl) (T1.out.rot.kept (by repeat (first | assumption | exact Below.refl _ _ | apply ext_drew1 | apply ext_alloc1))) HL.out.2.1 rfl (by first | exact heap_new (by simp) | (refine k1.out _ _ (by first | omega | (simp; omega)) ?_; (first | exact heap_new (by simp) | (refine heap_old ?_; (first | exact heap_new (by simp) | (refine heap_old ?_; (first | exact heap_new (by simp) | (refine heap_old ?_; (first | exact heap_new (by simp) | (refine heap_old ?_; (first | exact heap_new (by simp))))))))))) | (refine heap_old ?_; (first | exact heap_new (by simp) | (refine k1.out _ _ (by first | omega | (simp; omega)) ?_; (first | exact heap_new (by simp) | (refine heap_old ?_; (first | exact heap_new (by simp) | (refine heap_old ?_; (first | exact heap_new (by simp) | (refine heap_old ?_; (first | exact heap_new (by simp) | (refine heap_old ?_; (first | exact heap_new (by simp))))))))))) | (refine heap_old ?_; (first | exact heap_new (by simp) | (refine k1.out _ _ (by first | omega | (simp; omega)) ?_; (first | exact heap_new (by simp) | (refine heap_old ?_; (first | exact heap_new (by simp) | (refine heap_old ?_; (first | exact heap_new (by simp) | (refine heap_old ?_; (first | exact heap_new (by simp) | (refine heap_old ?_; (first | exact heap_new (by simp))))))))))) | (refine heap_old ?_; (first | exact heap_new (by simp) | (refine k1.out _ _ (by first | omega | (simp; omega)) ?_; (first | exact heap_new (by simp) | (refine heap_old ?_; (first | exact heap_new (by simp) | (refine heap_old ?_; (first | exact heap_new (by simp) | (refine heap_old ?_; (first | exact heap_new (by simp) | (refine heap_old ?_; (first | exact heap_new (by simp))))))))))) | (refine heap_old ?_; (first | exact heap_new (by simp) | (refine k1.out _ _ (by first | omega | (simp; omega)) ?_; (first | exact heap_new (by simp) | (refine heap_old ?_; (first | exact heap_new (by simp) | (refine heap_old ?_; (first | exact heap_new (by simp) | (refine heap_old ?_; (first | exact heap_new (by simp) | (refine heap_old ?_; (first | exact heap_new (by simp)))))))))))))))))))) (by omega) ?_; intro B2 e2 W2 t2 g2; have k2 := Lib.hid (fun b o (hb : wr.heap.size ≤ b) h => keep_lit (b := b) (o := o) g2 HB1.out hb h); have xx : W2.heap[wr.heap.size]? = some (.cells #[.slice E1 q1 f1, .slice E2 q2 f2, .slice E3 q3 f3] 31 (0, 0)) := k2.out _ _ (Nat.le_refl _) (by first | exact heap_new (by simp) | (refine k1.out _ _ (by first | omega | (simp; omega)) ?_; (first | exact heap_new (by simp) | (refine heap_old ?_; (first | exact heap_new (by simp) | (refine heap_old ?_; (first | exact heap_new (by simp) | (refine heap_old ?_; (first | exact heap_new (by simp) | (refine heap_old ?_; (first | exact heap_new (by simp))))))))))) | (refine heap_old ?_; (first | exact heap_new (by simp) | (refine k1.out _ _ (by first | omega | (simp; omega)) ?_; (first | exact heap_new (by simp) | (refine heap_old ?_; (first | exact heap_new (by simp) | (refine heap_old ?_; (first | exact heap_new (by simp) | (refine heap_old ?_; (first | exact heap_new (by simp) | (refine heap_old ?_; (first | exact heap_new (by simp))))))))))) | (refine heap_old ?_; (first | exact heap_new (by simp) | (refine k1.out _ _ (by first | omega | (simp; omega)) ?_; (first | exact heap_new (by simp) | (refine heap_old ?_; (first | exact heap_new (by simp) | (refine heap_old ?_; (first | exact heap_new (by simp) | (refine heap_old ?_; (first | exact heap_new (by simp) | (refine heap_old ?_; (first | exact heap_new (by simp))))))))))) | (refine heap_old ?_; (first | exact heap_new (by simp) | (refine k1.out _ _ (by first | omega | (simp; omega)) ?_; (first | exact heap_new (by simp) | (refine heap_old ?_; (first | exact heap_new (by simp) | (refine heap_old ?_; (first | exact heap_new (by simp) | (refine heap_old ?_; (first | exact heap_new (by simp) | (refine heap_old ?_; (first | exact heap_new (by simp))))))))))) | (refine heap_old ?_; (first | exact heap_new (by simp) | (refine k1.out _ _ (by first | omega | (simp; omega)) ?_; (first | exact heap_new (by simp) | (refine heap_old ?_; (first | exact heap_new (by simp) | (refine heap_old ?_; (first | exact heap_new (by simp) | (refine heap_old ?_; (first | exact heap_new (by simp) | (refine heap_old ?_; (first | exact heap_new (by simp)))))))))))))))))))); have z2s := heap_lt xx; obtain ⟨x2a, x2b, x2c⟩ := HBOX.out W2 xx; clear xx; have T2 := Lib.hid t2; have F2 := Lib.hid (Below.refl W2.heap.size W2); clear t2 g2) | (refine step_vappend rfl (.tmp 36) (.tmp 39) (by rfl) w0 _ _ _ _ _ _ _ k (.slice E3 q3 f3) _ (by rfl) (by rfl) (T2.out.rot.kept (by repeat (first | assumption | exact Below.refl _ _ | apply ext_drew1 | apply ext_alloc1))) HL.out.2.2 rfl (by first | exact heap_new (by simp) | (refine k2.out _ _ (by first | omega | (simp; omega)) ?_; (first | exact heap_new (by simp) | (refine k1.out _ _ (by first | omega | (simp; omega)) ?_; (first | exact heap_new (by simp) | (refine heap_old ?_; (first | exact heap_new (by simp) | (refine heap_old ?_; (first | exact heap_new (by simp) | (refine heap_old ?_; (first | exact heap_new (by simp) | (refine heap_old ?_; (first | exact heap_new (by simp))))))))))) | (refine heap_old ?_; (first | exact heap_new (by simp) | (refine k1.out _ _ (by first | omega | (simp; omega)) ?_; (first | exact heap_new (by simp) | (refine heap_old ?_; (first | exact heap_new (by simp) | (refine heap_old ?_; (first | exact heap_new (by simp) | (refine heap_old ?_; (first | exact heap_new (by simp) | (refine heap_old ?_; (first | exact heap_new (by simp))))))))))) | (refine heap_old ?_; (first | exact heap_new (by simp) | (refine k1.out _ _ (by first | omega | (simp; omega)) ?_; (first | exact heap_new (by simp) | (refine heap_old ?_; (first | exact heap_new (by simp) | (refine heap_old ?_; (first | exact heap_new (by simp) | (refine heap_old ?_; (first | exact heap_new (by simp) | (refine heap_old ?_; (first | exact heap_new (by simp))))))))))) | (refine heap_old ?_; (first | exact heap_new (by simp) | (refine k1.out _ _ (by first | omega | (simp; omega)) ?_; (first | exact heap_new (by simp) | (refine heap_old ?_; (first | exact heap_new (by simp) | (refine heap_old ?_; (first | exact heap_new (by simp) | (refine heap_old ?_; (first | exact heap_new (by simp) | (refine heap_old ?_; (first | exact heap_new (by simp))))))))))) | (refine heap_old ?_; (first | exact heap_new (by simp) | (refine k1.out _ _ (by first | omega | (simp; omega)) ?_; (first | exact heap_new (by simp) | (refine heap_old ?_; (first | exact heap_new (by simp) | (refine heap_old ?_; (first | exact heap_new (by simp) | (refine heap_old ?_; (first | exact heap_new (by simp) | (refine heap_old ?_; (first | exact heap_new (by simp))))))))))))))))))))) | (refine heap_old ?_; (first | exact heap_new (by simp) | (refine k2.out _ _ (by first | omega | (simp; omega)) ?_; (first | exact heap_new (by simp) | (refine k1.out _ _ (by first | omega | (simp; omega)) ?_; (first | exact heap_new (by simp) | (refine heap_old ?_; (first | exact heap_new (by simp) | (refine heap_old ?_; (first | exact heap_new (by simp) | (refine heap_old ?_; (first | exact heap_new (by simp) | (refine heap_old ?_; (first | exact heap_new (by simp))))))))))) | (refine heap_old ?_; (first | exact heap_new (by simp) | (refine k1.out _ _ (by first | omega | (simp; omega)) ?_; (first | exact heap_new (by simp) | (refine heap_old ?_; (first | exact heap_new (by simp) | (refine heap_old ?_; (first | exact heap_new (by simp) | (refine heap_old ?_; (first | exact heap_new (by simp) | (refine heap_old ?_; (first | exact heap_new (by simp))))))))))) | (refine heap_old ?_; (first | exact heap_new (by simp) | (refine k1.out _ _ (by first | omega | (simp; omega)) ?_; (first | exact heap_new (by simp) | (refine heap_old ?_; (first | exact heap_new (by simp) | (refine heap_old ?_; (first | exact heap_new (by simp) | (refine heap_old ?_; (first | exact heap_new (by simp) | (refine heap_old ?_; (first | exact heap_new (by simp))))))))))) | (refine heap_old ?_; (first | exact heap_new (by simp) | (refine k1.out _ _ (by first | omega | (simp; omega)) ?_; (first | exact heap_new (by simp) | (refine heap_old ?_; (first | exact heap_new (by simp) | (refine heap_old ?_; (first | exact heap_new (by simp) | (refine heap_old ?_; (first | exact heap_new (by simp) | (refine heap_old ?_; (first | exact heap_new (by simp))))))))))) | (refine heap_old ?_; (first | exact heap_new (by simp) | (refine k1.out _ _ (by first | omega | (simp; omega)) ?_; (first | exact heap_new (by simp) | (refine heap_old ?_; (first | exact heap_new (by simp) | (refine heap_old ?_; (first | exact heap_new (by simp) | (refine heap_old ?_; (first | exact heap_new (by simp) | (refine heap_old ?_; (first | exact heap_new (by simp))))))))))))))))))))) | (refine heap_old ?_; (first | exact heap_new (by simp) | (refine k2.out _ _ (by first | omega | (simp; omega)) ?_; (first | exact heap_new (by simp) | (refine k1.out _ _ (by first | omega | (simp; omega)) ?_; (first | exact heap_new (by simp) | (refine heap_old ?_; (first | exact heap_new (by simp) | (refine heap_old ?_; (first | exact heap_new (by simp) | (refine heap_old ?_; (first | exact heap_new (by simp) | (refine heap_old ?_; (first | exact heap_new (by simp))))))))))) | (refine heap_old ?_; (first | exact heap_new (by simp) | (refine k1.out _ _ (by first | omega | (simp; omega)) ?_; (first | exact heap_new (by simp) | (refine heap_old ?_; (first | exact heap_new (by simp) | (refine heap_old ?_; (first | exact heap_new (by simp) | (refine heap_old ?_; (first | exact heap_new (by simp) | (refine heap_old ?_; (first | exact heap_new (by simp))))))))))) | (refine heap_old ?_; (first | exact heap_new (by simp) | (refine k1.out _ _ (by first | omega | (simp; omega)) ?_; (first | exact heap_new (by simp) | (refine heap_old ?_; (first | exact heap_new (by simp) | (refine heap_old ?_; (first | exact heap_new (by simp) | (refine heap_old ?_; (first | exact heap_new (by simp) | (refine heap_old ?_; (first | exact heap_new (by simp))))))))))) | (refine heap_old ?_; (first | exact heap_new (by simp) | (refine k1.out _ _ (by first | omega | (simp; omega)) ?_; (first | exact heap_new (by simp) | (refine heap_old ?_; (first | exact heap_new (by simp) | (refine heap_old ?_; (first | exact heap_new (by simp) | (refine heap_old ?_; (first | exact heap_new (by simp) | (refine heap_old ?_; (first | exact heap_new (by simp))))))))))) | (refine heap_old ?_; (first | exact heap_new (by simp) | (refine k1.out _ _ (by first | omega | (simp; omega)) ?_; (first | exact heap_new (by simp) | (refine heap_old ?_; (first | exact heap_new (by simp) | (refine heap_old ?_; (first | exact heap_new (by simp) | (refine heap_old ?_; (first | exact heap_new (by simp) | (refine heap_old ?_; (first | exact heap_new (by simp))))))))))))))))))))) | (refine heap_old ?_; (first | exact heap_new (by simp) | (refine k2.out _ _ (by first | omega | (simp; omega)) ?_; (first | exact heap_new (by simp) | (refine k1.out _ _ (by first | omega | (simp; omega)) ?_; (first | exact heap_new (by simp) | (refine heap_old ?_; (first | exact heap_new (by simp) | (refine heap_old ?_; (first | exact heap_new (by simp) | (refine heap_old ?_; (first | exact heap_new (by simp) | (refine heap_old ?_; (first | exact heap_new (by simp))))))))))) | (refine heap_old ?_; (first | exact heap_new (by simp) | (refine k1.out _ _ (by first | omega | (simp; omega)) ?_; (first | exact heap_new (by simp) | (refine heap_old ?_; (first | exact heap_new (by simp) | (refine heap_old ?_; (first | exact heap_new (by simp) | (refine heap_old ?_; (first | exact heap_new (by simp) | (refine heap_old ?_; (first | exact heap_new (by simp))))))))))) | (refine heap_old ?_; (first | exact heap_new (by simp) | (refine k1.out _ _ (by first | omega | (simp; omega)) ?_; (first | exact heap_new (by simp) | (refine heap_old ?_; (first | exact heap_new (by simp) | (refine heap_old ?_; (first | exact heap_new (by simp) | (refine heap_old ?_; (first | exact heap_new (by simp) | (refine heap_old ?_; (first | exact heap_new (by simp))))))))))) | (refine heap_old ?_; (first | exact heap_new (by simp) | (refine k1.out _ _ (by first | omega | (simp; omega)) ?_; (first | exact heap_new (by simp) | (refine heap_old ?_; (first | exact heap_new (by simp) | (refine heap_old ?_; (first | exact heap_new (by simp) | (refine heap_old ?_; (first | exact heap_new (by simp) | (refine heap_old ?_; (first | exact heap_new (by simp))))))))))) | (refine heap_old ?_; (first | exact heap_new (by simp) | (refine k1.out _ _ (by first | omega | (simp; omega)) ?_; (first | exact heap_new (by simp) | (refine heap_old ?_; (first | exact heap_new (by simp) | (refine heap_old ?_; (first | exact heap_new (by simp) | (refine heap_old ?_; (first | exact heap_new (by simp) | (refine heap_old ?_; (first | exact heap_new (by simp))))))))))))))))))))) | (refine heap_old ?_; (first | exact heap_new (by simp) | (refine k2.out _ _ (by first | omega | (simp; omega)) ?_; (first | exact heap_new (by simp) | (refine k1.out _ _ (by first | omega | (simp; omega)) ?_; (first | exact heap_new (by simp) | (refine heap_old ?_; (first | exact heap_new (by simp) | (refine heap_old ?_; (first | exact heap_new (by simp) | (refine heap_old ?_; (first | exact heap_new (by simp) | (refine heap_old ?_; (first | exact heap_new (by simp))))))))))) | (refine heap_old ?_; (first | exact heap_new (by simp) | (refine k1.out _ _ (by first | omega | (simp; omega)) ?_; (first | exact heap_new (by simp) | (refine heap_old ?_; (first | exact heap_new (by simp) | (refine heap_old ?_; (first | exact heap_new (by simp) | (refine heap_old ?_; (first | exact heap_new (by simp) | (refine heap_old ?_; (first | exact heap_new (by simp))))))))))) | (refine heap_old ?_; (first | exact heap_new (by simp) | (refine k1.out _ _ (by first | omega | (simp; omega)) ?_; (first | exact heap_new (by simp) | (refine heap_old ?_; (first | exact heap_new (by simp) | (refine heap_old ?_; (first | exact heap_new (by simp) | (refine heap_old ?_; (first | exact heap_new (by simp) | (refine heap_old ?_; (first | exact heap_new (by simp))))))))))) | (refine heap_old ?_; (first | exact heap_new (by simp) | (refine k1.out _ _ (by first | omega | (simp; omega)) ?_; (first | exact heap_new (by simp) | (refine heap_old ?_; (first | exact heap_new (by simp) | (refine heap_old ?_; (first | exact heap_new (by simp) | (refine heap_old ?_; (first | exact heap_new (by simp) | (refine heap_old ?_; (first | exact heap_new (by simp))))))))))) | (refine heap_old ?_; (first | exact heap_new (by simp) | (refine k1.out _ _ (by first | omega | (simp; omega)) ?_; (first | exact heap_new (by simp) | (refine heap_old ?_; (first | exact heap_new (by simp) | (refine heap_old ?_; (first | exact heap_new (by simp) | (refine heap_old ?_; (first | exact heap_new (by simp) | (refine heap_old ?_; (first | exact heap_new (by simp)))))))))))))))))))))))))))))) (by omega) ?_; intro B3 e3 W3 t3 g3; have k3 := Lib.hid (fun b o (hb : wr.heap.size ≤ b) h => keep_lit (b := b) (o := o) g3 HC.out hb h); have xx : W3.heap[wr.heap.size]? = some (.cells #[.slice E1 q1 f1, .slice E2 q2 f2, .slice E3 q3 f3] 31 (0, 0)) := k3.out _ _ (Nat.le_refl _) (by first | exact heap_new (by simp) | (refine k2.out _ _ (by first | omega | (simp; omega)) ?_; (first | exact heap_new (by simp) | (refine k1.out _ _ (by first | omega | (simp; omega)) ?_; (first | exact heap_new (by simp) | (refine heap_old ?_; (first | exact heap_new (by simp) | (refine heap_old ?_; (first | exact heap_new (by simp) | (refine heap_old ?_; (first | exact heap_new (by simp) | (refine heap_old ?_; (first | exact heap_new (by simp))))))))))) | (refine heap_old ?_; (first | exact heap_new (by simp) | (refine k1.out _ _ (by first | omega | (simp; omega)) ?_; (first | exact heap_new (by simp) | (refine heap_old ?_; (first | exact heap_new (by simp) | (refine heap_old ?_; (first | exact heap_new (by simp) | (refine heap_old ?_; (first | exact heap_new (by simp) | (refine heap_old ?_; (first | exact heap_new (by simp))))))))))) | (refine heap_old ?_; (first | exact heap_new (by simp) | (refine k1.out _ _ (by first | omega | (simp; omega)) ?_; (first | exact heap_new (by simp) | (refine heap_old ?_; (first | exact heap_new (by simp) | (refine heap_old ?_; (first | exact heap_new (by simp) | (refine heap_old ?_; (first | exact heap_new (by simp) | (refine heap_old ?_; (first | exact heap_new (by simp))))))))))) | (refine heap_old ?_; (first | exact heap_new (by simp) | (refine k1.out _ _ (by first | omega | (simp; omega)) ?_; (first | exact heap_new (by simp) | (refine heap_old ?_; (first | exact heap_new (by simp) | (refine heap_old ?_; (first | exact heap_new (by simp) | (refine heap_old ?_; (first | exact heap_new (by simp) | (refine heap_old ?_; (first | exact heap_new (by simp))))))))))) | (refine heap_old ?_; (first | exact heap_new (by simp) | (refine k1.out _ _ (by first | omega | (simp; omega)) ?_; (first | exact heap_new (by simp) | (refine heap_old ?_; (first | exact heap_new (by simp) | (refine heap_old ?_; (first | exact heap_new (by simp) | (refine heap_old ?_; (first | exact heap_new (by simp) | (refine heap_old ?_; (first | exact heap_new (by simp))))))))))))))))))))) | (refine heap_old ?_; (first | exact heap_new (by simp) | (refine k2.out _ _ (by first | omega | (simp; omega)) ?_; (first | exact heap_new (by simp) | (refine k1.out _ _ (by first | omega | (simp; omega)) ?_; (first | exact heap_new (by simp) | (refine heap_old ?_; (first | exact heap_new (by simp) | (refine heap_old ?_; (first | exact heap_new (by simp) | (refine heap_old ?_; (first | exact heap_new (by simp) | (refine heap_old ?_; (first | exact heap_new (by simp))))))))))) | (refine heap_old ?_; (first | exact heap_new (by simp) | (refine k1.out _ _ (by first | omega | (simp; omega)) ?_; (first | exact heap_new (by simp) | (refine heap_old ?_; (first | exact heap_new (by simp) | (refine heap_old ?_; (first | exact heap_new (by simp) | (refine heap_old ?_; (first | exact heap_new (by simp) | (refine heap_old ?_; (first | exact heap_new (by simp))))))))))) | (refine heap_old ?_; (first | exact heap_new (by simp) | (refine k1.out _ _ (by first | omega | (simp; omega)) ?_; (first | exact heap_new (by simp) | (refine heap_old ?_; (first | exact heap_new (by simp) | (refine heap_old ?_; (first | exact heap_new (by simp) | (refine heap_old ?_; (first | exact heap_new (by simp) | (refine heap_old ?_; (first | exact heap_new (by simp))))))))))) | (refine heap_old ?_; (first | exact heap_new (by simp) | (refine k1.out _ _ (by first | omega | (simp; omega)) ?_; (first | exact heap_new (by simp) | (refine heap_old ?_; (first | exact heap_new (by simp) | (refine heap_old ?_; (first | exact heap_new (by simp) | (refine heap_old ?_; (first | exact heap_new (by simp) | (refine heap_old ?_; (first | exact heap_new (by simp))))))))))) | (refine heap_old ?_; (first | exact heap_new (by simp) | (refine k1.out _ _ (by first | omega | (simp; omega)) ?_; (first | exact heap_new (by simp) | (refine heap_old ?_; (first | exact heap_new (by simp) | (refine heap_old ?_; (first | exact heap_new (by simp) | (refine heap_old ?_; (first | exact heap_new (by simp) | (refine heap_old ?_; (first | exact heap_new (by simp))))))))))))))))))))) | (refine heap_old ?_; (first | exact heap_new (by simp) | (refine k2.out _ _ (by first | omega | (simp; omega)) ?_; (first | exact heap_new (by simp) | (refine k1.out _ _ (by first | omega | (simp; omega)) ?_; (first | exact heap_new (by simp) | (refine heap_old ?_; (first | exact heap_new (by simp) | (refine heap_old ?_; (first | exact heap_new (by simp) | (refine heap_old ?_; (first | exact heap_new (by simp) | (refine heap_old ?_; (first | exact heap_new (by simp))))))))))) | (refine heap_old ?_; (first | exact heap_new (by simp) | (refine k1.out _ _ (by first | omega | (simp; omega)) ?_; (first | exact heap_new (by simp) | (refine heap_old ?_; (first | exact heap_new (by simp) | (refine heap_old ?_; (first | exact heap_new (by simp) | (refine heap_old ?_; (first | exact heap_new (by simp) | (refine heap_old ?_; (first | exact heap_new (by simp))))))))))) | (refine heap_old ?_; (first | exact heap_new (by simp) | (refine k1.out _ _ (by first | omega | (simp; omega)) ?_; (first | exact heap_new (by simp) | (refine heap_old ?_; (first | exact heap_new (by simp) | (refine heap_old ?_; (first | exact heap_new (by simp) | (refine heap_old ?_; (first | exact heap_new (by simp) | (refine heap_old ?_; (first | exact heap_new (by simp))))))))))) | (refine heap_old ?_; (first | exact heap_new (by simp) | (refine k1.out _ _ (by first | omega | (simp; omega)) ?_; (first | exact heap_new (by simp) | (refine heap_old ?_; (first | exact heap_new (by simp) | (refine heap_old ?_; (first | exact heap_new (by simp) | (refine heap_old ?_; (first | exact heap_new (by simp) | (refine heap_old ?_; (first | exact heap_new (by simp))))))))))) | (refine heap_old ?_; (first | exact heap_new (by simp) | (refine k1.out _ _ (by first | omega | (simp; omega)) ?_; (first | exact heap_new (by simp) | (refine heap_old ?_; (first | exact heap_new (by simp) | (refine heap_old ?_; (first | exact heap_new (by simp) | (refine heap_old ?_; (first | exact heap_new (by simp) | (refine heap_old ?_; (first | exact heap_new (by simp))))))))))))))))))))) | (refine heap_old ?_; (first | exact heap_new (by simp) | (refine k2.out _ _ (by first | omega | (simp; omega)) ?_; (first | exact heap_new (by simp) | (refine k1.out _ _ (by first | omega | (simp; omega)) ?_; (first | exact heap_new (by simp) | (refine heap_old ?_; (first | exact heap_new (by simp) | (refine heap_old ?_; (first | exact heap_new (by simp) | (refine heap_old ?_; (first | exact heap_new (by simp) | (refine heap_old ?_; (first | exact heap_new (by simp))))))))))) | (refine heap_old ?_; (first | exact heap_new (by simp) | (refine k1.out _ _ (by first | omega | (simp; omega)) ?_; (first | exact heap_new (by simp) | (refine heap_old ?_; (first | exact heap_new (by simp) | (refine heap_old ?_; (first | exact heap_new (by simp) | (refine heap_old ?_; (first | exact heap_new (by simp) | (refine heap_old ?_; (first | exact heap_new (by simp))))))))))) | (refine heap_old ?_; (first | exact heap_new (by simp) | (refine k1.out _ _ (by first | omega | (simp; omega)) ?_; (first | exact heap_new (by simp) | (refine heap_old ?_; (first | exact heap_new (by simp) | (refine heap_old ?_; (first | exact heap_new (by simp) | (refine heap_old ?_; (first | exact heap_new (by simp) | (refine heap_old ?_; (first | exact heap_new (by simp))))))))))) | (refine heap_old ?_; (first | exact heap_new (by simp) | (refine k1.out _ _ (by first | omega | (simp; omega)) ?_; (first | exact heap_new (by simp) | (refine heap_old ?_; (first | exact heap_new (by simp) | (refine heap_old ?_; (first | exact heap_new (by simp) | (refine heap_old ?_; (first | exact heap_new (by simp) | (refine heap_old ?_; (first | exact heap_new (by simp))))))))))) | (refine heap_old ?_; (first | exact heap_new (by simp) | (refine k1.out _ _ (by first | omega | (simp; omega)) ?_; (first | exact heap_new (by simp) | (refine heap_old ?_; (first | exact heap_new (by simp) | (refine heap_old ?_; (first | exact heap_new (by simp) | (refine heap_old ?_; (first | exact heap_new (by simp) | (refine heap_old ?_; (first | exact heap_new (by simp))))))))))))))))))))) | (refine heap_old ?_; (first | exact heap_new (by simp) | (refine k2.out _ _ (by first | omega | (simp; omega)) ?_; (first | exact heap_new (by simp) | (refine k1.out _ _ (by first | omega | (simp; omega)) ?_; (first | exact heap_new (by simp) | (refine heap_old ?_; (first | exact heap_new (by simp) | (refine heap_old ?_; (first | exact heap_new (by simp) | (refine heap_old ?_; (first | exact heap_new (by simp) | (refine heap_old ?_; (first | exact heap_new (by simp))))))))))) | (refine heap_old ?_; (first | exact heap_new (by simp) | (refine k1.out _ _ (by first | omega | (simp; omega)) ?_; (first | exact heap_new (by simp) | (refine heap_old ?_; (first | exact heap_new (by simp) | (refine heap_old ?_; (first | exact heap_new (by simp) | (refine heap_old ?_; (first | exact heap_new (by simp) | (refine heap_old ?_; (first | exact heap_new (by simp))))))))))) | (refine heap_old ?_; (first | exact heap_new (by simp) | (refine k1.out _ _ (by first | omega | (simp; omega)) ?_; (first | exact heap_new (by simp) | (refine heap_old ?_; (first | exact heap_new (by simp) | (refine heap_old ?_; (first | exact heap_new (by simp) | (refine heap_old ?_; (first | exact heap_new (by simp) | (refine heap_old ?_; (first | exact heap_new (by simp))))))))))) | (refine heap_old ?_; (first | exact heap_new (by simp) | (refine k1.out _ _ (by first | omega | (simp; omega)) ?_; (first | exact heap_new (by simp) | (refine heap_old ?_; (first | exact heap_new (by simp) | (refine heap_old ?_; (first | exact heap_new (by simp) | (refine heap_old ?_; (first | exact heap_new (by simp) | (refine heap_old ?_; (first | exact heap_new (by simp))))))))))) | (refine heap_old ?_; (first | exact heap_new (by simp) | (refine k1.out _ _ (by first | omega | (simp; omega)) ?_; (first | exact heap_new (by simp) | (refine heap_old ?_; (first | exact heap_new (by simp) | (refine heap_old ?_; (first | exact heap_new (by simp) | (refine heap_old ?_; (first | exact heap_new (by simp) | (refine heap_old ?_; (first | exact heap_new (by simp)))))))))))))))))))))))))))))); have z3s := heap_lt xx; obtain ⟨x3a, x3b, x3c⟩ := HBOX.out W3 xx; clear xx; have T3 := Lib.hid t3; have F3 := Lib.hid (Below.refl W3.heap.size W3); clear t3 g3))
      all_goals
        go_wp2_with fail
        go_roundw
        case rel => exact ⟨k + 1, B1, e1, B2, e2, B3, e3, u1 ++ [.slice E1 q1 f1], u2 ++ [.slice E2 q2 f2], u3 ++ [.slice E3 q3 f3], by go_num, hlt, rfl, rfl, rfl, Lib.hid (HT.out.snoc hkl HS.out.1 HS.out.2.1 HS.out.2.2), Lib.hid T3.out.rot⟩
        case measure => simp [intOf]; omega
    · -- exit
      have hkn : k = n := by omega
      subst hkn
      have hxE : Ext w wr := HX0.out.trans T0.out.ext
      obtain ⟨wE, rfl⟩ : ∃ wE : World, wE = wr := ⟨_, rfl⟩
      obtain ⟨V1, V2, V3⟩ := HT.out.reads HN.out T0.out hxE hB
      have FW : Hid (∀ W : World, Ext wE W → (W.cell? ⟨w.heap.size, 0, none⟩ = some (.slice A1 r.verbs.length c1) ∧ W.cell? ⟨w.heap.size, 1, none⟩ = some (.slice A2 r.kinds.length c2) ∧ W.cell? ⟨w.heap.size, 2, none⟩ = some (.slice A3 r.names.length c3)) ∧
          W.heap[w.heap.size + 1]? = some (.cells #[.string ⟨#[]⟩, .string ⟨#[]⟩, .string ⟨#[]⟩, .string ⟨#[]⟩] 33 (0, 0)) ∧ B ≤ W.heap.size ∧ Tab10 W ∧ Ext w W) := fun W hW => by
        have h0 : W.heap[w.heap.size]? = some (.cells #[.slice A1 r.verbs.length c1, .slice A2 r.kinds.length c2, .slice A3 r.names.length c3] 31 (0, 0)) := by
          rw [(T0.out.ext.trans hW).block _ (by rw [HW0.out]; simp; omega), HW0.out]
          exact heap_old (heap_new rfl)
        have h1 : W.heap[w.heap.size + 1]? = some (.cells #[.string ⟨#[]⟩, .string ⟨#[]⟩, .string ⟨#[]⟩, .string ⟨#[]⟩] 33 (0, 0)) := by
          rw [(T0.out.ext.trans hW).block _ (by rw [HW0.out]; simp), HW0.out]
          exact heap_new (by simp)
        exact ⟨by refine ⟨?_, ?_, ?_⟩ <;> simp [cell_of h0], h1, Nat.le_trans hB (hxE.trans hW).size, HTAB.out.ext (hxE.trans hW), hxE.trans hW⟩
      have HVS := Lib.hid (And.intro V1 (And.intro V2 V3))
      have tk : decide (k < k) = false := by simp
      have hszE : w.heap.size + 1 < wE.heap.size := heap_lt (FW.out wE (Below.refl _ _)).2.1
      have hszE2 : w.heap.size < wE.heap.size := by omega
      clear V1 V2 V3 hxE hlt
      obtain ⟨⟨y1, y2, y3⟩, -⟩ := FW.out wE (Below.refl _ _)
      by_cases hN0 : r.names.length = 0
      · have tn : ((r.names.length : Int) == 0) = true := by rw [beq_iff_eq]; omega
        obtain ⟨fs, hfs⟩ : ∃ f, f = freshS (namesOf l) := ⟨_, rfl⟩
        have HNR : Hid (namesR l r = [fs]) := by rw [hfs]; exact namesR_none hN0
        obtain ⟨w1, hw1⟩ : ∃ w1, w1 = wE.alloc (.cells #[.string ⟨#[42]⟩] 9 (0, 0)) := ⟨_, rfl⟩
        have HW1 := Lib.hid hw1
        have HX1 : Hid (Ext wE w1) := by rw [hw1]; exact new_ext _ _
        have FW1 : Hid (∀ W : World, Ext w1 W → (W.cell? ⟨w.heap.size, 0, none⟩ = some (.slice A1 r.verbs.length c1) ∧ W.cell? ⟨w.heap.size, 1, none⟩ = some (.slice A2 r.kinds.length c2) ∧ W.cell? ⟨w.heap.size, 2, none⟩ = some (.slice A3 r.names.length c3)) ∧
          W.heap[w.heap.size + 1]? = some (.cells #[.string ⟨#[]⟩, .string ⟨#[]⟩, .string ⟨#[]⟩, .string ⟨#[]⟩] 33 (0, 0)) ∧ B ≤ W.heap.size ∧ Tab10 W ∧ Ext w W) := fun W hW => FW.out W (HX1.out.trans hW)
        have hs1 : wE.heap.size < w1.heap.size := by rw [hw1]; simp
        have HLC : Hid (∀ W : World, Ext w1 W → W.cell? ⟨wE.heap.size, 0, none⟩ = some (.string ⟨#[42]⟩)) := fun W hW => by
          have h := (hW.block wE.heap.size hs1).trans (by rw [hw1]; exact heap_new rfl : w1.heap[wE.heap.size]? = some (.cells #[.string ⟨#[42]⟩] 9 (0, 0)))
          rw [cell_of h]; rfl
        have CF : Hid (∀ W, Ext w1 W → Calls Tryd.prog 10 #[.slice D3 k d3] W fun e w' => e = .returned (.string fs) ∧ Ext W w') := fun W hW => by
          rw [hfs]
          exact fresh_any B _ (l.map fun r : Rule => r.names) W (FW1.out W hW).2.2.1 (HVS.out.2.2.ext (HX1.out.trans hW) (FW.out wE (Below.refl _ _)).2.2.1) (by rw [List.length_map, ← HN.out]; exact hl) HFL.out.2.2 (FW1.out W hW).2.2.2.1
        have HFS : Hid (fs.size ≠ 0) := by rw [hfs]; exact freshS_pos _
        clear hw1 hfs
        have CW1 : Hid (∀ s W, Ext w1 W → Calls Tryd.prog 9 #[.string s, .slice D1 k d1] W fun e w' => e = .returned (.string (wordS s (verbsOf l))) ∧ Ext W w') := fun s W hW =>
          word_any B s _ (l.map fun r : Rule => r.verbs) W (FW1.out W hW).2.2.1 (HVS.out.1.ext (HX1.out.trans hW) (FW.out wE (Below.refl _ _)).2.2.1) (by rw [List.length_map, ← HN.out]; exact hl) HFL.out.1 (FW1.out W hW).2.2.2.1
        have CW2 : Hid (∀ s W, Ext w1 W → Calls Tryd.prog 9 #[.string s, .slice D2 k d2] W fun e w' => e = .returned (.string (wordS s (kindsOf l))) ∧ Ext W w') := fun s W hW =>
          word_any B s _ (l.map fun r : Rule => r.kinds) W (FW1.out W hW).2.2.1 (HVS.out.2.1.ext (HX1.out.trans hW) (FW.out wE (Below.refl _ _)).2.2.1) (by rw [List.length_map, ← HN.out]; exact hl) HFL.out.2.1 (FW1.out W hW).2.2.2.1
        have CA : Hid (∀ (a : Ask) W, Ext w1 W → Calls Tryd.prog 11 #[.slice A l.length c, a.val] W fun e w' => e = .returned (.bool (allowsL l a)) ∧ Ext W w') := fun a W hW =>
          gallows_any B _ l a W (FW1.out W hW).2.2.1 (HV.out.1.below ((FW1.out W hW).2.2.2.2.mono hB) (Nat.le_refl _))
        go_wp2_with fail
        rw [← HW1.out]
        try rw [hN0]
        go_loopw [51] (fun x wr => ∃ i : Nat, x = .int .i64 (i : Int) ∧ i ≤ r.verbs.length ∧ Hid (noneF (tryV l [fs] r.kinds) r.verbs i) ∧ Ext w1 wr) (fun x _ => r.verbs.length - (intOf x).toNat)
        case atStart => exact ⟨0, rfl, Nat.zero_le _, noneF.zero, Below.refl _ _⟩
        case round =>
          obtain ⟨i, rfl, hi, hNV, hE2⟩ := hrel
          obtain ⟨wv, rfl⟩ : ∃ wv : World, wv = wr := ⟨_, rfl⟩
          have HE2 := Lib.hid hE2
          obtain ⟨⟨p1, p2, p3⟩, -, -, -, hxv⟩ := FW1.out wv hE2
          by_cases hiv : i < r.verbs.length
          · obtain ⟨bv, ov, rfl, hbv, hcv⟩ := str_cell HV.out.2.1 hB hxv hiv
            obtain ⟨v9, hv9⟩ : ∃ v, v = r.verbs[i] := ⟨_, rfl⟩
            rw [← hv9] at hcv
            have HV9 := Lib.hid hv9
            have HIV := Lib.hid hiv
            clear hE2 hxv hv9 y1 y2 y3
            go_wp2_with fail
            go_loopw [58] (fun x wr => ∃ j : Nat, x = .int .i64 (j : Int) ∧ j ≤ r.kinds.length ∧ Hid (noneF (tryK l [fs] v9) r.kinds j) ∧ Ext w1 wr) (fun x _ => r.kinds.length - (intOf x).toNat)
            case atStart => exact ⟨0, rfl, Nat.zero_le _, noneF.zero, HE2.out⟩
            case round =>
              obtain ⟨j, rfl, hj, hNK, hE3⟩ := hrel
              obtain ⟨wk, rfl⟩ : ∃ wk : World, wk = wr := ⟨_, rfl⟩
              have HE3 := Lib.hid hE3
              obtain ⟨⟨p4, p5, p6⟩, -, -, -, hxk⟩ := FW1.out wk hE3
              by_cases hjk : j < r.kinds.length
              · obtain ⟨bk, ok, rfl, hbk, hck⟩ := str_cell HV.out.2.2.1 hB hxk hjk
                obtain ⟨k9, hk9⟩ : ∃ v, v = r.kinds[j] := ⟨_, rfl⟩
                rw [← hk9] at hck
                have HK9 := Lib.hid hk9
                have HJK := Lib.hid hjk
                clear hE3 hxk hk9
                go_wp2_with fail
                go_loopw [64] (fun x wr => ∃ m : Nat, x = .int .i64 (m : Int) ∧ m ≤ 1 ∧ Hid (noneF (tryN l v9 k9) [fs] m) ∧ Ext w1 wr) (fun x _ => 1 - (intOf x).toNat)
                case atStart => exact ⟨0, rfl, Nat.zero_le _, noneF.zero, HE3.out⟩
                case round =>
                  obtain ⟨m, rfl, hm, hNN, hE4⟩ := hrel
                  obtain ⟨wn, rfl⟩ : ∃ wn : World, wn = wr := ⟨_, rfl⟩
                  have HE4 := Lib.hid hE4
                  obtain ⟨⟨p7, p8, p9⟩, -, -, -, hxn⟩ := FW1.out wn hE4
                  have hcn := HLC.out wn hE4
                  have hszn : wE.heap.size < wn.heap.size := Nat.lt_of_lt_of_le hs1 hE4.size
                  by_cases hmn : m < 1
                  · obtain rfl : m = 0 := by omega
                    have e0 : ((0 : Nat) : Int) = 0 := rfl
                    rw [e0]
                    clear hmn hm
                    obtain ⟨b9, hb9⟩ : ∃ b, b = allowsL l (askOf l v9 k9 fs) := ⟨_, rfl⟩
                    have CA9 : Hid (∀ W, Ext w1 W → Calls Tryd.prog 11 #[.slice A k c, .agg #[.string (wordS v9 (verbsOf l)), .string (wordS k9 (kindsOf l)), .string ⟨#[]⟩, .string fs]] W fun e w' => e = .returned (.bool b9) ∧ Ext W w') := fun W hW => by
                      rw [hb9, HN.out]
                      exact CA.out (askOf l v9 k9 fs) W hW
                    have HT9 : Hid (tryN l v9 k9 fs = bif b9 then none else some (askOf l v9 k9 fs)) := by
                      cases b9 with
                      | true => exact tryN_yes HFS.out hb9.symm
                      | false => exact tryN_no HFS.out hb9.symm
                    clear hb9 hE4 hxn
                    cases b9 with
                    | true =>
                      go_wp2_with (first
                        | (go_at_call 9; (with_reducible refine (CW1.out v9 wn HE4.out).mono ?_); rintro e w4 ⟨rfl, hx4⟩; have HX4 := Lib.hid (HE4.out.trans hx4); clear hx4)
                        | (go_at_call 9; (with_reducible refine (CW2.out k9 w4 HX4.out).mono ?_); rintro e w5 ⟨rfl, hx5⟩; have HX5 := Lib.hid (HX4.out.trans hx5); have HX6 := Lib.hid ((HX4.out.trans hx5).trans (new_ext w5 (.cells #[.string (wordS v9 (verbsOf l)), .string (wordS k9 (kindsOf l)), .string ⟨#[]⟩, .string ⟨#[42]⟩] 33 (0, 0)))); obtain ⟨⟨r1, r2, r3⟩, -, -, -, -⟩ := FW1.out w5 (HX4.out.trans hx5); have r4 := heap_lt (FW1.out w5 (HX4.out.trans hx5)).2.1; have r5 := Nat.lt_of_succ_lt r4; have r6 := hx5.size; clear hx5)
                        | (go_at_call 10; (with_reducible refine (CF.out _ HX6.out).mono ?_); rintro e w6 ⟨rfl, hx6⟩; obtain ⟨b0, b1, b2, b3⟩ := cells4 ((hx6.block w5.heap.size (by simp)).trans (heap_new rfl)); have b4 := free_cells ((hx6.block w5.heap.size (by simp)).trans (heap_new rfl)) 3; have H6 := Lib.hid (put_last (wE := w1) (HX6.out.trans hx6) HX5.out.size ((hx6.block w5.heap.size (by simp)).trans (heap_new rfl)) fs); clear hx6)
                        | (go_at_call 11; (with_reducible refine (CA9.out _ H6.out.2).mono ?_); rintro e w7 ⟨rfl, hx7⟩; have HX7 := Lib.hid (H6.out.2.trans hx7); clear hx7))
                      go_roundw
                      case rel => exact ⟨1, rfl, Nat.le_refl _, hNN.out.succ (by simp) HT9.out, HX7.out⟩
                      case measure => simp [intOf]
                    | false =>
                      go_wp2_with (first
                        | (go_at_call 9; (with_reducible refine (CW1.out v9 wn HE4.out).mono ?_); rintro e w4 ⟨rfl, hx4⟩; have HX4 := Lib.hid (HE4.out.trans hx4); clear hx4)
                        | (go_at_call 9; (with_reducible refine (CW2.out k9 w4 HX4.out).mono ?_); rintro e w5 ⟨rfl, hx5⟩; have HX5 := Lib.hid (HX4.out.trans hx5); have HX6 := Lib.hid ((HX4.out.trans hx5).trans (new_ext w5 (.cells #[.string (wordS v9 (verbsOf l)), .string (wordS k9 (kindsOf l)), .string ⟨#[]⟩, .string ⟨#[42]⟩] 33 (0, 0)))); obtain ⟨⟨r1, r2, r3⟩, -, -, -, -⟩ := FW1.out w5 (HX4.out.trans hx5); have r4 := heap_lt (FW1.out w5 (HX4.out.trans hx5)).2.1; have r5 := Nat.lt_of_succ_lt r4; have r6 := hx5.size; clear hx5)
                        | (go_at_call 10; (with_reducible refine (CF.out _ HX6.out).mono ?_); rintro e w6 ⟨rfl, hx6⟩; obtain ⟨b0, b1, b2, b3⟩ := cells4 ((hx6.block w5.heap.size (by simp)).trans (heap_new rfl)); have b4 := free_cells ((hx6.block w5.heap.size (by simp)).trans (heap_new rfl)) 3; have H6 := Lib.hid (put_last (wE := w1) (HX6.out.trans hx6) HX5.out.size ((hx6.block w5.heap.size (by simp)).trans (heap_new rfl)) fs); clear hx6)
                        | (go_at_call 11; (with_reducible refine (CA9.out _ H6.out.2).mono ?_); rintro e w7 ⟨rfl, hx7⟩; have HX7 := Lib.hid (H6.out.2.trans hx7); obtain ⟨s0, s1, s2, s3⟩ := cells4 (FW1.out w7 (H6.out.2.trans hx7)).2.1; obtain ⟨a0, a1, a2, a3⟩ := cells4 ((hx7.block w5.heap.size (heap_lt H6.out.1)).trans H6.out.1); have f0 := free_cells (FW1.out w7 (H6.out.2.trans hx7)).2.1 0; have f1 := free_cells (FW1.out w7 (H6.out.2.trans hx7)).2.1 1; have f2 := free_cells (FW1.out w7 (H6.out.2.trans hx7)).2.1 2; have f3 := free_cells (FW1.out w7 (H6.out.2.trans hx7)).2.1 3; clear hx7))
                      obtain ⟨t1, t2⟩ := put_ask (askOf l v9 k9 fs) (FW1.out w7 HX7.out).2.1 (FW1.out w7 HX7.out).2.2.2.2 (Nat.le_succ _)
                      have HB : Hid (beyondL l r = some (askOf l v9 k9 fs)) := by
                        unfold Hid beyondL
                        rw [HNR.out]
                        exact hNV.out.hit HIV.out (by rw [← HV9.out]; exact hNK.out.hit HJK.out (by rw [← HK9.out]; exact hNN.out.hit (by simp) HT9.out))
                      refine bodyPost_ret (results_ask rfl _ _ (w.heap.size + 1) rfl t1) rfl ?_
                      exact ⟨by rw [HB.out]; rfl, t2⟩
                  · have HA9 : Hid (tryK l [fs] v9 k9 = none) := hNN.out.all (by simp; omega)
                    have tm : decide ((m : Int) < 1) = false := by simp; omega
                    clear hmn hE4 hxn
                    go_wp2_with fail
                    go_roundw
                    case rel => exact ⟨j + 1, by go_num, by have := HJK.out; omega, hNK.out.succ HJK.out (by rw [← HK9.out]; exact HA9.out), HE4.out⟩
                    case measure => have := HJK.out; simp [intOf]; omega
              · have HA9 : Hid (tryV l [fs] r.kinds v9 = none) := hNK.out.all (by omega)
                have tj : decide (j < r.kinds.length) = false := by simp; omega
                clear hjk hE3 hxk
                go_wp2_with fail
                go_roundw
                case rel => exact ⟨i + 1, by go_num, by have := HIV.out; omega, hNV.out.succ HIV.out (by rw [← HV9.out]; exact HA9.out), HE3.out⟩
                case measure => have := HIV.out; simp [intOf]; omega
          · have HB : Hid (beyondL l r = none) := by
              unfold Hid beyondL
              rw [HNR.out]
              exact hNV.out.all (by omega)
            have tv : decide (i < r.verbs.length) = false := by simp; omega
            obtain ⟨s0, s1, s2, s3⟩ := cells4 (FW1.out wv hE2).2.1
            have f0 := free_cells (FW1.out wv hE2).2.1 0
            have f1 := free_cells (FW1.out wv hE2).2.1 1
            have f2 := free_cells (FW1.out wv hE2).2.1 2
            have f3 := free_cells (FW1.out wv hE2).2.1 3
            clear hiv hE2 hxv
            go_wp2_with fail
            obtain ⟨t1, t2⟩ := put_ask askNone (FW1.out wv HE2.out).2.1 (FW1.out wv HE2.out).2.2.2.2 (Nat.le_succ _)
            refine bodyPost_ret (results_ask rfl _ _ (w.heap.size + 1) rfl t1) rfl ?_
            exact ⟨by rw [HB.out]; rfl, t2⟩
      · have tn : ((r.names.length : Int) == 0) = false := by rw [beq_eq_false_iff_ne]; omega
        have HNR : Hid (namesR l r = r.names) := namesR_some hN0
        have CW1 : Hid (∀ s W, Ext wE W → Calls Tryd.prog 9 #[.string s, .slice D1 k d1] W fun e w' => e = .returned (.string (wordS s (verbsOf l))) ∧ Ext W w') := fun s W hW =>
          word_any B s _ (l.map fun r : Rule => r.verbs) W (FW.out W hW).2.2.1 (HVS.out.1.ext hW (FW.out wE (Below.refl _ _)).2.2.1) (by rw [List.length_map, ← HN.out]; exact hl) HFL.out.1 (FW.out W hW).2.2.2.1
        have CW2 : Hid (∀ s W, Ext wE W → Calls Tryd.prog 9 #[.string s, .slice D2 k d2] W fun e w' => e = .returned (.string (wordS s (kindsOf l))) ∧ Ext W w') := fun s W hW =>
          word_any B s _ (l.map fun r : Rule => r.kinds) W (FW.out W hW).2.2.1 (HVS.out.2.1.ext hW (FW.out wE (Below.refl _ _)).2.2.1) (by rw [List.length_map, ← HN.out]; exact hl) HFL.out.2.1 (FW.out W hW).2.2.2.1
        have CA : Hid (∀ (a : Ask) W, Ext wE W → Calls Tryd.prog 11 #[.slice A l.length c, a.val] W fun e w' => e = .returned (.bool (allowsL l a)) ∧ Ext W w') := fun a W hW =>
          gallows_any B _ l a W (FW.out W hW).2.2.1 (HV.out.1.below ((FW.out W hW).2.2.2.2.mono hB) (Nat.le_refl _))
        go_wp2_with fail
        go_loopw [51] (fun x wr => ∃ i : Nat, x = .int .i64 (i : Int) ∧ i ≤ r.verbs.length ∧ Hid (noneF (tryV l r.names r.kinds) r.verbs i) ∧ Ext wE wr) (fun x _ => r.verbs.length - (intOf x).toNat)
        case atStart => exact ⟨0, rfl, Nat.zero_le _, noneF.zero, Below.refl _ _⟩
        case round =>
          obtain ⟨i, rfl, hi, hNV, hE2⟩ := hrel
          obtain ⟨wv, rfl⟩ : ∃ wv : World, wv = wr := ⟨_, rfl⟩
          have HE2 := Lib.hid hE2
          obtain ⟨⟨p1, p2, p3⟩, -, -, -, hxv⟩ := FW.out wv hE2
          by_cases hiv : i < r.verbs.length
          · obtain ⟨bv, ov, rfl, hbv, hcv⟩ := str_cell HV.out.2.1 hB hxv hiv
            obtain ⟨v9, hv9⟩ : ∃ v, v = r.verbs[i] := ⟨_, rfl⟩
            rw [← hv9] at hcv
            have HV9 := Lib.hid hv9
            have HIV := Lib.hid hiv
            clear hE2 hxv hv9 y1 y2 y3
            go_wp2_with fail
            go_loopw [58] (fun x wr => ∃ j : Nat, x = .int .i64 (j : Int) ∧ j ≤ r.kinds.length ∧ Hid (noneF (tryK l r.names v9) r.kinds j) ∧ Ext wE wr) (fun x _ => r.kinds.length - (intOf x).toNat)
            case atStart => exact ⟨0, rfl, Nat.zero_le _, noneF.zero, HE2.out⟩
            case round =>
              obtain ⟨j, rfl, hj, hNK, hE3⟩ := hrel
              obtain ⟨wk, rfl⟩ : ∃ wk : World, wk = wr := ⟨_, rfl⟩
              have HE3 := Lib.hid hE3
              obtain ⟨⟨p4, p5, p6⟩, -, -, -, hxk⟩ := FW.out wk hE3
              by_cases hjk : j < r.kinds.length
              · obtain ⟨bk, ok, rfl, hbk, hck⟩ := str_cell HV.out.2.2.1 hB hxk hjk
                obtain ⟨k9, hk9⟩ : ∃ v, v = r.kinds[j] := ⟨_, rfl⟩
                rw [← hk9] at hck
                have HK9 := Lib.hid hk9
                have HJK := Lib.hid hjk
                clear hE3 hxk hk9
                go_wp2_with fail
                go_loopw [64] (fun x wr => ∃ m : Nat, x = .int .i64 (m : Int) ∧ m ≤ r.names.length ∧ Hid (noneF (tryN l v9 k9) r.names m) ∧ Ext wE wr) (fun x _ => r.names.length - (intOf x).toNat)
                case atStart => exact ⟨0, rfl, Nat.zero_le _, noneF.zero, HE3.out⟩
                case round =>
                  obtain ⟨m, rfl, hm, hNN, hE4⟩ := hrel
                  obtain ⟨wn, rfl⟩ : ∃ wn : World, wn = wr := ⟨_, rfl⟩
                  have HE4 := Lib.hid hE4
                  obtain ⟨⟨p7, p8, p9⟩, -, -, -, hxn⟩ := FW.out wn hE4
                  by_cases hmn : m < r.names.length
                  · obtain ⟨bn, on_, rfl, hbn, hcn⟩ := str_cell HV.out.2.2.2 hB hxn hmn
                    obtain ⟨n9, hn9⟩ : ∃ v, v = r.names[m] := ⟨_, rfl⟩
                    rw [← hn9] at hcn
                    have HN9 := Lib.hid hn9
                    have HMN := Lib.hid hmn
                    clear hE4 hxn hn9
                    by_cases hz : n9.size = 0
                    · have tz := isEmpty_of_zero hz
                      have HT9 : Hid (tryN l v9 k9 n9 = none) := tryN_empty hz
                      clear hz
                      go_wp2_with fail
                      go_roundw
                      case rel => exact ⟨m + 1, by go_num, by omega, hNN.out.succ HMN.out (by rw [← HN9.out]; exact HT9.out), HE4.out⟩
                      case measure => simp [intOf]; omega
                    · have tz := isEmpty_of_pos (s := n9) (by omega)
                      obtain ⟨b9, hb9⟩ : ∃ b, b = allowsL l (askOf l v9 k9 n9) := ⟨_, rfl⟩
                      have CA9 : Hid (∀ W, Ext wE W → Calls Tryd.prog 11 #[.slice A k c, .agg #[.string (wordS v9 (verbsOf l)), .string (wordS k9 (kindsOf l)), .string ⟨#[]⟩, .string n9]] W fun e w' => e = .returned (.bool b9) ∧ Ext W w') := fun W hW => by
                        rw [hb9, HN.out]
                        exact CA.out (askOf l v9 k9 n9) W hW
                      have HT9 : Hid (tryN l v9 k9 n9 = bif b9 then none else some (askOf l v9 k9 n9)) := by
                        cases b9 with
                        | true => exact tryN_yes hz hb9.symm
                        | false => exact tryN_no hz hb9.symm
                      clear hz hb9
                      cases b9 with
                      | true =>
                        go_wp2_with (first
                          | (go_at_call 9; (with_reducible refine (CW1.out v9 wn HE4.out).mono ?_); rintro e w4 ⟨rfl, hx4⟩; have HX4 := Lib.hid (HE4.out.trans hx4); clear hx4)
                          | (go_at_call 9; (with_reducible refine (CW2.out k9 w4 HX4.out).mono ?_); rintro e w5 ⟨rfl, hx5⟩; have HX5 := Lib.hid (HX4.out.trans hx5); have HX6 := Lib.hid ((HX4.out.trans hx5).trans (new_ext w5 (.cells #[.string (wordS v9 (verbsOf l)), .string (wordS k9 (kindsOf l)), .string ⟨#[]⟩, .string n9] 33 (0, 0)))); obtain ⟨⟨r1, r2, r3⟩, -, -, -, -⟩ := FW.out w5 (HX4.out.trans hx5); have r4 := heap_lt (FW.out w5 (HX4.out.trans hx5)).2.1; have r5 := Nat.lt_of_succ_lt r4; clear hx5)
                          | (go_at_call 11; (with_reducible refine (CA9.out _ HX6.out).mono ?_); rintro e w7 ⟨rfl, hx7⟩; have HX7 := Lib.hid (HX6.out.trans hx7); clear hx7))
                        go_roundw
                        case rel => exact ⟨m + 1, by go_num, by omega, hNN.out.succ HMN.out (by rw [← HN9.out]; exact HT9.out), HX7.out⟩
                        case measure => simp [intOf]; omega
                      | false =>
                        go_wp2_with (first
                          | (go_at_call 9; (with_reducible refine (CW1.out v9 wn HE4.out).mono ?_); rintro e w4 ⟨rfl, hx4⟩; have HX4 := Lib.hid (HE4.out.trans hx4); clear hx4)
                          | (go_at_call 9; (with_reducible refine (CW2.out k9 w4 HX4.out).mono ?_); rintro e w5 ⟨rfl, hx5⟩; have HX5 := Lib.hid (HX4.out.trans hx5); have HX6 := Lib.hid ((HX4.out.trans hx5).trans (new_ext w5 (.cells #[.string (wordS v9 (verbsOf l)), .string (wordS k9 (kindsOf l)), .string ⟨#[]⟩, .string n9] 33 (0, 0)))); obtain ⟨⟨r1, r2, r3⟩, -, -, -, -⟩ := FW.out w5 (HX4.out.trans hx5); have r4 := heap_lt (FW.out w5 (HX4.out.trans hx5)).2.1; have r5 := Nat.lt_of_succ_lt r4; clear hx5)
                          | (go_at_call 11; (with_reducible refine (CA9.out _ HX6.out).mono ?_); rintro e w7 ⟨rfl, hx7⟩; have HX7 := Lib.hid (HX6.out.trans hx7); obtain ⟨s0, s1, s2, s3⟩ := cells4 (FW.out w7 (HX6.out.trans hx7)).2.1; obtain ⟨a0, a1, a2, a3⟩ := cells4 ((hx7.block w5.heap.size (by simp)).trans (heap_new rfl)); have f0 := free_cells (FW.out w7 (HX6.out.trans hx7)).2.1 0; have f1 := free_cells (FW.out w7 (HX6.out.trans hx7)).2.1 1; have f2 := free_cells (FW.out w7 (HX6.out.trans hx7)).2.1 2; have f3 := free_cells (FW.out w7 (HX6.out.trans hx7)).2.1 3; clear hx7))
                        obtain ⟨t1, t2⟩ := put_ask (askOf l v9 k9 n9) (FW.out w7 HX7.out).2.1 (FW.out w7 HX7.out).2.2.2.2 (Nat.le_succ _)
                        have HB : Hid (beyondL l r = some (askOf l v9 k9 n9)) := by
                          unfold Hid beyondL
                          rw [HNR.out]
                          exact hNV.out.hit HIV.out (by rw [← HV9.out]; exact hNK.out.hit HJK.out (by rw [← HK9.out]; exact hNN.out.hit HMN.out (by rw [← HN9.out]; exact HT9.out)))
                        refine bodyPost_ret (results_ask rfl _ _ (w.heap.size + 1) rfl t1) rfl ?_
                        exact ⟨by rw [HB.out]; rfl, t2⟩
                  · have HA9 : Hid (tryK l r.names v9 k9 = none) := hNN.out.all (by omega)
                    have tm : decide (m < r.names.length) = false := by simp; omega
                    clear hmn hE4 hxn
                    go_wp2_with fail
                    go_roundw
                    case rel => exact ⟨j + 1, by go_num, by have := HJK.out; omega, hNK.out.succ HJK.out (by rw [← HK9.out]; exact HA9.out), HE4.out⟩
                    case measure => have := HJK.out; simp [intOf]; omega
              · have HA9 : Hid (tryV l r.names r.kinds v9 = none) := hNK.out.all (by omega)
                have tj : decide (j < r.kinds.length) = false := by simp; omega
                clear hjk hE3 hxk
                go_wp2_with fail
                go_roundw
                case rel => exact ⟨i + 1, by go_num, by have := HIV.out; omega, hNV.out.succ HIV.out (by rw [← HV9.out]; exact HA9.out), HE3.out⟩
                case measure => have := HIV.out; simp [intOf]; omega
          · have HB : Hid (beyondL l r = none) := by
              unfold Hid beyondL
              rw [HNR.out]
              exact hNV.out.all (by omega)
            have tv : decide (i < r.verbs.length) = false := by simp; omega
            obtain ⟨s0, s1, s2, s3⟩ := cells4 (FW.out wv hE2).2.1
            have f0 := free_cells (FW.out wv hE2).2.1 0
            have f1 := free_cells (FW.out wv hE2).2.1 1
            have f2 := free_cells (FW.out wv hE2).2.1 2
            have f3 := free_cells (FW.out wv hE2).2.1 3
            clear hiv hE2 hxv
            go_wp2_with fail
            obtain ⟨t1, t2⟩ := put_ask askNone (FW.out wv HE2.out).2.1 (FW.out wv HE2.out).2.2.2.2 (Nat.le_succ _)
            refine bodyPost_ret (results_ask rfl _ _ (w.heap.size + 1) rfl t1) rfl ?_
            exact ⟨by rw [HB.out]; rfl, t2⟩
end Go.Proofs.YtplfimoeggecjaaDoor.Sx
