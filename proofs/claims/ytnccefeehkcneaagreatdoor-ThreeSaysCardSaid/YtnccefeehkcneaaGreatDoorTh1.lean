/-
  The program's three.into.
-/
import Derived.Test.YtnccefeehkcneaaGreatDoorOfg
import Derived.Test.YtnccefeehkcneaaGreatDoorTmp
import Derived.Test.YtnccefeehkcneaaGreatDoorTh0
import Derived.Test.YtnccefeehkcneaaGreatDoorTmb
namespace Go.Proofs.YtnccefeehkcneaaGreatDoor.Jm
open Go Go.RowKit Go.Proofs.YtnccefeehkcneaaGreatDoor.Sx Go.Proofs.YtnccefeehkcneaaGreatDoor.Js Go.Proofs.YtnccefeehkcneaaGreatDoor.Gr Go.Proofs.YtnccefeehkcneaaGreatDoor.Ur
/-- What lies in Fp has not turned, and lies in it still. -/
def TurnP (Fp : World → Nat → Prop) (w w' : World) : Prop := Below 0 w w' ∧ ∀ b, b < w.heap.size → Fp w b → w'.heap[b]? = w.heap[b]? ∧ Fp w' b
section
variable {Fp : World → Nat → Prop} {w w' w'' : World}
theorem TurnP.refl : TurnP Fp w w := ⟨Below.refl _ _, fun _ _ h => ⟨rfl, h⟩⟩
theorem TurnP.trans (h : TurnP Fp w w') (k : TurnP Fp w' w'') : TurnP Fp w w'' := ⟨h.1.trans k.1, fun b hb hF => by
  obtain ⟨h1, h2⟩ := h.2 b hb hF
  obtain ⟨k1, k2⟩ := k.2 b (Nat.lt_of_lt_of_le hb h.1.size) h2
  exact ⟨k1.trans h1, k2⟩⟩
theorem TurnP.pv {j : J} {u : Value} (h : TurnP Fp w w') (hp : PV (Fp w) w j u) : PV (Fp w') w' j u := PV.keep (fun b hb hlt => (h.2 b hlt hb).1) (fun b hb hlt => (h.2 b hlt hb).2) _ _ hp
theorem TurnP.of {b : Nat} {a : Ob} (h : TurnP Fp w w') (hp : OF (Fp w) w b a) : OF (Fp w') w' b a := hp.keep (fun b hb hlt => (h.2 b hlt hb).1) (fun b hb hlt => (h.2 b hlt hb).2)
theorem TurnP.names {A : Option Addr} {ns : List Tx} (h : TurnP Fp w w') (hp : NamesAt (Fp w) w A ns) : NamesAt (Fp w') w' A ns := hp.keep (fun b hb hlt => (h.2 b hlt hb).1) (fun b hb hlt => (h.2 b hlt hb).2)
theorem TurnP.size (h : TurnP Fp w w') : w.heap.size ≤ w'.heap.size := h.1.size
end
/-- A function that is told ways: what it keeps (I), where it does not write (Fp). -/
structure SeeC (f : Nat) (caps : Array Value) (w0 : World) (Fp : World → Nat → Prop) (I : World → List (List Tx) → Prop) : Prop where
  enter : ∀ (args : Array Value) (W : World), Sem.run Tryz.prog (callFunc f args) W = .ok (.enter f args) W
  old : ∀ w ws, I w ws → Ext w0 w
  ext : ∀ w w' ws, I w ws → Ext w w' → I w' ws ∧ Fp w' = Fp w
  new : ∀ w ws b, I w ws → w.heap.size ≤ b → Fp w b
  call : ∀ w ws (way : List Tx) A c, I w ws → NamesAt (Fp w) w A way → way.length ≤ c → way.length ≤ 1000000 → (∀ s ∈ way, s.length ≤ 1048576) → ws.length ≤ 3000000 → Calls Tryz.prog f (#[.slice A way.length c] ++ caps) w fun e w' => e = .returned (.tuple #[]) ∧ TurnP Fp w w' ∧ I w' (ws ++ [way])
theorem SeeC.turn {f : Nat} {caps : Array Value} {w0 w w' : World} {Fp : World → Nat → Prop} {I : World → List (List Tx) → Prop} {ws : List (List Tx)} (h : SeeC f caps w0 Fp I) (hi : I w ws) (hx : Ext w w') : TurnP Fp w w' :=
  ⟨hx.mono (Nat.zero_le _), fun b hb hF => ⟨hx.block b hb, by rw [(h.ext w w' ws hi hx).2]; exact hF⟩⟩
theorem names_cells {F : Nat → Prop} {w : World} {A : Option Addr} {ns : List Tx} (h : NamesAt F w A ns) : CellsAt w A (ns.map strW) := fun i hi => by
  obtain ⟨g, off, e, _, hc⟩ := h i (by simpa using hi)
  exact ⟨g, off, e, by rw [hc]; simp [strW]⟩
/-- A row of one's own of names. -/
theorem row_names {base : Nat} {w : World} {A : Option Addr} {n c : Nat} {ns : List Tx} (h : GRow 9 1 base w (.slice A n c) (one (ns.map strW))) : n = ns.length ∧ ns.length ≤ c ∧ NamesAt (fun b => base ≤ b) w A ns := by
  obtain ⟨A', c', e, hc⟩ := h.slice
  injection e with e1 e2 e3
  subst e3
  rw [one_len, List.length_map] at e2 hc
  refine ⟨e2, hc, fun i hi => ?_⟩
  obtain ⟨g, hA, _, hb, _, hcell⟩ := h.at_ (k := i) (by rw [one_len, List.length_map]; exact hi)
  refine ⟨g, 0, hA, hb, ?_⟩
  have := hcell 0 (strW ns[i]) (by simp [one])
  rw [Nat.mul_one, Nat.add_zero] at this
  rw [Nat.zero_add]
  exact this
/-- What an assertion to an object gives. -/
theorem obj_assert {F : Nat → Prop} {w : World} {j : J} {u : Value} (h : PV F w j u) : ∃ p : Option Addr, (∀ W : World, (Instr.typeAssert u valT objPT true).run Tryz.prog W = .ok (.tuple #[.pointer p, .bool (isObj j)]) W) ∧ (isObj j = true → ∃ b, p = some ⟨b, 0, none⟩ ∧ OF F w b (objO j)) ∧ (isObj j = false → p = none) := by
  cases hj : isObj j with
  | true =>
    rw [obj_of hj] at h
    obtain ⟨b, rfl, ho⟩ := PV_ofO.1 h
    exact ⟨some ⟨b, 0, none⟩, fun W => ta_obj_obj _ W, fun _ => ⟨b, rfl, ho⟩, fun h => by cases h⟩
  | false => exact ⟨none, not_obj (PJ.of h) hj, fun h => (by cases h), fun _ => rfl⟩
/-- What into does. -/
def IntoTC (want : J) : Prop := ∀ (f : Nat) (caps : Array Value) (w0 : World) (Fp : World → Nat → Prop) (I : World → List (List Tx) → Prop) (last live : J) (x y z : Value) (A : Option Addr) (c : Nat) (way : List Tx) (ws : List (List Tx)) (w : World),
  SeeC f caps w0 Fp I → I w ws → PV (Fp w) w last x → PV (Fp w) w live y → PV (Fp w) w want z → WJ last → WJ live → WJ want → bulkJ last ≤ 1000000 → bulkJ live + bulkJ want ≤ 1000000 → NamesAt (Fp w) w A way → way.length ≤ c → way.length + bulkJ want ≤ 1000000 → (∀ s ∈ way, s.length ≤ 1048576) → ws.length + bulkO (objO last) ≤ 2000000 →
  Calls Tryz.prog 45 #[x, y, z, .slice A way.length c, .func (.func f) #[] caps] w fun e w' => ∃ u, e = .returned u ∧ PV (Fp w') w' (threeJ last live want) u ∧ TurnP Fp w w' ∧ I w' (ws ++ lostJ last live want way)
set_option maxRecDepth 100000 in
set_option maxHeartbeats 4000000 in
theorem intoT_flat (want : J) (hv : isObj want = false) : IntoTC want := by
  intro f caps w0 Fp I last live x y z A c way ws w hs hi hx hy hz _ _ _ _ _ _ _ _ _ _
  have q1 := not_obj (PJ.of hz) hv
  have HZ := Lib.hid hz
  have HI := Lib.hid hi
  have HV := Lib.hid hv
  clear hs hi hx hy hz hv
  go_enter Tryz.func45, Tryz.ntmps45
  go_wp2_with fail
  go_ret
  exact ⟨z, rfl, by rw [three_flat _ _ HV.out]; exact HZ.out, TurnP.refl, by rw [lost_flat _ _ HV.out, List.append_nil]; exact HI.out⟩
set_option maxRecDepth 100000 in
set_option maxHeartbeats 16000000 in
theorem intoT_obj (o : Ob) (ih : ∀ n x, getO o n = some x → IntoTC x) : IntoTC (ofO o) := by
  intro f caps w0 Fp I last live x y z A c way ws w hs hi hx hy hz wl wv wo bl bv hn hc hwy hsz hws
  have hO : WO o := wo
  have hH : WO (objO last) := WO.of wl
  have hL : WO (objO live) := WO.of wv
  obtain ⟨bo, rfl, hoo⟩ := PV_ofO.1 hz
  obtain ⟨py, qy, hy1, hy2⟩ := obj_assert hy
  obtain ⟨px, qx, hx1, hx2⟩ := obj_assert hx
  have qz := ta_obj_obj (.pointer (some ⟨bo, 0, none⟩))
  have hbo : bulkJ (ofO o) = 32 + bulkO o := bulk_of o
  have hbH := bulk_obO last
  have hbL := bulk_obO live
  have hlo := len_bulkO o
  have hlH := len_bulkO (objO last)
  obtain ⟨H, hHd⟩ : ∃ H, H = objO last := ⟨_, rfl⟩
  obtain ⟨L, hLd⟩ : ∃ L, L = objO live := ⟨_, rfl⟩
  have h3 : threeJ last live (ofO o) = ofO (foldO (stpS H threeJ) (o.1.zip o.2) (keptT H L o)) := by rw [three_obj, hHd, hLd]
  have h4 : lostJ last live (ofO o) way = ((goesT H L o).map fun n => way ++ [n]) ++ (o.1.zip o.2).flatMap (lostF H L way) := by rw [lost_obj, hHd, hLd]
  -- the first loop
  obtain ⟨D, hD⟩ : ∃ D : Nat → Ob, ∀ q, D q = foldO (stpG o) ((H.1.zip H.2).take q) L := ⟨_, fun _ => rfl⟩
  obtain ⟨G, hG⟩ : ∃ G : Nat → List (List Tx), ∀ q, G q = ((H.1.take q).filter fun n => decide (n ∈ L.1) && !decide (n ∈ o.1)).map fun n => way ++ [n] := ⟨_, fun _ => rfl⟩
  -- the second
  obtain ⟨E, hE⟩ : ∃ E : Nat → Ob, ∀ q, E q = foldO (stpS H threeJ) ((o.1.zip o.2).take q) (keptT H L o) := ⟨_, fun _ => rfl⟩
  obtain ⟨P, hP⟩ : ∃ P : Nat → List (List Tx), ∀ q, P q = ((o.1.zip o.2).take q).flatMap (lostF H L way) := ⟨_, fun _ => rfl⟩
  rw [← hHd] at hH hbH hlH hx1
  rw [← hLd] at hL hbL hy1
  have HD : Hid (D 0 = L ∧ G 0 = [] ∧ (∀ q (h1 : q < H.1.length) (h2 : q < H.2.length), D (q + 1) = stpG o (D q) H.1[q] .null ∧ G (q + 1) = (if H.1[q] ∈ L.1 ∧ H.1[q] ∉ o.1 then G q ++ [way ++ [H.1[q]]] else G q) ∧ getO (D q) H.1[q] = getO L H.1[q]) ∧ (∀ q, WO (D q) ∧ bulkO (D q) ≤ bulkO L) ∧ ∀ q, q = H.1.length → D q = keptT H L o ∧ G q = (goesT H L o).map fun n => way ++ [n]) := by
    refine ⟨by rw [hD]; rfl, by rw [hG]; rfl, fun q h1 h2 => ⟨?_, ?_, ?_⟩, fun q => ⟨?_, ?_⟩, fun q hq => ⟨?_, ?_⟩⟩
    · rw [hD, hD]; exact fold_take _ _ _ h1 h2
    · rw [hG, hG, List.take_succ_eq_append_getElem h1, List.filter_append, List.map_append]
      by_cases h : H.1[q] ∈ L.1 ∧ H.1[q] ∉ o.1
      · rw [if_pos h]; simp [h.1, h.2]
      · rw [if_neg h]
        have : ([H.1[q]].filter fun n => decide (n ∈ L.1) && !decide (n ∈ o.1)) = [] := by
          rw [List.filter_eq_nil_iff]
          intro a ha
          rw [List.mem_singleton] at ha
          rw [ha]
          simpa using h
        rw [this]
        simp
    · rw [hD]; exact (fold_ahead (stp_g o) hH (fun _ _ _ => trivial) hL q).2 h1
    · rw [hD]; exact (fold_ahead (stp_g o) hH (fun _ _ _ => trivial) hL q).1
    · rw [hD]; exact kept3_bulk H L o _
    · rw [hD, List.take_of_length_le (by rw [List.length_zip]; omega)]; rfl
    · rw [hG, List.take_of_length_le (by omega)]; rfl
  have HEE : Hid (E 0 = keptT H L o ∧ P 0 = [] ∧ (∀ q (h1 : q < o.1.length) (h2 : q < o.2.length), E (q + 1) = setO (E q) o.1[q] (threeJ (valO H o.1[q]) (valO L o.1[q]) o.2[q]) ∧ P (q + 1) = P q ++ lostJ (valO H o.1[q]) (valO L o.1[q]) o.2[q] (way ++ [o.1[q]]) ∧ valO (E q) o.1[q] = valO L o.1[q]) ∧ (∀ q, WO (E q) ∧ bulkO (E q) ≤ 2000000) ∧ ∀ q, q = o.1.length → threeJ last live (ofO o) = ofO (E q) ∧ lostJ last live (ofO o) way = ((goesT H L o).map fun n => way ++ [n]) ++ P q) := by
    have hm := fun q => three_mid wl wv hO q
    rw [← hHd, ← hLd] at hm
    have hv : ∀ q (h1 : q < o.1.length), valO (E q) o.1[q] = valO L o.1[q] := fun q h1 => by
      unfold valO
      rw [hE, (hm q).2.2 h1]
    refine ⟨by rw [hE]; rfl, by rw [hP]; rfl, fun q h1 h2 => ⟨?_, ?_, hv q h1⟩, fun q => ⟨?_, ?_⟩, fun q hq => ⟨?_, ?_⟩⟩
    · have e : E (q + 1) = stpS H threeJ (E q) o.1[q] o.2[q] := by rw [hE, hE]; exact fold_take _ _ _ h1 h2
      rw [e]
      unfold stpS
      rw [hv q h1]
    · have hz : q < (o.1.zip o.2).length := by rw [List.length_zip]; omega
      rw [hP, hP, List.take_succ_eq_append_getElem hz, List.flatMap_append, List.getElem_zip]
      simp [lostF]
    · rw [hE]; exact (hm q).1
    · rw [hE]; have := (hm q).2.1; omega
    · rw [h3, hE, List.take_of_length_le (by rw [List.length_zip]; omega)]
    · rw [h4, hP, List.take_of_length_le (by rw [List.length_zip]; omega)]
  have HIH : Hid (∀ q (h1 : q < o.1.length) (h2 : q < o.2.length), IntoTC o.2[q] ∧ bulkJ o.2[q] + 33 ≤ bulkJ (ofO o) ∧ WJ o.2[q] ∧ o.1[q].length ≤ 1048576 ∧ valO o o.1[q] = o.2[q] ∧ bulkJ (valO L o.1[q]) + bulkJ o.2[q] ≤ 1000000 ∧ bulkJ (valO H o.1[q]) ≤ 1000000) := fun q h1 h2 => by
    have hat := at_field hO h1 h2
    have hg := bulk_get hat
    have hnl := names_long o o.1[q] (List.getElem_mem h1)
    have e1 := bulk_val L o.1[q]
    have e2 := bulk_val H o.1[q]
    exact ⟨ih _ _ hat, by omega, hO.get hat, by omega, val_some hat, by omega, by omega⟩
  rw [← hHd] at hws
  have HRM : Hid (∀ q (h1 : q < o.1.length), (ws ++ ((goesT H L o).map fun n => way ++ [n]) ++ P q).length + bulkO (objO (valO H o.1[q])) ≤ 2000000) := fun q h1 => by
    have h2 := lost_room (L := L) hH hO way h1
    rw [hP, List.length_append, List.length_append, List.length_map]
    omega
  have HRG : Hid (∀ q, (ws ++ G q).length ≤ 3000000) := fun q => by
    have h2 : (G q).length ≤ H.1.length := by
      rw [hG, List.length_map]
      exact Nat.le_trans (List.length_filter_le ..) (by rw [List.length_take]; omega)
    rw [List.length_append]
    have hl := hH.len
    omega
  have HHN : Hid (∀ q (h1 : q < H.1.length), H.1[q].length ≤ 1048576) := fun q h1 => by
    have := names_long H H.1[q] (List.getElem_mem h1)
    omega
  have HWY : Hid (way.length + bulkJ (ofO o) ≤ 1000000 ∧ (∀ s ∈ way, s.length ≤ 1048576) ∧ way.length ≤ c) := ⟨hwy, hsz, hc⟩
  have HS := Lib.hid hs
  have HI := Lib.hid hi
  have HN := Lib.hid hn
  have HOB : Hid (OF (Fp w) w bo o) := hoo
  have HHW : Hid (WO H ∧ bulkO H ≤ 1000000) := ⟨hH, by omega⟩
  have HLW : Hid (WO L ∧ bulkO L ≤ 1000000) := ⟨hL, by omega⟩
  have HOW : Hid (WO o ∧ bulkO o ≤ 1000000 ∧ o.1.length = o.2.length) := ⟨hO, by omega, hO.len⟩
  have HHL : Hid (H.1.length = H.2.length) := hH.len
  have HLI : Hid (isObj live = false → L = ([], [])) := fun h => by rw [hLd]; exact objO_not h
  have HHI : Hid (isObj last = false → H = ([], [])) := fun h => by rw [hHd]; exact objO_not h
  obtain ⟨vy, hvy⟩ : ∃ b, b = isObj live := ⟨_, rfl⟩
  obtain ⟨vx, hvx⟩ : ∃ b, b = isObj last := ⟨_, rfl⟩
  rw [← hvy] at qy hy1 hy2 HLI
  rw [← hvx] at qx hx1 hx2 HHI
  have HY := Lib.hid (And.intro hy1 hy2)
  have HX := Lib.hid (And.intro hx1 hx2)
  obtain ⟨N, hNw⟩ : ∃ N, N = way.length := ⟨_, rfl⟩
  have HNW : Hid (N = way.length ∧ N ≤ 1000000) := ⟨hNw, by omega⟩
  obtain ⟨M, hM⟩ : ∃ M, M = H.1.length := ⟨_, rfl⟩
  have HMH : Hid (M = H.1.length) := hM
  have hMs : M ≤ 1000000 := by have := hH.len; omega
  obtain ⟨K, hK⟩ : ∃ K, K = o.1.length := ⟨_, rfl⟩
  have HKO : Hid (K = o.1.length) := hK
  have hKs : K ≤ 1000000 := by have := hO.len; omega
  have hNs : N ≤ 1000000 := by omega
  rw [← hNw]
  clear hs hi hx hy hz wl wv wo bl bv hn hc hwy hsz hoo hH hL hO hbo hbH hbL hlo hlH h3 h4 hD hG hE hP hHd hLd hws ih hvy hvx hy1 hy2 hx1 hx2 hNw hM hK
  go_enter Tryz.func45, Tryz.ntmps45
  go_upto_if 44 with (fail)
  go_cut [13] (fun p wx => ∃ b : Nat, p = .pointer (some ⟨b, 0, none⟩) ∧ Hid (Ext w wx ∧ OF (Fp wx) wx b L))
  case first =>
    cases vy with
    | true =>
      obtain ⟨b, rfl, hob⟩ := HY.out.1 rfl
      have HB := Lib.hid hob
      clear hob
      go_wp2_with fail
      go_meet
      case rel => exact ⟨b, rfl, Below.refl _ _, HB.out⟩
    | false =>
      have HL0 := Lib.hid (HLI.out rfl)
      go_wp2_with fail
      go_meet
      case rel =>
        have he := HS.out.ext w _ ws HI.out (new_ext w (.cells #[.slice none 0 0, .slice none 0 0] objT (0, 0)))
        exact ⟨w.heap.size, rfl, new_ext _ _, by rw [HL0.out]; exact OF.new rfl rfl rfl (by rw [he.2]; exact HS.out.new w ws _ HI.out (Nat.le_refl _))⟩
  case rest =>
    obtain ⟨b1, rfl, h1⟩ := hcut
    have H1 := Lib.hid h1
    clear h1 qy qz
    go_upto_region 8 with (fail)
    go_cut [53] (fun t wx => t = .bool (!vx) ∧ wc = wx)
    case first =>
      cases vx with
      | true =>
        obtain ⟨b, rfl, hob⟩ := HX.out.1 rfl
        clear hob
        go_wp2_with fail
        go_meet
        case rel => exact ⟨rfl, rfl⟩
      | false =>
        obtain rfl := HX.out.2 rfl
        go_wp2_with fail
        go_meet
        case rel => exact ⟨rfl, rfl⟩
    case rest =>
      obtain ⟨rfl, rfl⟩ := hcut
      clear qx
      go_upto_if 53 with (fail)
      go_cut [14] (fun p wx => ∃ b : Nat, p = .pointer (some ⟨b, 0, none⟩) ∧ Hid (Ext w wx ∧ OF (Fp wx) wx b H ∧ OF (Fp wx) wx b1 L))
      case first =>
        cases vx with
        | true =>
          obtain ⟨b, rfl, hob⟩ := HX.out.1 rfl
          have HB : Hid (OF (Fp w) w b H) := hob
          clear hob
          go_wp2_with fail
          go_meet
          case rel => exact ⟨b, rfl, H1.out.1, (HS.out.turn HI.out H1.out.1).of HB.out, H1.out.2⟩
        | false =>
          have HH0 := Lib.hid (HHI.out rfl)
          go_wp2_with fail
          go_meet
          case rel =>
            have hx1 : Ext w wc := H1.out.1
            have hi1 := (HS.out.ext w wc ws HI.out hx1).1
            have he := HS.out.ext wc _ ws hi1 (new_ext wc (.cells #[.slice none 0 0, .slice none 0 0] objT (0, 0)))
            exact ⟨wc.heap.size, rfl, hx1.trans (new_ext _ _), by rw [HH0.out]; exact OF.new rfl rfl rfl (by rw [he.2]; exact HS.out.new wc ws _ hi1 (Nat.le_refl _)), (HS.out.turn hi1 (new_ext _ _)).of H1.out.2⟩
      case rest =>
        obtain ⟨b2, rfl, h2⟩ := hcut
        have H2 := Lib.hid h2
        have HI2 := Lib.hid (HS.out.ext w wc ws HI.out h2.1).1
        have HT2 := Lib.hid (HS.out.turn HI.out h2.1)
        clear h2 H1 HX HY HLI HHI
        have CN := Lib.hid (namesF_any (Fp wc) b2 H wc H2.out.2.1)
        rw [← HMH.out] at CN
        go_wp2_with fail
        refine Calls.mono CN.out ?_
        rintro e w3 ⟨A2, c2, rfl, hc2, hn2, rfl⟩
        have HN2 := Lib.hid hn2
        clear hn2
        go_wp2_with fail
        go_loopw [13, 59] (fun p ix wr => ∃ (q b : Nat), q ≤ M ∧ p = .pointer (some ⟨b, 0, none⟩) ∧ ix = .int .i64 (q : Int) ∧ Hid (I wr (ws ++ G q) ∧ TurnP Fp wc wr ∧ OF (Fp wr) wr b (D q))) (fun _ ix _ => M - (intOf ix).toNat)
        case atStart => exact ⟨0, b1, Nat.zero_le _, rfl, rfl, by rw [HD.out.2.1, List.append_nil]; exact HI2.out, TurnP.refl, by rw [HD.out.1]; exact H2.out.2.2⟩
        case round =>
          obtain ⟨q, b, hq, rfl, rfl, hR⟩ := hrel
          have hq0 : (0 : Int) ≤ (q : Int) := by omega
          have HTR : Hid (TurnP Fp w wr) := HT2.out.trans hR.out.2.1
          have HIR := Lib.hid hR.out.1
          by_cases hlt : q < M
          · have h1 : q < H.1.length := by rw [← HMH.out]; exact hlt
            have h2 : q < H.2.length := by rw [← HHL.out]; exact h1
            obtain ⟨ga, oa, rfl, -, hca⟩ := (hR.out.2.1.names HN2.out) q h1
            have hltI : (q : Int) < (M : Int) := by omega
            have HDS := Lib.hid (HD.out.2.2.1 q h1 h2)
            have HDW := Lib.hid (HD.out.2.2.2.1 q)
            have HNL := Lib.hid (HHN.out q h1)
            have CG1 := Lib.hid (getF_any (Fp wr) bo o H.1[q] wr (HTR.out.of HOB.out) HOW.out.1 (by have := HOW.out.2.1; omega))
            have CG2 := Lib.hid (getF_any (Fp wr) b (D q) H.1[q] wr hR.out.2.2 HDW.out.1 (by have := HDW.out.2; have := HLW.out.2; omega))
            obtain ⟨n, hn⟩ : ∃ n, n = H.1[q] := ⟨_, rfl⟩
            rw [← hn] at hca HDS HNL CG1 CG2
            obtain ⟨nx, hnx⟩ : ∃ s, s = bx n := ⟨_, rfl⟩
            rw [← hnx] at hca CG1 CG2
            have HNX := Lib.hid hnx
            have HMO : Hid ((getO o n).isSome = true ↔ n ∈ o.1) := get_mem HOW.out.1 n
            have HML : Hid ((getO (D q) n).isSome = true ↔ n ∈ L.1) := by unfold Hid; rw [HDS.out.2.2]; exact get_mem HLW.out.1 n
            have HDR : Hid ((getO (D q) n).isSome = false → dropO (D q) n = D q) := fun h => by
              unfold dropO
              rw [dropJ_none (fun hm => by rw [(get_mem HDW.out.1 n).2 hm] at h; cases h)]
            obtain ⟨bw, hbw⟩ : ∃ b, b = (getO o n).isSome := ⟨_, rfl⟩
            obtain ⟨bi, hbi⟩ : ∃ b, b = (getO (D q) n).isSome := ⟨_, rfl⟩
            rw [← hbw] at CG1 HMO
            rw [← hbi] at CG2 HML HDR
            clear hn hnx hbw hbi h1 h2
            go_wp2_with fail
            refine Calls.mono CG1.out ?_
            rintro e w5 ⟨u5, rfl, -, rfl⟩
            go_wp2_with fail
            refine Calls.mono CG2.out ?_
            rintro e w6 ⟨u6, rfl, -, rfl⟩
            cases bi with
            | false =>
              have HN1 : Hid (D (q + 1) = D q ∧ G (q + 1) = G q) := by
                have hm : n ∉ L.1 := fun h => by have := HML.out.2 h; cases this
                refine ⟨?_, by rw [HDS.out.2.1, if_neg (fun h => hm h.1)]⟩
                rw [HDS.out.1]
                unfold stpG
                split
                · rfl
                · exact HDR.out rfl
              go_wp2_with fail
              go_roundw
              case rel => exact ⟨q + 1, b, hlt, rfl, by go_num, by rw [HN1.out.1, HN1.out.2]; exact hR.out⟩
              case measure => simp [intOf]; omega
            | true =>
              cases bw with
              | true =>
                have HN1 : Hid (D (q + 1) = D q ∧ G (q + 1) = G q) := by
                  have hm : n ∈ o.1 := HMO.out.1 rfl
                  refine ⟨?_, by rw [HDS.out.2.1, if_neg (fun h => h.2 hm)]⟩
                  rw [HDS.out.1]
                  unfold stpG
                  rw [if_pos hm]
                go_wp2_with fail
                go_roundw
                case rel => exact ⟨q + 1, b, hlt, rfl, by go_num, by rw [HN1.out.1, HN1.out.2]; exact hR.out⟩
                case measure => simp [intOf]; omega
              | false =>
                have HN1 : Hid (D (q + 1) = dropO (D q) n ∧ G (q + 1) = G q ++ [way ++ [n]]) := by
                  have hm : n ∉ o.1 := fun h => by have := HMO.out.2 h; cases this
                  refine ⟨?_, by rw [HDS.out.2.1, if_pos ⟨HML.out.1 rfl, hm⟩]⟩
                  rw [HDS.out.1]
                  unfold stpG
                  rw [if_neg hm]
                have hfe := HS.out.enter
                have CCL := Lib.hid (clone_strs A N c (way.map strW) wr (by rw [List.length_map]; exact HNW.out.1.symm) (fun u hu => by obtain ⟨s, _, rfl⟩ := List.mem_map.1 hu; rfl) (names_cells (HTR.out.names HN.out)) (by omega))
                clear CG1 CG2
                go_wp2_with fail
                refine Calls.mono CCL.out ?_
                rintro e w7 ⟨A3, c3, rfl, h7, x7⟩
                have H7 := Lib.hid h7
                have X7 := Lib.hid x7
                clear h7 x7
                go_wp2_with (at_builtin; refine append_g ty_strs rfl _ _ (by rfl) wr.heap.size N 1 _ (.slice A3 N c3) (.slice (some ⟨w7.heap.size, 0, none⟩) 1 1) (one (way.map strW)) [[.string nx]] (by rfl) (by rfl) (H7.out.ext (new_ext _ _)) (GSrc.one rfl (by simp [Value.oneCell']) (heap_new rfl)) (by rw [one_len, List.length_map]; exact HNW.out.1.symm) rfl (by omega) (Nat.le_trans X7.out.size (new_ext _ _).size) ?_; intro A4 c4 w8 h8 g8 o8; have X8 : Hid (Ext wr w8) := ext_row (X7.out.trans (new_ext _ _)) g8 (fun b e => (H7.out.block b e).1); have H8 : Hid (GRow 9 1 wr.heap.size w8 (.slice A4 (N + 1) c4) (one ((way ++ [n]).map strW))) := (by unfold Hid; rw [List.map_append, one_app]; rw [HNX.out] at h8; exact h8); clear h8 g8 o8)
                have HI8 := Lib.hid (HS.out.ext wr w8 _ HIR.out X8.out).1
                have HT8 := Lib.hid (HS.out.turn HIR.out X8.out)
                have HR8 := Lib.hid (row_names H8.out)
                have HN8 : Hid (NamesAt (Fp w8) w8 A4 (way ++ [n])) := HR8.out.2.2.keep (fun _ _ _ => rfl) (fun b hb _ => by rw [(HS.out.ext wr w8 _ HIR.out X8.out).2]; exact HS.out.new wr _ b HIR.out hb)
                have HW8 : Hid ((way ++ [n]).length = N + 1 ∧ ∀ s ∈ way ++ [n], s.length ≤ 1048576) := ⟨by rw [List.length_append, ← HNW.out.1]; rfl, fun s h => by
                  rcases List.mem_append.1 h with h | h
                  · exact HWY.out.2.1 s h
                  · rw [List.mem_singleton] at h; rw [h]; exact HNL.out⟩
                have CW := Lib.hid (HS.out.call w8 (ws ++ G q) (way ++ [n]) A4 c4 HI8.out HN8.out HR8.out.2.1 (by rw [HW8.out.1]; have h1 := HNW.out.1; have h2 := HWY.out.1; have h3 := bulk_low (ofO o); omega) HW8.out.2 (HRG.out q))
                rw [HW8.out.1] at CW
                refine Calls.mono CW.out ?_
                rintro e w9 ⟨rfl, t9, i9⟩
                have HI9 : Hid (I w9 (ws ++ G (q + 1))) := by unfold Hid; rw [HN1.out.2, ← List.append_assoc]; exact i9
                have HT9 : Hid (TurnP Fp wr w9) := HT8.out.trans t9
                have CO := Lib.hid (withoutF_any (Fp w9) b (D q) n w9 (fun g hg => HS.out.new w9 _ g HI9.out hg) (HT9.out.of hR.out.2.2) HDW.out.1 (by have := HDW.out.2; have := HLW.out.2; omega))
                rw [← HNX.out] at CO
                clear t9 i9 hfe
                go_wp2_with fail
                refine Calls.mono CO.out ?_
                rintro e w10 ⟨b', rfl, ho, x10⟩
                have HI10 := Lib.hid (HS.out.ext w9 w10 _ HI9.out x10).1
                have HT10 := Lib.hid (HT9.out.trans (HS.out.turn HI9.out x10))
                have HO10 : Hid (OF (Fp w10) w10 b' (D (q + 1))) := by unfold Hid; rw [HN1.out.1, (HS.out.ext w9 w10 _ HI9.out x10).2]; exact ho
                clear ho x10
                go_wp2_with fail
                go_roundw
                case rel => exact ⟨q + 1, b', hlt, rfl, by go_num, HI10.out, hR.out.2.1.trans HT10.out, HO10.out⟩
                case measure => simp [intOf]; omega
          · have hqM : q = M := by omega
            have bl : decide ((q : Int) < (M : Int)) = false := decide_eq_false (by omega)
            have bl2 : decide (q < M) = false := decide_eq_false hlt
            obtain ⟨GM, hGM⟩ : ∃ GM, GM = (goesT H L o).map fun n => way ++ [n] := ⟨_, rfl⟩
            have HEND := Lib.hid (HD.out.2.2.2.2 q (by rw [← HMH.out]; exact hqM))
            have HRM2 : Hid (∀ q (h1 : q < o.1.length), (ws ++ GM ++ P q).length + bulkO (objO (valO H o.1[q])) ≤ 2000000) := by rw [hGM]; exact HRM.out
            have HEE2 : Hid (∀ q, q = o.1.length → threeJ last live (ofO o) = ofO (E q) ∧ lostJ last live (ofO o) way = GM ++ P q) := by rw [hGM]; exact HEE.out.2.2.2.2
            have HIM : Hid (I wr (ws ++ GM)) := by unfold Hid; rw [hGM, ← HEND.out.2]; exact HIR.out
            have HOM : Hid (OF (Fp wr) wr b (keptT H L o)) := by unfold Hid; rw [← HEND.out.1]; exact hR.out.2.2
            have HBH : Hid (OF (Fp wr) wr b2 H) := hR.out.2.1.of H2.out.2.1
            have CN2 := Lib.hid (namesF_any (Fp wr) bo o wr (HTR.out.of HOB.out))
            rw [← HKO.out] at CN2
            obtain ⟨w5, hw5⟩ : ∃ w5, w5 = wr := ⟨_, rfl⟩
            rw [← hw5] at HIM HOM HBH CN2 HTR ⊢
            clear hlt hqM hGM hw5 hR HEND HIR
            go_wp2_with fail
            refine Calls.mono CN2.out ?_
            rintro e w3 ⟨A5, c5, rfl, hc5, hn5, rfl⟩
            have HN5 := Lib.hid hn5
            have HT5 := Lib.hid HTR.out
            clear hn5 HTR
            go_wp2_with fail
            go_loopw [13, 94] (fun p ix wr => ∃ (q b : Nat), q ≤ K ∧ p = .pointer (some ⟨b, 0, none⟩) ∧ ix = .int .i64 (q : Int) ∧ Hid (I wr (ws ++ GM ++ P q) ∧ TurnP Fp w5 wr ∧ OF (Fp wr) wr b (E q))) (fun _ ix _ => K - (intOf ix).toNat)
            case atStart => exact ⟨0, b, Nat.zero_le _, rfl, rfl, by rw [HEE.out.2.1, List.append_nil]; exact HIM.out, TurnP.refl, by rw [HEE.out.1]; exact HOM.out⟩
            case round =>
              obtain ⟨q, b, hq, rfl, rfl, hR⟩ := hrel
              have hq0 : (0 : Int) ≤ (q : Int) := by omega
              have HTR : Hid (TurnP Fp w wr) := HT5.out.trans hR.out.2.1
              have HIR := Lib.hid hR.out.1
              by_cases hlt : q < K
              · have h1 : q < o.1.length := by rw [← HKO.out]; exact hlt
                have h2 : q < o.2.length := by rw [← HOW.out.2.2]; exact h1
                obtain ⟨ga, oa, rfl, -, hca⟩ := (hR.out.2.1.names HN5.out) q h1
                have hltI : (q : Int) < (K : Int) := by omega
                have HES := Lib.hid (HEE.out.2.2.1 q h1 h2)
                have HEW := Lib.hid (HEE.out.2.2.2.1 q)
                have HQ := Lib.hid (HIH.out q h1 h2)
                have HRQ := Lib.hid (HRM2.out q h1)
                have CG1 := Lib.hid (getF_any (Fp wr) b2 H o.1[q] wr (hR.out.2.1.of HBH.out) HHW.out.1 (by have := HHW.out.2; omega))
                have CG2 := Lib.hid (getF_any (Fp wr) b (E q) o.1[q] wr hR.out.2.2 HEW.out.1 (by have := HEW.out.2; omega))
                have CG3 := Lib.hid (getF_any (Fp wr) bo o o.1[q] wr (HTR.out.of HOB.out) HOW.out.1 (by have := HOW.out.2.1; omega))
                obtain ⟨n, hn⟩ : ∃ n, n = o.1[q] := ⟨_, rfl⟩
                obtain ⟨x3, hx3⟩ : ∃ x, x = o.2[q] := ⟨_, rfl⟩
                rw [← hn, ← hx3] at HES HQ
                rw [← hn] at HRQ
                rw [← hn] at hca CG1 CG2 CG3
                obtain ⟨nx, hnx⟩ : ∃ s, s = bx n := ⟨_, rfl⟩
                rw [← hnx] at hca CG1 CG2 CG3
                have HNX := Lib.hid hnx
                have HNL : Hid (n.length ≤ 1048576) := HQ.out.2.2.2.1
                have CCL := Lib.hid (clone_strs A N c (way.map strW) wr (by rw [List.length_map]; exact HNW.out.1.symm) (fun u hu => by obtain ⟨s, _, rfl⟩ := List.mem_map.1 hu; rfl) (names_cells (HTR.out.names HN.out)) (by omega))
                clear hn hnx hx3 h1 h2
                go_wp2_with fail
                refine Calls.mono CG1.out ?_
                rintro e w5 ⟨u1, rfl, hu1, rfl⟩
                have HU1 := Lib.hid hu1
                clear hu1
                go_wp2_with fail
                refine Calls.mono CG2.out ?_
                rintro e w6 ⟨u2, rfl, hu2, rfl⟩
                have HU2 : Hid (PV (Fp wr) wr (valO L n) u2) := by unfold Hid; rw [← HES.out.2.2]; exact hu2
                clear hu2
                go_wp2_with fail
                refine Calls.mono CG3.out ?_
                rintro e w7 ⟨u3, rfl, hu3, rfl⟩
                have HU3 : Hid (PV (Fp wr) wr x3 u3) := by unfold Hid; rw [← HQ.out.2.2.2.2.1]; exact hu3
                clear hu3 CG1 CG2 CG3
                go_wp2_with fail
                refine Calls.mono CCL.out ?_
                rintro e w7 ⟨A3, c3, rfl, h7, x7⟩
                have H7 := Lib.hid h7
                have X7 := Lib.hid x7
                clear h7 x7
                go_wp2_with (at_builtin; refine append_g ty_strs rfl _ _ (by rfl) wr.heap.size N 1 _ (.slice A3 N c3) (.slice (some ⟨w7.heap.size, 0, none⟩) 1 1) (one (way.map strW)) [[.string nx]] (by rfl) (by rfl) (H7.out.ext (new_ext _ _)) (GSrc.one rfl (by simp [Value.oneCell']) (heap_new rfl)) (by rw [one_len, List.length_map]; exact HNW.out.1.symm) rfl (by omega) (Nat.le_trans X7.out.size (new_ext _ _).size) ?_; intro A4 c4 w8 h8 g8 o8; have X8 : Hid (Ext wr w8) := ext_row (X7.out.trans (new_ext _ _)) g8 (fun b e => (H7.out.block b e).1); have H8 : Hid (GRow 9 1 wr.heap.size w8 (.slice A4 (N + 1) c4) (one ((way ++ [n]).map strW))) := (by unfold Hid; rw [List.map_append, one_app]; rw [HNX.out] at h8; exact h8); clear h8 g8 o8)
                have HI8 := Lib.hid (HS.out.ext wr w8 _ HIR.out X8.out).1
                have HT8 := Lib.hid (HS.out.turn HIR.out X8.out)
                have HR8 := Lib.hid (row_names H8.out)
                have HN8 : Hid (NamesAt (Fp w8) w8 A4 (way ++ [n])) := HR8.out.2.2.keep (fun _ _ _ => rfl) (fun b hb _ => by rw [(HS.out.ext wr w8 _ HIR.out X8.out).2]; exact HS.out.new wr _ b HIR.out hb)
                have HW8 : Hid ((way ++ [n]).length = N + 1 ∧ ∀ s ∈ way ++ [n], s.length ≤ 1048576) := ⟨by rw [List.length_append, ← HNW.out.1]; rfl, fun s h => by
                  rcases List.mem_append.1 h with h | h
                  · exact HWY.out.2.1 s h
                  · rw [List.mem_singleton] at h; rw [h]; exact HNL.out⟩
                have CI := Lib.hid (HQ.out.1 f caps w0 Fp I (valO H n) (valO L n) u1 u2 u3 A4 c4 (way ++ [n]) (ws ++ GM ++ P q) w8 HS.out HI8.out (HT8.out.pv HU1.out) (HT8.out.pv HU2.out) (HT8.out.pv HU3.out) (HHW.out.1.val n) (HLW.out.1.val n) HQ.out.2.2.1 HQ.out.2.2.2.2.2.2 HQ.out.2.2.2.2.2.1 HN8.out HR8.out.2.1 (by rw [HW8.out.1]; have h1 := HWY.out.1; have h2 := HQ.out.2.1; have h3 := HNW.out.1; omega) HW8.out.2 HRQ.out)
                rw [HW8.out.1] at CI
                refine Calls.mono CI.out ?_
                rintro e w9 ⟨u9, rfl, hu9, t9, i9⟩
                have HI9 : Hid (I w9 (ws ++ GM ++ P (q + 1))) := by unfold Hid; rw [HES.out.2.1, ← List.append_assoc]; exact i9
                have HT9 : Hid (TurnP Fp wr w9) := HT8.out.trans t9
                have CO := Lib.hid (withF_any (Fp w9) b (E q) n (threeJ (valO H n) (valO L n) x3) u9 w9 (fun g hg => HS.out.new w9 _ g HI9.out hg) (HT9.out.of hR.out.2.2) HEW.out.1 (by have := HEW.out.2; omega) hu9)
                rw [← HNX.out] at CO
                clear t9 i9 hu9
                go_wp2_with fail
                refine Calls.mono CO.out ?_
                rintro e w10 ⟨b', rfl, ho, x10⟩
                have HI10 := Lib.hid (HS.out.ext w9 w10 _ HI9.out x10).1
                have HT10 := Lib.hid (HT9.out.trans (HS.out.turn HI9.out x10))
                have HO10 : Hid (OF (Fp w10) w10 b' (E (q + 1))) := by unfold Hid; rw [HES.out.1, (HS.out.ext w9 w10 _ HI9.out x10).2]; exact ho
                clear ho x10
                go_wp2_with fail
                go_roundw
                case rel => exact ⟨q + 1, b', hlt, rfl, by go_num, HI10.out, hR.out.2.1.trans HT10.out, HO10.out⟩
                case measure => simp [intOf]; omega
              · have hqK : q = K := by omega
                have bl : decide ((q : Int) < (K : Int)) = false := decide_eq_false (by omega)
                have bl2 : decide (q < K) = false := decide_eq_false hlt
                have HEND := Lib.hid (HEE2.out q (by rw [← HKO.out]; exact hqK))
                clear hlt hqK
                go_wp2_with fail
                go_ret
                exact ⟨_, rfl, by rw [HEND.out.1]; exact PV_ofO.2 ⟨b, rfl, hR.out.2.2⟩, HTR.out, by rw [HEND.out.2, ← List.append_assoc]; exact HIR.out⟩
theorem intoT_all : ∀ (m : Nat) (v : J), SizeOf.sizeOf v ≤ m → IntoTC v
  | m, v, hm => by
    cases hv : isObj v with
    | false => exact intoT_flat v hv
    | true =>
      rw [obj_of hv] at hm ⊢
      cases m with
      | zero => unfold ofO at hm; rw [J.obj.sizeOf_spec] at hm; omega
      | succ m => exact intoT_obj (objO v) fun n x hx => intoT_all m x (by have := kid_size hx; omega)
theorem intoT_val (v : J) : IntoTC v := intoT_all _ v (Nat.le_refl _)
end Go.Proofs.YtnccefeehkcneaaGreatDoor.Jm
