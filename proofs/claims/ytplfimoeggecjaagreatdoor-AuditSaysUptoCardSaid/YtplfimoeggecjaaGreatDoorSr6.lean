/-
  The reference's tables in memory: three rows, apart.
-/
import Derived.Test.YtplfimoeggecjaaGreatDoorSr4
import Derived.Test.YtplfimoeggecjaaGreatDoorSr5
import Derived.Test.YtplfimoeggecjaaGreatDoorWrow
import Derived.Test.YtplfimoeggecjaaGreatDoorSh8
import Derived.Lib.ConvBytes
namespace Go.Proofs.YtplfimoeggecjaaGreatDoor.Sx
open Go Go.RowKit

/-- A root, as a word. -/
def rtw (n p : Nat) : W32 := BitVec.ofNat 32 (rt p n 37)
theorem root_w (p n : Nat) (w : World) (hn : n = 2 ∨ n = 3) (hp : p ≤ 311) :
    Calls Tryz.prog 84 #[.int .u64 (p : Int), .int .i64 (n : Int)] w fun e w' => e = .returned (.int .u32 ((rtw n p).toNat : Int)) ∧ Ext w w' :=
  (root_any p n w hn hp).mono fun e w' ⟨he, hx⟩ => ⟨by rw [he]; unfold rtw; rw [BitVec.toNat_ofNat], hx⟩
theorem root_2 (p : Nat) (w : World) (hp : p ≤ 311) : Calls Tryz.prog 84 #[.int .u64 (p : Int), .int .i64 2] w fun e w' => e = .returned (.int .u32 ((rtw 2 p).toNat : Int)) ∧ Ext w w' := root_w p 2 w (.inl rfl) hp
theorem root_3 (p : Nat) (w : World) (hp : p ≤ 311) : Calls Tryz.prog 84 #[.int .u64 (p : Int), .int .i64 3] w fun e w' => e = .returned (.int .u32 ((rtw 3 p).toNat : Int)) ∧ Ext w w' := root_w p 3 w (.inr rfl) hp
/-- What loop 1 has gathered: eight words and sixty-four. -/
def P64 : List Nat := prs 312
theorem P64_len : P64.length = 64 := prs_all
theorem P64_mem {q : Nat} (h : q ∈ P64) : q ≤ 311 := by have := prs_mem 312 q h; omega
def hls : List W32 := (P64.take 8).map (rtw 2)
def kls : List W32 := P64.map (rtw 3)
theorem map_snoc {α β : Type} (f : α → β) (L : List α) {i : Nat} (h : i < L.length) : (L.map f).take (i + 1) = (L.map f).take i ++ [f L[i]] := by
  rw [List.take_succ_eq_append_getElem (by simpa using h), List.getElem_map]
theorem map_snoc' {α β : Type} (f : α → β) (L : List α) {i n : Nat} (h : i < n) (hn : i < L.length) : ((L.take n).map f).take (i + 1) = ((L.take n).map f).take i ++ [f L[i]] := by
  rw [map_snoc f (L.take n) (by rw [List.length_take]; omega), List.getElem_take]
theorem hls_len : hls.length = 8 := by unfold hls; rw [List.length_map, List.length_take, P64_len]; rfl
theorem kls_len : kls.length = 64 := by unfold kls; rw [List.length_map, P64_len]
theorem hls_snoc {i : Nat} (h : i < 8) (hi : i < P64.length) : hls.take (i + 1) = hls.take i ++ [rtw 2 P64[i]] := map_snoc' (rtw 2) P64 h hi
theorem kls_snoc {i : Nat} (hi : i < P64.length) : kls.take (i + 1) = kls.take i ++ [rtw 3 P64[i]] := map_snoc (rtw 3) P64 hi
theorem hls_eq : hls = [h0.a, h0.b, h0.c, h0.d, h0.e, h0.f, h0.g, h0.h] := roots2
theorem kk_P64 : P64.map (fun p => rt p 3 37 % 4294967296) = kk := roots3
theorem ofNat_mod (x : Nat) : BitVec.ofNat 32 x = BitVec.ofNat 32 (x % 4294967296) := by
  apply BitVec.eq_of_toNat_eq
  rw [BitVec.toNat_ofNat, BitVec.toNat_ofNat]
  omega
theorem kls_gen (f : Nat → Nat) (L : List Nat) (K : List Nat) (h : L.map (fun p => f p % 4294967296) = K) {n : Nat} (hn : n < L.length) : (L.map fun p => BitVec.ofNat 32 (f p))[n]? = some (BitVec.ofNat 32 (K.getD n 0)) := by
  subst h
  rw [List.getElem?_map, List.getD_eq_getElem?_getD, List.getElem?_map, List.getElem?_eq_getElem hn, Option.map_some, Option.map_some, Option.getD_some, ofNat_mod (f L[n])]
theorem kls_at {n : Nat} (h : n < 64) : kls[n]? = some (kw n) := kls_gen (fun p => rt p 3 37) P64 kk kk_P64 (by rw [P64_len]; exact h)
/-- u's block is none of v's. -/
def Apart (u v : Value) : Prop := ∀ g, u.ownBlock = some g → v.ownBlock ≠ some g
theorem Apart.symm {u v : Value} (h : Apart u v) : Apart v u := fun g h1 h2 => h g h2 h1
structure Tab (w wr : World) (vh vk : Value) (lh lk : List W32) (vp : Value) : Prop where
  h : wBRow w.heap.size wr vh lh
  k : wBRow w.heap.size wr vk lk
  p : qBRow w.heap.size wr vp P64
  x : Ext w wr
  hk : Apart vh vk
  hp : Apart vh vp
  kp : Apart vk vp
section
variable {w wr w' : World} {vh vk vh' vk' vp : Value} {lh lk l' : List W32}
theorem Tab.ext (h : Tab w wr vh vk lh lk vp) (hx : Ext wr w') : Tab w w' vh vk lh lk vp := ⟨h.h.ext hx, h.k.ext hx, h.p.ext hx, h.x.trans hx, h.hk, h.hp, h.kp⟩
theorem Tab.stepH (h : Tab w wr vh vk lh lk vp) (h1 : wBRow w.heap.size w' vh' l') (h2 : wr.grownBy w' vh.ownBlock) (h3 : vh'.ownBlock = vh.ownBlock ∨ vh'.ownBlock = some wr.heap.size) : Tab w w' vh' vk l' lk vp := by
  refine ⟨h1, h.k.kept h2 (fun g hg e => h.hk g e hg), h.p.kept h2 (fun g hg e => h.hp g e hg), Below.trans h.x (h.h.below h2 h.x.size), fun g hg => ?_, fun g hg => ?_, h.kp⟩
  · rcases h3 with h3 | h3
    · exact h.hk g (by rw [← h3]; exact hg)
    · intro e; have := (h.k.block g e).2; rw [h3] at hg; injection hg with hg; omega
  · rcases h3 with h3 | h3
    · exact h.hp g (by rw [← h3]; exact hg)
    · intro e; have := (h.p.block g e).2; rw [h3] at hg; injection hg with hg; omega
theorem Tab.stepK (h : Tab w wr vh vk lh lk vp) (h1 : wBRow w.heap.size w' vk' l') (h2 : wr.grownBy w' vk.ownBlock) (h3 : vk'.ownBlock = vk.ownBlock ∨ vk'.ownBlock = some wr.heap.size) : Tab w w' vh vk' lh l' vp := by
  refine ⟨h.h.kept h2 (fun g hg e => h.hk.symm g e hg), h1, h.p.kept h2 (fun g hg e => h.kp g e hg), Below.trans h.x (h.k.below h2 h.x.size), fun g hg => ?_, h.hp, fun g hg => ?_⟩
  · rcases h3 with h3 | h3
    · intro e; exact h.hk g hg (by rw [← h3]; exact e)
    · intro e; have := (h.h.block g hg).2; rw [h3] at e; injection e with e; omega
  · rcases h3 with h3 | h3
    · exact h.kp g (by rw [← h3]; exact hg)
    · intro e; have := (h.p.block g e).2; rw [h3] at hg; injection hg with hg; omega
end
theorem Tab.start {w wr : World} {vp : Value} (h : qAcc w wr vp P64) : Tab w wr (.slice none 0 0) (.slice none 0 0) [] [] vp :=
  ⟨.nil, .nil, h.1, h.2, fun g hg => by simp [Value.ownBlock] at hg, fun g hg => by simp [Value.ownBlock] at hg, fun g hg => by simp [Value.ownBlock] at hg⟩
theorem repeat_zero : ∀ z, Lib.repeatL [0] z = List.replicate z 0
  | 0 => rfl
  | z + 1 => by rw [Lib.repeatL, repeat_zero z]; rfl
theorem rep_any (z : Nat) (w : World) (hz : z ≤ 1048576) : Calls Tryz.prog 85 #[.string (sgn 0), .int .i64 (z : Int)] w fun e w' => e = .returned (.string (bs (List.replicate z 0))) ∧ Ext w w' :=
  (Tryz.strings_Repeat (sgn 0) z w (by omega) (by have : (sgn 0).size = 1 := rfl; rw [this]; omega)).mono fun e w' ⟨he, hx⟩ => ⟨by rw [he]; show Ending.returned (.string ⟨(Lib.repeatL [0] z).toArray⟩) = _; rw [repeat_zero]; rfl, hx⟩
theorem and255 (n : Nat) (h : n < 18446744073709551616) : bits BinOp.and IntKind.u64 (n : Int) 255 = ((n % 256 : Nat) : Int) := by
  show IntKind.u64.wrap ((BitVec.ofInt 64 (n : Int) &&& BitVec.ofInt 64 255).toNat : Int) = _
  have e1 : (BitVec.ofInt 64 (n : Int)).toNat = n := by simp; omega
  have e2 : (BitVec.ofInt 64 255).toNat = 2 ^ 8 - 1 := by decide
  rw [BitVec.toNat_and, e1, e2, Nat.and_two_pow_sub_one_eq_mod, IntKind.wrap_u64]
  omega
theorem be_ref (n : Nat) (D : Int) (d : Nat) (hD : D = (d : Int)) (h : n ≤ 1073741824) : wrap64 (bits BinOp.and IntKind.u64 (8 * (n : Int) / D) 255) = ((UInt8.ofNat (8 * n / d)).toNat : Int) := by
  have hd : 8 * n / d ≤ 8 * n := Nat.div_le_self _ _
  have e : 8 * (n : Int) / D = ((8 * n / d : Nat) : Int) := by rw [hD, Int.natCast_ediv]; rfl
  rw [e, and255 _ (by omega)]
  have e2 : wrap64 (((8 * n / d % 256 : Nat)) : Int) = ((8 * n / d % 256 : Nat) : Int) := by
    generalize 8 * n / d = q at *
    unfold wrap64
    omega
  rw [e2]
  simp
theorem be_ref0 (n : Nat) (h : n ≤ 1073741824) : wrap64 (bits BinOp.and IntKind.u64 (8 * (n : Int)) 255) = ((UInt8.ofNat (8 * n)).toNat : Int) := by
  have h1 := be_ref n 1 1 rfl h
  rw [Int.ediv_one, Nat.div_one] at h1
  exact h1
theorem bs_snoc' (l m : List UInt8) (c : UInt8) : bs (l ++ m) ++ sgn c = bs (l ++ (m ++ [c])) := by
  apply ByteArray.ext
  simp [bs, sgn]
def St.list (s : St) : List W32 := [s.a, s.b, s.c, s.d, s.e, s.f, s.g, s.h]
/-- The tables, each in its block: the sums so far, the constants. -/
structure Tabs (w : World) (gh gk : Nat) (rh rk : List Value) (lh : List W32) (wr : World) : Prop where
  h : wr.heap[gh]? = some (.cells (wbvals lh ++ rh).toArray wu8T (0, 0))
  k : wr.heap[gk]? = some (.cells (wbvals kls ++ rk).toArray wu8T (0, 0))
  x : Ext w wr
  le : w.heap.size ≤ gh
  ne : gh ≠ gk
theorem wBRow.open {base : Nat} {w : World} {v : Value} {l : List W32} (h : wBRow base w v l) (h0 : 0 < l.length) : ∃ g r, v = .slice (some ⟨g, 0, none⟩) l.length (l.length + r.length) ∧ base ≤ g ∧ w.heap[g]? = some (.cells (wbvals l ++ r).toArray wu8T (0, 0)) := by
  rcases h with ⟨_, rfl⟩ | ⟨g, r, hv, hb, hg, _⟩
  · simp at h0
  · exact ⟨g, r, hv, hb, hg⟩
theorem Tabs.of_tab {w wr : World} {Ah Ak : Option Addr} {ch ck n m : Nat} {vp : Value} {lh : List W32} (h : Tab w wr (.slice Ah n ch) (.slice Ak m ck) lh kls vp) (h0 : 0 < lh.length) :
    ∃ gh gk rh rk, Ah = some ⟨gh, 0, none⟩ ∧ Ak = some ⟨gk, 0, none⟩ ∧ Tabs w gh gk rh rk lh wr := by
  obtain ⟨gh, rh, hv, hb, hg⟩ := h.h.open h0
  obtain ⟨gk, rk, hv2, hb2, hg2⟩ := h.k.open (by rw [kls_len]; decide)
  injection hv with e1 _ _
  injection hv2 with e2 _ _
  subst e1 e2
  exact ⟨gh, gk, rh, rk, rfl, rfl, hg, hg2, h.x, hb, fun e => h.hk gh rfl (by rw [e]; rfl)⟩
theorem Tabs.ext {w wr w' : World} {gh gk : Nat} {rh rk : List Value} {lh : List W32} (h : Tabs w gh gk rh rk lh wr) (hx : Ext wr w') : Tabs w gh gk rh rk lh w' :=
  ⟨(hx.block _ (heap_lt h.h)).trans h.h, (hx.block _ (heap_lt h.k)).trans h.k, h.x.trans hx, h.le, h.ne⟩
theorem not_empty {s : ByteArray} (h : 0 < s.size) : s.toList.isEmpty = false := by
  rw [ByteArray.toList_eq, List.isEmpty_eq_false_iff]
  intro e
  have : s.data.toList.length = 0 := by rw [e]; rfl
  have h' : s.data.toList.length = s.size := by simp
  omega
theorem is_empty {s : ByteArray} (h : s.size = 0) : s.toList.isEmpty = true := by
  rw [ByteArray.toList_eq, List.isEmpty_iff]
  apply List.eq_nil_of_length_eq_zero
  have h' : s.data.toList.length = s.size := by simp
  omega
/-- The tables, and the 64 words under way. -/
structure TabW (w : World) (gh gk : Nat) (rh rk : List Value) (lh : List W32) (g9 : Nat) (cs : Array Value) (wr : World) : Prop extends Tabs w gh gk rh rk lh wr where
  o : wr.heap[g9]? = some (.cells cs 114 (0, 0))
  n1 : g9 ≠ gh
  n2 : g9 ≠ gk
  l9 : w.heap.size ≤ g9
theorem TabW.start {w wr : World} {gh gk : Nat} {rh rk : List Value} {lh : List W32} {cs : Array Value} (h : Tabs w gh gk rh rk lh wr) : TabW w gh gk rh rk lh wr.heap.size cs (wr.alloc (.cells cs 114 (0, 0))) :=
  { toTabs := h.ext (new_ext _ _), o := heap_new rfl, n1 := fun e => by have := heap_lt h.h; omega, n2 := fun e => by have := heap_lt h.k; omega, l9 := h.x.size }
theorem TabW.ext {w wr w' : World} {gh gk g9 : Nat} {rh rk : List Value} {lh : List W32} {cs : Array Value} (h : TabW w gh gk rh rk lh g9 cs wr) (hx : Ext wr w') : TabW w gh gk rh rk lh g9 cs w' :=
  { toTabs := h.toTabs.ext hx, o := (hx.block _ (heap_lt h.o)).trans h.o, n1 := h.n1, n2 := h.n2, l9 := h.l9 }
theorem TabW.set {w wr : World} {gh gk g9 i : Nat} {rh rk : List Value} {lh : List W32} {cs : Array Value} (h : TabW w gh gk rh rk lh g9 cs wr) (v : Value) : TabW w gh gk rh rk lh g9 (cs.setIfInBounds i v) (wr.setCell ⟨g9, i, none⟩ v) :=
  { h := by rw [heap_setCell_other _ _ _ _ (fun e => h.n1 e.symm)]; exact h.h
    k := by rw [heap_setCell_other _ _ _ _ (fun e => h.n2 e.symm)]; exact h.k
    x := h.x.setCell (p := ⟨g9, i, none⟩) h.l9 _
    le := h.le
    ne := h.ne
    o := heap_setCell_same _ _ _ _ _ _ h.o
    n1 := h.n1, n2 := h.n2, l9 := h.l9 }
theorem wSrcB.of_one {w : World} {g c : Nat} {y : W32} (h : w.heap[g]? = some (.cells #[.int .u32 (y.toNat : Int)] wu8T (0, 0))) : wSrcB w (.slice (some ⟨g, 0, none⟩) 1 c) [y] := wSrcB.of_block (ys := [y]) h
theorem text_bytes (X : ByteArray) (l : List UInt8) (hl : X.data.toList = l) (w : World) : ∃ c wx, (convert 9 93 (.string X)).run Tryz.prog w = .ok (.slice (some ⟨w.heap.size, 0, none⟩) l.length c) wx ∧ Ext w wx ∧ BytesAt wx w.heap.size 0 l := by
  subst hl
  have hs : X.data.toList.length = X.size := by simp
  refine ⟨_, Lib.bytesWorld w 5 X, by rw [hs]; exact Lib.run_convert_string_bytes w 9 93 5 X Tryz.underlying9 Tryz.underlying93 Tryz.underlying5, ⟨rfl, rfl, rfl, ?_, fun k hk => Lib.bytesWorld_at_old w _ X k hk⟩, ?_, fun j hj => ?_⟩
  · rw [Lib.bytesWorld_size]; omega
  · rw [Lib.bytesWorld_size]; omega
  · rw [Nat.zero_add, Lib.bytesWorld_cell w _ X j (by omega), List.getD_eq_getElem?_getD, List.getElem?_eq_getElem hj]
    rfl
/-- The first j bytes, as a word. -/
def vj (l : List UInt8) (j : Nat) : W32 := (l.take j).foldl (fun v c => v * 256#32 + BitVec.ofNat 32 c.toNat) 0#32
theorem vj_succ {l : List UInt8} {j : Nat} (h : j < l.length) : vj l (j + 1) = vj l j * 256#32 + BitVec.ofNat 32 l[j].toNat := by
  unfold vj
  rw [List.take_succ_eq_append_getElem h, List.foldl_append]
  rfl
theorem vj_four (x y z u : UInt8) : vj [x, y, z, u] 4 = wordOf x y z u := by
  apply BitVec.eq_of_toNat_eq
  have hx := x.toNat_lt; have hy := y.toNat_lt; have hz := z.toNat_lt; have hu := u.toNat_lt
  simp only [vj, wordOf, List.take_succ_cons, List.take_zero, List.foldl_cons, List.foldl_nil, BitVec.toNat_add, BitVec.toNat_mul, BitVec.toNat_ofNat]
  omega
theorem four_of {r : List UInt8} {i : Nat} (h : 64 ≤ r.length) (hi : i < 16) : ∃ x y z u, ((bs r).extract (4 * i) (4 * i + 4)).data.toList = [x, y, z, u] ∧ bw (r.take 64) i = wordOf x y z u := by
  refine ⟨r[4 * i], r[4 * i + 1], r[4 * i + 2], r[4 * i + 3], ?_, ?_⟩
  · have e : ((bs r).extract (4 * i) (4 * i + 4)).data.toList = (r.drop (4 * i)).take 4 := by
      simp [bs, List.extract_eq_take_drop]
    rw [e, List.drop_eq_getElem_cons (by omega), List.drop_eq_getElem_cons (by omega), List.drop_eq_getElem_cons (by omega), List.drop_eq_getElem_cons (by omega)]
    rfl
  · unfold bw
    simp only [List.getD_eq_getElem?_getD]
    rw [List.getElem?_take_of_lt (by omega), List.getElem?_take_of_lt (by omega), List.getElem?_take_of_lt (by omega), List.getElem?_take_of_lt (by omega), List.getElem?_eq_getElem (by omega), List.getElem?_eq_getElem (by omega), List.getElem?_eq_getElem (by omega), List.getElem?_eq_getElem (by omega)]
    rfl
theorem setIf_same {cs : Array Value} {i : Nat} {v : Value} (h : cs[i]? = some v) : cs.setIfInBounds i v = cs := by
  apply Array.ext_getElem?
  intro j
  rw [Array.getElem?_setIfInBounds]
  by_cases hj : i = j
  · subst hj
    have := (Array.getElem?_eq_some_iff.1 h).1
    rw [if_pos rfl, if_pos this, h]
  · rw [if_neg hj]
theorem setIf_at {cs : Array Value} {i : Nat} {v : Value} (h : i < cs.size) : (cs.setIfInBounds i v)[i]? = some v := by
  rw [Array.getElem?_setIfInBounds, if_pos rfl, if_pos h]
theorem setIf_set {cs : Array Value} {i : Nat} {v u : Value} : (cs.setIfInBounds i v).setIfInBounds i u = cs.setIfInBounds i u := by simp
theorem w_horner (v : W32) (c : UInt8) : ((v.toNat : Int) * 256 + (c.toNat : Int)) % 4294967296 = ((v * 256#32 + BitVec.ofNat 32 c.toNat).toNat : Int) := by
  have hc := c.toNat_lt
  simp only [BitVec.toNat_add, BitVec.toNat_mul, BitVec.toNat_ofNat]
  omega
/-- The same world, but for draws. -/
def SameW (a b : World) : Prop := ∃ k, b = a.drewN k
theorem SameW.trans {a b c : World} (h : SameW a b) (k : ∃ n, c = b.drewN n) : SameW a c := by
  obtain ⟨n, rfl⟩ := h
  obtain ⟨m, rfl⟩ := k
  exact ⟨n + m, by rw [World.drewN_drewN]⟩
theorem SameW.drew {a b : World} (h : SameW a b) : SameW a b.drew := h.trans ⟨1, rfl⟩
theorem SameW.cell {a b : World} (h : SameW a b) (p : Addr) : b.cell? p = a.cell? p := by obtain ⟨n, rfl⟩ := h; simp
theorem SameW.frozen {a b : World} (h : SameW a b) (p : Addr) : b.frozen? p = a.frozen? p := by obtain ⟨n, rfl⟩ := h; simp
theorem SameW.ext {a b : World} (h : SameW a b) : Ext a b := by obtain ⟨n, rfl⟩ := h; exact drewN_ext _ _
theorem turn_of (x : W32) (m : Int) (h : m ∈ [(2 : Int), 6, 7, 11, 13, 17, 18, 19, 22, 25]) (w : World) : Calls Tryz.prog 87 #[.int .u32 (x.toNat : Int), .int .i64 m] w fun e w' => e = .returned (.int .u32 ((rotr x m.toNat).toNat : Int)) ∧ ∃ k, w' = w.drewN k := by
  simp only [List.mem_cons, List.not_mem_nil, or_false] at h
  rcases h with rfl | rfl | rfl | rfl | rfl | rfl | rfl | rfl | rfl | rfl
  · exact turn_2 x w
  · exact turn_6 x w
  · exact turn_7 x w
  · exact turn_11 x w
  · exact turn_13 x w
  · exact turn_17 x w
  · exact turn_18 x w
  · exact turn_19 x w
  · exact turn_22 x w
  · exact turn_25 x w
theorem w_sched2 (a b c d : W32) : ((((a.toNat : Int) + bits BinOp.xor IntKind.u32 (bits BinOp.xor IntKind.u32 ((rotr b 7).toNat : Int) ((rotr b 18).toNat : Int)) ((b.toNat : Int) / 8)) % 4294967296 + (c.toNat : Int)) % 4294967296 + bits BinOp.xor IntKind.u32 (bits BinOp.xor IntKind.u32 ((rotr d 17).toNat : Int) ((rotr d 19).toNat : Int)) ((d.toNat : Int) / 1024)) % 4294967296 = ((a + ssig0 b + c + ssig1 d).toNat : Int) := by
  have h := w_sched a b c d
  simp only [IntKind.wrap_u32'] at h
  exact h
/-- The working row after a copy: its block. -/
structure TabV (w : World) (gh gk : Nat) (rh rk : List Value) (lh : List W32) (g9 : Nat) (cs : Array Value) (gv : Nat) (rv : List Value) (lv : List W32) (wr : World) : Prop extends TabW w gh gk rh rk lh g9 cs wr where
  v : wr.heap[gv]? = some (.cells (wbvals lv ++ rv).toArray wu8T (0, 0))
  m1 : gv ≠ gh
  m2 : gv ≠ gk
  m3 : gv ≠ g9
  lv : w.heap.size ≤ gv
theorem TabW.withV {w wr w' : World} {gh gk g9 gv : Nat} {rh rk rv : List Value} {lh lv : List W32} {cs : Array Value} (h : TabW w gh gk rh rk lh g9 cs wr) (hx : Ext wr w') (hv : w'.heap[gv]? = some (.cells (wbvals lv ++ rv).toArray wu8T (0, 0))) (hg : wr.heap.size ≤ gv) : TabV w gh gk rh rk lh g9 cs gv rv lv w' :=
  { toTabW := h.ext hx, v := hv, m1 := fun e => by have := heap_lt h.h; omega, m2 := fun e => by have := heap_lt h.k; omega, m3 := fun e => by have := heap_lt h.o; omega, lv := Nat.le_trans h.x.size hg }
theorem TabV.ext {w wr w' : World} {gh gk g9 gv : Nat} {rh rk rv : List Value} {lh lv : List W32} {cs : Array Value} (h : TabV w gh gk rh rk lh g9 cs gv rv lv wr) (hx : Ext wr w') : TabV w gh gk rh rk lh g9 cs gv rv lv w' :=
  { toTabW := h.toTabW.ext hx, v := (hx.block _ (heap_lt h.v)).trans h.v, m1 := h.m1, m2 := h.m2, m3 := h.m3, lv := h.lv }
theorem row_cell {w : World} {g j : Nat} {l : List W32} {r : List Value} {x : W32} (h : w.heap[g]? = some (.cells (wbvals l ++ r).toArray wu8T (0, 0))) (hx : l[j]? = some x) : w.cell? ⟨g, j, none⟩ = some (.int .u32 (x.toNat : Int)) := by
  have hj := (List.getElem?_eq_some_iff.1 hx).1
  rw [cell_of h, List.getElem?_toArray, List.getElem?_append_left (by rw [wbvals_len]; exact hj)]
  simp [wbvals, wbval, hx]
theorem row_set {w : World} {g j : Nat} {l : List W32} {r : List Value} (x : W32) (h : w.heap[g]? = some (.cells (wbvals l ++ r).toArray wu8T (0, 0))) (hj : j < l.length) : (w.setCell ⟨g, j, none⟩ (.int .u32 (x.toNat : Int))).heap[g]? = some (.cells (wbvals (l.set j x) ++ r).toArray wu8T (0, 0)) := by
  rw [heap_setCell_same _ _ _ _ _ _ h]
  congr 2
  simp only [List.setIfInBounds_toArray]
  rw [List.set_append_left _ _ (by rw [wbvals_len]; exact hj)]
  simp [wbvals, wbval, List.map_set]
set_option maxRecDepth 100000 in
theorem copyW_any (l : List W32) (g c : Nat) (r : List Value) (w : World) (hg : w.heap[g]? = some (.cells (wbvals l ++ r).toArray wu8T (0, 0))) (h0 : 0 < l.length) (hs : l.length ≤ 1048576) :
    Calls Tryz.prog 88 #[.slice (some ⟨g, 0, none⟩) l.length c] w fun e w' => ∃ gv rv, e = .returned (.slice (some ⟨gv, 0, none⟩) l.length (l.length + rv.length)) ∧ w'.heap[gv]? = some (.cells (wbvals l ++ rv).toArray wu8T (0, 0)) ∧ w.heap.size ≤ gv ∧ Ext w w' := by
  have HSRC : Hid (wSrcB w (.slice (some ⟨g, 0, none⟩) l.length c) l) := .inr ⟨_, c, rfl, fun j u hj => by
    have hj' := (List.getElem?_eq_some_iff.1 hj).1
    rw [Addr.add_lit, Nat.zero_add, cell_of hg, List.getElem?_toArray, List.getElem?_append_left hj']
    exact hj⟩
  have HG := Lib.hid hg
  obtain ⟨n, hn⟩ : ∃ n, n = l.length := ⟨_, rfl⟩
  rw [← hn] at HSRC
  rw [← hn]
  have HN := Lib.hid hn
  clear hg hn
  go_enter Tryz.func88, Tryz.ntmps88
  go_wp2_with (at_builtin; refine wappend_acc rfl _ _ (by rfl) 0 n w _ _ _ [] l (by rfl) (by rfl) (wAcc.nil (Below.refl _ _)) HSRC.out rfl HN.out.symm (by have := HN.out; omega) ?_; intro A1 c1 w1 h1; have H1 := Lib.hid h1; clear h1)
  go_ret
  obtain ⟨h1, h2⟩ := H1.out
  rw [List.nil_append, Nat.zero_add] at h1
  obtain ⟨gv, rv, hv, hb, hg⟩ := h1.open h0
  injection hv with e1 e2 e3
  refine ⟨gv, rv, ?_, hg, hb, h2⟩
  rw [e1, e3, ← HN.out]
  simp
theorem copyW8 (st : St) (g c : Nat) (r : List Value) (w : World) (hg : w.heap[g]? = some (.cells (wbvals st.list ++ r).toArray wu8T (0, 0))) :
    Calls Tryz.prog 88 #[.slice (some ⟨g, 0, none⟩) 8 c] w fun e w' => ∃ gv rv, e = .returned (.slice (some ⟨gv, 0, none⟩) 8 (8 + rv.length)) ∧ w'.heap[gv]? = some (.cells (wbvals st.list ++ rv).toArray wu8T (0, 0)) ∧ w.heap.size ≤ gv ∧ Ext w w' :=
  copyW_any st.list g c r w hg (show 0 < 8 by omega) (show 8 ≤ 1048576 by omega)
theorem w_most (a b c : W32) : bits BinOp.or IntKind.u32 (bits BinOp.or IntKind.u32 (bits BinOp.and IntKind.u32 (a.toNat : Int) (b.toNat : Int)) (bits BinOp.and IntKind.u32 (a.toNat : Int) (c.toNat : Int))) (bits BinOp.and IntKind.u32 (b.toNat : Int) (c.toNat : Int)) = ((majP a b c).toNat : Int) := by
  rw [w_and, w_and, w_and, w_or, w_or, ← maj_same]
  rfl
theorem w_t1r (q : St) (k w : W32) : (((q.h.toNat : Int) + bits BinOp.xor IntKind.u32 (bits BinOp.xor IntKind.u32 ((rotr q.e 6).toNat : Int) ((rotr q.e 11).toNat : Int)) ((rotr q.e 25).toNat : Int) + bits BinOp.or IntKind.u32 (bits BinOp.and IntKind.u32 (q.e.toNat : Int) (q.f.toNat : Int)) (bits BinOp.and IntKind.u32 (bits BinOp.xor IntKind.u32 (if IntKind.u32.signed = true then -1 else IntKind.u32.max) (q.e.toNat : Int)) (q.g.toNat : Int)) + (k.toNat : Int)) % 4294967296 + (w.toNat : Int)) % 4294967296 = ((q.t1 k w).toNat : Int) := by
  rw [w_not, w_xor, w_xor, w_and, w_and, w_or]
  have e : q.e &&& q.f ||| ~~~q.e &&& q.g = chP q.e q.f q.g := ch_same q.e q.f q.g
  rw [e]
  unfold St.t1 bsig1
  simp only [BitVec.toNat_add]
  omega
theorem w_t2r (q : St) : (bits BinOp.xor IntKind.u32 (bits BinOp.xor IntKind.u32 ((rotr q.a 2).toNat : Int) ((rotr q.a 13).toNat : Int)) ((rotr q.a 22).toNat : Int) + ((majP q.a q.b q.c).toNat : Int)) % 4294967296 = (q.t2.toNat : Int) := by
  rw [w_xor, w_xor, w_add]
  rfl
theorem take7 (q : St) : q.list.take 7 = [q.a, q.b, q.c, q.d, q.e, q.f, q.g] := rfl
theorem ext_of_grown_new {w w' : World} {o : Obj} (h : (w.alloc o).grownBy w' (some w.heap.size)) : Ext w w' :=
  ⟨h.os, h.tape, h.output, by have := h.size; simp at this; omega, fun k hk => (h.block k (by simp; omega) (fun e => by injection e with e; omega)).trans (Below.heap_alloc w o k hk)⟩
theorem wBRow.lit {w : World} (x : W32) : wBRow w.heap.size (w.alloc (.cells #[.int .u32 (x.toNat : Int)] wu8T (0, 0))) (.slice (some ⟨w.heap.size, 0, none⟩) 1 1) [x] :=
  .inr ⟨w.heap.size, [], rfl, Nat.le_refl _, heap_new rfl, by unfold maxLen; simp⟩
theorem src7 {w : World} {gv cv : Nat} {l : List W32} {r : List Value} (h : w.heap[gv]? = some (.cells (wbvals l ++ r).toArray wu8T (0, 0))) (hl : 7 ≤ l.length) : wSrcB w (.slice (some ⟨gv, 0, none⟩) 7 cv) (l.take 7) :=
  .inr ⟨_, cv, by rw [List.length_take, Nat.min_eq_left hl], fun j u hj => by
    rw [Addr.add_lit, Nat.zero_add]
    have hj' := (List.getElem?_eq_some_iff.1 hj).1
    rw [wbvals_len, List.length_take] at hj'
    rw [cell_of h, List.getElem?_toArray, List.getElem?_append_left (by rw [wbvals_len]; omega)]
    simp only [wbvals, List.getElem?_map] at hj ⊢
    rwa [List.getElem?_take_of_lt (by omega)] at hj⟩
theorem slice_inj {A A' : Option Addr} {n n' c c' : Nat} (h : Value.slice A n c = .slice A' n' c') : A = A' ∧ n = n' ∧ c = c' := by
  injection h with h1 h2 h3
  exact ⟨h1, h2, h3⟩
/-- Eight words when the first n of t's are added. -/
def addw (s t : St) (n : Nat) : List W32 := (List.range 8).map fun j => if j < n then s.get j + t.get j else s.get j
theorem addw_zero (s t : St) : addw s t 0 = s.list := rfl
theorem addw_all (s t : St) : addw s t 8 = (s.add t).list := rfl
theorem addw_len (s t : St) (n : Nat) : (addw s t n).length = 8 := by simp [addw]
theorem addw_at (s t : St) (n : Nat) {j : Nat} (h : j < 8) : (addw s t n)[j]? = some (if j < n then s.get j + t.get j else s.get j) := by
  simp [addw, List.getElem?_range h]
theorem list_at (s : St) {j : Nat} (h : j < 8) : s.list[j]? = some (s.get j) := by
  rw [← addw_zero s s, addw_at s s 0 h, if_neg (by omega)]
theorem addw_set (s t : St) {n : Nat} (h : n < 8) : (addw s t n).set n (s.get n + t.get n) = addw s t (n + 1) := by
  apply List.ext_getElem?
  intro j
  rw [List.getElem?_set]
  rcases Nat.lt_or_ge j 8 with h1 | h1
  · rw [addw_at _ _ _ h1, addw_at _ _ _ h1]
    rcases Nat.lt_trichotomy j n with h3 | h3 | h3
    · rw [if_neg (by omega), if_pos h3, if_pos (by omega)]
    · subst h3
      rw [if_pos rfl, if_pos (by rw [addw_len]; omega), if_pos (by omega)]
    · rw [if_neg (by omega), if_neg (by omega), if_neg (by omega)]
  · have e : ∀ n, (addw s t n)[j]? = none := fun n => List.getElem?_eq_none (by rw [addw_len]; exact h1)
    rw [e, e, if_neg (by omega)]
theorem TabV.setH {w wr : World} {gh gk g9 gv n : Nat} {rh rk rv : List Value} {st q : St} {lv : List W32} {cs : Array Value} (h : TabV w gh gk rh rk (addw st q n) g9 cs gv rv lv wr) (hn : n < 8) : TabV w gh gk rh rk (addw st q (n + 1)) g9 cs gv rv lv (wr.setCell ⟨gh, n, none⟩ (.int .u32 ((st.get n + q.get n).toNat : Int))) :=
  { h := by rw [← addw_set st q hn]; exact row_set _ h.h (by rw [addw_len]; exact hn)
    k := by rw [heap_setCell_other _ _ _ _ (by simpa using h.ne.symm)]; exact h.k
    x := h.x.setCell (p := ⟨gh, n, none⟩) h.le _
    le := h.le
    ne := h.ne
    o := by rw [heap_setCell_other _ _ _ _ (by simpa using h.n1)]; exact h.o
    n1 := h.n1, n2 := h.n2, l9 := h.l9
    v := by rw [heap_setCell_other _ _ _ _ (by simpa using h.m1)]; exact h.v
    m1 := h.m1, m2 := h.m2, m3 := h.m3, lv := h.lv }
theorem bs_drop (r : List UInt8) (n : Nat) : (bs r).extract n (bs r).size = bs (r.drop n) := by
  apply ByteArray.ext
  apply Array.toList_inj.1
  simp [bs, List.extract_eq_take_drop]
  rw [List.take_of_length_le]
  simp [ByteArray.size]
theorem and255w (n : Nat) (h : n < 4294967296) : bits BinOp.and IntKind.u32 (n : Int) 255 = ((n % 256 : Nat) : Int) := by
  show IntKind.u32.wrap ((BitVec.ofInt 32 (n : Int) &&& BitVec.ofInt 32 255).toNat : Int) = _
  have e1 : (BitVec.ofInt 32 (n : Int)).toNat = n := by simp; omega
  have e2 : (BitVec.ofInt 32 255).toNat = 2 ^ 8 - 1 := by decide
  rw [BitVec.toNat_and, e1, e2, Nat.and_two_pow_sub_one_eq_mod, IntKind.wrap_u32']
  omega
/-- A word's four bytes as the reference takes them. -/
theorem bytes_ref (x : W32) : ∃ b1 b2 b3 b4 : UInt8, bytesOf x = [b1, b2, b3, b4] ∧ (x.toNat : Int) / 16777216 = (b1.toNat : Int) ∧ bits BinOp.and IntKind.u32 ((x.toNat : Int) / 65536) 255 = (b2.toNat : Int) ∧ bits BinOp.and IntKind.u32 ((x.toNat : Int) / 256) 255 = (b3.toNat : Int) ∧ bits BinOp.and IntKind.u32 (x.toNat : Int) 255 = (b4.toNat : Int) := by
  have hx := x.isLt
  refine ⟨_, _, _, _, rfl, ?_, ?_, ?_, ?_⟩
  · simp; omega
  · have e : (x.toNat : Int) / 65536 = ((x.toNat / 65536 : Nat) : Int) := by omega
    rw [e, and255w _ (by omega)]
    simp
  · have e : (x.toNat : Int) / 256 = ((x.toNat / 256 : Nat) : Int) := by omega
    rw [e, and255w _ (by omega)]
    simp
  · rw [and255w _ (by omega)]
    simp
theorem bs_four (l : List UInt8) (a b c d : UInt8) : bs (l ++ [a, b, c, d]) = bs l ++ (sgn a ++ sgn b ++ sgn c ++ sgn d) := by
  apply ByteArray.ext
  simp [bs, sgn]
end Go.Proofs.YtplfimoeggecjaaGreatDoor.Sx
