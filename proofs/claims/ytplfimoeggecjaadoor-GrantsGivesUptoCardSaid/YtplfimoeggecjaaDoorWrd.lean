/-
  The program's word: itself, or a fresh one; what the three rows read as.
-/
import Derived.Test.YtplfimoeggecjaaDoorVrw
import Derived.Laws.Rows
import Derived.Laws.ResultCell
namespace Go.Proofs.YtplfimoeggecjaaDoor.Sx
open Go Go.RowKit Go.Proofs.YtplfimoeggecjaaDoor.Dc

/-- Three rows hold what the first rules have. -/
def Thr (B : Nat) (w : World) (l : List Rule) (k : Nat) (u1 u2 u3 : List Value) : Prop := u1.length = k ∧ u2.length = k ∧ u3.length = k ∧ ∀ j (h : j < l.length) (h1 : j < u1.length) (h2 : j < u2.length) (h3 : j < u3.length), StrsR B w u1[j] l[j].verbs ∧ StrsR B w u2[j] l[j].kinds ∧ StrsR B w u3[j] l[j].names
theorem Thr.nil {B : Nat} {w : World} {l : List Rule} : Thr B w l 0 [] [] [] := ⟨rfl, rfl, rfl, fun j _ h => by simp at h⟩
theorem Thr.snoc {B : Nat} {w : World} {l : List Rule} {k : Nat} {u1 u2 u3 : List Value} {x1 x2 x3 : Value} (h : Thr B w l k u1 u2 u3) (hk : k < l.length) (h1 : StrsR B w x1 l[k].verbs) (h2 : StrsR B w x2 l[k].kinds) (h3 : StrsR B w x3 l[k].names) : Thr B w l (k + 1) (u1 ++ [x1]) (u2 ++ [x2]) (u3 ++ [x3]) := by
  obtain ⟨a1, a2, a3, a4⟩ := h
  refine ⟨by simp [a1], by simp [a2], by simp [a3], fun j hj q1 q2 q3 => ?_⟩
  rcases Nat.lt_or_ge j k with hl | hl
  · rw [List.getElem_append_left (by omega), List.getElem_append_left (by omega), List.getElem_append_left (by omega)]
    exact a4 j hj (by omega) (by omega) (by omega)
  · have e : j = k := by simp at q1; omega
    subst e
    rw [List.getElem_append_right (by omega), List.getElem_append_right (by omega), List.getElem_append_right (by omega)]
    simp only [a1, a2, a3, Nat.sub_self, List.getElem_cons_zero]
    exact ⟨h1, h2, h3⟩
theorem VsR.of_row {B base : Nat} {w W : World} {v : Value} {us : List Value} {xs : List (List ByteArray)} (h : VRow base W v us) (hl : us.length = xs.length) (he : ∀ j (h1 : j < us.length) (h2 : j < xs.length), StrsR B w us[j] xs[j]) (hx : Ext w W) (hB : B ≤ w.heap.size) : VsR B W v xs := by
  obtain ⟨A, c, rfl⟩ := h.slice
  refine ⟨A, c, by rw [hl], fun j hj => ?_⟩
  obtain ⟨g, c', e, hg, hc⟩ := h.at_ (j := j) (by omega)
  injection e with e1 e2 e3
  exact ⟨g, 0, us[j]'(by omega), e1, hg, by rw [Nat.zero_add]; exact hc, (he j (by omega) hj).below (hx.mono hB) (Nat.le_refl _)⟩
theorem Thr.reads {B : Nat} {w w0 W : World} {l : List Rule} {n : Nat} {x y z : Value} {u1 u2 u3 : List Value} (h : Thr B w l n u1 u2 u3) (hn : n = l.length) (ht : Tri w0 W x u1 y u2 z u3) (hx : Ext w W) (hB : B ≤ w.heap.size) :
    VsR B W x (l.map (·.verbs)) ∧ VsR B W y (l.map (·.kinds)) ∧ VsR B W z (l.map (·.names)) := by
  obtain ⟨a1, a2, a3, a4⟩ := h
  refine ⟨VsR.of_row ht.one (by simp [a1, hn]) (fun j h1 h2 => ?_) hx hB, VsR.of_row ht.two (by simp [a2, hn]) (fun j h1 h2 => ?_) hx hB, VsR.of_row ht.three (by simp [a3, hn]) (fun j h1 h2 => ?_) hx hB⟩
  · rw [List.getElem_map]; exact (a4 j (by omega) h1 (by omega) (by omega)).1
  · rw [List.getElem_map]; exact (a4 j (by omega) (by omega) h1 (by omega)).2.1
  · rw [List.getElem_map]; exact (a4 j (by omega) (by omega) (by omega) h1).2.2
set_option maxRecDepth 100000 in
theorem word_any (B : Nat) (s : ByteArray) (v : Value) (xs : List (List ByteArray)) (w : World) (hB : B ≤ w.heap.size) (h : VsR B w v xs) (hn : xs.length ≤ 1048576) (hf : xs.flatten.length ≤ 1048576) (ht : Tab10 w) :
    Calls Tryd.prog 9 #[.string s, v] w fun e w' => e = .returned (.string (wordS s xs.flatten)) ∧ Ext w w' := by
  have C := Lib.hid (fresh_any B v xs w hB h hn hf ht)
  obtain ⟨A, c, rfl, -⟩ := h
  have e42 : (⟨#[42]⟩ : ByteArray).toList = [42] := by rw [ByteArray.toList_eq]
  cases hs : eqS s starS with
  | true =>
    have HE : Hid (wordS s xs.flatten = freshS xs.flatten) := if_pos hs
    have t1 : (s.toList == (⟨#[42]⟩ : ByteArray).toList) = true := hs
    have t2 : (s.toList == [42]) = true := by rw [← e42]; exact hs
    clear hs e42
    go_enter Tryd.func9, Tryd.ntmps9
    go_wp2_with (go_at_call 10; (with_reducible refine C.out.mono ?_); rintro e w2 ⟨rfl, hx2⟩; have HX2 := Lib.hid hx2; clear hx2)
    go_ret
    exact ⟨by rw [HE.out]; rfl, HX2.out⟩
  | false =>
    have HE : Hid (wordS s xs.flatten = s) := if_neg (by rw [hs]; simp)
    have t1 : (s.toList == (⟨#[42]⟩ : ByteArray).toList) = false := hs
    have t2 : (s.toList == [42]) = false := by rw [← e42]; exact hs
    clear hs e42
    go_enter Tryd.func9, Tryd.ntmps9
    go_wp2_with fail
    go_ret
    exact ⟨by rw [HE.out]; rfl, Below.refl _ _⟩
def askNone : Ask := ⟨⟨#[]⟩, ⟨#[]⟩, ⟨#[]⟩, ⟨#[]⟩⟩
/-- What Beyond answers. -/
def beyV : Option Ask → Value
  | some a => .tuple #[a.val, .bool true]
  | none => .tuple #[askNone.val, .bool false]
theorem results_ask {fn : Func} {p u : Tmp} (h : fn.results = #[.cell p 33, .tmp u]) (tmps : Array Value) (w : World) (g : Nat) {a : Ask} (hp : tmps.getD p undef = .pointer (some ⟨g, 0, none⟩)) (hg : AskIn w g a) :
    (results fn tmps).run Tryd.prog w = .ok (.tuple #[a.val, tmps.getD u undef]) w := by
  have hp' : tmps[p]?.getD undef = .pointer (some ⟨g, 0, none⟩) := by simpa using hp
  have hr := run_loadVar_row (P := Tryd.prog) w g 33 _ _ _ _ hg Tryd.underlying33 rfl (by kernel_rfl)
  simp [results, h, hp', asAddr, hr, Ask.val]
theorem put_ask {w W : World} {g : Nat} {x0 x1 x2 x3 : Value} (a : Ask) (hg : W.heap[g]? = some (.cells #[x0, x1, x2, x3] 33 (0, 0))) (hx : Ext w W) (hb : w.heap.size ≤ g) :
    AskIn ((((W.setCell ⟨g, 0, none⟩ (.string a.verb)).setCell ⟨g, 1, none⟩ (.string a.kind)).setCell ⟨g, 2, none⟩ (.string a.space)).setCell ⟨g, 3, none⟩ (.string a.name)) g a ∧
      Ext w ((((W.setCell ⟨g, 0, none⟩ (.string a.verb)).setCell ⟨g, 1, none⟩ (.string a.kind)).setCell ⟨g, 2, none⟩ (.string a.space)).setCell ⟨g, 3, none⟩ (.string a.name)) := by
  refine ⟨?_, Below.setCell (Below.setCell (Below.setCell (Below.setCell hx (by exact hb) _) (by exact hb) _) (by exact hb) _) (by exact hb) _⟩
  unfold AskIn
  simp [World.setCell, Array.getElem?_modify, hg]
theorem free_cells {w : World} {g t : Nat} {C : Array Value} (hg : w.heap[g]? = some (.cells C t (0, 0))) (k : Nat) : w.frozen? ⟨g, k, none⟩ = false := by
  simp [World.frozen?, hg]
/-- An ask's name set. -/
theorem put_last {wE W : World} {g : Nat} {a b c d : ByteArray} (hx : Ext wE W) (hb : wE.heap.size ≤ g) (hg : W.heap[g]? = some (.cells #[.string a, .string b, .string c, .string d] 33 (0, 0))) (n : ByteArray) :
    (W.setCell ⟨g, 3, none⟩ (.string n)).heap[g]? = some (.cells #[.string a, .string b, .string c, .string n] 33 (0, 0)) ∧ Ext wE (W.setCell ⟨g, 3, none⟩ (.string n)) := by
  refine ⟨?_, Below.setCell hx (by exact hb) _⟩
  simp [World.setCell, Array.getElem?_modify, hg]
theorem str_cell {B : Nat} {w W : World} {A : Option Addr} {c : Nat} {xs : List ByteArray} (h : StrsR B w (.slice A xs.length c) xs) (hB : B ≤ w.heap.size) (hx : Ext w W) {j : Nat} (hj : j < xs.length) : ∃ b off, A = some ⟨b, off, none⟩ ∧ b < W.heap.size ∧ W.cell? ⟨b, off + j, none⟩ = some (.string xs[j]) := by
  obtain ⟨b, off, c', e, hb, hc⟩ := h.cells (by omega)
  injection e with e1 _ _
  exact ⟨b, off, e1, by have := hx.size; omega, (hx.cell (p := ⟨b, off + j, none⟩) (by show b < w.heap.size; omega)).trans (hc j hj).1⟩
end Go.Proofs.YtplfimoeggecjaaDoor.Sx
