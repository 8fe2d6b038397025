/-
  The reference's flaws: add, says, space, names, rules, first: the list of what is wrong is known by its first one (and by how long it may be); nothing but the list is touched.
-/
import Derived.Test.YtplfimoeggecjaaGreatDoorCor
import Derived.Test.YtplfimoeggecjaaGreatDoorName2
namespace Go.Proofs.YtplfimoeggecjaaGreatDoor.Sx
open Go Go.RowKit

/-- The flaws in block b: the first one is c (0: there is none); at most K of them. -/
def Flw (w : World) (b : Nat) (c : Int) (K : Nat) : Prop := ∃ (v : Value) (L : List Int), w.heap[b]? = some (.cells #[v] 63 (0, 0)) ∧ w.ownsRow (b + 1) eT 1 v L.length (L.map (Value.int .i64)) ∧ L.headD 0 = c ∧ (∀ x ∈ L, x ≠ 0) ∧ L.length ≤ K
def FlwPost (w : World) (b : Nat) (c : Int) (K : Nat) (e : Ending) (w' : World) : Prop := e = .returned (.tuple #[]) ∧ Flw w' b c K ∧ Mod eT b w w'

theorem Flw.lt {w : World} {b : Nat} {c : Int} {K : Nat} (h : Flw w b c K) : b < w.heap.size := by
  obtain ⟨v, L, h1, _⟩ := h
  exact heap_lt h1
theorem Flw.more {w : World} {b : Nat} {c : Int} {K K' : Nat} (h : Flw w b c K) (hk : K ≤ K') : Flw w b c K' := by
  obtain ⟨v, L, h1, h2, h3, h4, h5⟩ := h
  exact ⟨v, L, h1, h2, h3, h4, by omega⟩
theorem Flw.ext {w w' : World} {b : Nat} {c : Int} {K : Nat} (h : Flw w b c K) (he : Ext w w') : Flw w' b c K := by
  obtain ⟨v, L, h1, h2, h3, h4, h5⟩ := h
  exact ⟨v, L, (he.block b (heap_lt h1)).trans h1, h2.kept (row := none) ⟨he.os, he.tape, he.output, he.size, fun k hk _ => he.block k hk⟩ (by cases h : v.ownBlock <;> simp), h3, h4, h5⟩
theorem Flw.mod_alloc {w : World} {b : Nat} {c : Int} {K : Nat} (h : Flw w b c K) (o : Obj) : Flw (w.alloc o) b c K := h.ext ((Below.refl _ _).alloc (Nat.le_refl _) _)
theorem Flw.new {w : World} {b : Nat} (hb : b = w.heap.size) : Flw (w.alloc (.cells #[.slice none 0 0] 63)) b 0 0 :=
  ⟨.slice none 0 0, [], heap_new hb, World.ownsRow_nil _ _ _ _, rfl, (fun _ h => by cases h), Nat.le_refl _⟩

theorem mod_of_grown {w w' : World} {b n : Nat} {v : Value} {xs : List Value} (ho : w.ownsRow (b + 1) eT 1 v n xs) (hg : w.grownBy w' v.ownBlock) : Mod eT b w w' :=
  ⟨hg.os, hg.tape, hg.output, hg.size, fun k hk hs => hg.block k hk (fun e => by
    rcases ho.2 with ⟨rfl, _⟩ | ⟨g, cap, cur, rfl, hlt, hh, _⟩
    · simp [Value.ownBlock] at e
    · have hkg : k = g := by simpa [Value.ownBlock] using e
      subst hkg
      rcases hs with hs | hs
      · omega
      · exact hs.2 _ _ hh)⟩

theorem own_succ {w : World} {base : Nat} {e : TypeId} {sz n : Nat} {v : Value} {xs : List Value} (h : w.ownsRow base e sz v (n + 1) xs) : ∃ g cap, v = .slice (some ⟨g, 0, none⟩) (n + 1) cap := by
  rcases h.2 with ⟨_, h0⟩ | ⟨g, cap, cur, rfl, _⟩
  · omega
  · exact ⟨g, cap, rfl⟩

theorem err_info : (Tryz.prog.info? 24).map (fun i => (i.zero, i.size, i.bytes)) = some (some (.int .i64 0), 1, 8) := by kernel_rfl

theorem headD_snoc {L : List Int} {c e : Int} (h : L.headD 0 = c) (hz : ∀ x ∈ L, x ≠ 0) : (L ++ [e]).headD 0 = say c e := by
  cases L with
  | nil => simp at h; subst h; simp [say_zero]
  | cons x l =>
    simp at h
    subst h
    rw [say_ne (hz x (by simp))]
    rfl

set_option maxRecDepth 100000 in
set_option maxHeartbeats 1000000 in
theorem add_any (b : Nat) (c e : Int) (K : Nat) (bad : Bool) (w : World) (h : Flw w b c K) (hK : K < 8796093022208) :
    Calls Tryz.prog 37 #[.pointer (some ⟨b, 0, none⟩), .bool bad, .int .i64 e] w (FlwPost w b (say c (if bad then e else 0)) (K + 1)) := by
  have H := Lib.hid h
  have hbs := h.lt
  cases bad with
  | false =>
    have hs : Hid (say c 0 = c) := say_none c
    clear h
    go_enter Tryz.func37, Tryz.ntmps37
    go_wp2
    go_end0
    exact ⟨rfl, by rw [hs.out]; exact H.out.more (by omega), Mod.refl⟩
  | true =>
    by_cases h0 : e = 0
    · have hb : (e != 0) = false := by simp [h0]
      have hs : Hid (say c e = c) := by unfold Hid; rw [h0]; exact say_none c
      clear h h0
      go_enter Tryz.func37, Tryz.ntmps37
      go_wp2
      go_end0
      exact ⟨rfl, by rw [hs.out]; exact H.out.more (by omega), Mod.refl⟩
    · have hb : (e != 0) = true := by simp [h0]
      have HE := Lib.hid h0
      obtain ⟨v, L, h1, h2, h3, h4, h5⟩ := h
      have hc := cell_of h1 0
      simp at hc
      have H1 := Lib.hid h1
      have H2 := Lib.hid h2
      have H3 := Lib.hid h3
      have H4 := Lib.hid h4
      clear h0 h1 h2 h3 h4
      obtain ⟨i0, hi, hz0, hz1, hz2⟩ := info_parts err_info
      go_enter Tryz.func37, Tryz.ntmps37
      go_wp2_with (at_builtin; refine wpList_append_own _ rfl _ _ 63 rfl (b + 1) 24 i0 (.int .i64 0) 1 8 Tryz.underlying63 hi hz0 hz1 hz2 rfl (by decide) _ _ _ rfl (H2.out.alloc _) ⟨w.heap.size, 0, none⟩ 1 1 [.int .i64 e] rfl rfl ?c1 ?c2 ?c3 ?c4 ?c5 ?_)
      case c1 =>
        intro j u hj
        match j, hj with
        | 0, hj => simp at hj; subst hj; simp [Addr.add]
      case c2 => intro u hu; simp at hu; subst hu; rfl
      case c3 => unfold maxLen; omega
      case c4 => omega
      case c5 => simp; omega
      intro v' w1 hown hgrow _
      obtain ⟨g, cap, rfl⟩ := own_succ hown
      have hm1 := mod_of_grown (w := w.alloc (.cells #[.int .i64 e] 24)) (H2.out.alloc _) hgrow
      have hb1 : w1.heap[b]? = some (.cells #[v] 63 (0, 0)) := by
        rw [hgrow.block b (by simp; omega) ?_]
        · exact heap_old H1.out
        · intro e
          have := (H2.out.lt b e.symm).1
          omega
      have hcell := cell_of hb1 0
      have hfree := free_of hb1 0
      simp at hcell
      have HM1 := Lib.hid hm1
      have HB1 := Lib.hid hb1
      have HOWN := Lib.hid hown
      clear hm1 hb1 hown hgrow
      go_wp2
      go_end0
      refine ⟨rfl, ⟨.slice (some ⟨g, 0, none⟩) (L.length + 1) cap, L ++ [e], ?_, ?_, headD_snoc H3.out H4.out, ?_, ?_⟩, ?_⟩
      · have := HB1.out
        simp [World.setCell, Array.getElem?_modify, this]
      · have := ownsRow_setCell_below HOWN.out (a := ⟨b, 0, none⟩) (by show b < b + 1; omega) (.slice (some ⟨g, 0, none⟩) (L.length + 1) cap)
        simpa using this
      · intro x hx
        rcases List.mem_append.1 hx with hx | hx
        · exact H4.out x hx
        · simp at hx; subst hx; exact HE.out
      · simp; omega
      · exact ((Mod.refl.alloc _).trans HM1.out).setCell ⟨b, 0, none⟩ (.inl rfl) _
end Go.Proofs.YtplfimoeggecjaaGreatDoor.Sx
