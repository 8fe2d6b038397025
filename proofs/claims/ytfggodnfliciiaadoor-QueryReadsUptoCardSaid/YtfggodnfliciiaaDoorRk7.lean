/-
  The reference's reqOf: words; the part behind '!'.
-/
import Derived.Test.YtfggodnfliciiaaDoorRk6
import Derived.Deep.RegionLaw
namespace Go.Proofs.YtfggodnfliciiaaDoor.Rd
open Go Go.RowKit Go.Proofs.YtfggodnfliciiaaDoor.Sx

/-- Where reqOf stands: the signs' box, the place's box, the result's box. -/
def Rs (w V : World) (k1 k2 k4 : Nat) (v : Value) (i : Nat) : Prop :=
  LIn V k1 v ∧ NIn V k4 i ∧ BoxQ V k2 ⟨#[]⟩ 0 none 0 0 ∧ Ext w V ∧ w.heap.size ≤ k1 ∧ w.heap.size ≤ k2 ∧ w.heap.size ≤ k4 ∧ k1 ≠ k2 ∧ k1 ≠ k4 ∧ k2 ≠ k4
section
variable {w V V' : World} {k1 k2 k4 i i' : Nat} {v : Value}
theorem Rs.go (h : Rs w V k1 k2 k4 v i) (hn : NIn V' k4 i') (hg : V.grownBy V' (some k4)) : Rs w V' k1 k2 k4 v i' := by
  obtain ⟨h1, h2, h3, h4, h5, h6, h7, h8, h9, h10⟩ := h
  exact ⟨h1.kept hg (fun e => by injection e with e; omega), hn, h3.kept hg (fun e => by injection e with e; omega), ext_of_grown h4 hg h7, h5, h6, h7, h8, h9, h10⟩
theorem Rs.ext (h : Rs w V k1 k2 k4 v i) (hx : Ext V V') : Rs w V' k1 k2 k4 v i := by
  obtain ⟨h1, h2, h3, h4, h5⟩ := h
  exact ⟨h1.kept (grown_ext (row := none) hx) (by simp), h2.kept (grown_ext (row := none) hx) (by simp), h3.kept (grown_ext (row := none) hx) (by simp), h4.trans hx, h5⟩
theorem Rs.other (h : Rs w V k1 k2 k4 v i) {b j : Nat} {u : Value} (hb : w.heap.size ≤ b) (h1 : b ≠ k1) (h2 : b ≠ k2) (h4 : b ≠ k4) : Rs w (V.setCell ⟨b, j, none⟩ u) k1 k2 k4 v i := by
  obtain ⟨g1, g2, g3, g4, g5⟩ := h
  exact ⟨g1.kept (grown_set V b j u) (fun e => h1 (by injection e)), g2.kept (grown_set V b j u) (fun e => h4 (by injection e)), g3.kept (grown_set V b j u) (fun e => h2 (by injection e)), ext_of_grown g4 (grown_set V b j u) hb, g5⟩
end
theorem BoxQ.setKey {w : World} {k : Nat} {key : ByteArray} {kd : Int} {A : Option Addr} {n c : Nat} (h : BoxQ w k key kd A n c) (z : ByteArray) : BoxQ (w.setCell ⟨k, 0, none⟩ (.string z)) k z kd A n c := heap_setCell_same w k 0 _ reqT _ h
/-- What reqOf hands back. -/
def RqPost (w : World) (ts : List Tok) (s : Tx) (e : Ending) (w' : World) : Prop :=
  Ext w w' ∧ ((∃ p r m b A c, partS s = some (p, r) ∧ sepAt r = true ∧ e = .returned (.tuple #[.agg #[.string (bx p.key), .int .i64 p.kind, .slice A p.vals.length c], .int .i64 ((m : Nat) : Int)]) ∧ At ts m b r ∧ SRow w.heap.size w' (.slice A p.vals.length c) (p.vals.map bx)) ∨
    ((partS s = none ∨ ∃ p r, partS s = some (p, r) ∧ sepAt r = false) ∧ ∃ key kd A n c, e = .returned (.tuple #[.agg #[.string key, .int .i64 kd, .slice A n c], .int .i64 (-1)])))
theorem results_s {fn : Func} {p q : Tmp} (h : fn.results = #[.cell p reqT, .tmp q]) (tmps : Array Value) (w : World) (g : Nat) {key : ByteArray} {kd : Int} {A : Option Addr} {n c : Nat} (hp : tmps.getD p undef = .pointer (some ⟨g, 0, none⟩)) (hg : BoxQ w g key kd A n c) :
    (results fn tmps).run Tryd.prog w = .ok (.tuple #[.agg #[.string key, .int .i64 kd, .slice A n c], tmps.getD q undef]) w := by
  have hp' : tmps[p]?.getD undef = .pointer (some ⟨g, 0, none⟩) := by simpa using hp
  have hr := run_loadVar_row (P := Tryd.prog) w g reqT _ _ _ _ hg Tryd.underlying29 rfl (by kernel_rfl)
  simp [results, h, hp', asAddr, hr]
theorem rq_end {w w' : World} {ts : List Tok} {s r : Tx} {p : Pt} {m : Nat} {b : Bool} {A : Option Addr} {n c : Nat} {en : Int} (hx : Ext w w') (hp : partS s = some (p, r)) (ha : At ts m b r) (hrow : SRow w.heap.size w' (.slice A n c) (p.vals.map bx)) (hn : n = p.vals.length) (he : en = endI r m) :
    RqPost w ts s (.returned (.tuple #[.agg #[.string (bx p.key), .int .i64 p.kind, .slice A n c], .int .i64 en])) w' := by
  subst hn he
  refine ⟨hx, ?_⟩
  cases hs : sepAt r with
  | true => exact .inl ⟨p, r, m, b, A, c, hp, hs, by rw [endI_yes hs], ha, hrow⟩
  | false => exact .inr ⟨.inr ⟨p, r, hp, hs⟩, _, _, _, _, _, by rw [endI_no hs]⟩
theorem rq_bad {w w' : World} {ts : List Tok} {s : Tx} {key : ByteArray} {kd : Int} {A : Option Addr} {n c : Nat} (hx : Ext w w') (h : partS s = none ∨ ∃ p r, partS s = some (p, r) ∧ sepAt r = false) :
    RqPost w ts s (.returned (.tuple #[.agg #[.string key, .int .i64 kd, .slice A n c], .int .i64 (-1)])) w' := ⟨hx, .inr ⟨h, _, _, _, _, _, rfl⟩⟩
theorem Rs.put {w V : World} {k1 k2 k4 i : Nat} {v : Value} (h : Rs w V k1 k2 k4 v i) {key : ByteArray} {kd : Int} {A : Option Addr} {n c : Nat} :
    BoxQ (((V.setCell ⟨k2, 0, none⟩ (.string key)).setCell ⟨k2, 1, none⟩ (.int .i64 kd)).setCell ⟨k2, 2, none⟩ (.slice A n c)) k2 key kd A n c ∧ Ext w (((V.setCell ⟨k2, 0, none⟩ (.string key)).setCell ⟨k2, 1, none⟩ (.int .i64 kd)).setCell ⟨k2, 2, none⟩ (.slice A n c)) := by
  obtain ⟨h1, h2, h3, h4, h5, h6, h7⟩ := h
  exact ⟨h3.setAll, ext_of_grown (ext_of_grown (ext_of_grown h4 (grown_set V k2 0 _) h6) (grown_set _ k2 1 _) h6) (grown_set _ k2 2 _) h6⟩
/-- .. and the part's box. -/
def Rp (w V : World) (k1 k2 k4 : Nat) (v : Value) (i k8 : Nat) (key : ByteArray) (kd : Int) (A : Option Addr) (n c : Nat) : Prop := Rs w V k1 k2 k4 v i ∧ BoxQ V k8 key kd A n c ∧ w.heap.size ≤ k8 ∧ k8 ≠ k1 ∧ k8 ≠ k2 ∧ k8 ≠ k4
section
variable {w V V' : World} {k1 k2 k4 i i' k8 : Nat} {v : Value} {key : ByteArray} {kd : Int} {A A' : Option Addr} {n c n' c' : Nat}
theorem Rp.go (h : Rp w V k1 k2 k4 v i k8 key kd A n c) (hr : Rs w V' k1 k2 k4 v i') (hg : V.grownBy V' (some k4)) : Rp w V' k1 k2 k4 v i' k8 key kd A n c :=
  ⟨hr, h.2.1.kept hg (fun e => by injection e with e; have := h.2.2; omega), h.2.2⟩
theorem Rp.ext (h : Rp w V k1 k2 k4 v i k8 key kd A n c) (hx : Ext V V') : Rp w V' k1 k2 k4 v i k8 key kd A n c := ⟨h.1.ext hx, h.2.1.kept (grown_ext (row := none) hx) (by simp), h.2.2⟩
theorem Rp.setK (h : Rp w V k1 k2 k4 v i k8 key kd A n c) (z : ByteArray) : Rp w (V.setCell ⟨k8, 0, none⟩ (.string z)) k1 k2 k4 v i k8 z kd A n c := ⟨h.1.other h.2.2.1 h.2.2.2.1 h.2.2.2.2.1 h.2.2.2.2.2, h.2.1.setKey z, h.2.2⟩
theorem Rp.kind (h : Rp w V k1 k2 k4 v i k8 key kd A n c) (z : Int) : Rp w (V.setCell ⟨k8, 1, none⟩ (.int .i64 z)) k1 k2 k4 v i k8 key z A n c := ⟨h.1.other h.2.2.1 h.2.2.2.1 h.2.2.2.2.1 h.2.2.2.2.2, h.2.1.setKind z, h.2.2⟩
theorem Rp.vals (h : Rp w V k1 k2 k4 v i k8 key kd A n c) : Rp w (V.setCell ⟨k8, 2, none⟩ (.slice A' n' c')) k1 k2 k4 v i k8 key kd A' n' c' := ⟨h.1.other h.2.2.1 h.2.2.2.1 h.2.2.2.2.1 h.2.2.2.2.2, h.2.1.setVals, h.2.2⟩
end
theorem word_after {s r : Tx} {x : UInt8} (h : wordRest s = x :: r) (hw : isW x = true) : wordBl s = true ∧ wordOf s ≠ [] := by
  unfold wordRest at h
  unfold wordBl wordOf
  have hx32 : x ≠ 32 := fun e => by rw [e, isW_blank] at hw; cases hw
  have hrest : ∀ {q : Tx} {y : UInt8} {z : Tx}, restW q = y :: z → isW y = false := fun {q y z} hq => by
    induction q with
    | nil => cases hq
    | cons a q ih =>
      cases ha : isW a with
      | true => rw [(runW_cons ha).2] at hq; exact ih hq
      | false => rw [(runW_stop ha).2] at hq; injection hq with e _; rw [← e]; exact ha
  cases hr : restW (skip s) with
  | nil => rw [hr] at h; cases h
  | cons y z =>
    rw [hr] at h
    have hy := hrest hr
    by_cases h32 : y = 32
    · subst h32
      refine ⟨rfl, fun e => ?_⟩
      cases hs : skip s with
      | nil => rw [hs] at hr; cases hr
      | cons a q =>
        rw [hs] at e hr
        cases ha : isW a with
        | true => rw [(runW_cons ha).1] at e; cases e
        | false =>
          rw [(runW_stop ha).2] at hr
          injection hr with e1 _
          exact skip_head hs e1
    · rw [skip_other h32] at h
      injection h with e _
      rw [e, hw] at hy
      cases hy
end Go.Proofs.YtfggodnfliciiaaDoor.Rd
