/-
  The law SealSays: it returns true.
-/
import Derived.Test.YtpbbohinhbboaaaSr8
namespace Go.Proofs.Ytpbbohinhbboaaa.Sx
open Go Go.RowKit

theorem unhexV_ways (l : List UInt8) : ∃ (a : ByteArray) (e : Int), unhexV l = .tuple #[.string a, .int .i64 e] := by
  unfold unhexV
  cases unhex l with
  | none => exact ⟨_, _, rfl⟩
  | some o => exact ⟨_, _, rfl⟩
set_option maxRecDepth 100000 in
set_option maxHeartbeats 4000000 in
theorem sealSays_walk (key s : ByteArray) (w : World) (hk : key.size ≤ 1048576) (hs : s.size ≤ 1048576) :
    Calls Try.prog 8 #[.string key, .string s] w fun e w' => e = .returned (.bool true) ∧ Ext w w' := by
  have hs40 : s.size ≤ 1099511627776 := by omega
  have hs30 : s.size ≤ 1073741824 := by omega
  obtain ⟨a, e, hae⟩ := unhexV_ways s.data.toList
  obtain ⟨x1, hx1⟩ : ∃ x, x = shaS s := ⟨_, rfl⟩
  obtain ⟨x2, hx2⟩ : ∃ x, x = bs (mac key.data.toList s.data.toList) := ⟨_, rfl⟩
  obtain ⟨x3, hx3⟩ : ∃ x, x = bs (hex s.data.toList) := ⟨_, rfl⟩
  have C1 : Hid (∀ wk, Calls Try.prog 33 #[.string s] wk fun e' w' => e' = .returned (.tuple #[.string a, .int .i64 e]) ∧ Ext wk w') := fun wk => (unhex_any s wk hs40).mono fun _ _ ⟨h1, h2⟩ => ⟨by rw [h1, hae], h2⟩
  have C2 : Hid (∀ wk, Calls Try.prog 34 #[.string s] wk fun e' w' => e' = .returned (.tuple #[.string a, .int .i64 e]) ∧ Ext wk w') := fun wk => (runhex_any s wk hs40).mono fun _ _ ⟨h1, h2⟩ => ⟨by rw [h1, hae], h2⟩
  have C3 : Hid (∀ wk, Calls Try.prog 35 #[.string s] wk fun e' w' => e' = .returned (.string x1) ∧ Ext wk w') := fun wk => (sum_any s wk hs40).mono fun _ _ ⟨h1, h2⟩ => ⟨by rw [h1, hx1]; rfl, h2⟩
  have C4 : Hid (∀ wk, Calls Try.prog 36 #[.string s] wk fun e' w' => e' = .returned (.string x1) ∧ Ext wk w') := fun wk => (rsum_any s wk hs30).mono fun _ _ ⟨h1, h2⟩ => ⟨by rw [h1, hx1], h2⟩
  have C5 : Hid (∀ wk, Calls Try.prog 37 #[.string key, .string s] wk fun e' w' => e' = .returned (.string x2) ∧ Ext wk w') := fun wk => (mac_any key s wk hk hs).mono fun _ _ ⟨h1, h2⟩ => ⟨by rw [h1, hx2]; rfl, h2⟩
  have C6 : Hid (∀ wk, Calls Try.prog 38 #[.string key, .string s] wk fun e' w' => e' = .returned (.string x2) ∧ Ext wk w') := fun wk => (rmac_any key s wk hk hs).mono fun _ _ ⟨h1, h2⟩ => ⟨by rw [h1, hx2], h2⟩
  have C7 : Hid (∀ wk, Calls Try.prog 39 #[.string s] wk fun e' w' => e' = .returned (.string x3) ∧ Ext wk w') := fun wk => (hex_any s wk hs40).mono fun _ _ ⟨h1, h2⟩ => ⟨by rw [h1, hx3]; rfl, h2⟩
  have C8 : Hid (∀ wk, Calls Try.prog 40 #[.string s] wk fun e' w' => e' = .returned (.string x3) ∧ Ext wk w') := fun wk => (rhex_any s wk hs40).mono fun _ _ ⟨h1, h2⟩ => ⟨by rw [h1, hx3], h2⟩
  have ha : (a.toList == a.toList) = true := by simp
  have h1 : (x1.toList == x1.toList) = true := by simp
  have h2 : (x2.toList == x2.toList) = true := by simp
  have h3 : (x3.toList == x3.toList) = true := by simp
  clear hae hx1 hx2 hx3 hk hs hs40 hs30
  go_enter Try.func8, Try.ntmps8
  go_wp2_with (first
    | (go_at_call 33; (with_reducible refine (C1.out _).mono ?_); rintro _ w1 ⟨rfl, hx1⟩; have HX1 := Lib.hid hx1; clear hx1)
    | (go_at_call 34; (with_reducible refine (C2.out _).mono ?_); rintro _ w2 ⟨rfl, hx2⟩; have HX2 := Lib.hid (HX1.out.trans hx2); clear hx2)
    | (go_at_call 35; (with_reducible refine (C3.out _).mono ?_); rintro _ w3 ⟨rfl, hx3⟩; have HX3 := Lib.hid (HX2.out.trans hx3); clear hx3)
    | (go_at_call 36; (with_reducible refine (C4.out _).mono ?_); rintro _ w4 ⟨rfl, hx4⟩; have HX4 := Lib.hid (HX3.out.trans hx4); clear hx4)
    | (go_at_call 37; (with_reducible refine (C5.out _).mono ?_); rintro _ w5 ⟨rfl, hx5⟩; have HX5 := Lib.hid (HX4.out.trans hx5); clear hx5)
    | (go_at_call 38; (with_reducible refine (C6.out _).mono ?_); rintro _ w6 ⟨rfl, hx6⟩; have HX6 := Lib.hid (HX5.out.trans hx6); clear hx6)
    | (go_at_call 39; (with_reducible refine (C7.out _).mono ?_); rintro _ w7 ⟨rfl, hx7⟩; have HX7 := Lib.hid (HX6.out.trans hx7); clear hx7)
    | (go_at_call 40; (with_reducible refine (C8.out _).mono ?_); rintro _ w8 ⟨rfl, hx8⟩; have HX8 := Lib.hid (HX7.out.trans hx8); clear hx8))
  go_ret
  exact ⟨rfl, HX8.out⟩
end Go.Proofs.Ytpbbohinhbboaaa.Sx
