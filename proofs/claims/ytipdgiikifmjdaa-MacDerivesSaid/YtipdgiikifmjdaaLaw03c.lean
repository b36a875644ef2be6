/- The statements of layer 3: the walk of MacDerives. -/
import Derived.Test.YtipdgiikifmjdaaLaw03
import Derived.Test.YtipdgiikifmjdaaMacIt
namespace Go.Proofs.Ytipdgiikifmjdaa
open Go Go.RowKit

set_option maxRecDepth 100000 in
set_option maxHeartbeats 1000000 in
theorem derives_big (w : World) (key label : List UInt8) (n : Int) (hk : key.length ≤ 140737488351232) (hl : label.length ≤ 140737488351232) (h : 300 < key.length ∨ 300 < label.length ∨ (1000 < n ∧ n ≤ 8160)) :
    Calls Try.prog 8 #[.string (bs key), .string (bs label), .int .i64 n] w fun e w' => e = .returned (.bool true) ∧ Ext w w' := by
  have G0 := Lib.hid works03
  have three : (300 < key.length) ∨ (¬ 300 < key.length ∧ 300 < label.length) ∨ (¬ 300 < key.length ∧ ¬ 300 < label.length ∧ 1000 < n ∧ n ≤ 8160) := by omega
  clear h
  rcases three with h1 | ⟨h1, h2⟩ | ⟨h1, h2, h3, h4⟩
  · go_enter Try.func8, Try.ntmps8
    go_wp2_with (first
      | (go_at_call 20; with_reducible refine (G0.out _).mono ?_; rintro e w9 ⟨rfl, hw9⟩))
    go_returns
    exact ⟨rfl, hw9⟩
  · go_enter Try.func8, Try.ntmps8
    go_wp2_with (first
      | (go_at_call 20; with_reducible refine (G0.out _).mono ?_; rintro e w9 ⟨rfl, hw9⟩))
    go_returns
    exact ⟨rfl, hw9⟩
  · go_enter Try.func8, Try.ntmps8
    go_wp2_with (first
      | (go_at_call 20; with_reducible refine (G0.out _).mono ?_; rintro e w9 ⟨rfl, hw9⟩))
    go_returns
    exact ⟨rfl, hw9⟩
set_option maxRecDepth 100000 in
set_option maxHeartbeats 2000000 in
theorem derives_main (w : World) (key label : List UInt8) (n : Int) (hk : key.length ≤ 300) (hl : label.length ≤ 300) (h : ¬ (1000 < n ∧ n ≤ 8160)) :
    Calls Try.prog 8 #[.string (bs key), .string (bs label), .int .i64 n] w fun e w' => e = .returned (.bool true) ∧ Ext w w' := by
  have G0 := Lib.hid works03
  have hemp : ({ data := #[] } : ByteArray) = bs [] := rfl
  have three : (n < 1) ∨ (¬ n < 1 ∧ n ≤ 1000) ∨ (¬ n < 1 ∧ 1000 < n ∧ 8160 < n) := by omega
  clear h
  rcases three with h1 | ⟨h1, h2⟩ | ⟨h1, h2, h3⟩
  · have GD := Lib.hid (fun W => derive_no key label n W (by omega))
    have GR := Lib.hid (fun W => refDerive_no key label n W (by omega))
    go_enter Try.func8, Try.ntmps8
    go_wp2_with (first
      | (go_at_call 22; with_reducible refine (GD.out w).mono ?_; rintro e w1 ⟨rfl, hx1⟩)
      | (go_at_call 23; with_reducible refine (GR.out w1).mono ?_; rintro e w' ⟨rfl, rfl⟩)
      | (go_at_call 20; with_reducible refine (G0.out _).mono ?_; rintro e w9 ⟨rfl, hx9⟩))
    go_returns
    exact ⟨rfl, hx1.trans hx9⟩
  · obtain ⟨m, rfl⟩ : ∃ m : Nat, n = (m : Int) := ⟨n.toNat, by omega⟩
    have GD := Lib.hid (fun W => derive_yes key label m W (by omega) (by omega) (by omega) (by omega))
    have GR := Lib.hid (fun W => refDerive_yes key label m W (by omega) (by omega) (by omega) (by omega))
    have hzl := derL_length key label m (by omega)
    generalize derL key label m = z at *
    have hne : (z == []) = false := by cases z with
      | nil => simp at hzl; omega
      | cons _ _ => rfl
    have hne2 : ¬ z = [] := by intro e; rw [e] at hzl; simp at hzl; omega
    go_enter Try.func8, Try.ntmps8
    go_wp2_with (first
      | (go_at_call 22; with_reducible refine (GD.out w).mono ?_; rintro e w1 ⟨rfl, hx1⟩)
      | (go_at_call 23; with_reducible refine (GR.out w1).mono ?_; rintro e w2 ⟨rfl, hx2⟩)
      | (go_at_call 20; with_reducible refine (G0.out _).mono ?_; rintro e w9 ⟨rfl, hx9⟩))
    go_returns
    exact ⟨rfl, hx1.trans (hx2.trans hx9)⟩
  · have GD := Lib.hid (fun W => derive_no key label n W (by omega))
    have GR := Lib.hid (fun W => refDerive_no key label n W (by omega))
    go_enter Try.func8, Try.ntmps8
    go_wp2_with (first
      | (go_at_call 22; with_reducible refine (GD.out w).mono ?_; rintro e w1 ⟨rfl, hx1⟩)
      | (go_at_call 23; with_reducible refine (GR.out w1).mono ?_; rintro e w' ⟨rfl, rfl⟩)
      | (go_at_call 20; with_reducible refine (G0.out _).mono ?_; rintro e w9 ⟨rfl, hx9⟩))
    go_returns
    exact ⟨rfl, hx1.trans hx9⟩
theorem law_MacDerives (w : World) (key label : List UInt8) (n : Int) (hk : key.length ≤ 140737488351232) (hl : label.length ≤ 140737488351232) (_hn : -9223372036854775808 ≤ n ∧ n ≤ 9223372036854775807) :
    Calls Try.prog 8 #[.string (bs key), .string (bs label), .int .i64 n] w fun e w' => e = .returned (.bool true) ∧ Ext w w' := by
  by_cases h : 300 < key.length ∨ 300 < label.length ∨ (1000 < n ∧ n ≤ 8160)
  · exact derives_big w key label n hk hl h
  · exact derives_main w key label n (by omega) (by omega) (by omega)
end Go.Proofs.Ytipdgiikifmjdaa
