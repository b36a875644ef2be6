/- The statements of layer 1: walks of the laws. -/
import Derived.Test.YtgjaefolmnelcaaHex
import Derived.Test.YtgjaefolmnelcaaUnhex
import Derived.Test.YtgjaefolmnelcaaRow
namespace Go.Proofs.Ytgjaefolmnelcaa
open Go Go.RowKit

set_option maxRecDepth 100000 in
set_option maxHeartbeats 1000000 in
theorem works01 (w : World) : Calls Try.prog 12 #[] w fun e w' => e = .returned (.bool true) ∧ Ext w w' := by
  have g1 : ∀ w, Calls Try.prog 13 #[.string { data := #[120, 0, 0, 1, 2] }, .int .i64 1] w fun e w' => e = .returned (.tuple #[.int .u32 258, .bool true]) ∧ w = w' := fun w => by
    have := Get32_any [120, 0, 0, 1, 2] 1 w (by decide)
    rw [show Get32 [120, 0, 0, 1, 2] 1 = (258, true) by decide] at this; exact this
  have g2 : ∀ w, Calls Try.prog 21 #[.string { data := #[97, 98] }] w fun e w' => e = .returned (.tuple #[.string { data := #[171] }, .bool true]) ∧ Ext w w' := fun w => by
    have := Unhex_any [97, 98] w (by decide)
    rw [show Unhex [97, 98] = ([171], true) by decide] at this; exact this
  have g3 : ∀ w, Calls Try.prog 21 #[.string { data := #[65, 66] }] w fun e w' => e = .returned (.tuple #[.string { data := #[] }, .bool false]) ∧ Ext w w' := fun w => by
    have := Unhex_any [65, 66] w (by decide)
    rw [show Unhex [65, 66] = ([], false) by decide] at this; exact this
  have g4 : ∀ w, Calls Try.prog 18 #[.int .u32 258] w fun e w' => e = .returned (.string { data := #[0, 0, 1, 2] }) ∧ Ext w w' := fun w => by
    have := Put32_any 258 w (by unfold U32; omega)
    rw [show putB 4 258 = [0, 0, 1, 2] by decide] at this; exact this
  have g5 : ∀ w, Calls Try.prog 19 #[.int .u32 1, .int .i64 1] w fun e w' => e = .returned (.int .u32 2147483648) ∧ Ext w w' := fun w => by
    have := Turn_any 1 1 w
    rw [show rotr 1 1 = 2147483648 by decide] at this; exact this
  have g6 : ∀ w, Calls Try.prog 22 #[.string { data := #[171] }] w fun e w' => e = .returned (.string { data := #[97, 98] }) ∧ Ext w w' := fun w => by
    have := Hex_any [171] w (by decide)
    rw [show hexL [171] = [97, 98] by decide] at this; exact this
  have G1 := Lib.hid g1; have G2 := Lib.hid g2; have G3 := Lib.hid g3; have G4 := Lib.hid g4; have G5 := Lib.hid g5; have G6 := Lib.hid g6
  clear g1 g2 g3 g4 g5 g6
  go_enter Try.func12, Try.ntmps12
  go_wp2_with (first
    | (go_at_call 13; with_reducible refine (G1.out _).mono ?_; rintro e w' ⟨rfl, rfl⟩)
    | (go_at_call 21; with_reducible refine (G2.out _).mono ?_; rintro e w1 ⟨rfl, hx1⟩)
    | (go_at_call 21; with_reducible refine (G3.out _).mono ?_; rintro e w2 ⟨rfl, hx2⟩)
    | (go_at_call 18; with_reducible refine (G4.out _).mono ?_; rintro e w3 ⟨rfl, hx3⟩)
    | (go_at_call 19; with_reducible refine (G5.out _).mono ?_; rintro e w4 ⟨rfl, hx4⟩)
    | (go_at_call 22; with_reducible refine (G6.out _).mono ?_; rintro e w5 ⟨rfl, hx5⟩))
  go_ret
  exact ⟨rfl, ((((hx1.trans hx2).trans hx3).trans hx4).trans hx5)⟩

/-- What a text may have: the form's reach. -/
def Rch (l : List UInt8) : Prop := l.length ≤ reachBytes
theorem Rch.le {l : List UInt8} (h : Rch l) : l.length ≤ 140737488351232 := h
set_option maxHeartbeats 400000 in
theorem heavy01_yes (a b : List UInt8) (w : World) (ha : Rch a) (hb : Rch b) (h : 8192 < a.length + b.length) :
    Calls Try.prog 11 #[.string (bs a), .string (bs b)] w fun e w' => e = .returned (.bool true) ∧ w = w' := by
  have ha := ha.le; have hb := hb.le
  go_enter Try.func11, Try.ntmps11
  go_wp2
  go_ret
  exact ⟨ret_bool (by simp; omega), rfl⟩
set_option maxHeartbeats 400000 in
theorem heavy01_no (a b : List UInt8) (w : World) (h : a.length + b.length ≤ 8192) :
    Calls Try.prog 11 #[.string (bs a), .string (bs b)] w fun e w' => e = .returned (.bool false) ∧ w = w' := by
  go_enter Try.func11, Try.ntmps11
  go_wp2
  go_ret
  exact ⟨ret_bool (by simp; omega), rfl⟩
theorem and_low32 (n : Nat) (hn : U64 n) : bits .and .u64 (n : Int) 4294967295 = (n : Int) % 4294967296 := by
  have h := bits_and_u64_nat n 4294967295 hn (by omega)
  rw [show n &&& 4294967295 = n % 4294967296 from Nat.and_two_pow_sub_one_eq_mod n 32] at h
  rw [Int.natCast_emod] at h
  exact h
theorem Put32_low (n : Nat) (w : World) :
    Calls Try.prog 18 #[.int .u32 ((n : Int) % 4294967296)] w fun e w' => e = .returned (.string (bs (putB 4 (n % 4294967296)))) ∧ Ext w w' := by
  have h := Put32_any (n % 4294967296) w (Nat.mod_lt _ (by omega))
  rw [Int.natCast_emod] at h
  exact h
theorem RefPut4_low (n : Nat) (w : World) :
    Calls Try.prog 17 #[.int .u64 ((n : Int) % 4294967296), .int .i64 4] w fun e w' => e = .returned (.string (bs (putB 4 (n % 4294967296)))) ∧ Ext w w' := by
  have h := RefPut4_any (n % 4294967296) w (Nat.lt_trans (Nat.mod_lt _ (by omega : 0 < 4294967296)) (by omega))
  rw [Int.natCast_emod] at h
  exact h
set_option maxRecDepth 100000 in
set_option maxHeartbeats 1000000 in
theorem law_WordTells (w : World) (n : Nat) (s : List UInt8) (p : Int) (hn : U64 n) (hs : Rch s) (_hp : -9223372036854775808 ≤ p ∧ p ≤ 9223372036854775807) :
    Calls Try.prog 3 #[.int .u64 n, .string (bs s), .int .i64 p] w fun e w' => e = .returned (.bool true) ∧ Ext w w' := by

  have G0 := Lib.hid works01
  by_cases h : 8192 < s.length
  · have G1 := Lib.hid (fun w => heavy01_yes s [] w hs (by simp [Rch]) (by simpa using h))
    clear h hs
    go_enter Try.func3, Try.ntmps3
    go_wp2_with (first
      | (go_at_call 11; refine (G1.out _).mono ?_; rintro e w' ⟨rfl, rfl⟩)
      | (go_at_call 12; refine (G0.out _).mono ?_; rintro e w' ⟨rfl, hx⟩))
    go_ret
    exact ⟨rfl, hx⟩
  · have hl : s.length ≤ 8192 := by omega
    have hl2 : s.length ≤ 1099511627776 := by omega
    have G1 := Lib.hid (fun w => heavy01_no s [] w (by simpa using hl))
    have G2 := Lib.hid (fun w => Get32_any s p w hl2)
    have G3 := Lib.hid (fun w => Get64_any s p w hl2)
    have G4 := Lib.hid (fun w => RefGet4_any s p w hl2)
    have G5 := Lib.hid (fun w => RefGet8_any s p w hl2)
    have G6 := Lib.hid (fun w => Put64_any n w hn)
    have G7 := Lib.hid (fun w => RefPut8_any n w hn)
    have hand := and_low32 n hn
    have hb32 := Get32_lt s p
    have G8 := Lib.hid (fun w => Put32_low n w)
    have G9 := Lib.hid (fun w => RefPut4_low n w)
    clear h hs hl hl2
    go_enter Try.func3, Try.ntmps3
    go_wp2_with (first
      | (go_at_call 11; refine (G1.out _).mono ?_; rintro e w' ⟨rfl, rfl⟩)
      | (go_at_call 13; refine (G2.out _).mono ?_; rintro e w' ⟨rfl, rfl⟩)
      | (go_at_call 14; refine (G3.out _).mono ?_; rintro e w' ⟨rfl, rfl⟩)
      | (go_at_call 15; with_reducible refine (G4.out _).mono ?_; rintro e w' ⟨rfl, rfl⟩)
      | (go_at_call 15; with_reducible refine (G5.out _).mono ?_; rintro e w' ⟨rfl, rfl⟩)
      | (go_at_call 16; refine (G6.out _).mono ?_; rintro e w1 ⟨rfl, hx1⟩)
      | (go_at_call 17; with_reducible refine (G7.out _).mono ?_; rintro e w2 ⟨rfl, hx2⟩)
      | (go_at_call 18; refine (G8.out _).mono ?_; rintro e w3 ⟨rfl, hx3⟩)
      | (go_at_call 17; with_reducible refine (G9.out _).mono ?_; rintro e w4 ⟨rfl, hx4⟩)
      | (go_at_call 12; refine (G0.out _).mono ?_; rintro e w9 ⟨rfl, hx9⟩))
    go_ret
    exact ⟨rfl, (((hx1.trans hx2).trans hx3).trans hx4).trans hx9⟩
end Go.Proofs.Ytgjaefolmnelcaa
