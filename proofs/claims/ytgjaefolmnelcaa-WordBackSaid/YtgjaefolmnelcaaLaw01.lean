/- The statements of layer 1: walks of the laws. -/
import Derived.Test.YtgjaefolmnelcaaHex
import Derived.Test.YtgjaefolmnelcaaUnhex
import Derived.Test.YtgjaefolmnelcaaPlain01
import Derived.Test.YtgjaefolmnelcaaRow
namespace Go.Proofs.Ytgjaefolmnelcaa
open Go Go.RowKit

set_option maxRecDepth 100000 in
set_option maxHeartbeats 1000000 in
theorem works01 (w : World) : Calls Try.prog 12 #[] w fun e w' => e = .returned (.bool true) ∧ Ext w w' := by
  have g1 : ∀ w, Calls Try.prog 13 #[.string { data := #[120, 0, 0, 1, 2] }, .int .i64 1] w fun e w' => e = .returned (.tuple #[.int .u32 258, .bool true]) ∧ w = w' := fun w => by
    have := Get32_any [120, 0, 0, 1, 2] 1 w (by decide)
    rw [show Get32 [120, 0, 0, 1, 2] 1 = (258, true) by decide] at this; exact this
  have g2 : ∀ w, Calls Try.prog 21 #[.string { data := #[97, 98] }] w fun e w' => e = .returned (.tuple #[.string { data := #[171] }, .bool true]) ∧ Ext w w' := fun w => by
    have := Unhex_any [97, 98] w (by decide)
    rw [show Unhex [97, 98] = ([171], true) by decide] at this; exact this
  have g3 : ∀ w, Calls Try.prog 21 #[.string { data := #[65, 66] }] w fun e w' => e = .returned (.tuple #[.string { data := #[] }, .bool false]) ∧ Ext w w' := fun w => by
    have := Unhex_any [65, 66] w (by decide)
    rw [show Unhex [65, 66] = ([], false) by decide] at this; exact this
  have g4 : ∀ w, Calls Try.prog 18 #[.int .u32 258] w fun e w' => e = .returned (.string { data := #[0, 0, 1, 2] }) ∧ Ext w w' := fun w => by
    have := Put32_any 258 w (by unfold U32; omega)
    rw [show putB 4 258 = [0, 0, 1, 2] by decide] at this; exact this
  have g5 : ∀ w, Calls Try.prog 19 #[.int .u32 1, .int .i64 1] w fun e w' => e = .returned (.int .u32 2147483648) ∧ Ext w w' := fun w => by
    have := Turn_any 1 1 w
    rw [show rotr 1 1 = 2147483648 by decide] at this; exact this
  have g6 : ∀ w, Calls Try.prog 22 #[.string { data := #[171] }] w fun e w' => e = .returned (.string { data := #[97, 98] }) ∧ Ext w w' := fun w => by
    have := Hex_any [171] w (by decide)
    rw [show hexL [171] = [97, 98] by decide] at this; exact this
  have G1 := Lib.hid g1; have G2 := Lib.hid g2; have G3 := Lib.hid g3; have G4 := Lib.hid g4; have G5 := Lib.hid g5; have G6 := Lib.hid g6
  clear g1 g2 g3 g4 g5 g6
  go_enter Try.func12, Try.ntmps12
  go_wp2_with (first
    | (go_at_call 13; with_reducible refine (G1.out _).mono ?_; rintro e w' ⟨rfl, rfl⟩)
    | (go_at_call 21; with_reducible refine (G2.out _).mono ?_; rintro e w1 ⟨rfl, hx1⟩)
    | (go_at_call 21; with_reducible refine (G3.out _).mono ?_; rintro e w2 ⟨rfl, hx2⟩)
    | (go_at_call 18; with_reducible refine (G4.out _).mono ?_; rintro e w3 ⟨rfl, hx3⟩)
    | (go_at_call 19; with_reducible refine (G5.out _).mono ?_; rintro e w4 ⟨rfl, hx4⟩)
    | (go_at_call 22; with_reducible refine (G6.out _).mono ?_; rintro e w5 ⟨rfl, hx5⟩))
  go_ret
  exact ⟨rfl, ((((hx1.trans hx2).trans hx3).trans hx4).trans hx5)⟩

/-- What a text may have: the form's reach. -/
def Rch (l : List UInt8) : Prop := l.length ≤ reachBytes
theorem Rch.le {l : List UInt8} (h : Rch l) : l.length ≤ 140737488351232 := h
set_option maxHeartbeats 400000 in
theorem heavy01_yes (a b : List UInt8) (w : World) (ha : Rch a) (hb : Rch b) (h : 8192 < a.length + b.length) :
    Calls Try.prog 11 #[.string (bs a), .string (bs b)] w fun e w' => e = .returned (.bool true) ∧ w = w' := by
  have ha := ha.le; have hb := hb.le
  go_enter Try.func11, Try.ntmps11
  go_wp2
  go_ret
  exact ⟨ret_bool (by simp; omega), rfl⟩
set_option maxHeartbeats 400000 in
theorem heavy01_no (a b : List UInt8) (w : World) (h : a.length + b.length ≤ 8192) :
    Calls Try.prog 11 #[.string (bs a), .string (bs b)] w fun e w' => e = .returned (.bool false) ∧ w = w' := by
  go_enter Try.func11, Try.ntmps11
  go_wp2
  go_ret
  exact ⟨ret_bool (by simp; omega), rfl⟩
theorem and_low32 (n : Nat) (hn : U64 n) : bits .and .u64 (n : Int) 4294967295 = (n : Int) % 4294967296 := by
  have h := bits_and_u64_nat n 4294967295 hn (by omega)
  rw [show n &&& 4294967295 = n % 4294967296 from Nat.and_two_pow_sub_one_eq_mod n 32] at h
  rw [Int.natCast_emod] at h
  exact h
theorem Put32_low (n : Nat) (w : World) :
    Calls Try.prog 18 #[.int .u32 ((n : Int) % 4294967296)] w fun e w' => e = .returned (.string (bs (putB 4 (n % 4294967296)))) ∧ Ext w w' := by
  have h := Put32_any (n % 4294967296) w (Nat.mod_lt _ (by omega))
  rw [Int.natCast_emod] at h
  exact h
theorem RefPut4_low (n : Nat) (w : World) :
    Calls Try.prog 17 #[.int .u64 ((n : Int) % 4294967296), .int .i64 4] w fun e w' => e = .returned (.string (bs (putB 4 (n % 4294967296)))) ∧ Ext w w' := by
  have h := RefPut4_any (n % 4294967296) w (Nat.lt_trans (Nat.mod_lt _ (by omega : 0 < 4294967296)) (by omega))
  rw [Int.natCast_emod] at h
  exact h
set_option maxRecDepth 100000 in
set_option maxHeartbeats 1000000 in
theorem law_WordTells (w : World) (n : Nat) (s : List UInt8) (p : Int) (hn : U64 n) (hs : Rch s) (_hp : -9223372036854775808 ≤ p ∧ p ≤ 9223372036854775807) :
    Calls Try.prog 3 #[.int .u64 n, .string (bs s), .int .i64 p] w fun e w' => e = .returned (.bool true) ∧ Ext w w' := by

  have G0 := Lib.hid works01
  by_cases h : 8192 < s.length
  · have G1 := Lib.hid (fun w => heavy01_yes s [] w hs (by simp [Rch]) (by simpa using h))
    clear h hs
    go_enter Try.func3, Try.ntmps3
    go_wp2_with (first
      | (go_at_call 11; refine (G1.out _).mono ?_; rintro e w' ⟨rfl, rfl⟩)
      | (go_at_call 12; refine (G0.out _).mono ?_; rintro e w' ⟨rfl, hx⟩))
    go_ret
    exact ⟨rfl, hx⟩
  · have hl : s.length ≤ 8192 := by omega
    have hl2 : s.length ≤ 1099511627776 := by omega
    have G1 := Lib.hid (fun w => heavy01_no s [] w (by simpa using hl))
    have G2 := Lib.hid (fun w => Get32_any s p w hl2)
    have G3 := Lib.hid (fun w => Get64_any s p w hl2)
    have G4 := Lib.hid (fun w => RefGet4_any s p w hl2)
    have G5 := Lib.hid (fun w => RefGet8_any s p w hl2)
    have G6 := Lib.hid (fun w => Put64_any n w hn)
    have G7 := Lib.hid (fun w => RefPut8_any n w hn)
    have hand := and_low32 n hn
    have hb32 := Get32_lt s p
    have G8 := Lib.hid (fun w => Put32_low n w)
    have G9 := Lib.hid (fun w => RefPut4_low n w)
    clear h hs hl hl2
    go_enter Try.func3, Try.ntmps3
    go_wp2_with (first
      | (go_at_call 11; refine (G1.out _).mono ?_; rintro e w' ⟨rfl, rfl⟩)
      | (go_at_call 13; refine (G2.out _).mono ?_; rintro e w' ⟨rfl, rfl⟩)
      | (go_at_call 14; refine (G3.out _).mono ?_; rintro e w' ⟨rfl, rfl⟩)
      | (go_at_call 15; with_reducible refine (G4.out _).mono ?_; rintro e w' ⟨rfl, rfl⟩)
      | (go_at_call 15; with_reducible refine (G5.out _).mono ?_; rintro e w' ⟨rfl, rfl⟩)
      | (go_at_call 16; refine (G6.out _).mono ?_; rintro e w1 ⟨rfl, hx1⟩)
      | (go_at_call 17; with_reducible refine (G7.out _).mono ?_; rintro e w2 ⟨rfl, hx2⟩)
      | (go_at_call 18; refine (G8.out _).mono ?_; rintro e w3 ⟨rfl, hx3⟩)
      | (go_at_call 17; with_reducible refine (G9.out _).mono ?_; rintro e w4 ⟨rfl, hx4⟩)
      | (go_at_call 12; refine (G0.out _).mono ?_; rintro e w9 ⟨rfl, hx9⟩))
    go_ret
    exact ⟨rfl, (((hx1.trans hx2).trans hx3).trans hx4).trans hx9⟩
set_option maxRecDepth 100000 in
set_option maxHeartbeats 1000000 in
theorem law_WordTurns (w : World) (n : UInt32) (by_ : Int) (a b : List UInt8) (hby : -9223372036854775808 ≤ by_ ∧ by_ ≤ 9223372036854775807) (ha : Rch a) (hb : Rch b) :
    Calls Try.prog 5 #[.int .u32 n.toNat, .int .i64 by_, .string (bs a), .string (bs b)] w fun e w' => e = .returned (.bool true) ∧ Ext w w' := by
  have G0 := Lib.hid works01
  by_cases h : 8192 < a.length + b.length
  · have G1 := Lib.hid (fun w => heavy01_yes a b w ha hb h)
    clear h ha hb hby
    go_enter Try.func5, Try.ntmps5
    go_wp2_with (first
      | (go_at_call 11; with_reducible refine (G1.out _).mono ?_; rintro e w' ⟨rfl, rfl⟩)
      | (go_at_call 12; with_reducible refine (G0.out _).mono ?_; rintro e x ⟨rfl, hx⟩))
    go_ret
    exact ⟨rfl, hx⟩
  · have hl : a.length ≤ 8192 := by omega
    have hl2 : b.length ≤ 8192 := by omega
    have hl3 : a.length ≤ 1099511627776 := by omega
    have hl4 : b.length ≤ 1099511627776 := by omega
    have G1 := Lib.hid (fun w => heavy01_no a b w (by omega))
    have G2 := Lib.hid (fun w => Unhex_any a w hl3)
    have G3 := Lib.hid (fun w => RefUnhex_any a w hl3)
    have G4 := Lib.hid (fun w => Turn_any n by_ w)
    have G5 := Lib.hid (fun w => RefTurn_any n by_ w hby.1 hby.2)
    have G6 := Lib.hid (fun w => Hex_any a w hl3)
    have G7 := Lib.hid (fun w => RefHex_any a w hl3)
    have G8 := Lib.hid (fun w => Equal_any a b w hl3 hl4)
    clear h ha hb hby
    by_cases hlen : a.length = b.length
    · have G9 := Lib.hid (fun w => Xor_yes a b w hlen hl3)
      have G10 := Lib.hid (fun w => RefXor_any a b w hlen hl3)
      have hlt : ((a.length : Int) == (b.length : Int)) = true := by simp [hlen]
      clear hlen hl3 hl4
      have hcmp : (decide (a = b) == (a == b)) = true := by by_cases hab : a = b <;> simp [hab]
      go_enter Try.func5, Try.ntmps5
      go_wp2_with (first
      | (go_at_call 11; with_reducible refine (G1.out _).mono ?_; rintro e w' ⟨rfl, rfl⟩)
      | (go_at_call 21; with_reducible refine (G2.out _).mono ?_; rintro e w1 ⟨rfl, hw1⟩)
      | (go_at_call 24; with_reducible refine (G3.out _).mono ?_; rintro e w2 ⟨rfl, hw2⟩)
      | (go_at_call 19; with_reducible refine (G4.out _).mono ?_; rintro e w3 ⟨rfl, hw3⟩)
      | (go_at_call 25; with_reducible refine (G5.out _).mono ?_; rintro e w' ⟨rfl, rfl⟩)
      | (go_at_call 22; with_reducible refine (G6.out _).mono ?_; rintro e w4 ⟨rfl, hw4⟩)
      | (go_at_call 27; with_reducible refine (G7.out _).mono ?_; rintro e w5 ⟨rfl, hw5⟩)
      | (go_at_call 26; with_reducible refine (G8.out _).mono ?_; rintro e w6 ⟨rfl, hw6⟩)
      | (go_at_call 20; with_reducible refine (G9.out _).mono ?_; rintro e w7 ⟨rfl, hw7⟩)
      | (go_at_call 23; with_reducible refine (G10.out _).mono ?_; rintro e w8 ⟨rfl, hw8⟩)
      | (go_at_call 12; with_reducible refine (G0.out _).mono ?_; rintro e w9 ⟨rfl, hw9⟩))
      go_ret
      exact ⟨rfl, (by repeat (first | exact Ext.refl _ | assumption | (refine Ext.trans ?_ (by assumption))))⟩
    · have G9 := Lib.hid (fun w => Xor_no a b w hlen hl3 hl4)
      have hlt : ((a.length : Int) == (b.length : Int)) = false := by simp; omega
      have hab : a ≠ b := fun e => hlen (by rw [e])
      have hcmp : (decide (a = b) == (a == b)) = true := by simp [hab]
      clear hlen hl3 hl4 hab
      go_enter Try.func5, Try.ntmps5
      go_wp2_with (first
      | (go_at_call 11; with_reducible refine (G1.out _).mono ?_; rintro e w' ⟨rfl, rfl⟩)
      | (go_at_call 21; with_reducible refine (G2.out _).mono ?_; rintro e w1 ⟨rfl, hw1⟩)
      | (go_at_call 24; with_reducible refine (G3.out _).mono ?_; rintro e w2 ⟨rfl, hw2⟩)
      | (go_at_call 19; with_reducible refine (G4.out _).mono ?_; rintro e w3 ⟨rfl, hw3⟩)
      | (go_at_call 25; with_reducible refine (G5.out _).mono ?_; rintro e w' ⟨rfl, rfl⟩)
      | (go_at_call 22; with_reducible refine (G6.out _).mono ?_; rintro e w4 ⟨rfl, hw4⟩)
      | (go_at_call 27; with_reducible refine (G7.out _).mono ?_; rintro e w5 ⟨rfl, hw5⟩)
      | (go_at_call 26; with_reducible refine (G8.out _).mono ?_; rintro e w6 ⟨rfl, hw6⟩)
      | (go_at_call 20; with_reducible refine (G9.out _).mono ?_; rintro e w7 ⟨rfl, hw7⟩)
      | (go_at_call 12; with_reducible refine (G0.out _).mono ?_; rintro e w9 ⟨rfl, hw9⟩))
      go_ret
      exact ⟨rfl, (by repeat (first | exact Ext.refl _ | assumption | (refine Ext.trans ?_ (by assumption))))⟩

/-! ### WordBack -/
set_option maxRecDepth 100000 in
set_option maxHeartbeats 2000000 in
theorem law_WordBack (w : World) (n : Nat) (by_ : Int) (a b ahead : List UInt8) (hn : U64 n) (_hby : -9223372036854775808 ≤ by_ ∧ by_ ≤ 9223372036854775807) (ha : Rch a) (hb : Rch b) (hh : Rch ahead) :
    Calls Try.prog 4 #[.int .u64 n, .int .i64 by_, .string (bs a), .string (bs b), .string (bs ahead)] w fun e w' => e = .returned (.bool true) ∧ Ext w w' := by
  have G0 := Lib.hid works01
  by_cases h : 8192 < a.length + b.length
  · have G1 := Lib.hid (fun w => heavy01_yes a b w ha hb h)
    clear h ha hb hh
    go_enter Try.func4, Try.ntmps4
    go_wp2_with (first
      | (go_at_call 11; with_reducible refine (G1.out _).mono ?_; rintro e w' ⟨rfl, rfl⟩)
      | (go_at_call 12; with_reducible refine (G0.out _).mono ?_; rintro e x ⟨rfl, hx⟩))
    go_ret
    exact ⟨rfl, hx⟩
  have G1 := Lib.hid (fun w => heavy01_no a b w (by omega))
  have hlen : a.length ≤ 8192 ∧ b.length ≤ 8192 := by omega
  by_cases h2 : 1024 < ahead.length
  · have hh' := hh.le
    clear h ha hb hh
    go_enter Try.func4, Try.ntmps4
    go_wp2_with (first
      | (go_at_call 11; with_reducible refine (G1.out _).mono ?_; rintro e w' ⟨rfl, rfl⟩)
      | (go_at_call 12; with_reducible refine (G0.out _).mono ?_; rintro e x ⟨rfl, hx⟩))
    go_ret
    exact ⟨rfl, hx⟩
  have h2' : ahead.length ≤ 1024 := by omega
  by_cases h3 : by_ < -1000
  · clear h ha hb hh h2
    go_enter Try.func4, Try.ntmps4
    go_wp2_with (first
      | (go_at_call 11; with_reducible refine (G1.out _).mono ?_; rintro e w' ⟨rfl, rfl⟩)
      | (go_at_call 12; with_reducible refine (G0.out _).mono ?_; rintro e x ⟨rfl, hx⟩))
    go_ret
    exact ⟨rfl, hx⟩
  have h3' : -1000 ≤ by_ := by omega
  by_cases h4 : 1000 < by_
  · clear h ha hb hh h2 h3
    go_enter Try.func4, Try.ntmps4
    go_wp2_with (first
      | (go_at_call 11; with_reducible refine (G1.out _).mono ?_; rintro e w' ⟨rfl, rfl⟩)
      | (go_at_call 12; with_reducible refine (G0.out _).mono ?_; rintro e x ⟨rfl, hx⟩))
    go_ret
    exact ⟨rfl, hx⟩
  have h4' : by_ ≤ 1000 := by omega
  clear h ha hb hh h2 h3 h4
  obtain ⟨hla, hlb⟩ := hlen
  obtain ⟨m, hm⟩ : ∃ m : UInt32, (m.toNat : Int) = (n : Int) % 4294967296 := ⟨UInt32.ofNat (n % 4294967296), by
    rw [UInt32.toNat_ofNat_of_lt' (by show n % 4294967296 < 4294967296; omega)]; omega⟩
  have hand : bits .and .u64 (n : Int) 4294967295 = (m.toNat : Int) := by rw [hm]; exact and_low32 n hn
  have hmU : U32 m.toNat := m.toNat_lt
  clear hm
  have G2 := Lib.hid (fun w => Put64_any n w hn)
  have g3 : ∀ w, Calls Try.prog 14 #[.string (bs (ahead ++ putB 8 n)), .int .i64 ahead.length] w fun e w' => e = .returned (.tuple #[.int .u64 n, .bool true]) ∧ w = w' := fun w => by
    have := Get64_any (ahead ++ putB 8 n) ahead.length w (by simp; omega)
    have h := Get64_mid ahead [] n hn
    rw [List.append_nil] at h
    rw [h] at this; exact this
  have G4 := Lib.hid (fun w => Put32_any m.toNat w hmU)
  have g5 : ∀ w, Calls Try.prog 13 #[.string (bs (ahead ++ (putB 4 m.toNat ++ b))), .int .i64 ahead.length] w fun e w' => e = .returned (.tuple #[.int .u32 m.toNat, .bool true]) ∧ w = w' := fun w => by
    have := Get32_any (ahead ++ putB 4 m.toNat ++ b) ahead.length w (by simp; omega)
    rw [Get32_mid ahead b m.toNat hmU, List.append_assoc] at this; exact this
  have G6 := Lib.hid (fun w => Turn_any m by_ w)
  have g7 : ∀ w, Calls Try.prog 19 #[.int .u32 (rotr m by_).toNat, .int .i64 (-by_)] w fun e w' => e = .returned (.int .u32 m.toNat) ∧ Ext w w' := fun w => by
    have := Turn_any (rotr m by_) (-by_) w
    rw [rotr_back] at this; exact this
  have g8 : ∀ w, Calls Try.prog 19 #[.int .u32 m.toNat, .int .i64 (by_ + 32)] w fun e w' => e = .returned (.int .u32 (rotr m by_).toNat) ∧ Ext w w' := fun w => by
    have := Turn_any m (by_ + 32) w
    rw [rotr_round] at this; exact this
  have G9 := Lib.hid (fun w => Hex_any a w (by omega))
  have g10 : ∀ w, Calls Try.prog 21 #[.string (bs (hexL a))] w fun e w' => e = .returned (.tuple #[.string (bs a), .bool true]) ∧ Ext w w' := fun w => by
    have := Unhex_any (hexL a) w (by rw [hexL_length]; omega)
    rw [Unhex_hexL] at this; exact this
  have G3 := Lib.hid g3; have G5 := Lib.hid g5; have G7 := Lib.hid g7; have G8 := Lib.hid g8; have G10 := Lib.hid g10
  clear g3 g5 g7 g8 g10
  rcases Nat.lt_or_ge b.length a.length with hle | hle
  · have hPQ : (a.take b.length).length = (b).length := by simp; try omega
    have G11 := Lib.hid (fun w => Xor_yes (a.take b.length) (b) w hPQ (by first | omega | (simp; omega)))
    have hXX : (xorL (a.take b.length) (b)).length = (b).length := by rw [xorL_length _ _ hPQ]; exact hPQ
    have g12 : ∀ w, Calls Try.prog 20 #[.string (bs (xorL (a.take b.length) (b))), .string (bs (b))] w fun e w' => e = .returned (.tuple #[.string (bs (a.take b.length)), .bool true]) ∧ Ext w w' := fun w => by
      have := Xor_yes (xorL (a.take b.length) (b)) (b) w hXX (by rw [hXX]; first | omega | (simp; omega))
      rw [xorL_back _ _ hPQ] at this; exact this
    have G12 := Lib.hid g12; clear g12 hPQ hXX
    have hlc : (b.length : Int) ≤ (a.length : Int) := by omega
    go_enter Try.func4, Try.ntmps4
    go_wp2_with (first
      | (go_at_call 11; with_reducible refine (G1.out _).mono ?_; rintro e w' ⟨rfl, rfl⟩)
      | (go_at_call 16; with_reducible refine (G2.out _).mono ?_; rintro e w1 ⟨rfl, hw1⟩)
      | (go_at_call 14; with_reducible refine (G3.out _).mono ?_; rintro e w' ⟨rfl, rfl⟩)
      | (go_at_call 18; with_reducible refine (G4.out _).mono ?_; rintro e w2 ⟨rfl, hw2⟩)
      | (go_at_call 13; with_reducible refine (G5.out _).mono ?_; rintro e w' ⟨rfl, rfl⟩)
      | (go_at_call 19; with_reducible refine (G6.out _).mono ?_; rintro e w3 ⟨rfl, hw3⟩)
      | (go_at_call 19; with_reducible refine (G7.out _).mono ?_; rintro e w4 ⟨rfl, hw4⟩)
      | (go_at_call 19; with_reducible refine (G8.out _).mono ?_; rintro e w5 ⟨rfl, hw5⟩))
    refine Loud.wp_region_loud (fun i => decide (i = 6)) 12 (fun _ => True) (by kernel_rfl) (by kernel_rfl) trivial ?_
    simp only [List.take_succ_cons, List.take_zero]
    iterate 6 (refine Loud.lex_qe rfl rfl ?_; apply Exists.intro; refine ⟨fun _ _ => ?_, Loud.norm fun K hK => ?_⟩; (go_simp; try rfl); go_simp; refine hK _ ?_; clear hK K)
    refine Loud.lex_l rfl rfl (fun K hK => ?_); go_simp; refine (G11.out _).mono ?_; rintro e w6 ⟨rfl, hw6⟩; refine ⟨_, rfl, ?_⟩; go_simp; refine hK _ _ trivial ?_; clear hK K
    iterate 5 (refine Loud.lex_qe rfl rfl ?_; apply Exists.intro; refine ⟨fun _ _ => ?_, Loud.norm fun K hK => ?_⟩; (go_simp; try rfl); go_simp; refine hK _ ?_; clear hK K)
    refine Loud.lex_nil ?_
    simp only [List.drop_succ_cons, List.drop_zero]
    go_wp2_with (first
      | (go_at_call 20; with_reducible refine (G12.out _).mono ?_; rintro e w7 ⟨rfl, hw7⟩)
      | (go_at_call 22; with_reducible refine (G9.out _).mono ?_; rintro e w8 ⟨rfl, hw8⟩)
      | (go_at_call 21; with_reducible refine (G10.out _).mono ?_; rintro e w9 ⟨rfl, hw9⟩)
      | (go_at_call 12; with_reducible refine (G0.out _).mono ?_; rintro e w10 ⟨rfl, hw10⟩))
    go_ret
    exact ⟨rfl, (by repeat (first | exact Ext.refl _ | assumption | (with_reducible refine Ext.drew ?_) | (with_reducible refine Ext.drewN ?_ _) | (with_reducible refine Ext.alloc ?_ _) | (refine Ext.trans ?_ (by assumption))))⟩
  · have hPQ : (a).length = (b.take a.length).length := by simp; try omega
    have G11 := Lib.hid (fun w => Xor_yes (a) (b.take a.length) w hPQ (by first | omega | (simp; omega)))
    have hXX : (xorL (a) (b.take a.length)).length = (b.take a.length).length := by rw [xorL_length _ _ hPQ]; exact hPQ
    have g12 : ∀ w, Calls Try.prog 20 #[.string (bs (xorL (a) (b.take a.length))), .string (bs (b.take a.length))] w fun e w' => e = .returned (.tuple #[.string (bs (a)), .bool true]) ∧ Ext w w' := fun w => by
      have := Xor_yes (xorL (a) (b.take a.length)) (b.take a.length) w hXX (by rw [hXX]; first | omega | (simp; omega))
      rw [xorL_back _ _ hPQ] at this; exact this
    have G12 := Lib.hid g12; clear g12 hPQ hXX
    have hlc : (a.length : Int) ≤ (b.length : Int) := by omega
    go_enter Try.func4, Try.ntmps4
    go_wp2_with (first
      | (go_at_call 11; with_reducible refine (G1.out _).mono ?_; rintro e w' ⟨rfl, rfl⟩)
      | (go_at_call 16; with_reducible refine (G2.out _).mono ?_; rintro e w1 ⟨rfl, hw1⟩)
      | (go_at_call 14; with_reducible refine (G3.out _).mono ?_; rintro e w' ⟨rfl, rfl⟩)
      | (go_at_call 18; with_reducible refine (G4.out _).mono ?_; rintro e w2 ⟨rfl, hw2⟩)
      | (go_at_call 13; with_reducible refine (G5.out _).mono ?_; rintro e w' ⟨rfl, rfl⟩)
      | (go_at_call 19; with_reducible refine (G6.out _).mono ?_; rintro e w3 ⟨rfl, hw3⟩)
      | (go_at_call 19; with_reducible refine (G7.out _).mono ?_; rintro e w4 ⟨rfl, hw4⟩)
      | (go_at_call 19; with_reducible refine (G8.out _).mono ?_; rintro e w5 ⟨rfl, hw5⟩))
    refine Loud.wp_region_loud (fun i => decide (i = 6)) 12 (fun _ => True) (by kernel_rfl) (by kernel_rfl) trivial ?_
    simp only [List.take_succ_cons, List.take_zero]
    iterate 6 (refine Loud.lex_qe rfl rfl ?_; apply Exists.intro; refine ⟨fun _ _ => ?_, Loud.norm fun K hK => ?_⟩; (go_simp; try rfl); go_simp; refine hK _ ?_; clear hK K)
    refine Loud.lex_l rfl rfl (fun K hK => ?_); go_simp; refine (G11.out _).mono ?_; rintro e w6 ⟨rfl, hw6⟩; refine ⟨_, rfl, ?_⟩; go_simp; refine hK _ _ trivial ?_; clear hK K
    iterate 5 (refine Loud.lex_qe rfl rfl ?_; apply Exists.intro; refine ⟨fun _ _ => ?_, Loud.norm fun K hK => ?_⟩; (go_simp; try rfl); go_simp; refine hK _ ?_; clear hK K)
    refine Loud.lex_nil ?_
    simp only [List.drop_succ_cons, List.drop_zero]
    go_wp2_with (first
      | (go_at_call 20; with_reducible refine (G12.out _).mono ?_; rintro e w7 ⟨rfl, hw7⟩)
      | (go_at_call 22; with_reducible refine (G9.out _).mono ?_; rintro e w8 ⟨rfl, hw8⟩)
      | (go_at_call 21; with_reducible refine (G10.out _).mono ?_; rintro e w9 ⟨rfl, hw9⟩)
      | (go_at_call 12; with_reducible refine (G0.out _).mono ?_; rintro e w10 ⟨rfl, hw10⟩))
    go_ret
    exact ⟨rfl, (by repeat (first | exact Ext.refl _ | assumption | (with_reducible refine Ext.drew ?_) | (with_reducible refine Ext.drewN ?_ _) | (with_reducible refine Ext.alloc ?_ _) | (refine Ext.trans ?_ (by assumption))))⟩

/-! ### WordOrder -/
set_option maxRecDepth 100000 in
set_option maxHeartbeats 2000000 in
theorem law_WordOrder (w : World) (a b : Nat) (x y z : List UInt8) (ha : U64 a) (hb : U64 b) (hx : Rch x) (hy : Rch y) (hz : Rch z) :
    Calls Try.prog 8 #[.int .u64 a, .int .u64 b, .string (bs x), .string (bs y), .string (bs z)] w fun e w' => e = .returned (.bool true) ∧ Ext w w' := by
  have G0 := Lib.hid works01
  by_cases h : 8192 < x.length + y.length + z.length
  · have hx' := hx.le; have hy' := hy.le; have hz' := hz.le
    clear hx hy hz
    go_enter Try.func8, Try.ntmps8
    go_wp2_with (first
      | (go_at_call 12; with_reducible refine (G0.out _).mono ?_; rintro e x ⟨rfl, hx⟩))
    go_ret
    exact ⟨rfl, hx⟩
  have hx' : x.length ≤ 8192 := by omega
  have hy' : y.length ≤ 8192 := by omega
  have hz' : z.length ≤ 8192 := by omega
  have hsum : x.length + y.length + z.length ≤ 8192 := by omega
  clear hx hy hz h
  obtain ⟨c, hc⟩ : ∃ c : Nat, c = min (min x.length y.length) z.length := ⟨_, rfl⟩
  have hcx : c ≤ x.length := by omega
  have hcy : c ≤ y.length := by omega
  have hcz : c ≤ z.length := by omega
  obtain ⟨p, hp⟩ : ∃ p, p = x.take c := ⟨_, rfl⟩
  obtain ⟨q, hq⟩ : ∃ q, q = y.take c := ⟨_, rfl⟩
  obtain ⟨r, hr⟩ : ∃ r, r = z.take c := ⟨_, rfl⟩
  have lp : p.length = c := by rw [hp]; simp; omega
  have lq : q.length = c := by rw [hq]; simp; omega
  have lr : r.length = c := by rw [hr]; simp; omega
  have lpq := xorL_length p q (by omega)
  have lqr := xorL_length q r (by omega)
  have G1 := Lib.hid (fun w => Xor_yes p q w (by omega) (by omega))
  have g2 : ∀ w, Calls Try.prog 20 #[.string (bs q), .string (bs p)] w fun e w' => e = .returned (.tuple #[.string (bs (xorL p q)), .bool true]) ∧ Ext w w' := fun w => by
    have := Xor_yes q p w (by omega) (by omega)
    rw [xorL_comm q p] at this; exact this
  have G3 := Lib.hid (fun w => Xor_yes (xorL p q) r w (by omega) (by omega))
  have G4 := Lib.hid (fun w => Xor_yes q r w (by omega) (by omega))
  have g5 : ∀ w, Calls Try.prog 20 #[.string (bs p), .string (bs (xorL q r))] w fun e w' => e = .returned (.tuple #[.string (bs (xorL (xorL p q) r)), .bool true]) ∧ Ext w w' := fun w => by
    have := Xor_yes p (xorL q r) w (by omega) (by omega)
    rw [← xorL_assoc] at this; exact this
  have g6 : ∀ w, Calls Try.prog 20 #[.string (bs p), .string (bs p)] w fun e w' => e = .returned (.tuple #[.string (bs (List.replicate c 0)), .bool true]) ∧ Ext w w' := fun w => by
    have := Xor_yes p p w rfl (by omega)
    rw [xorL_self, lp] at this; exact this
  have G7 := Lib.hid (fun w => Put64_any a w ha)
  have G8 := Lib.hid (fun w => Put64_any b w hb)
  have G9 := Lib.hid (fun w => Equal_any p q w (by omega) (by omega))
  have hmk := mk_bytes c (by omega)
  have hts := fun w => to_str_new w c c 5 (List.replicate c 0) (by simp)
  have hle := less_putB8 a b ha hb
  have hcmp : (decide (a < b) == decide (a < b)) = true := by simp
  have hcmp2 : (decide (p = q) == (xorL p q == List.replicate c 0)) = true := by
    have := xorL_zeros p q (by omega)
    rw [lp] at this
    by_cases e : p = q
    · have h1 := this.2 e
      rw [decide_eq_true e, h1]; simp
    · have h1 : xorL p q ≠ List.replicate c 0 := fun h => e (this.1 h)
      rw [decide_eq_false e]; simp [h1]
  have G2 := Lib.hid g2; have G5 := Lib.hid g5; have G6 := Lib.hid g6
  have HC := Lib.hid hc
  clear g2 g5 g6 lp lq lr lpq lqr hc
  have hpx := hp.symm; have hqx := hq.symm; have hrx := hr.symm
  clear hp hq hr
  go_enter Try.func8, Try.ntmps8
  go_wp2_with (refine wpl_min3 rfl rfl rfl rfl rfl (c : Int) (by have := HC.out; omega) ?_)
  go_quiet (fail)
  go_wp2_with (first
    | (go_at_call 20; with_reducible refine (G1.out _).mono ?_; rintro e w1 ⟨rfl, hw1⟩)
    | (go_at_call 20; with_reducible refine (G2.out _).mono ?_; rintro e w2 ⟨rfl, hw2⟩)
    | (go_at_call 20; with_reducible refine (G3.out _).mono ?_; rintro e w3 ⟨rfl, hw3⟩)
    | (go_at_call 20; with_reducible refine (G4.out _).mono ?_; rintro e w4 ⟨rfl, hw4⟩)
    | (go_at_call 20; with_reducible refine (G5.out _).mono ?_; rintro e w5 ⟨rfl, hw5⟩)
    | (go_at_call 20; with_reducible refine (G6.out _).mono ?_; rintro e w6 ⟨rfl, hw6⟩)
    | (go_at_call 16; with_reducible refine (G7.out _).mono ?_; rintro e w7 ⟨rfl, hw7⟩)
    | (go_at_call 16; with_reducible refine (G8.out _).mono ?_; rintro e w8 ⟨rfl, hw8⟩)
    | (go_at_call 26; with_reducible refine (G9.out _).mono ?_; rintro e w9 ⟨rfl, hw9⟩)
    | (go_at_call 12; with_reducible refine (G0.out _).mono ?_; rintro e w10 ⟨rfl, hw10⟩))
  go_ret
  exact ⟨rfl, (by repeat (first | exact Ext.refl _ | assumption | (with_reducible refine Ext.drew ?_) | (with_reducible refine Ext.drewN ?_ _) | (with_reducible refine Ext.alloc ?_ _) | (refine Ext.trans ?_ (by assumption))))⟩
end Go.Proofs.Ytgjaefolmnelcaa
