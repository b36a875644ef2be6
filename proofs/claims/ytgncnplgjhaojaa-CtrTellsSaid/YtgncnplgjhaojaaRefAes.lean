/- Contracts: layer 4, the document's products. -/
import Derived.Test.YtgncnplgjhaojaaAes
import Derived.Deep.DeepCutAuto
namespace Go.Proofs.Ytgncnplgjhaojaa
open Go Go.RowKit

theorem bitN_le (n k : Nat) : bitN n k = 0 ∨ bitN n k = 1 := Nat.mod_two_eq_zero_or_one _
theorem and_bit8 (b : UInt8) (k : Nat) : bits .and .u8 ((b.toNat : Int) / 2 ^ k) 1 = (bitN b.toNat k : Int) := by
  have hl : b.toNat / 2 ^ k < 256 := Nat.lt_of_le_of_lt (Nat.div_le_self _ _) b.toNat_lt
  have h := band8_1 (b8 (b.toNat / 2 ^ k))
  rw [b8_toNat _ hl] at h
  rw [show ((b.toNat : Int) / 2 ^ k) = ((b.toNat / 2 ^ k : Nat) : Int) by simp]
  exact h
theorem i64_small (n : Int) (h0 : 0 ≤ n) (h1 : n < 2 ^ 62) : IntKind.i64.wrap n = n := by rw [IntKind.wrap_i64]; omega
theorem and_bit64 (n k : Nat) (hn : n < 32768) : bits .and .i64 ((n : Int) / 2 ^ k) 1 = (bitN n k : Int) := by
  have hl : n / 2 ^ k < 2 ^ 62 := Nat.lt_of_le_of_lt (Nat.div_le_self _ _) (by omega)
  have h := (bits_nat .i64 62 (by decide) i64_small (n / 2 ^ k) 1 hl (by decide)).1
  rw [Nat.and_one_is_mod] at h
  rw [show ((n : Int) / 2 ^ k) = ((n / 2 ^ k : Nat) : Int) by simp]
  exact h
theorem xor64 (n m : Nat) (hn : n < 32768) (hm : m < 32768) : bits .xor .i64 (n : Int) (m : Int) = ((Nat.xor n m : Nat) : Int) := by
  have h1 : ∀ x : Nat, x < 32768 → (BitVec.ofInt 64 (x : Int)).toNat = x := fun x hx => by
    rw [BitVec.toNat_ofInt]
    omega
  have h2 : Nat.xor n m < 2 ^ 15 := Nat.xor_lt_two_pow (n := 15) hn hm
  show IntKind.i64.wrap ((BitVec.ofInt 64 (n : Int) ^^^ BitVec.ofInt 64 (m : Int)).toNat : Int) = _
  rw [BitVec.toNat_xor, h1 n hn, h1 m hm]
  exact i64_small ((Nat.xor n m : Nat) : Int) (by omega) (by omega)
theorem shl_lt (a k : Nat) (ha : a < 256) (hk : k < 8) : a * 2 ^ k < 32768 := by
  have : 2 ^ k ≤ 2 ^ 7 := Nat.pow_le_pow_right (by omega) (by omega)
  calc a * 2 ^ k ≤ 255 * 2 ^ 7 := Nat.mul_le_mul (by omega) this
    _ < 32768 := by decide
theorem shm_lt (k : Nat) (hk : k ≤ 6) : 283 * 2 ^ k < 32768 := by
  have : 2 ^ k ≤ 2 ^ 6 := Nat.pow_le_pow_right (by omega) hk
  calc 283 * 2 ^ k ≤ 283 * 2 ^ 6 := Nat.mul_le_mul (by omega) this
    _ < 32768 := by decide
set_option maxRecDepth 100000 in
set_option maxHeartbeats 2000000 in
theorem refTimes_any (a b : UInt8) (w : World) : Calls Try.prog 12 #[.int .u8 (a.toNat : Int), .int .u8 (b.toNat : Int)] w fun e w' => e = .returned (.int .u8 ((gm a b).toNat : Int)) ∧ w = w' := by
  have hal := a.toNat_lt
  have hbl := b.toNat_lt
  go_enter Try.func12, Try.ntmps12
  go_wp2
  go_loopw [5, 6] (fun n i wr => ∃ k : Nat, k ≤ 8 ∧ n = .int .i64 (rf1 a.toNat b.toNat k : Int) ∧ i = .int .i64 k ∧ w = wr) (fun _ i _ => 8 - (intOf i).toNat)
  case atStart => exact ⟨0, by omega, rfl, rfl, rfl⟩
  case round =>
    obtain ⟨k, hk, rfl, rfl, rfl⟩ := hrel
    by_cases hlt : k < 8
    · have hn := rf1_lt a.toNat b.toNat hal k hk
      have HN : Hid (rf1 a.toNat b.toNat (k + 1) = Nat.xor (rf1 a.toNat b.toNat k) (bitN b.toNat k * (a.toNat * 2 ^ k))) := Lib.hid rfl
      have hbit := and_bit8 b k
      have hsl := shl_lt a.toNat k hal hlt
      have hx := xor64 (rf1 a.toNat b.toNat k) (a.toNat * 2 ^ k) hn hsl
      have hcast : ((a.toNat * 2 ^ k : Nat) : Int) = (a.toNat : Int) * 2 ^ k := by simp
      rw [hcast] at hx
      have hw : IntKind.i64.wrap ((a.toNat : Int) * 2 ^ k) = (a.toNat : Int) * 2 ^ k := by rw [← hcast]; exact i64_small _ (by omega) (by omega)
      clear hcast hsl
      generalize rf1 a.toNat b.toNat k = n at *
      rcases bitN_le b.toNat k with h0 | h1
      · rw [h0] at hbit HN
        have H0 : Hid (Nat.xor n (0 * (a.toNat * 2 ^ k)) = n) := Lib.hid (by rw [Nat.zero_mul]; exact Nat.xor_zero n)
        clear h0 hx hw
        go_wp2
        go_roundw
        case measure => simp [intOf]; omega
        case rel => exact ⟨k + 1, by omega, by rw [HN.out, H0.out], by go_num, by first | rfl | trivial⟩
      · rw [h1] at hbit HN
        have H1 : Hid (Nat.xor n (1 * (a.toNat * 2 ^ k)) = Nat.xor n (a.toNat * 2 ^ k)) := Lib.hid (by rw [Nat.one_mul])
        clear h1
        go_wp2
        go_roundw
        case measure => simp [intOf]; omega
        case rel => exact ⟨k + 1, by omega, by rw [HN.out, H1.out]; rfl, by go_num, by first | rfl | trivial⟩
    · obtain rfl : k = 8 := by omega
      have hn8 := rf1_lt a.toNat b.toNat hal 8 (by omega)
      have HG := Lib.hid (rf_gm a b)
      generalize rf1 a.toNat b.toNat 8 = N at *
      go_wp2
      go_loopw [5, 7] (fun n i wr => ∃ (k j : Nat), k ≤ 7 ∧ n = .int .i64 (rf2 N k : Int) ∧ i = .int .i64 ((j : Int) - 1) ∧ j + k = 15 ∧ w = wr) (fun _ i _ => (intOf i).toNat)
      case atStart => exact ⟨0, 15, by omega, rfl, rfl, rfl, rfl⟩
      case round =>
        obtain ⟨k, j, hk, rfl, rfl, hj, rfl⟩ := hrel
        have hn := rf2_lt N hn8 k hk
        by_cases hlt : k < 7
        · obtain ⟨i, hi⟩ : ∃ i : Nat, (j : Int) - 1 = (i : Int) := ⟨j - 1, by omega⟩
          obtain ⟨m, hm⟩ : ∃ m : Nat, (i : Int) - 8 = (m : Int) := ⟨i - 8, by omega⟩
          have hi8 : (8 : Int) ≤ (i : Int) := by omega
          have HN : Hid (rf2 N (k + 1) = Nat.xor (rf2 N k) (bitN (rf2 N k) i * (283 * 2 ^ m))) := Lib.hid (by
            rw [rf2, rfs, show 14 - k = i by omega, show 6 - k = m by omega])
          have hbit := and_bit64 (rf2 N k) i hn
          have hsl := shm_lt m (by omega)
          have hx := xor64 (rf2 N k) (283 * 2 ^ m) hn hsl
          have hcast : ((283 * 2 ^ m : Nat) : Int) = 283 * 2 ^ m := by simp
          rw [hcast] at hx
          have hw : IntKind.i64.wrap (283 * 2 ^ m : Int) = 283 * 2 ^ m := by rw [← hcast]; exact i64_small _ (by omega) (by omega)
          clear hcast hsl
          have hni : Hid ((j : Int) - 1 = (i : Int)) := Lib.hid hi
          generalize rf2 N k = n at *
          rcases bitN_le n i with h0 | h1
          · rw [h0] at hbit HN
            have H0 : Hid (Nat.xor n (0 * (283 * 2 ^ m)) = n) := Lib.hid (by rw [Nat.zero_mul]; exact Nat.xor_zero n)
            clear h0 hx hw
            go_wp2
            go_roundw
            case measure => simp [intOf]; omega
            case rel => exact ⟨k + 1, i, by omega, by rw [HN.out, H0.out], rfl, by omega, by first | rfl | trivial⟩
          · rw [h1] at hbit HN
            have H1 : Hid (Nat.xor n (1 * (283 * 2 ^ m)) = Nat.xor n (283 * 2 ^ m)) := Lib.hid (by rw [Nat.one_mul])
            clear h1
            go_wp2
            go_roundw
            case measure => simp [intOf]; omega
            case rel => exact ⟨k + 1, i, by omega, by rw [HN.out, H1.out]; rfl, rfl, by omega, by first | rfl | trivial⟩
        · obtain rfl : k = 7 := by omega
          obtain rfl : j = 8 := by omega
          rw [HG.out] at hn ⊢
          have hy := (gm a b).toNat_lt
          generalize hgy : gm a b = y at hn hy ⊢
          have HY := Lib.hid hgy
          clear hgy HG
          go_wp2
          go_returns
          exact ⟨by rw [HY.out]; rfl, rfl⟩
end Go.Proofs.Ytgncnplgjhaojaa
