import Derived.Test.YtclekllaikcglaaGreatAes
import Derived.Deep.DeepCutAuto
import Derived.Test.YtclekllaikcglaaGreatBase

/- Contracts: layer 4, the document's products. -/
namespace Go.Proofs.YtclekllaikcglaaGreat
open Go Go.RowKit
theorem bitN_le (n k : Nat) : bitN n k = 0 ∨ bitN n k = 1 := Nat.mod_two_eq_zero_or_one _
theorem and_bit8 (b : UInt8) (k : Nat) : bits .and .u8 ((b.toNat : Int) / 2 ^ k) 1 = (bitN b.toNat k : Int) := by
 have hl : b.toNat / 2 ^ k < 256 := Nat.lt_of_le_of_lt (Nat.div_le_self _ _) b.toNat_lt
 have h := band8_1 (b8 (b.toNat / 2 ^ k))
 rw [b8_toNat _ hl] at h
 rw [show ((b.toNat : Int) / 2 ^ k) = ((b.toNat / 2 ^ k : Nat) : Int) by simp]
 exact h
theorem i64_small (n : Int) (h0 : 0 ≤ n) (h1 : n < 2 ^ 62) : IntKind.i64.wrap n = n := by rw [IntKind.wrap_i64]; omega
theorem and_bit64 (n k : Nat) (hn : n < 32768) : bits .and .i64 ((n : Int) / 2 ^ k) 1 = (bitN n k : Int) := by
 have hl : n / 2 ^ k < 2 ^ 62 := Nat.lt_of_le_of_lt (Nat.div_le_self _ _) (by omega)
 have h := (bits_nat .i64 62 (by decide) i64_small (n / 2 ^ k) 1 hl (by decide)).1
 rw [Nat.and_one_is_mod] at h
 rw [show ((n : Int) / 2 ^ k) = ((n / 2 ^ k : Nat) : Int) by simp]
 exact h
theorem xor64 (n m : Nat) (hn : n < 32768) (hm : m < 32768) : bits .xor .i64 (n : Int) (m : Int) = ((Nat.xor n m : Nat) : Int) := by
 have h1 : ∀ x : Nat, x < 32768 → (BitVec.ofInt 64 (x : Int)).toNat = x := fun x hx => by
  rw [BitVec.toNat_ofInt]
  omega
 have h2 : Nat.xor n m < 2 ^ 15 := Nat.xor_lt_two_pow (n := 15) hn hm
 show IntKind.i64.wrap ((BitVec.ofInt 64 (n : Int) ^^^ BitVec.ofInt 64 (m : Int)).toNat : Int) = _
 rw [BitVec.toNat_xor, h1 n hn, h1 m hm]
 exact i64_small ((Nat.xor n m : Nat) : Int) (by omega) (by omega)
theorem shl_lt (a k : Nat) (ha : a < 256) (hk : k < 8) : a * 2 ^ k < 32768 := by
 have : 2 ^ k ≤ 2 ^ 7 := Nat.pow_le_pow_right (by omega) (by omega)
 calc a * 2 ^ k ≤ 255 * 2 ^ 7 := Nat.mul_le_mul (by omega) this
  _ < 32768 := by decide
theorem shm_lt (k : Nat) (hk : k ≤ 6) : 283 * 2 ^ k < 32768 := by
 have : 2 ^ k ≤ 2 ^ 6 := Nat.pow_le_pow_right (by omega) hk
 calc 283 * 2 ^ k ≤ 283 * 2 ^ 6 := Nat.mul_le_mul (by omega) this
  _ < 32768 := by decide
set_option maxRecDepth 100000 in
set_option maxHeartbeats 2000000 in
theorem refTimes_any (a b : UInt8) (w : World) : Calls Tryz.prog 167 #[.int .u8 (a.toNat : Int), .int .u8 (b.toNat : Int)] w fun e w' => e = .returned (.int .u8 ((gm a b).toNat : Int)) ∧ w = w' := by
 have hal := a.toNat_lt
 have hbl := b.toNat_lt
 go_enter Tryz.func167, Tryz.ntmps167
 go_wp2
 go_loopw [5, 6] (fun n i wr => ∃ k : Nat, k ≤ 8 ∧ n = .int .i64 (rf1 a.toNat b.toNat k : Int) ∧ i = .int .i64 k ∧ w = wr) (fun _ i _ => 8 - (intOf i).toNat)
 case atStart => exact ⟨0, by omega, rfl, rfl, rfl⟩
 case round =>
  obtain ⟨k, hk, rfl, rfl, rfl⟩ := hrel
  by_cases hlt : k < 8
  ·have hn := rf1_lt a.toNat b.toNat hal k hk
   have HN : Hid (rf1 a.toNat b.toNat (k + 1) = Nat.xor (rf1 a.toNat b.toNat k) (bitN b.toNat k * (a.toNat * 2 ^ k))) := Lib.hid rfl
   have hbit := and_bit8 b k
   have hsl := shl_lt a.toNat k hal hlt
   have hx := xor64 (rf1 a.toNat b.toNat k) (a.toNat * 2 ^ k) hn hsl
   have hcast : ((a.toNat * 2 ^ k : Nat) : Int) = (a.toNat : Int) * 2 ^ k := by simp
   rw [hcast] at hx
   have hw : IntKind.i64.wrap ((a.toNat : Int) * 2 ^ k) = (a.toNat : Int) * 2 ^ k := by rw [← hcast]; exact i64_small _ (by omega) (by omega)
   clear hcast hsl
   generalize rf1 a.toNat b.toNat k = n at *
   rcases bitN_le b.toNat k with h0 | h1
   ·rw [h0] at hbit HN
    have H0 : Hid (Nat.xor n (0 * (a.toNat * 2 ^ k)) = n) := Lib.hid (by rw [Nat.zero_mul]; exact Nat.xor_zero n)
    clear h0 hx hw
    go_wp2
    go_roundw
    case measure => simp [intOf]; omega
    case rel => exact ⟨k + 1, by omega, by rw [HN.out, H0.out], by go_num, by first | rfl | trivial⟩
   ·rw [h1] at hbit HN
    have H1 : Hid (Nat.xor n (1 * (a.toNat * 2 ^ k)) = Nat.xor n (a.toNat * 2 ^ k)) := Lib.hid (by rw [Nat.one_mul])
    clear h1
    go_wp2
    go_roundw
    case measure => simp [intOf]; omega
    case rel => exact ⟨k + 1, by omega, by rw [HN.out, H1.out]; rfl, by go_num, by first | rfl | trivial⟩
  ·obtain rfl : k = 8 := by omega
   have hn8 := rf1_lt a.toNat b.toNat hal 8 (by omega)
   have HG := Lib.hid (rf_gm a b)
   generalize rf1 a.toNat b.toNat 8 = N at *
   go_wp2
   go_loopw [5, 7] (fun n i wr => ∃ (k j : Nat), k ≤ 7 ∧ n = .int .i64 (rf2 N k : Int) ∧ i = .int .i64 ((j : Int) - 1) ∧ j + k = 15 ∧ w = wr) (fun _ i _ => (intOf i).toNat)
   case atStart => exact ⟨0, 15, by omega, rfl, rfl, rfl, rfl⟩
   case round =>
    obtain ⟨k, j, hk, rfl, rfl, hj, rfl⟩ := hrel
    have hn := rf2_lt N hn8 k hk
    by_cases hlt : k < 7
    ·obtain ⟨i, hi⟩ : ∃ i : Nat, (j : Int) - 1 = (i : Int) := ⟨j - 1, by omega⟩
     obtain ⟨m, hm⟩ : ∃ m : Nat, (i : Int) - 8 = (m : Int) := ⟨i - 8, by omega⟩
     have hi8 : (8 : Int) ≤ (i : Int) := by omega
     have HN : Hid (rf2 N (k + 1) = Nat.xor (rf2 N k) (bitN (rf2 N k) i * (283 * 2 ^ m))) := Lib.hid (by
      rw [rf2, rfs, show 14 - k = i by omega, show 6 - k = m by omega])
     have hbit := and_bit64 (rf2 N k) i hn
     have hsl := shm_lt m (by omega)
     have hx := xor64 (rf2 N k) (283 * 2 ^ m) hn hsl
     have hcast : ((283 * 2 ^ m : Nat) : Int) = 283 * 2 ^ m := by simp
     rw [hcast] at hx
     have hw : IntKind.i64.wrap (283 * 2 ^ m : Int) = 283 * 2 ^ m := by rw [← hcast]; exact i64_small _ (by omega) (by omega)
     clear hcast hsl
     have hni : Hid ((j : Int) - 1 = (i : Int)) := Lib.hid hi
     generalize rf2 N k = n at *
     rcases bitN_le n i with h0 | h1
     ·rw [h0] at hbit HN
      have H0 : Hid (Nat.xor n (0 * (283 * 2 ^ m)) = n) := Lib.hid (by rw [Nat.zero_mul]; exact Nat.xor_zero n)
      clear h0 hx hw
      go_wp2
      go_roundw
      case measure => simp [intOf]; omega
      case rel => exact ⟨k + 1, i, by omega, by rw [HN.out, H0.out], rfl, by omega, by first | rfl | trivial⟩
     ·rw [h1] at hbit HN
      have H1 : Hid (Nat.xor n (1 * (283 * 2 ^ m)) = Nat.xor n (283 * 2 ^ m)) := Lib.hid (by rw [Nat.one_mul])
      clear h1
      go_wp2
      go_roundw
      case measure => simp [intOf]; omega
      case rel => exact ⟨k + 1, i, by omega, by rw [HN.out, H1.out]; rfl, rfl, by omega, by first | rfl | trivial⟩
    ·obtain rfl : k = 7 := by omega
     obtain rfl : j = 8 := by omega
     rw [HG.out] at hn ⊢
     have hy := (gm a b).toNat_lt
     generalize hgy : gm a b = y at hn hy ⊢
     have HY := Lib.hid hgy
     clear hgy HG
     go_wp2
     go_returns
     exact ⟨by rw [HY.out]; rfl, rfl⟩
end Go.Proofs.YtclekllaikcglaaGreat

/- Contracts: layer 4, the document's inverse and box. -/
namespace Go.Proofs.YtclekllaikcglaaGreat
open Go Go.RowKit
def invS (b : UInt8) : Nat → Nat → UInt8
 | 0, _ => 0
 | f + 1, j => if gm b (b8 j) = 1 then b8 j else invS b f (j + 1)
def invO (b : UInt8) : UInt8 := invS b 255 1
set_option maxRecDepth 100000 in
set_option maxHeartbeats 1000000 in
theorem inverse_any (b : UInt8) (w : World) : Calls Tryz.prog 166 #[.int .u8 (b.toNat : Int)] w fun e w' => e = .returned (.int .u8 ((invO b).toNat : Int)) ∧ w = w' := by
 have GT := Lib.hid refTimes_any
 go_enter Tryz.func166, Tryz.ntmps166
 go_wp2
 go_loopw [3] (fun i wr => ∃ j : Nat, 1 ≤ j ∧ j ≤ 256 ∧ i = .int .i64 j ∧ invS b (256 - j) j = invO b ∧ w = wr) (fun i _ => 256 - (intOf i).toNat)
 case atStart => exact ⟨1, by omega, by omega, rfl, rfl, rfl⟩
 case round =>
  obtain ⟨j, hj1, hj2, rfl, hs, rfl⟩ := hrel
  have HS := Lib.hid hs
  clear hs
  by_cases hlt : j < 256
  ·have hw8 : IntKind.u8.wrap (j : Int) = ((b8 j).toNat : Int) := by rw [b8_toNat _ hlt, IntKind.wrap_u8]; omega
   have HN : Hid (invS b (256 - j) j = if gm b (b8 j) = 1 then b8 j else invS b (256 - (j + 1)) (j + 1)) := Lib.hid (by
    rw [show 256 - j = (256 - (j + 1)) + 1 by omega]; rfl)
   by_cases h1 : gm b (b8 j) = 1
   ·have hy : ((gm b (b8 j)).toNat : Int) = 1 := by rw [h1]; rfl
    have H1 := Lib.hid h1
    clear h1
    generalize hbj : b8 j = v at *
    go_wp2_with (go_at_call 167; with_reducible refine (GT.out _ _ _).mono ?_; rintro e w' ⟨rfl, rfl⟩)
    go_returns
    exact ⟨by rw [← HS.out, HN.out, if_pos H1.out]; rfl, rfl⟩
   ·have hy : ¬ ((gm b (b8 j)).toNat : Int) = 1 := by
     intro h
     apply h1
     apply UInt8.toNat_inj.1
     show (gm b (b8 j)).toNat = 1
     omega
    have hyb : (((gm b (b8 j)).toNat : Int) == 1) = false := by simpa using hy
    have H1 := Lib.hid h1
    clear h1
    go_wp2_with (go_at_call 167; with_reducible refine (GT.out _ _ _).mono ?_; rintro e w' ⟨rfl, rfl⟩)
    go_roundw
    case measure => simp [intOf]; omega
    case rel => exact ⟨j + 1, by omega, by omega, by go_num, by rw [← HS.out, HN.out, if_neg H1.out], by first | rfl | trivial⟩
  ·obtain rfl : j = 256 := by omega
   go_wp2
   go_returns
   exact ⟨by rw [← HS.out]; rfl, rfl⟩
def sh (c : UInt8) (k : Nat) : UInt8 := b8 (c.toNat / 2 ^ k)
theorem sh_toNat (c : UInt8) (k : Nat) : (c.toNat : Int) / 2 ^ k = ((sh c k).toNat : Int) := by
 unfold sh
 rw [b8_toNat _ (Nat.lt_of_le_of_lt (Nat.div_le_self _ _) c.toNat_lt)]
 simp
def nR (c : UInt8) (k : Nat) : UInt8 := x8 (x8 (x8 (x8 (x8 (sh c k) (sh c ((k + 4) % 8))) (sh c ((k + 5) % 8))) (sh c ((k + 6) % 8))) (sh c ((k + 7) % 8))) (sh 99 k)
def outR (c : UInt8) : Nat → UInt8
 | 0 => 0
 | k + 1 => o8 (outR c k) (b8 ((nR c k).toNat % 2 * 2 ^ k))
set_option maxRecDepth 100000 in
set_option maxHeartbeats 2000000 in
theorem refBox_any (b : UInt8) (w : World) : Calls Tryz.prog 159 #[.int .u8 (b.toNat : Int)] w fun e w' => e = .returned (.int .u8 ((outR (invO b) 8).toNat : Int)) ∧ w = w' := by
 have GI := Lib.hid inverse_any
 generalize hc : invO b = c
 have HC := Lib.hid hc
 clear hc
 go_enter Tryz.func159, Tryz.ntmps159
 go_wp2_with (go_at_call 166; with_reducible refine (GI.out _ _).mono ?_; rintro e w' ⟨rfl, rfl⟩; rw [HC.out])
 go_loopw [4, 5] (fun o i wr => ∃ k : Nat, k ≤ 8 ∧ o = .int .u8 ((outR c k).toNat : Int) ∧ i = .int .i64 k ∧ w = wr) (fun _ i _ => 8 - (intOf i).toNat)
 case atStart => exact ⟨0, by omega, rfl, rfl, rfl⟩
 case round =>
  obtain ⟨k, hk, rfl, rfl, rfl⟩ := hrel
  by_cases hlt : k < 8
  ·have HO : Hid (outR c (k + 1) = o8 (outR c k) (b8 ((nR c k).toNat % 2 * 2 ^ k))) := Lib.hid rfl
   generalize outR c k = out at *
   have HNR : Hid (nR c k = x8 (x8 (x8 (x8 (x8 (sh c k) (sh c ((k + 4) % 8))) (sh c ((k + 5) % 8))) (sh c ((k + 6) % 8))) (sh c ((k + 7) % 8))) (sh 99 k)) := Lib.hid rfl
   obtain ⟨r4, h4⟩ : ∃ r : Nat, ((k : Int) + 4).tmod 8 = (r : Int) := ⟨(k + 4) % 8, by rw [Int.tmod_eq_emod_of_nonneg (by omega)]; omega⟩
   obtain ⟨r5, h5⟩ : ∃ r : Nat, ((k : Int) + 5).tmod 8 = (r : Int) := ⟨(k + 5) % 8, by rw [Int.tmod_eq_emod_of_nonneg (by omega)]; omega⟩
   obtain ⟨r6, h6⟩ : ∃ r : Nat, ((k : Int) + 6).tmod 8 = (r : Int) := ⟨(k + 6) % 8, by rw [Int.tmod_eq_emod_of_nonneg (by omega)]; omega⟩
   obtain ⟨r7, h7⟩ : ∃ r : Nat, ((k : Int) + 7).tmod 8 = (r : Int) := ⟨(k + 7) % 8, by rw [Int.tmod_eq_emod_of_nonneg (by omega)]; omega⟩
   have hsh := sh_toNat c
   have h99 : ∀ r : Nat, (99 : Int) / 2 ^ r = ((sh 99 r).toNat : Int) := fun r => sh_toNat 99 r
   have l4 : r4 < 8 := by have := Int.tmod_lt_of_pos ((k : Int) + 4) (b := 8) (by omega); omega
   have l5 : r5 < 8 := by have := Int.tmod_lt_of_pos ((k : Int) + 5) (b := 8) (by omega); omega
   have l6 : r6 < 8 := by have := Int.tmod_lt_of_pos ((k : Int) + 6) (b := 8) (by omega); omega
   have l7 : r7 < 8 := by have := Int.tmod_lt_of_pos ((k : Int) + 7) (b := 8) (by omega); omega
   have e4 : Hid (r4 = (k + 4) % 8) := Lib.hid (by rw [Int.tmod_eq_emod_of_nonneg (by omega)] at h4; omega)
   have e5 : Hid (r5 = (k + 5) % 8) := Lib.hid (by rw [Int.tmod_eq_emod_of_nonneg (by omega)] at h5; omega)
   have e6 : Hid (r6 = (k + 6) % 8) := Lib.hid (by rw [Int.tmod_eq_emod_of_nonneg (by omega)] at h6; omega)
   have e7 : Hid (r7 = (k + 7) % 8) := Lib.hid (by rw [Int.tmod_eq_emod_of_nonneg (by omega)] at h7; omega)
   have u4 : IntKind.u64.wrap (r4 : Int) = (r4 : Int) := by rw [IntKind.wrap_u64]; omega
   have u5 : IntKind.u64.wrap (r5 : Int) = (r5 : Int) := by rw [IntKind.wrap_u64]; omega
   have u6 : IntKind.u64.wrap (r6 : Int) = (r6 : Int) := by rw [IntKind.wrap_u64]; omega
   have u7 : IntKind.u64.wrap (r7 : Int) = (r7 : Int) := by rw [IntKind.wrap_u64]; omega
   have n4 : min r4 8 = r4 := by omega
   have n5 : min r5 8 = r5 := by omega
   have n6 : min r6 8 = r6 := by omega
   have n7 : min r7 8 = r7 := by omega
   have HR : Hid (bits .or .u8 (out.toNat : Int) (bits .and .u8 ((x8 (x8 (x8 (x8 (x8 (sh c k) (sh c r4)) (sh c r5)) (sh c r6)) (sh c r7)) (sh 99 k)).toNat : Int) 1 * 2 ^ k % 256) = ((outR c (k + 1)).toNat : Int)) := Lib.hid (by
    rw [e4.out, e5.out, e6.out, e7.out, ← HNR.out, HO.out, band8_1, ← bor8, b8_mod]
    congr 1)
   go_wp2
   go_roundw
   case measure => simp [intOf]; omega
   case rel => exact ⟨k + 1, by omega, by rw [HR.out], by go_num, by first | rfl | trivial⟩
  ·obtain rfl : k = 8 := by omega
   go_wp2
   go_returns
   exact ⟨rfl, rfl⟩
end Go.Proofs.YtclekllaikcglaaGreat

/- Contracts: layer 4, the document's table of boxes, and what they are boxes of. -/
namespace Go.Proofs.YtclekllaikcglaaGreat
open Go Go.RowKit
def invN (b : Nat) : Nat → Nat → Nat
 | 0, _ => 0
 | f + 1, j => if Nat.beq (tmN 8 b j) 1 then j else invN b f (j + 1)
theorem invS_N (b : UInt8) : ∀ (f j : Nat), j + f ≤ 256 → (invS b f j).toNat = invN b.toNat f j
 | 0, _, _ => rfl
 | f + 1, j, h => by
  have hg : (gm b (b8 j)).toNat = tmN 8 b.toNat j := by rw [gm, tmU_toNat, b8_toNat j (by omega)]
  unfold invS invN
  by_cases h1 : gm b (b8 j) = 1
  ·have : tmN 8 b.toNat j = 1 := by rw [← hg, h1]; rfl
   rw [if_pos h1, this, if_pos (by decide), b8_toNat j (by omega)]
  ·have : ¬ tmN 8 b.toNat j = 1 := fun h2 => h1 (UInt8.toNat_inj.1 (by rw [hg, h2]; rfl))
   rw [if_neg h1, if_neg (by rw [Nat.beq_eq]; exact this), invS_N b f (j + 1) (by omega)]
theorem inv_all : ((List.range 256).all fun b => Nat.beq (outR (b8 (invN b 255 1)) 8).toNat (boxT.getD b 0).toNat) = true := by decide +kernel
theorem refBox_is (b : UInt8) : outR (invO b) 8 = boxO b := by
 have h := List.all_eq_true.1 inv_all b.toNat (List.mem_range.2 b.toNat_lt)
 have h := Nat.eq_of_beq_eq_true h
 have hi : invO b = b8 (invN b.toNat 255 1) := by
  have := invS_N b 255 1 (by omega)
  apply UInt8.toNat_inj.1
  rw [show invO b = invS b 255 1 from rfl, this, b8_toNat]
  rw [← this]; exact (invS b 255 1).toNat_lt
 apply UInt8.toNat_inj.1
 rw [hi, h]; rfl
theorem refBox_yes (b : UInt8) (w : World) : Calls Tryz.prog 159 #[.int .u8 (b.toNat : Int)] w fun e w' => e = .returned (.int .u8 ((boxO b).toNat : Int)) ∧ w = w' := refBox_is b ▸ refBox_any b w
set_option maxRecDepth 100000 in
set_option maxHeartbeats 2000000 in
theorem Table_any (w : World) : Calls Tryz.prog 143 #[] w (RetRow w 5 (boxT.map byteV)) := by
 have GB := Lib.hid refBox_yes
 go_enter Tryz.func143, Tryz.ntmps143
 go_wp2
 go_loopw [1, 2] (fun o i wr => ∃ k : Nat, k ≤ 256 ∧ i = .int .i64 k ∧ Row wr w.heap.size 5 o ((boxT.take k).map byteV) ∧ Ext w wr) (fun _ i _ => 256 - (intOf i).toNat)
 case atStart => exact ⟨0, by omega, rfl, Row.nil _ _ _, Ext.refl _⟩
 case round =>
  obtain ⟨k, hk, rfl, hrow, hx⟩ := hrel
  have hsz := hx.size
  by_cases hlt : k < 256
  ·have hw8 : IntKind.u8.wrap (k : Int) = ((b8 k).toNat : Int) := by rw [b8_toNat _ (by omega), IntKind.wrap_u8]; omega
   have hbo : boxO (b8 k) = boxT[k]'(by rw [boxT_length]; exact hlt) := by
    unfold boxO
    rw [b8_toNat _ (by omega)]
    simp [List.getD, show k < boxT.length by rw [boxT_length]; exact hlt]
   have HS : Hid ((boxT.take (k + 1)).map byteV = (boxT.take k).map byteV ++ [byteV (boxO (b8 k))]) := Lib.hid (by
    rw [List.take_succ_eq_append_getElem (by rw [boxT_length]; exact hlt), List.map_append, List.map_cons, List.map_nil, hbo])
   have HL : Hid (((boxT.take k).map byteV).length = k) := Lib.hid (by rw [List.length_map, List.length_take, boxT_length]; omega)
   clear hbo
   generalize boxT.take k = bk at *
   generalize b8 k = b at *
   go_wp2_with (first
    | (go_at_call 159; refine (GB.out b _).mono ?_; rintro e w' ⟨rfl, rfl⟩)
    | (at_builtin; refine wpl_append rfl _ _ 27 rfl und_bytes info_u8 rfl (by omega) w.heap.size (by simp; omega) _ (bk.map byteV) rfl (hrow.ext ((Ext.refl _).alloc _)) ⟨wr.heap.size, 0, none⟩ 1 1 [byteV (boxO b)] rfl rfl (cells_one_new _ _ _) (oneCells [boxO b] (fun _ => rfl)) (by rw [HL.out]; omega) ?_; intro v' w3 hrow3 hb3 _))
   go_roundw
   case measure => simp [intOf]; omega
   case rel => exact ⟨k + 1, by omega, by go_num, by rw [HS.out]; exact hrow3, (hx.alloc _).trans_below hb3⟩
  ·obtain rfl : k = 256 := by omega
   rw [List.take_of_length_le (by rw [boxT_length]; omega)] at hrow
   go_wp2
   go_returns
   exact ⟨_, rfl, hrow, hx⟩
end Go.Proofs.YtclekllaikcglaaGreat
