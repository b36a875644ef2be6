/- Contracts: layer 4, the document's inverse and box. -/
import Derived.Test.YtgncnplgjhaojaaRefAes
namespace Go.Proofs.Ytgncnplgjhaojaa
open Go Go.RowKit

def invS (b : UInt8) : Nat → Nat → UInt8
  | 0, _ => 0
  | f + 1, j => if gm b (b8 j) = 1 then b8 j else invS b f (j + 1)
def invO (b : UInt8) : UInt8 := invS b 255 1
set_option maxRecDepth 100000 in
set_option maxHeartbeats 1000000 in
theorem inverse_any (b : UInt8) (w : World) : Calls Try.prog 34 #[.int .u8 (b.toNat : Int)] w fun e w' => e = .returned (.int .u8 ((invO b).toNat : Int)) ∧ w = w' := by
  have GT := Lib.hid refTimes_any
  go_enter Try.func34, Try.ntmps34
  go_wp2
  go_loopw [3] (fun i wr => ∃ j : Nat, 1 ≤ j ∧ j ≤ 256 ∧ i = .int .i64 j ∧ invS b (256 - j) j = invO b ∧ w = wr) (fun i _ => 256 - (intOf i).toNat)
  case atStart => exact ⟨1, by omega, by omega, rfl, rfl, rfl⟩
  case round =>
    obtain ⟨j, hj1, hj2, rfl, hs, rfl⟩ := hrel
    have HS := Lib.hid hs
    clear hs
    by_cases hlt : j < 256
    · have hw8 : IntKind.u8.wrap (j : Int) = ((b8 j).toNat : Int) := by rw [b8_toNat _ hlt, IntKind.wrap_u8]; omega
      have HN : Hid (invS b (256 - j) j = if gm b (b8 j) = 1 then b8 j else invS b (256 - (j + 1)) (j + 1)) := Lib.hid (by
        rw [show 256 - j = (256 - (j + 1)) + 1 by omega]; rfl)
      by_cases h1 : gm b (b8 j) = 1
      · have hy : ((gm b (b8 j)).toNat : Int) = 1 := by rw [h1]; rfl
        have H1 := Lib.hid h1
        clear h1
        generalize hbj : b8 j = v at *
        go_wp2_with (go_at_call 12; with_reducible refine (GT.out _ _ _).mono ?_; rintro e w' ⟨rfl, rfl⟩)
        go_returns
        exact ⟨by rw [← HS.out, HN.out, if_pos H1.out]; rfl, rfl⟩
      · have hy : ¬ ((gm b (b8 j)).toNat : Int) = 1 := by
          intro h
          apply h1
          apply UInt8.toNat_inj.1
          show (gm b (b8 j)).toNat = 1
          omega
        have hyb : (((gm b (b8 j)).toNat : Int) == 1) = false := by simpa using hy
        have H1 := Lib.hid h1
        clear h1
        go_wp2_with (go_at_call 12; with_reducible refine (GT.out _ _ _).mono ?_; rintro e w' ⟨rfl, rfl⟩)
        go_roundw
        case measure => simp [intOf]; omega
        case rel => exact ⟨j + 1, by omega, by omega, by go_num, by rw [← HS.out, HN.out, if_neg H1.out], by first | rfl | trivial⟩
    · obtain rfl : j = 256 := by omega
      go_wp2
      go_returns
      exact ⟨by rw [← HS.out]; rfl, rfl⟩
def sh (c : UInt8) (k : Nat) : UInt8 := b8 (c.toNat / 2 ^ k)
theorem sh_toNat (c : UInt8) (k : Nat) : (c.toNat : Int) / 2 ^ k = ((sh c k).toNat : Int) := by
  unfold sh
  rw [b8_toNat _ (Nat.lt_of_le_of_lt (Nat.div_le_self _ _) c.toNat_lt)]
  simp
def nR (c : UInt8) (k : Nat) : UInt8 := x8 (x8 (x8 (x8 (x8 (sh c k) (sh c ((k + 4) % 8))) (sh c ((k + 5) % 8))) (sh c ((k + 6) % 8))) (sh c ((k + 7) % 8))) (sh 99 k)
def outR (c : UInt8) : Nat → UInt8
  | 0 => 0
  | k + 1 => o8 (outR c k) (b8 ((nR c k).toNat % 2 * 2 ^ k))
set_option maxRecDepth 100000 in
set_option maxHeartbeats 2000000 in
theorem refBox_any (b : UInt8) (w : World) : Calls Try.prog 14 #[.int .u8 (b.toNat : Int)] w fun e w' => e = .returned (.int .u8 ((outR (invO b) 8).toNat : Int)) ∧ w = w' := by
  have GI := Lib.hid inverse_any
  generalize hc : invO b = c
  have HC := Lib.hid hc
  clear hc
  go_enter Try.func14, Try.ntmps14
  go_wp2_with (go_at_call 34; with_reducible refine (GI.out _ _).mono ?_; rintro e w' ⟨rfl, rfl⟩; rw [HC.out])
  go_loopw [4, 5] (fun o i wr => ∃ k : Nat, k ≤ 8 ∧ o = .int .u8 ((outR c k).toNat : Int) ∧ i = .int .i64 k ∧ w = wr) (fun _ i _ => 8 - (intOf i).toNat)
  case atStart => exact ⟨0, by omega, rfl, rfl, rfl⟩
  case round =>
    obtain ⟨k, hk, rfl, rfl, rfl⟩ := hrel
    by_cases hlt : k < 8
    · have HO : Hid (outR c (k + 1) = o8 (outR c k) (b8 ((nR c k).toNat % 2 * 2 ^ k))) := Lib.hid rfl
      generalize outR c k = out at *
      have HNR : Hid (nR c k = x8 (x8 (x8 (x8 (x8 (sh c k) (sh c ((k + 4) % 8))) (sh c ((k + 5) % 8))) (sh c ((k + 6) % 8))) (sh c ((k + 7) % 8))) (sh 99 k)) := Lib.hid rfl
      obtain ⟨r4, h4⟩ : ∃ r : Nat, ((k : Int) + 4).tmod 8 = (r : Int) := ⟨(k + 4) % 8, by rw [Int.tmod_eq_emod_of_nonneg (by omega)]; omega⟩
      obtain ⟨r5, h5⟩ : ∃ r : Nat, ((k : Int) + 5).tmod 8 = (r : Int) := ⟨(k + 5) % 8, by rw [Int.tmod_eq_emod_of_nonneg (by omega)]; omega⟩
      obtain ⟨r6, h6⟩ : ∃ r : Nat, ((k : Int) + 6).tmod 8 = (r : Int) := ⟨(k + 6) % 8, by rw [Int.tmod_eq_emod_of_nonneg (by omega)]; omega⟩
      obtain ⟨r7, h7⟩ : ∃ r : Nat, ((k : Int) + 7).tmod 8 = (r : Int) := ⟨(k + 7) % 8, by rw [Int.tmod_eq_emod_of_nonneg (by omega)]; omega⟩
      have hsh := sh_toNat c
      have h99 : ∀ r : Nat, (99 : Int) / 2 ^ r = ((sh 99 r).toNat : Int) := fun r => sh_toNat 99 r
      have l4 : r4 < 8 := by have := Int.tmod_lt_of_pos ((k : Int) + 4) (b := 8) (by omega); omega
      have l5 : r5 < 8 := by have := Int.tmod_lt_of_pos ((k : Int) + 5) (b := 8) (by omega); omega
      have l6 : r6 < 8 := by have := Int.tmod_lt_of_pos ((k : Int) + 6) (b := 8) (by omega); omega
      have l7 : r7 < 8 := by have := Int.tmod_lt_of_pos ((k : Int) + 7) (b := 8) (by omega); omega
      have e4 : Hid (r4 = (k + 4) % 8) := Lib.hid (by rw [Int.tmod_eq_emod_of_nonneg (by omega)] at h4; omega)
      have e5 : Hid (r5 = (k + 5) % 8) := Lib.hid (by rw [Int.tmod_eq_emod_of_nonneg (by omega)] at h5; omega)
      have e6 : Hid (r6 = (k + 6) % 8) := Lib.hid (by rw [Int.tmod_eq_emod_of_nonneg (by omega)] at h6; omega)
      have e7 : Hid (r7 = (k + 7) % 8) := Lib.hid (by rw [Int.tmod_eq_emod_of_nonneg (by omega)] at h7; omega)
      have u4 : IntKind.u64.wrap (r4 : Int) = (r4 : Int) := by rw [IntKind.wrap_u64]; omega
      have u5 : IntKind.u64.wrap (r5 : Int) = (r5 : Int) := by rw [IntKind.wrap_u64]; omega
      have u6 : IntKind.u64.wrap (r6 : Int) = (r6 : Int) := by rw [IntKind.wrap_u64]; omega
      have u7 : IntKind.u64.wrap (r7 : Int) = (r7 : Int) := by rw [IntKind.wrap_u64]; omega
      have n4 : min r4 8 = r4 := by omega
      have n5 : min r5 8 = r5 := by omega
      have n6 : min r6 8 = r6 := by omega
      have n7 : min r7 8 = r7 := by omega
      have HR : Hid (bits .or .u8 (out.toNat : Int) (bits .and .u8 ((x8 (x8 (x8 (x8 (x8 (sh c k) (sh c r4)) (sh c r5)) (sh c r6)) (sh c r7)) (sh 99 k)).toNat : Int) 1 * 2 ^ k % 256) = ((outR c (k + 1)).toNat : Int)) := Lib.hid (by
        rw [e4.out, e5.out, e6.out, e7.out, ← HNR.out, HO.out, band8_1, ← bor8, b8_mod]
        congr 1)
      go_wp2
      go_roundw
      case measure => simp [intOf]; omega
      case rel => exact ⟨k + 1, by omega, by rw [HR.out], by go_num, by first | rfl | trivial⟩
    · obtain rfl : k = 8 := by omega
      go_wp2
      go_returns
      exact ⟨rfl, rfl⟩
end Go.Proofs.Ytgncnplgjhaojaa
