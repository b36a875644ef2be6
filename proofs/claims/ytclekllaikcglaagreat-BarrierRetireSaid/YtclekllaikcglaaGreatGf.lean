/- Plain: products of bytes, boxes; no program in sight. -/
import Derived.Test.YtclekllaikcglaaGreatBase
namespace Go.Proofs.YtclekllaikcglaaGreat
open Go

/-- The product with x. -/
def twN (a : Nat) : Nat := Nat.xor (a * 2 % 256) (a / 128 * 27)
def tw (a : UInt8) : UInt8 := b8 (twN a.toNat)
def tmN : Nat → Nat → Nat → Nat
  | 0, _, _ => 0
  | k + 1, a, b => Nat.xor ((b % 2) * a) (tmN k (twN a) (b / 2))
/-- Products, bit by bit of the second. -/
def tmU : Nat → UInt8 → Nat → UInt8
  | 0, _, _ => 0
  | k + 1, a, b => x8 (if b % 2 = 1 then a else 0) (tmU k (tw a) (b / 2))
def gm (a b : UInt8) : UInt8 := tmU 8 a b.toNat
theorem twN_lt : ∀ a : Fin 256, twN a.val < 256 := by decide +kernel
theorem tw_toNat (a : UInt8) : (tw a).toNat = twN a.toNat := b8_toNat _ (twN_lt ⟨a.toNat, a.toNat_lt⟩)
theorem x8_toNat (a b : UInt8) : (x8 a b).toNat = Nat.xor a.toNat b.toNat := UInt8.toNat_xor a b
theorem x8_z (a : UInt8) : x8 0 a = a := by unfold x8; simp
theorem x8_z' (a : UInt8) : x8 a 0 = a := by unfold x8; simp
theorem x8_assoc (a b c : UInt8) : x8 (x8 a b) c = x8 a (x8 b c) := by unfold x8; rw [UInt8.xor_assoc]
theorem x8_comm (a b : UInt8) : x8 a b = x8 b a := by unfold x8; rw [UInt8.xor_comm]
theorem tmU_toNat : ∀ (k : Nat) (a : UInt8) (b : Nat), (tmU k a b).toNat = tmN k a.toNat b
  | 0, _, _ => rfl
  | k + 1, a, b => by
    rw [tmU, x8_toNat, tmU_toNat k, tw_toNat, tmN]
    rcases Nat.mod_two_eq_zero_or_one b with h | h <;> simp [h]
theorem tmU_fuel : ∀ (k : Nat) (a : UInt8) (b : Nat), b < 2 ^ k → tmU (k + 1) a b = tmU k a b
  | 0, a, b, h => by
    obtain rfl : b = 0 := by simpa using h
    simp [tmU, x8_z]
  | k + 1, a, b, h => by
    rw [tmU, tmU_fuel k (tw a) (b / 2) (by rw [Nat.pow_succ] at h; omega)]
    rfl
theorem gm_step (a b : UInt8) : gm a b = x8 (if b.toNat % 2 = 1 then a else 0) (tmU 8 (tw a) (b.toNat / 2)) := by
  have h : b.toNat / 2 < 2 ^ 7 := by have := b.toNat_lt; omega
  rw [gm, tmU_fuel 7 (tw a) _ h]; rfl
theorem gm_zero (a : UInt8) : gm a 0 = 0 := by
  have : ∀ (k : Nat) (a : UInt8), tmU k a 0 = 0 := by
    intro k
    induction k with
    | zero => intro a; rfl
    | succ k ih => intro a; rw [tmU, Nat.zero_div, ih, if_neg (by decide), x8_z]
  exact this 8 a

/-! ### The document's product -/
def bitN (n i : Nat) : Nat := n / 2 ^ i % 2
def rf1 (a b : Nat) : Nat → Nat
  | 0 => 0
  | k + 1 => Nat.xor (rf1 a b k) (bitN b k * (a * 2 ^ k))
def rfs (n k : Nat) : Nat := Nat.xor n (bitN n (14 - k) * (283 * 2 ^ (6 - k)))
def rf2 (n : Nat) : Nat → Nat
  | 0 => n
  | k + 1 => rfs (rf2 n k) k
def rfC (i : Nat) : Bool := (List.range 32).all fun a => (List.range 256).all fun b => Nat.beq (tmN 8 (32 * i + a) b) (rf2 (rf1 (32 * i + a) b 8) 7)
theorem rf_0 : rfC 0 = true := by decide +kernel
theorem rf_1 : rfC 1 = true := by decide +kernel
theorem rf_2 : rfC 2 = true := by decide +kernel
theorem rf_3 : rfC 3 = true := by decide +kernel
theorem rf_4 : rfC 4 = true := by decide +kernel
theorem rf_5 : rfC 5 = true := by decide +kernel
theorem rf_6 : rfC 6 = true := by decide +kernel
theorem rf_7 : rfC 7 = true := by decide +kernel
theorem rf_gm (a b : UInt8) : rf2 (rf1 a.toNat b.toNat 8) 7 = (gm a b).toNat := by
  have hi : ∀ i, i < 8 → rfC i = true := by
    intro i hi
    match i, hi with
    | 0, _ => exact rf_0
    | 1, _ => exact rf_1
    | 2, _ => exact rf_2
    | 3, _ => exact rf_3
    | 4, _ => exact rf_4
    | 5, _ => exact rf_5
    | 6, _ => exact rf_6
    | 7, _ => exact rf_7
  have hal := a.toNat_lt
  have h := List.all_eq_true.1 (hi (a.toNat / 32) (by omega)) (a.toNat % 32) (List.mem_range.2 (Nat.mod_lt _ (by decide)))
  have h := List.all_eq_true.1 h b.toNat (List.mem_range.2 b.toNat_lt)
  rw [show 32 * (a.toNat / 32) + a.toNat % 32 = a.toNat by omega] at h
  rw [gm, tmU_toNat]
  exact (Nat.eq_of_beq_eq_true h).symm
theorem rf1_lt (a b : Nat) (ha : a < 256) : ∀ k, k ≤ 8 → rf1 a b k < 32768 := by
  intro k hk
  induction k with
  | zero => exact Nat.zero_lt_succ _
  | succ k ih =>
    have h2 : a * 2 ^ k < 32768 := by
      have : 2 ^ k ≤ 2 ^ 7 := Nat.pow_le_pow_right (by omega) (by omega)
      calc a * 2 ^ k ≤ 255 * 2 ^ 7 := Nat.mul_le_mul (by omega) this
        _ < 32768 := by decide
    have h3 : bitN b k * (a * 2 ^ k) < 2 ^ 15 := by
      rcases Nat.mod_two_eq_zero_or_one (b / 2 ^ k) with h | h <;> simp [bitN, h]; exact h2
    exact Nat.xor_lt_two_pow (n := 15) (ih (by omega)) h3
theorem rf2_lt (n : Nat) (hn : n < 32768) : ∀ k, k ≤ 7 → rf2 n k < 32768 := by
  intro k hk
  induction k with
  | zero => exact hn
  | succ k ih =>
    have h2 : 283 * 2 ^ (6 - k) < 32768 := by
      have : 2 ^ (6 - k) ≤ 2 ^ 6 := Nat.pow_le_pow_right (by omega) (by omega)
      calc 283 * 2 ^ (6 - k) ≤ 283 * 2 ^ 6 := Nat.mul_le_mul (by omega) this
        _ < 32768 := by decide
    have h3 : bitN (rf2 n k) (14 - k) * (283 * 2 ^ (6 - k)) < 2 ^ 15 := by
      rcases Nat.mod_two_eq_zero_or_one (rf2 n k / 2 ^ (14 - k)) with h | h <;> simp [bitN, h]; exact h2
    exact Nat.xor_lt_two_pow (n := 15) (ih (by omega)) h3

/-! ### Boxes -/
def rot8 (b : UInt8) (n : Nat) : UInt8 := b8 (b.toNat * 2 ^ n % 256 ||| b.toNat / 2 ^ (8 - n))
def boxV (q : UInt8) : UInt8 := x8 (x8 (x8 (x8 (x8 q (rot8 q 1)) (rot8 q 2)) (rot8 q 3)) (rot8 q 4)) 99
def pT : List UInt8 := [1, 3, 5, 15, 17, 51, 85, 255, 26, 46, 114, 150, 161, 248, 19, 53, 95, 225, 56, 72, 216, 115, 149, 164, 247, 2, 6, 10, 30, 34, 102, 170, 229, 52, 92, 228, 55, 89, 235, 38, 106, 190, 217, 112, 144, 171, 230, 49, 83, 245, 4, 12, 20, 60, 68, 204, 79, 209, 104, 184, 211, 110, 178, 205, 76, 212, 103, 169, 224, 59, 77, 215, 98, 166, 241, 8, 24, 40, 120, 136, 131, 158, 185, 208, 107, 189, 220, 127, 129, 152, 179, 206, 73, 219, 118, 154, 181, 196, 87, 249, 16, 48, 80, 240, 11, 29, 39, 105, 187, 214, 97, 163, 254, 25, 43, 125, 135, 146, 173, 236, 47, 113, 147, 174, 233, 32, 96, 160, 251, 22, 58, 78, 210, 109, 183, 194, 93, 231, 50, 86, 250, 21, 63, 65, 195, 94, 226, 61, 71, 201, 64, 192, 91, 237, 44, 116, 156, 191, 218, 117, 159, 186, 213, 100, 172, 239, 42, 126, 130, 157, 188, 223, 122, 142, 137, 128, 155, 182, 193, 88, 232, 35, 101, 175, 234, 37, 111, 177, 200, 67, 197, 84, 252, 31, 33, 99, 165, 244, 7, 9, 27, 45, 119, 153, 176, 203, 70, 202, 69, 207, 74, 222, 121, 139, 134, 145, 168, 227, 62, 66, 198, 81, 243, 14, 18, 54, 90, 238, 41, 123, 141, 140, 143, 138, 133, 148, 167, 242, 13, 23, 57, 75, 221, 124, 132, 151, 162, 253, 28, 36, 108, 180, 199, 82, 246, 1]
def qT : List UInt8 := [1, 246, 82, 199, 180, 108, 36, 28, 253, 162, 151, 132, 124, 221, 75, 57, 23, 13, 242, 167, 148, 133, 138, 143, 140, 141, 123, 41, 238, 90, 54, 18, 14, 243, 81, 198, 66, 62, 227, 168, 145, 134, 139, 121, 222, 74, 207, 69, 202, 70, 203, 176, 153, 119, 45, 27, 9, 7, 244, 165, 99, 33, 31, 252, 84, 197, 67, 200, 177, 111, 37, 234, 175, 101, 35, 232, 88, 193, 182, 155, 128, 137, 142, 122, 223, 188, 157, 130, 126, 42, 239, 172, 100, 213, 186, 159, 117, 218, 191, 156, 116, 44, 237, 91, 192, 64, 201, 71, 61, 226, 94, 195, 65, 63, 21, 250, 86, 50, 231, 93, 194, 183, 109, 210, 78, 58, 22, 251, 160, 96, 32, 233, 174, 147, 113, 47, 236, 173, 146, 135, 125, 43, 25, 254, 163, 97, 214, 187, 105, 39, 29, 11, 240, 80, 48, 16, 249, 87, 196, 181, 154, 118, 219, 73, 206, 179, 152, 129, 127, 220, 189, 107, 208, 185, 158, 131, 136, 120, 40, 24, 8, 241, 166, 98, 215, 77, 59, 224, 169, 103, 212, 76, 205, 178, 110, 211, 184, 104, 209, 79, 204, 68, 60, 20, 12, 4, 245, 83, 49, 230, 171, 144, 112, 217, 190, 106, 38, 235, 89, 55, 228, 92, 52, 229, 170, 102, 34, 30, 10, 6, 2, 247, 164, 149, 115, 216, 72, 56, 225, 95, 53, 19, 248, 161, 150, 114, 46, 26, 255, 85, 51, 17, 15, 5, 3, 1]
def boxT : List UInt8 := [99, 124, 119, 123, 242, 107, 111, 197, 48, 1, 103, 43, 254, 215, 171, 118, 202, 130, 201, 125, 250, 89, 71, 240, 173, 212, 162, 175, 156, 164, 114, 192, 183, 253, 147, 38, 54, 63, 247, 204, 52, 165, 229, 241, 113, 216, 49, 21, 4, 199, 35, 195, 24, 150, 5, 154, 7, 18, 128, 226, 235, 39, 178, 117, 9, 131, 44, 26, 27, 110, 90, 160, 82, 59, 214, 179, 41, 227, 47, 132, 83, 209, 0, 237, 32, 252, 177, 91, 106, 203, 190, 57, 74, 76, 88, 207, 208, 239, 170, 251, 67, 77, 51, 133, 69, 249, 2, 127, 80, 60, 159, 168, 81, 163, 64, 143, 146, 157, 56, 245, 188, 182, 218, 33, 16, 255, 243, 210, 205, 12, 19, 236, 95, 151, 68, 23, 196, 167, 126, 61, 100, 93, 25, 115, 96, 129, 79, 220, 34, 42, 144, 136, 70, 238, 184, 20, 222, 94, 11, 219, 224, 50, 58, 10, 73, 6, 36, 92, 194, 211, 172, 98, 145, 149, 228, 121, 231, 200, 55, 109, 141, 213, 78, 169, 108, 86, 244, 234, 101, 122, 174, 8, 186, 120, 37, 46, 28, 166, 180, 198, 232, 221, 116, 31, 75, 189, 139, 138, 112, 62, 181, 102, 72, 3, 246, 14, 97, 53, 87, 185, 134, 193, 29, 158, 225, 248, 152, 17, 105, 217, 142, 148, 155, 30, 135, 233, 206, 85, 40, 223, 140, 161, 137, 13, 191, 230, 66, 104, 65, 153, 45, 15, 176, 84, 187, 22]
def unT : List UInt8 := [82, 9, 106, 213, 48, 54, 165, 56, 191, 64, 163, 158, 129, 243, 215, 251, 124, 227, 57, 130, 155, 47, 255, 135, 52, 142, 67, 68, 196, 222, 233, 203, 84, 123, 148, 50, 166, 194, 35, 61, 238, 76, 149, 11, 66, 250, 195, 78, 8, 46, 161, 102, 40, 217, 36, 178, 118, 91, 162, 73, 109, 139, 209, 37, 114, 248, 246, 100, 134, 104, 152, 22, 212, 164, 92, 204, 93, 101, 182, 146, 108, 112, 72, 80, 253, 237, 185, 218, 94, 21, 70, 87, 167, 141, 157, 132, 144, 216, 171, 0, 140, 188, 211, 10, 247, 228, 88, 5, 184, 179, 69, 6, 208, 44, 30, 143, 202, 63, 15, 2, 193, 175, 189, 3, 1, 19, 138, 107, 58, 145, 17, 65, 79, 103, 220, 234, 151, 242, 207, 206, 240, 180, 230, 115, 150, 172, 116, 34, 231, 173, 53, 133, 226, 249, 55, 232, 28, 117, 223, 110, 71, 241, 26, 113, 29, 41, 197, 137, 111, 183, 98, 14, 170, 24, 190, 27, 252, 86, 62, 75, 198, 210, 121, 32, 154, 219, 192, 254, 120, 205, 90, 244, 31, 221, 168, 51, 136, 7, 199, 49, 177, 18, 16, 89, 39, 128, 236, 95, 96, 81, 127, 169, 25, 181, 74, 13, 45, 229, 122, 159, 147, 201, 156, 239, 160, 224, 59, 77, 174, 42, 245, 176, 200, 235, 187, 60, 131, 83, 153, 97, 23, 43, 4, 126, 186, 119, 214, 38, 225, 105, 20, 99, 85, 33, 12, 125]
theorem pT_length : pT.length = 256 := by decide +kernel
theorem qT_length : qT.length = 256 := by decide +kernel
theorem boxT_length : boxT.length = 256 := by decide +kernel
theorem unT_length : unT.length = 256 := by decide +kernel
set_option maxRecDepth 100000 in
theorem pT_step : ∀ k : Fin 255, gm (pT.getD k.val 0) 3 = pT.getD (k.val + 1) 0 := by decide +kernel
set_option maxRecDepth 100000 in
theorem qT_step : ∀ k : Fin 255, gm (qT.getD k.val 0) 246 = qT.getD (k.val + 1) 0 := by decide +kernel
/-- The boxes of the first k powers. -/
def boxK : Nat → List UInt8
  | 0 => List.replicate 256 0
  | k + 1 => (boxK k).set (pT.getD k 0).toNat (boxV (qT.getD k 0))
theorem boxK_length : ∀ k, (boxK k).length = 256
  | 0 => List.length_replicate
  | k + 1 => by rw [boxK, List.length_set, boxK_length k]
set_option maxRecDepth 100000 in
theorem boxK_all : (boxK 255).set 0 99 = boxT := by decide +kernel
def unK : Nat → List UInt8
  | 0 => List.replicate 256 0
  | k + 1 => (unK k).set (boxT.getD k 0).toNat (b8 k)
theorem unK_length : ∀ k, (unK k).length = 256
  | 0 => List.length_replicate
  | k + 1 => by rw [unK, List.length_set, unK_length k]
set_option maxRecDepth 100000 in
theorem unK_all : unK 256 = unT := by decide +kernel
/-- The box of a byte. -/
def boxO (b : UInt8) : UInt8 := boxT.getD b.toNat 0
def unO (b : UInt8) : UInt8 := unT.getD b.toNat 0
theorem boxO_at (b : UInt8) : boxT[b.toNat]? = some (boxO b) := by
  unfold boxO
  have : b.toNat < boxT.length := by rw [boxT_length]; exact b.toNat_lt
  simp [List.getD, this]
theorem unO_at (b : UInt8) : unT[b.toNat]? = some (unO b) := by
  unfold unO
  have : b.toNat < unT.length := by rw [unT_length]; exact b.toNat_lt
  simp [List.getD, this]
end Go.Proofs.YtclekllaikcglaaGreat
