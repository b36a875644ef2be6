/- Plain laws of layer 4: round keys, byte by byte. -/
import Derived.Test.YtbacamepmilmhaaBlock
namespace Go.Proofs.Ytbacamepmilmhaa
open Go Go.RowKit

/-- A word's byte m, the highest first. -/
def wb (w : UInt32) (m : Nat) : UInt8 := UInt8.ofNat (w.toNat / 2 ^ (8 * (3 - m)))
theorem wb_x (a b : UInt32) (m : Nat) : wb (x32 a b) m = x8 (wb a m) (wb b m) := xor_byte a b _
theorem wb_toNat (w : UInt32) (m : Nat) : (wb w m).toNat = w.toNat / 2 ^ (8 * (3 - m)) % 256 := by unfold wb; rw [UInt8.toNat_ofNat']
theorem rks_wb (key : List UInt8) (i m : Nat) (hi : i < 44) (hm : m < 4) : (rks key).getD (4 * i + m) 0 = wb ((ksW key).getD i 0) m := by
  simp only [List.getD]
  rw [rks_at key i m hi hm]; rfl
theorem ksW_top (key : List UInt8) (n : Nat) (h4 : 4 ≤ n) (hn : n < 44) (hm : n % 4 = 0) : (ksW key).getD n 0 = x32 ((ksW key).getD (n - 4) 0) (x32 (boxW (rotr ((ksW key).getD (n - 1) 0) (-8))) (shl24 (wsN key n).2)) := by
  rw [ksW_at key n hn, wsN_last key n (x32 ((wsN key n).1.getD (n - 4) 0) (x32 (boxW (rotr ((wsN key n).1.getD (n - 1) 0) (-8))) (shl24 (wsN key n).2))) (tw (wsN key n).2) (by rw [wsN]; simp only [if_neg (show ¬ n < 4 by omega), if_pos hm]), wsN_old key n (n - 4) (by omega) (by omega), wsN_old key n (n - 1) (by omega) (by omega)]
theorem rot_toNat (x : UInt32) : (rotr x (-8)).toNat = x.toNat % 16777216 * 256 + x.toNat / 16777216 := by
  have hx := x.toNat_lt
  have h : rotr x (-8) = UInt32.ofNat (rotrN x.toNat 24) := rfl
  rw [h, UInt32.toNat_ofNat_of_lt' (rotrN_lt _ _ hx)]
  unfold rotrN
  rw [show x.toNat * 2 ^ (32 - 24) % 4294967296 = (x.toNat % 16777216) <<< 8 by rw [Nat.shiftLeft_eq]; omega, Nat.or_comm, ← Nat.shiftLeft_add_eq_or_of_lt (show x.toNat / 2 ^ 24 < 2 ^ 8 by omega), Nat.shiftLeft_eq]
theorem byteK_wb (n : UInt32) (k : Nat) (hk : k < 4) : byteK n k = wb n k := by
  apply UInt8.toNat_inj.1
  unfold byteK
  rw [b8_mod, wb_toNat, show 24 - 8 * k = 8 * (3 - k) by omega]
theorem wb_box (n : UInt32) (k : Nat) (hk : k < 4) : wb (boxW n) k = boxO (wb n k) := by
  have h0 := (boxO (byteK n 0)).toNat_lt; have h1 := (boxO (byteK n 1)).toNat_lt; have h2 := (boxO (byteK n 2)).toNat_lt; have h3 := (boxO (byteK n 3)).toNat_lt
  rw [← byteK_wb n k hk]
  apply UInt8.toNat_inj.1
  rw [wb_toNat, boxW_toNat]
  simp only [bwN]
  rcases (by omega : k = 0 ∨ k = 1 ∨ k = 2 ∨ k = 3) with rfl | rfl | rfl | rfl <;> simp only [Nat.reduceSub, Nat.reduceMul, Nat.reducePow] <;> omega
theorem four_at (a b c d : Nat) (ha : a < 256) (hb : b < 256) (hc : c < 256) (hd : d < 256) :
    (((a * 256 + b) * 256 + c) * 256 + d) / 2 ^ 24 % 256 = a ∧ (((a * 256 + b) * 256 + c) * 256 + d) / 2 ^ 16 % 256 = b ∧ (((a * 256 + b) * 256 + c) * 256 + d) / 2 ^ 8 % 256 = c ∧ (((a * 256 + b) * 256 + c) * 256 + d) / 2 ^ 0 % 256 = d := by
  have h1 : (((a * 256 + b) * 256 + c) * 256 + d) / 2 ^ 24 = a := by omega
  have h2 : (((a * 256 + b) * 256 + c) * 256 + d) / 2 ^ 16 = a * 256 + b := by omega
  have h3 : (((a * 256 + b) * 256 + c) * 256 + d) / 2 ^ 8 = (a * 256 + b) * 256 + c := by omega
  rw [h1, h2, h3]
  refine ⟨by omega, by omega, by omega, by omega⟩
theorem wb_rot (x : UInt32) (k : Nat) (hk : k < 4) : wb (rotr x (-8)) k = wb x ((k + 1) % 4) := by
  have hx := x.toNat_lt
  apply UInt8.toNat_inj.1
  rw [wb_toNat, wb_toNat, rot_toNat]
  generalize x.toNat = n at *
  obtain ⟨a, b, c, d, hb, hc, hd, ha, rfl⟩ : ∃ a b c d : Nat, b < 256 ∧ c < 256 ∧ d < 256 ∧ a < 256 ∧ n = ((a * 256 + b) * 256 + c) * 256 + d := ⟨n / 16777216, n / 65536 % 256, n / 256 % 256, n % 256, by omega, by omega, by omega, by omega, by omega⟩
  rw [show (((a * 256 + b) * 256 + c) * 256 + d) % 16777216 * 256 + (((a * 256 + b) * 256 + c) * 256 + d) / 16777216 = ((b * 256 + c) * 256 + d) * 256 + a by omega]
  clear hx
  obtain ⟨p0, p1, p2, p3⟩ := four_at a b c d ha hb hc hd
  obtain ⟨q0, q1, q2, q3⟩ := four_at b c d a hb hc hd ha
  rcases (by omega : k = 0 ∨ k = 1 ∨ k = 2 ∨ k = 3) with rfl | rfl | rfl | rfl
  · exact q0.trans p1.symm
  · exact q1.trans p2.symm
  · exact q2.trans p3.symm
  · exact q3.trans p0.symm
theorem wb_shl (r : UInt8) (k : Nat) (hk : k < 4) : wb (shl24 r) k = if k = 0 then r else 0 := by
  have hr := r.toNat_lt
  apply UInt8.toNat_inj.1
  rw [wb_toNat, shl24_toNat]
  rcases (by omega : k = 0 ∨ k = 1 ∨ k = 2 ∨ k = 3) with rfl | rfl | rfl | rfl <;> simp <;> omega
/-- What the document's b holds ahead of word i. -/
def bI (key : List UInt8) (i : Nat) : List UInt8 :=
  if i % 4 = 0 then [x8 (boxO ((rks key).getD (4 * i - 3) 0)) (wsN key i).2, boxO ((rks key).getD (4 * i - 2) 0), boxO ((rks key).getD (4 * i - 1) 0), boxO ((rks key).getD (4 * i - 4) 0)]
  else [(rks key).getD (4 * i - 4) 0, (rks key).getD (4 * i - 3) 0, (rks key).getD (4 * i - 2) 0, (rks key).getD (4 * i - 1) 0]
theorem rks_fore (key : List UInt8) (i k : Nat) (h4 : 4 ≤ i) (hi : i < 44) (hk : k < 4) : (rks key).getD (4 * i + k) 0 = x8 ((rks key).getD (4 * i - 16 + k) 0) ((bI key i).getD k 0) := by
  rw [rks_wb key i k hi hk, show 4 * i - 16 + k = 4 * (i - 4) + k by omega, rks_wb key (i - 4) k (by omega) hk]
  have e0 : (rks key).getD (4 * i - 4) 0 = wb ((ksW key).getD (i - 1) 0) 0 := by rw [show 4 * i - 4 = 4 * (i - 1) + 0 by omega, rks_wb key (i - 1) 0 (by omega) (by omega)]
  have e1 : (rks key).getD (4 * i - 3) 0 = wb ((ksW key).getD (i - 1) 0) 1 := by rw [show 4 * i - 3 = 4 * (i - 1) + 1 by omega, rks_wb key (i - 1) 1 (by omega) (by omega)]
  have e2 : (rks key).getD (4 * i - 2) 0 = wb ((ksW key).getD (i - 1) 0) 2 := by rw [show 4 * i - 2 = 4 * (i - 1) + 2 by omega, rks_wb key (i - 1) 2 (by omega) (by omega)]
  have e3 : (rks key).getD (4 * i - 1) 0 = wb ((ksW key).getD (i - 1) 0) 3 := by rw [show 4 * i - 1 = 4 * (i - 1) + 3 by omega, rks_wb key (i - 1) 3 (by omega) (by omega)]
  unfold bI
  rw [e0, e1, e2, e3]
  by_cases hm : i % 4 = 0
  · rw [if_pos hm, ksW_top key i h4 hi hm, wb_x, wb_x, wb_box _ k hk, wb_rot _ k hk, wb_shl _ k hk]
    rcases (by omega : k = 0 ∨ k = 1 ∨ k = 2 ∨ k = 3) with rfl | rfl | rfl | rfl <;> simp [x8_zero_right]
  · rw [if_neg hm, ksW_mid key i h4 hi hm, wb_x]
    rcases (by omega : k = 0 ∨ k = 1 ∨ k = 2 ∨ k = 3) with rfl | rfl | rfl | rfl <;> simp
theorem wsN_fac (key : List UInt8) (i : Nat) (h4 : 4 ≤ i) : (wsN key (i + 1)).2 = if i % 4 = 0 then tw (wsN key i).2 else (wsN key i).2 := by
  rw [wsN]
  simp only [if_neg (show ¬ i < 4 by omega)]
  split <;> rfl
theorem wsN_four (key : List UInt8) : (wsN key 4).2 = 1 := rfl
theorem gm_two_all : ∀ b : Fin 256, gm (b8 b.val) 2 = tw (b8 b.val) := by decide +kernel
theorem gm_two (b : UInt8) : gm b 2 = tw b := by
  have := gm_two_all ⟨b.toNat, b.toNat_lt⟩
  simp only [b8_self] at this
  exact this
theorem rks_key (key : List UInt8) (h : key.length = 16) : (rks key).take 16 = key := by
  have := rks_first key h
  unfold rkey at this
  simpa using this
end Go.Proofs.Ytbacamepmilmhaa
