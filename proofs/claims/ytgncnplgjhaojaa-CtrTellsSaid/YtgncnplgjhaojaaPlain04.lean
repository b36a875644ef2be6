/- Plain laws of layer 4: boxes; round keys by words. -/
import Derived.Test.YtgncnplgjhaojaaRounds
namespace Go.Proofs.Ytgncnplgjhaojaa
open Go Go.RowKit

theorem b8_self (b : UInt8) : b8 b.toNat = b := by unfold b8; simp
theorem un_box_all : ∀ b : Fin 256, unO (boxO (b8 b.val)) = b8 b.val := by decide +kernel
theorem box_un_all : ∀ b : Fin 256, boxO (unO (b8 b.val)) = b8 b.val := by decide +kernel
theorem box_ne_all : ∀ b : Fin 256, boxO (b8 b.val) ≠ b8 b.val := by decide +kernel
theorem un_box (b : UInt8) : unO (boxO b) = b := by
  have := un_box_all ⟨b.toNat, b.toNat_lt⟩
  simp only [b8_self] at this
  exact this
theorem box_un (b : UInt8) : boxO (unO b) = b := by
  have := box_un_all ⟨b.toNat, b.toNat_lt⟩
  simp only [b8_self] at this
  exact this
theorem box_ne (b : UInt8) : boxO b ≠ b := by
  have := box_ne_all ⟨b.toNat, b.toNat_lt⟩
  simp only [b8_self] at this
  exact this
theorem box_inj (a b : UInt8) : boxO a = boxO b ↔ a = b := ⟨fun h => by rw [← un_box a, ← un_box b, h], fun h => by rw [h]⟩
/-! ### Words -/
theorem wsN_keep (key : List UInt8) (n : Nat) : ∀ d, (wsN key (n + 1 + d)).1.getD n 0 = (wsN key (n + 1)).1.getD n 0
  | 0 => rfl
  | d + 1 => by
    rw [← wsN_keep key n d]
    have hl := wsN_length key (n + 1 + d)
    have : ∃ x r, wsN key (n + 1 + d + 1) = ((wsN key (n + 1 + d)).1 ++ [x], r) := by
      rw [wsN]
      split
      · exact ⟨_, _, rfl⟩
      · split
        · exact ⟨_, _, rfl⟩
        · exact ⟨_, _, rfl⟩
    obtain ⟨x, r, hx⟩ := this
    rw [show n + 1 + (d + 1) = n + 1 + d + 1 by omega, hx]
    simp only [List.getD]
    rw [List.getElem?_append_left (by omega)]
theorem ksW_at (key : List UInt8) (n : Nat) (hn : n < 44) : (ksW key).getD n 0 = (wsN key (n + 1)).1.getD n 0 := by
  have := wsN_keep key n (44 - (n + 1))
  rw [show n + 1 + (44 - (n + 1)) = 44 by omega] at this
  exact this
theorem wsN_last (key : List UInt8) (n : Nat) (x : UInt32) (r : UInt8) (h : wsN key (n + 1) = ((wsN key n).1 ++ [x], r)) : (wsN key (n + 1)).1.getD n 0 = x := by
  have hl := wsN_length key n
  rw [h]
  simp only [List.getD]
  rw [List.getElem?_append_right (by omega), hl, Nat.sub_self]
  rfl
theorem wsN_old (key : List UInt8) (n j : Nat) (hj : j < n) (hn : n ≤ 44) : (wsN key n).1.getD j 0 = (ksW key).getD j 0 := by
  rw [ksW_at key j (by omega)]
  have := wsN_keep key j (n - (j + 1))
  rw [show j + 1 + (n - (j + 1)) = n by omega] at this
  exact this
theorem ksW_key (key : List UInt8) (n : Nat) (h : n < 4) : (ksW key).getD n 0 = keyW key n := by
  rw [ksW_at key n (by omega)]
  exact wsN_last key n _ (wsN key n).2 (by rw [wsN]; simp only [if_pos h])
theorem ksW_mid (key : List UInt8) (n : Nat) (h4 : 4 ≤ n) (hn : n < 44) (hm : n % 4 ≠ 0) : (ksW key).getD n 0 = x32 ((ksW key).getD (n - 4) 0) ((ksW key).getD (n - 1) 0) := by
  rw [ksW_at key n hn, wsN_last key n (x32 ((wsN key n).1.getD (n - 4) 0) ((wsN key n).1.getD (n - 1) 0)) (wsN key n).2 (by rw [wsN]; simp only [if_neg (show ¬ n < 4 by omega), if_neg hm]), wsN_old key n (n - 4) (by omega) (by omega), wsN_old key n (n - 1) (by omega) (by omega)]
/-! ### Bytes -/
theorem putB_get (n m : Nat) (h : m < 4) : (putB 4 n)[m]? = some (UInt8.ofNat (n / 2 ^ (8 * (3 - m)))) := by
  rw [putB_at 4 n m h, show 4 - 1 - m = 3 - m by omega]
theorem kbK_at (key : List UInt8) : ∀ (n : Nat), n ≤ 44 → ∀ (i m : Nat), i < n → m < 4 → (kbK key n)[4 * i + m]? = some (UInt8.ofNat (((ksW key).getD i 0).toNat / 2 ^ (8 * (3 - m))))
  | 0, _, i, _, hi, _ => by omega
  | n + 1, hn, i, m, hi, hm => by
    have hl := kbK_length key n (by omega)
    have hp := putB_length 4 ((ksW key).getD n 0).toNat
    rw [kbK]
    unfold splice
    by_cases h : i = n
    · subst h
      rw [List.append_assoc, List.getElem?_append_right (by rw [List.length_take]; omega), List.length_take, hl, Nat.min_eq_left (by omega), show 4 * i + m - 4 * i = m by omega, List.getElem?_append_left (by omega)]
      exact putB_get _ m hm
    · rw [List.append_assoc, List.getElem?_append_left (by rw [List.length_take]; omega), List.getElem?_take_of_lt (by omega)]
      exact kbK_at key n (by omega) i m (by omega) hm
theorem rks_at (key : List UInt8) (i m : Nat) (hi : i < 44) (hm : m < 4) : (rks key)[4 * i + m]? = some (UInt8.ofNat (((ksW key).getD i 0).toNat / 2 ^ (8 * (3 - m)))) := kbK_at key 44 (by omega) i m hi hm
theorem rks_length (key : List UInt8) : (rks key).length = 176 := kbK_length key 44 (by omega)
theorem xor_byte (a b : UInt32) (k : Nat) : UInt8.ofNat ((x32 a b).toNat / 2 ^ k) = x8 (UInt8.ofNat (a.toNat / 2 ^ k)) (UInt8.ofNat (b.toNat / 2 ^ k)) := by
  apply UInt8.toNat_inj.1
  unfold x32
  rw [x8_toNat, UInt32.toNat_xor, UInt8.toNat_ofNat', UInt8.toNat_ofNat', UInt8.toNat_ofNat']
  show (a.toNat ^^^ b.toNat) / 2 ^ k % 2 ^ 8 = (a.toNat / 2 ^ k % 2 ^ 8) ^^^ (b.toNat / 2 ^ k % 2 ^ 8)
  rw [← Nat.shiftRight_eq_div_pow, ← Nat.shiftRight_eq_div_pow, ← Nat.shiftRight_eq_div_pow, Nat.shiftRight_xor_distrib, Nat.xor_mod_two_pow]
/-- A round key's byte, of each word but the first: the one ahead, either or the one above. -/
theorem rks_rule (key : List UInt8) (i j : Nat) (hi1 : 1 ≤ i) (hi : i ≤ 10) (hj4 : 4 ≤ j) (hj : j < 16) :
    (rkey (rks key) i).getD j 0 = x8 ((rkey (rks key) i).getD (j - 4) 0) ((rkey (rks key) (i - 1)).getD j 0) := by
  have hK := rks_length key
  have at_ : ∀ r t, r ≤ 10 → t < 16 → (rkey (rks key) r).getD t 0 = UInt8.ofNat (((ksW key).getD (4 * r + t / 4) 0).toNat / 2 ^ (8 * (3 - t % 4))) := by
    intro r t hr ht
    have h1 := rks_at key (4 * r + t / 4) (t % 4) (by omega) (by omega)
    rw [show 4 * (4 * r + t / 4) + t % 4 = 16 * r + t by omega] at h1
    unfold rkey
    simp only [List.getD]
    rw [List.getElem?_take_of_lt ht, List.getElem?_drop, h1]
    rfl
  rw [at_ i j hi hj, at_ i (j - 4) hi (by omega), at_ (i - 1) j (by omega) hj]
  have hw := ksW_mid key (4 * i + j / 4) (by omega) (by omega) (by omega)
  rw [hw, xor_byte, show 4 * i + j / 4 - 4 = 4 * (i - 1) + j / 4 by omega, show 4 * i + j / 4 - 1 = 4 * i + (j - 4) / 4 by omega, show (j - 4) % 4 = j % 4 by omega]
  exact x8_comm _ _
theorem putB_getB4 (a b c d : UInt8) : putB 4 (getB [a, b, c, d]) = [a, b, c, d] := by
  have ha := a.toNat_lt; have hb := b.toNat_lt; have hc := c.toNat_lt; have hd := d.toNat_lt
  have e : getB [a, b, c, d] = ((a.toNat * 256 + b.toNat) * 256 + c.toNat) * 256 + d.toNat := by simp [getB]
  rw [e]
  simp only [putB, List.range, List.range.loop, List.map_cons, List.map_nil]
  congr 1
  · apply UInt8.toNat_inj.1; rw [UInt8.toNat_ofNat']; omega
  · congr 1
    · apply UInt8.toNat_inj.1; rw [UInt8.toNat_ofNat']; omega
    · congr 1
      · apply UInt8.toNat_inj.1; rw [UInt8.toNat_ofNat']; omega
      · congr 1
        apply UInt8.toNat_inj.1; rw [UInt8.toNat_ofNat']; omega
theorem putB_getB_len (l : List UInt8) (h : l.length = 4) : putB 4 (getB l) = l := by
  match l, h with
  | [a, b, c, d], _ => exact putB_getB4 a b c d
/-- The first round key is the key. -/
theorem rks_first (key : List UInt8) (h : key.length = 16) : rkey (rks key) 0 = key := by
  have hK := rks_length key
  apply List.ext_getElem?
  intro n
  by_cases hn : n < 16
  · have h1 := rks_at key (n / 4) (n % 4) (by omega) (by omega)
    rw [show 4 * (n / 4) + n % 4 = n by omega, ksW_key key (n / 4) (by omega)] at h1
    have hs : (seg key (4 * (n / 4)) 4).length = 4 := by unfold seg; rw [List.length_take, List.length_drop]; omega
    have h2 : (keyW key (n / 4)).toNat = getB (seg key (4 * (n / 4)) 4) := by
      unfold keyW; rw [UInt32.toNat_ofNat', Nat.mod_eq_of_lt (getB_u32 _ hs)]
    rw [h2, ← putB_get _ _ (by omega), putB_getB_len _ hs] at h1
    unfold rkey
    rw [List.getElem?_take_of_lt hn, List.getElem?_drop, Nat.mul_zero, Nat.zero_add, h1]
    unfold seg
    rw [List.getElem?_take_of_lt (by omega), List.getElem?_drop, show 4 * (n / 4) + n % 4 = n by omega]
  · rw [List.getElem?_eq_none (by rw [rkey_length _ hK 0 (by omega)]; omega), List.getElem?_eq_none (by omega)]
end Go.Proofs.Ytgncnplgjhaojaa
