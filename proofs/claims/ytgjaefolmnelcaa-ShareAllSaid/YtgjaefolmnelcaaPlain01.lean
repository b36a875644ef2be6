/- Plain facts on numbers' bytes, turning, either or, hex texts. -/
import Derived.Test.YtgjaefolmnelcaaHex
import Derived.Test.YtgjaefolmnelcaaUnhex
namespace Go.Proofs.Ytgjaefolmnelcaa
open Go Go.RowKit

theorem putB_succ (s n : Nat) : putB (s + 1) n = UInt8.ofNat (n / 2 ^ (8 * s)) :: putB s n := by
  unfold putB
  rw [List.range_succ_eq_map, List.map_cons, List.map_map]
  congr 1
  apply List.map_congr_left
  intro i hi
  simp only [Function.comp]
  rw [show s + 1 - 1 - i.succ = s - 1 - i by omega]
theorem getB_cons (x : UInt8) (l : List UInt8) : getB (x :: l) = x.toNat * 256 ^ l.length + getB l := by
  have : ∀ (m : List UInt8) (a : Nat), m.foldl (fun a b => a * 256 + b.toNat) a = a * 256 ^ m.length + m.foldl (fun a b => a * 256 + b.toNat) 0 := by
    intro m
    induction m with
    | nil => intro a; simp
    | cons y m ih =>
      intro a
      rw [List.foldl_cons, List.foldl_cons, ih, ih (0 * 256 + y.toNat), List.length_cons, Nat.pow_succ, Nat.add_mul]
      rw [Nat.mul_assoc, Nat.mul_comm 256, Nat.zero_mul, Nat.zero_add]
      omega
  unfold getB
  rw [List.foldl_cons, this]
  simp
theorem getB_putB_mod (s n : Nat) : getB (putB s n) = n % 256 ^ s := by
  induction s with
  | zero => simp [putB, getB, Nat.mod_one]
  | succ s ih =>
    rw [putB_succ, getB_cons, ih, putB_length, Nat.mod_pow_succ, show (2 : Nat) ^ (8 * s) = 256 ^ s by rw [Nat.pow_mul]]
    have : (UInt8.ofNat (n / 256 ^ s)).toNat = n / 256 ^ s % 256 := by simp
    rw [this, Nat.mul_comm]; omega
theorem getB_putB4 (n : Nat) (h : U32 n) : getB (putB 4 n) = n := by rw [getB_putB_mod]; exact Nat.mod_eq_of_lt h
theorem getB_putB8 (n : Nat) (h : U64 n) : getB (putB 8 n) = n := by rw [getB_putB_mod]; exact Nat.mod_eq_of_lt h
theorem seg_mid (a b c : List UInt8) (n : Nat) (hn : b.length = n) : seg (a ++ b ++ c) a.length n = b := by
  unfold seg; rw [List.append_assoc, List.drop_left, ← hn, List.take_left]
theorem Get64_mid (a c : List UInt8) (n : Nat) (h : U64 n) : Get64 (a ++ putB 8 n ++ c) (a.length : Int) = (n, true) := by
  unfold Get64
  rw [if_pos ⟨by omega, by simp; omega⟩, Int.toNat_natCast, seg_mid _ _ _ 8 (by simp), getB_putB8 n h]
theorem Get32_mid (a c : List UInt8) (n : Nat) (h : U32 n) : Get32 (a ++ putB 4 n ++ c) (a.length : Int) = (n, true) := by
  unfold Get32
  rw [if_pos ⟨by omega, by simp; omega⟩, Int.toNat_natCast, seg_mid _ _ _ 4 (by simp), getB_putB4 n h]

theorem rotrN_bits (n k : Nat) (hk : k < 32) (hn : n < 4294967296) (t : Nat) : (rotrN n k).testBit t = decide (t < 32 ∧ n.testBit ((t + k) % 32) = true) := by
  rw [← turnK_eq n k hk hn, turnK_bits n k hk 32 (by omega) t, Bool.eq_iff_iff]
  simp only [decide_eq_true_eq]
  constructor
  · rintro ⟨h1, _, h3⟩; exact ⟨h1, h3⟩
  · rintro ⟨h1, h3⟩; exact ⟨h1, Nat.mod_lt _ (by omega), h3⟩
theorem rotr_toNat (x : UInt32) (b : Int) : (rotr x b).toNat = rotrN x.toNat (b % 32).toNat := by
  unfold rotr; exact UInt32.toNat_ofNat_of_lt' (rotrN_lt _ _ x.toNat_lt)
theorem rotr_back (x : UInt32) (b : Int) : rotr (rotr x b) (-b) = x := by
  rw [← UInt32.toNat_inj, rotr_toNat, rotr_toNat]
  have hx : x.toNat < 4294967296 := x.toNat_lt
  have h1 : (b % 32).toNat < 32 := by omega
  have h2 : ((-b) % 32).toNat < 32 := by omega
  apply Nat.eq_of_testBit_eq
  intro t
  rw [rotrN_bits _ _ h2 (rotrN_lt _ _ hx), rotrN_bits _ _ h1 hx]
  rw [Bool.eq_iff_iff]
  simp only [decide_eq_true_eq]
  constructor
  · rintro ⟨h3, h4, h5⟩
    rw [show ((t + (-b % 32).toNat) % 32 + (b % 32).toNat) % 32 = t by omega] at h5
    exact h5
  · intro h5
    have h3 : t < 32 := Nat.lt_of_not_le fun h => by
      rw [Nat.testBit_lt_two_pow (Nat.lt_of_lt_of_le hx (Nat.pow_le_pow_right (by omega) h : 2 ^ 32 ≤ 2 ^ t))] at h5; cases h5
    refine ⟨h3, Nat.mod_lt _ (by omega), ?_⟩
    rw [show ((t + (-b % 32).toNat) % 32 + (b % 32).toNat) % 32 = t by omega]
    exact h5
theorem rotr_round (x : UInt32) (b : Int) : rotr x (b + 32) = rotr x b := by
  unfold rotr; rw [show (b + 32) % 32 = b % 32 by omega]
theorem x8_self (x : UInt8) : x8 x x = 0 := by unfold x8; simp
theorem x8_comm (x y : UInt8) : x8 x y = x8 y x := by unfold x8; exact UInt8.xor_comm _ _
theorem x8_assoc (x y z : UInt8) : x8 (x8 x y) z = x8 x (x8 y z) := by unfold x8; exact UInt8.xor_assoc _ _ _
theorem x8_zero_right (x : UInt8) : x8 x 0 = x := by unfold x8; simp
theorem x8_back (x y : UInt8) : x8 (x8 x y) y = x := by rw [x8_assoc, x8_self, x8_zero_right]
theorem xorL_back : ∀ (a b : List UInt8), a.length = b.length → xorL (xorL a b) b = a
  | [], [], _ => rfl
  | x :: a, y :: b, h => by
    have ih := xorL_back a b (by simpa using h)
    unfold xorL at ih ⊢
    rw [List.zipWith_cons_cons, List.zipWith_cons_cons, ih, x8_back]
  | [], _ :: _, h => by simp at h
  | _ :: _, [], h => by simp at h
theorem xorL_comm : ∀ (a b : List UInt8), xorL a b = xorL b a
  | [], [] => rfl
  | x :: a, y :: b => by
    have ih := xorL_comm a b
    unfold xorL at ih ⊢
    rw [List.zipWith_cons_cons, List.zipWith_cons_cons, ih, x8_comm]
  | [], _ :: _ => rfl
  | _ :: _, [] => rfl
theorem xorL_assoc : ∀ (a b c : List UInt8), xorL (xorL a b) c = xorL a (xorL b c)
  | x :: a, y :: b, z :: c => by
    have ih := xorL_assoc a b c
    unfold xorL at ih ⊢
    simp only [List.zipWith_cons_cons, ih, x8_assoc]
  | [], _, _ => by simp [xorL]
  | _ :: _, [], _ => by simp [xorL]
  | _ :: _, _ :: _, [] => by simp [xorL]
theorem xorL_self : ∀ (a : List UInt8), xorL a a = List.replicate a.length 0
  | [] => rfl
  | x :: a => by
    have ih := xorL_self a
    unfold xorL at ih ⊢
    rw [List.zipWith_cons_cons, ih, x8_self]; rfl
theorem hexVal_hexDig (n : Nat) (h : n < 16) : hexVal (hexDig n) = some (UInt8.ofNat n) := by
  have : ∀ m : Fin 16, hexVal (hexDig m.val) = some (UInt8.ofNat m.val) := by decide
  exact this ⟨n, h⟩
theorem unhexL_hexL (l : List UInt8) : unhexL (hexL l) = some l := by
  induction l with
  | nil => rfl
  | cons x l ih =>
    have hx := x.toNat_lt
    show unhexL (hexDig (x.toNat / 16) :: hexDig (x.toNat % 16) :: hexL l) = _
    unfold unhexL
    rw [hexVal_hexDig _ (by omega), hexVal_hexDig _ (by omega), ih]
    simp only [Option.map_some, Option.some.injEq, List.cons.injEq, and_true]
    rw [← UInt8.toNat_inj]
    simp [nib]; omega
theorem Unhex_hexL (l : List UInt8) : Unhex (hexL l) = (l, true) := by rw [Unhex, unhexL_hexL]
theorem less_putB (a b : Nat) : ∀ s, Op.bytesLess (putB s a) (putB s b) = decide (a % 256 ^ s < b % 256 ^ s)
  | 0 => by simp [putB, Op.bytesLess, Nat.mod_one]
  | s + 1 => by
    have ih := less_putB a b s
    rw [putB_succ, putB_succ, Op.bytesLess, ih, show (2 : Nat) ^ (8 * s) = 256 ^ s by rw [Nat.pow_mul], Nat.mod_pow_succ, Nat.mod_pow_succ]
    have ha : (UInt8.ofNat (a / 256 ^ s)).toNat = a / 256 ^ s % 256 := by simp
    have hb : (UInt8.ofNat (b / 256 ^ s)).toNat = b / 256 ^ s % 256 := by simp
    have hp : 0 < 256 ^ s := Nat.pow_pos (by omega)
    have h1 := Nat.mod_lt a hp
    have h2 := Nat.mod_lt b hp
    generalize a / 256 ^ s % 256 = x at *
    generalize b / 256 ^ s % 256 = y at *
    generalize UInt8.ofNat (a / 256 ^ s) = p at *
    generalize UInt8.ofNat (b / 256 ^ s) = q at *
    rw [Bool.eq_iff_iff]
    simp only [Bool.or_eq_true, Bool.and_eq_true, decide_eq_true_eq, beq_iff_eq, UInt8.lt_iff_toNat_lt, ← UInt8.toNat_inj, ha, hb]
    generalize a % 256 ^ s = u at *
    generalize b % 256 ^ s = v at *
    generalize 256 ^ s = m at *
    rcases Nat.lt_trichotomy x y with h | h | h
    · have := Nat.mul_le_mul_left m (show x + 1 ≤ y from h)
      rw [Nat.mul_add, Nat.mul_one] at this
      constructor
      · intro _; omega
      · intro _; exact .inl h
    · subst h
      constructor
      · rintro (h | ⟨_, h⟩) <;> omega
      · intro _; exact .inr ⟨rfl, by omega⟩
    · have := Nat.mul_le_mul_left m (show y + 1 ≤ x from h)
      rw [Nat.mul_add, Nat.mul_one] at this
      constructor
      · rintro (h | ⟨h, _⟩) <;> omega
      · intro _; omega
theorem less_putB8 (a b : Nat) (ha : U64 a) (hb : U64 b) : Op.bytesLess (putB 8 a) (putB 8 b) = decide (a < b) := by
  rw [less_putB, Nat.mod_eq_of_lt ha, Nat.mod_eq_of_lt hb]
theorem xorL_zeros (a b : List UInt8) (h : a.length = b.length) : (xorL a b = List.replicate a.length 0) ↔ a = b := by
  rw [← xorL_zero a b h]
  constructor
  · intro e x hx; rw [e] at hx; exact (List.mem_replicate.1 hx).2
  · intro hz
    apply List.eq_replicate_of_mem |> fun f => (xorL_length a b h) ▸ f (fun x hx => hz x hx)
end Go.Proofs.Ytgjaefolmnelcaa
