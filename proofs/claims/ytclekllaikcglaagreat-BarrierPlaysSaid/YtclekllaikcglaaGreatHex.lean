import Derived.Test.YtclekllaikcglaaGreatBase

/- Contracts: word.Turn, Hex, Unhex and their references. -/
namespace Go.Proofs.YtclekllaikcglaaGreat
open Go Go.RowKit
def rotrN (n k : Nat) : Nat := n / 2 ^ k ||| n * 2 ^ (32 - k) % 4294967296
theorem rotrN_lt (n k : Nat) (h : n < 4294967296) : rotrN n k < 4294967296 := by
 have h1 : n / 2 ^ k < 2 ^ 32 := Nat.lt_of_le_of_lt (Nat.div_le_self _ _) h
 have h2 : n * 2 ^ (32 - k) % 4294967296 < 2 ^ 32 := Nat.mod_lt _ (by omega)
 exact Nat.or_lt_two_pow h1 h2
def rotr (x : UInt32) (b : Int) : UInt32 := UInt32.ofNat (rotrN x.toNat (b % 32).toNat)
theorem and31 (b : Int) : bits .and .i64 b 31 = b % 32 := by
 show IntKind.i64.wrap ((BitVec.ofInt 64 b &&& BitVec.ofInt 64 31).toNat : Int) = _
 have h : (BitVec.ofInt 64 b &&& BitVec.ofInt 64 31).toNat = (b % 18446744073709551616).toNat % 32 := by
  rw [BitVec.toNat_and, BitVec.toNat_ofInt, show (BitVec.ofInt 64 31).toNat = 2 ^ 5 - 1 from rfl, Nat.and_two_pow_sub_one_eq_mod]; rfl
 rw [h, IntKind.wrap_i64]; omega
theorem or32_nat (a b : Nat) (ha : a < 4294967296) (hb : b < 4294967296) : bits .or .u32 (a : Int) (b : Int) = ((a ||| b : Nat) : Int) :=
 (bits_nat .u32 32 (by decide) wraps_u32 a b ha hb).2
theorem rotr_form (x : UInt32) (k : Nat) : bits .or .u32 ((x.toNat : Int) / 2 ^ k) ((x.toNat : Int) * 2 ^ (32 - k) % 4294967296) = ((UInt32.ofNat (rotrN x.toNat k)).toNat : Int) := by
 have hx := x.toNat_lt
 have h1 := or32_nat (x.toNat / 2 ^ k) (x.toNat * 2 ^ (32 - k) % 4294967296) (Nat.lt_of_le_of_lt (Nat.div_le_self _ _) hx) (Nat.mod_lt _ (by omega))
 have h2 := rotrN_lt x.toNat k hx
 rw [UInt32.toNat_ofNat_of_lt' h2]
 rw [show ((x.toNat : Int) / 2 ^ k) = ((x.toNat / 2 ^ k : Nat) : Int) by simp, show ((x.toNat : Int) * 2 ^ (32 - k) % 4294967296) = ((x.toNat * 2 ^ (32 - k) % 4294967296 : Nat) : Int) by simp]
 exact h1
set_option maxHeartbeats 400000 in
theorem Turn_any (x : UInt32) (b : Int) (w : World) :
  Calls Tryz.prog 125 #[.int .u32 x.toNat, .int .i64 b] w fun e w' => e = .returned (.int .u32 (rotr x b).toNat) ∧ Ext w w' := by
 obtain ⟨k, hk⟩ := Int.eq_ofNat_of_zero_le (Int.emod_nonneg b (by omega : (32 : Int) ≠ 0))
 have hk2 : k < 32 := by omega
 have ha : bits .and .i64 b 31 = (k : Int) := by rw [and31]; exact hk
 have hr : rotr x b = UInt32.ofNat (rotrN x.toNat k) := by rw [rotr, hk]; rfl
 rw [hr]
 clear hk hr
 go_enter Tryz.func125, Tryz.ntmps125
 go_wp2
 go_quiet (fail)
 go_wp2
 go_ret
 exact ⟨ret_int (rotr_form x k), (Ext.refl _).drewN _⟩
def turnK (n k i : Nat) : Nat := (List.range i).foldl (fun m j => if n / 2 ^ j % 2 = 1 then m ||| 2 ^ ((j + 32 - k) % 32) else m) 0
theorem turnK_succ (n k i : Nat) : turnK n k (i + 1) = if n / 2 ^ i % 2 = 1 then turnK n k i ||| 2 ^ ((i + 32 - k) % 32) else turnK n k i := by
 simp [turnK, List.range_succ]
theorem turnK_bits (n k : Nat) (hk : k < 32) : ∀ i, i ≤ 32 → ∀ t, (turnK n k i).testBit t = decide (t < 32 ∧ (t + k) % 32 < i ∧ n.testBit ((t + k) % 32) = true)
 | 0, _, t => by simp [turnK]
 | i + 1, hi, t => by
  have ih := turnK_bits n k hk i (by omega) t
  have hb : (n / 2 ^ i % 2 = 1) ↔ n.testBit i = true := by
   rw [Nat.testBit_eq_decide_div_mod_eq]; simp
  rw [turnK_succ]
  have hij : (i + 32 - k) % 32 = t ↔ t < 32 ∧ (t + k) % 32 = i := by omega
  by_cases h : n.testBit i = true
  ·rw [if_pos (hb.2 h), Nat.testBit_or, ih, Nat.testBit_two_pow]
   rw [Bool.eq_iff_iff]
   simp only [Bool.or_eq_true, decide_eq_true_eq, hij]
   constructor
   ·rintro (⟨h1, h2, h3⟩ | ⟨h1, h2⟩)
    ·exact ⟨h1, by omega, h3⟩
    ·exact ⟨h1, by omega, by rw [h2]; exact h⟩
   ·rintro ⟨h1, h2, h3⟩
    by_cases h4 : (t + k) % 32 = i
    ·exact .inr ⟨h1, h4⟩
    ·exact .inl ⟨h1, by omega, h3⟩
  ·rw [if_neg (fun e => h (hb.1 e)), ih]
   rw [Bool.eq_iff_iff]
   simp only [decide_eq_true_eq]
   constructor
   ·rintro ⟨h1, h2, h3⟩; exact ⟨h1, by omega, h3⟩
   ·rintro ⟨h1, h2, h3⟩
    refine ⟨h1, ?_, h3⟩
    by_cases h4 : (t + k) % 32 = i
    ·rw [h4] at h3; exact absurd h3 h
    ·omega
theorem turnK_eq (n k : Nat) (hk : k < 32) (hn : n < 4294967296) : turnK n k 32 = rotrN n k := by
 apply Nat.eq_of_testBit_eq
 intro t
 rw [turnK_bits n k hk 32 (by omega) t, rotrN, Nat.testBit_or, ← Nat.shiftRight_eq_div_pow, Nat.testBit_shiftRight, ← Nat.shiftLeft_eq, show (4294967296 : Nat) = 2 ^ 32 from rfl, Nat.testBit_mod_two_pow, Nat.testBit_shiftLeft]
 have hbig : ∀ j, 32 ≤ j → n.testBit j = false := fun j hj => Nat.testBit_lt_two_pow (Nat.lt_of_lt_of_le hn (Nat.pow_le_pow_right (by omega) hj : 2 ^ 32 ≤ 2 ^ j))
 rw [Bool.eq_iff_iff]
 simp only [decide_eq_true_eq, Bool.or_eq_true, Bool.and_eq_true]
 constructor
 ·rintro ⟨h1, h2, h3⟩
  by_cases h4 : t + k < 32
  ·left; rw [Nat.mod_eq_of_lt h4] at h3; rw [Nat.add_comm]; exact h3
  ·right
   rw [show (t + k) % 32 = t - (32 - k) by omega] at h3
   exact ⟨h1, by omega, h3⟩
 ·rintro (h | ⟨h1, h2, h3⟩)
  ·have h4 : k + t < 32 := Nat.lt_of_not_le fun h5 => by rw [hbig _ h5] at h; cases h
   exact ⟨by omega, by omega, by rw [Nat.mod_eq_of_lt (by omega), Nat.add_comm]; exact h⟩
  ·exact ⟨h1, by omega, by rw [show (t + k) % 32 = t - (32 - k) by omega]; exact h3⟩
theorem and1_32 (n j : Nat) (hn : n < 4294967296) : bits .and .u32 ((n : Int) / 2 ^ j) 1 = ((n / 2 ^ j % 2 : Nat) : Int) := by
 have h := (bits_nat .u32 32 (by decide) wraps_u32 (n / 2 ^ j) 1 (Nat.lt_of_le_of_lt (Nat.div_le_self _ _) hn) (by omega)).1
 rw [Nat.and_one_is_mod] at h
 rw [← h]; simp
theorem pow_mod (t : Nat) (ht : t < 32) : ((2 : Int) ^ t % 4294967296) = ((2 ^ t : Nat) : Int) := by
 have h1 : (2 : Nat) ^ t < 4294967296 := Nat.lt_of_lt_of_le (Nat.pow_lt_pow_right (by omega) ht) (by omega : 2 ^ 32 ≤ 4294967296)
 have h2 : ((2 : Int) ^ t) = ((2 ^ t : Nat) : Int) := by rw [Int.natCast_pow]; rfl
 rw [h2, show (4294967296 : Int) = ((4294967296 : Nat) : Int) from rfl, ← Int.natCast_emod, Nat.mod_eq_of_lt h1]
theorem turnK_lt (n k i : Nat) (hk : k < 32) (hi : i ≤ 32) : turnK n k i < 4294967296 := by
 refine Nat.lt_pow_two_of_testBit (n := 32) _ (fun t ht => ?_)
 rw [turnK_bits n k hk i hi t]; simp; omega
set_option maxRecDepth 100000 in
set_option maxHeartbeats 400000 in
theorem RefTurn_any (x : UInt32) (b : Int) (w : World) (_h1 : -9223372036854775808 ≤ b) (_h2 : b ≤ 9223372036854775807) :
  Calls Tryz.prog 168 #[.int .u32 x.toNat, .int .i64 b] w fun e w' => e = .returned (.int .u32 (rotr x b).toNat) ∧ w = w' := by
 have hx : x.toNat < 4294967296 := x.toNat_lt
 obtain ⟨k, hk⟩ := Int.eq_ofNat_of_zero_le (Int.emod_nonneg b (by omega : (32 : Int) ≠ 0))
 have hk2 : k < 32 := by omega
 have hr : rotr x b = UInt32.ofNat (rotrN x.toNat k) := by rw [rotr, hk]; rfl
 have hfin : ((rotr x b).toNat : Int) = (turnK x.toNat k 32 : Nat) := by
  rw [hr, UInt32.toNat_ofNat_of_lt' (rotrN_lt _ _ hx), turnK_eq _ _ hk2 hx]
 obtain ⟨q, hq⟩ : ∃ q, b.tmod 32 = q := ⟨_, rfl⟩
 have hq2 : -32 < q ∧ q < 32 ∧ (q + 32) % 32 = (k : Int) := by
  have h3 : q = b % 32 ∨ (q = b % 32 - 32 ∧ b % 32 ≠ 0) := by
   rw [← hq, Int.tmod_eq_emod]
   split
   ·simp
   ·rename_i hd
    right
    have : ¬ (32 : Int) ∣ b := fun e => hd (.inr e)
    constructor
    ·simp
    ·omega
  clear hfin hr hq
  omega
 have ht : (q + 32).tmod 32 = (k : Int) := by rw [Int.tmod_eq_emod_of_nonneg (by omega)]; exact hq2.2.2
 clear hk hr
 go_enter Tryz.func168, Tryz.ntmps168
 go_wp2
 clear hq ht
 go_loop [6, 7] (fun m i => ∃ j : Nat, j ≤ 32 ∧ i = .int .i64 j ∧ m = .int .u32 (turnK x.toNat k j)) (fun _ i => 32 - (intOf i).toNat)
 case atStart => exact ⟨0, by omega, rfl, by simp [turnK]⟩
 case round =>
  obtain ⟨j, hj, rfl, rfl⟩ := hrel
  by_cases hlt : j < 32
  ·have hpow : ((2 : Int) ^ (((j : Int) - k) % 32).toNat % 4294967296) = ((2 ^ ((j + 32 - k) % 32) : Nat) : Int) := by
    rw [show (((j : Int) - k) % 32).toNat = (j + 32 - k) % 32 by omega]
    exact pow_mod ((j + 32 - k) % 32) (Nat.mod_lt _ (by omega))
   have hsucc := turnK_succ x.toNat k j
   have hbit := and1_32 x.toNat j hx
   have hl1 := turnK_lt x.toNat k j hk2 (by omega)
   have h2p : (2 : Nat) ^ ((j + 32 - k) % 32) < 4294967296 := Nat.lt_of_lt_of_le (Nat.pow_lt_pow_right (by omega) (Nat.mod_lt _ (by omega))) (by omega : 2 ^ 32 ≤ 4294967296)
   have hor := or32_nat (turnK x.toNat k j) (2 ^ ((j + 32 - k) % 32)) hl1 h2p
   have HL := Lib.hid hpow; have HS := Lib.hid hsucc; have HO := Lib.hid hor
   clear hpow hsucc hor h2p hl1
   by_cases hb : x.toNat / 2 ^ j % 2 = 1
   ·have hbb : bits .and .u32 ((x.toNat : Int) / 2 ^ j) 1 = 1 := by rw [hbit, hb]; rfl
    have HB := Lib.hid hb
    clear hbit hb hfin hx hq2
    go_wp2
    go_round
    case rel => exact ⟨j + 1, by omega, by go_num, by rw [HS.out, if_pos HB.out, HL.out, HO.out]⟩
    case measure => simp [intOf]; omega
   ·have hbb : bits .and .u32 ((x.toNat : Int) / 2 ^ j) 1 = 0 := by rw [hbit, show x.toNat / 2 ^ j % 2 = 0 by omega]; rfl
    have HB := Lib.hid hb
    clear hbit hb hfin hx hq2
    go_wp2
    go_round
    case rel => exact ⟨j + 1, by omega, by go_num, by rw [HS.out, if_neg HB.out]⟩
    case measure => simp [intOf]; omega
  ·obtain rfl : j = 32 := by omega
   have HF := Lib.hid hfin
   clear hfin hq2
   go_wp2
   go_ret
   exact ⟨ret_int HF.out.symm, rfl⟩
theorem or_eq_xor_add_and : ∀ (n x y : Nat), x < n → (x ||| y) = (x ^^^ y) + (x &&& y)
 | 0, x, y, h => by omega
 | n + 1, x, y, h => by
  by_cases hx : x = 0
  ·subst hx; simp
  ·have ih := or_eq_xor_add_and n (x / 2) (y / 2) (by omega)
   have a1 : (x ||| y) / 2 = x / 2 ||| y / 2 := Nat.or_div_two
   have a2 : (x ^^^ y) / 2 = x / 2 ^^^ y / 2 := Nat.xor_div_two
   have a3 : (x &&& y) / 2 = x / 2 &&& y / 2 := Nat.and_div_two
   have b1 : (x ||| y) % 2 = 1 ↔ x % 2 = 1 ∨ y % 2 = 1 := Nat.or_mod_two_eq_one
   have b2 : (x ^^^ y) % 2 = 1 ↔ ¬ (x % 2 = 1 ↔ y % 2 = 1) := Nat.xor_mod_two_eq_one
   have b3 : (x &&& y) % 2 = 1 ↔ x % 2 = 1 ∧ y % 2 = 1 := Nat.and_mod_two_eq_one
   omega
theorem xor_sub (x y : UInt8) : (((o8 x y).toNat : Int) - ((a8 x y).toNat : Int)) % 256 = ((x8 x y).toNat : Int) := by
 have h1 := or_eq_xor_add_and (x.toNat + 1) x.toNat y.toNat (by omega)
 have h2 : x.toNat ^^^ y.toNat < 2 ^ 8 := Nat.xor_lt_two_pow x.toNat_lt y.toNat_lt
 simp only [o8, a8, x8, UInt8.toNat_or, UInt8.toNat_and, UInt8.toNat_xor]
 omega
set_option maxRecDepth 100000 in
set_option maxHeartbeats 400000 in
theorem RefXor_any (a b : List UInt8) (w : World) (h : a.length = b.length) (hl : a.length ≤ 1099511627776) :
  Calls Tryz.prog 101 #[.string (bs a), .string (bs b)] w fun e w' => e = .returned (.string (bs (xorL a b))) ∧ Ext w w' := by
 have hmk := fun w => mk_bytes a.length (by omega) w
 have hbl : b.length ≤ 1099511627776 := by omega
 have h' := Lib.hid h
 clear h
 go_enter Tryz.func101, Tryz.ntmps101
 go_wp2
 clear hmk
 go_loopw [6] (fun i wr => ∃ k : Nat, k ≤ a.length ∧ i = .int .i64 k ∧ wr.heap[w.heap.size]? = some (.cells (bcells ((xorL a b).take k ++ List.replicate (a.length - k) 0)) 5 (0, 0)) ∧ Ext w wr) (fun i _ => a.length - (intOf i).toNat)
 case atStart => exact ⟨0, by omega, rfl, by rw [heap_alloc_new]; simp, (Ext.refl _).alloc _⟩
 case round =>
  obtain ⟨k, hk, rfl, hblk, hx⟩ := hrel
  have hxl := xorL_length a b h'.out
  by_cases hlt : k < a.length
  ·have hc : wr.cell? ⟨w.heap.size, k, none⟩ = some (.int .u8 0) := cell_blk hblk (fill_cell _ _ _ hxl hlt)
   have hfz : wr.frozen? ⟨w.heap.size, k, none⟩ = false := frozen_blk hblk
   have hkb : (k : Int) < b.length := by have := h'.out; omega
   have hst := fill_set (xorL a b) 0 a.length k hxl hlt
   have HB := Lib.hid hblk; have HS := Lib.hid hst; have HX := Lib.hid hxl; clear hblk hst
   rw [show (xorL a b)[k]'(by omega) = x8 a[k] (b[k]'(by omega)) by simp [xorL]] at HS
   clear hxl
   go_wp2
   go_still_tail 18, (by kernel_rfl)
   go_wp2
   go_roundw
   case measure => simp [intOf]; omega
   case rel =>
    refine ⟨k + 1, by omega, by go_num, ?_, (hx.setCell (Nat.le_refl _) _).drew⟩
    rw [xor_sub, heap_drew, heap_setCell_same _ HB.out, bcells_set]
    rw [HS.out]
  ·obtain rfl : k = a.length := by omega
   rw [fill_done _ 0 a.length hxl, ← List.append_nil (xorL a b)] at hblk
   have kc := fun c => to_str_blk (c := c) hblk hxl
   clear hxl hblk
   go_wp2
   go_ret
   exact ⟨rfl, hx⟩
theorem wrap_div256 (m : Nat) (h : U64 m) : IntKind.u64.wrap ((m : Int) / 256) = ((m / 256 : Nat) : Int) := by
 unfold U64 at h; rw [IntKind.wrap_u64]; omega
theorem putDown_step (size n m k : Nat) (hk : k < size) (hm : m = n / 2 ^ (8 * (size - 1 - k))) :
  (bcells (List.replicate (k + 1) 0 ++ (putB size n).drop (k + 1))).setIfInBounds k (.int .u8 ((m : Int) % 256)) = bcells (List.replicate k 0 ++ (putB size n).drop k) := by
 have e : ((m : Int) % 256) = ((UInt8.ofNat m).toNat : Int) := by simp
 rw [e, bcells_set, List.replicate_succ', List.append_assoc, List.set_append_right _ _ (by simp)]
 have h1 : k < (putB size n).length := by simpa using hk
 rw [List.drop_eq_getElem_cons h1]
 simp only [List.length_replicate, Nat.sub_self, List.cons_append, List.nil_append, List.set_cons_zero]
 have h2 : (putB size n)[k] = UInt8.ofNat m := by simp [putB, hm]
 rw [h2]
theorem putDown_cell (size n k : Nat) (_hk : k < size) : (bcells (List.replicate (k + 1) 0 ++ (putB size n).drop (k + 1)))[k]? = some (.int .u8 0) := by
 rw [bcells_left _ _ k (by simp)]; simp
set_option maxRecDepth 100000 in
set_option maxHeartbeats 400000 in
theorem RefPut_any (n size : Nat) (w : World) (hs : size ≤ 8) (hs1 : 1 ≤ size) (hn : U64 n) :
  Calls Tryz.prog 108 #[.int .u64 n, .int .i64 size] w fun e w' => e = .returned (.string (bs (putB size n))) ∧ Ext w w' := by
 have hmk := fun w => mk_bytes size (by omega) w
 go_enter Tryz.func108, Tryz.ntmps108
 go_wp2
 clear hmk
 go_loopw [0, 6] (fun m i wr => ∃ k : Nat, k ≤ size ∧ i = .int .i64 ((k : Int) - 1) ∧ m = .int .u64 ((n / 2 ^ (8 * (size - k)) : Nat) : Int) ∧ wr.heap[w.heap.size]? = some (.cells (bcells (List.replicate k 0 ++ (putB size n).drop k)) 5 (0, 0)) ∧ Ext w wr) (fun _ i _ => (intOf i + 1).toNat)
 case atStart => exact ⟨size, by omega, rfl, by simp, by rw [heap_alloc_new, List.drop_of_length_le (by simp), List.append_nil], (Ext.refl _).alloc _⟩
 case round =>
  obtain ⟨k1, hk, rfl, rfl, hblk, hx⟩ := hrel
  rcases k1 with _ | k
  ·rw [List.replicate_zero, List.nil_append, List.drop_zero, ← List.append_nil (putB size n)] at hblk
   have kc := fun c => to_str_blk (c := c) hblk (putB_length size n)
   obtain ⟨q, hq⟩ : ∃ q, n / 2 ^ (8 * (size - 0)) = q := ⟨_, rfl⟩
   rw [hq]
   clear hblk hq
   go_wp2
   go_ret
   exact ⟨rfl, hx⟩
  ·have hc : wr.cell? ⟨w.heap.size, k, none⟩ = some (.int .u8 0) := cell_blk hblk (putDown_cell size n k hk)
   have hfz : wr.frozen? ⟨w.heap.size, k, none⟩ = false := frozen_blk hblk
   obtain ⟨m, hm⟩ : ∃ m, n / 2 ^ (8 * (size - (k + 1))) = m := ⟨_, rfl⟩
   have hst := putDown_step size n m k hk (by rw [← hm, show size - 1 - k = size - (k + 1) by omega])
   have hd : m / 256 = n / 2 ^ (8 * (size - k)) := by
    rw [← hm, Nat.div_div_eq_div_mul, show 8 * (size - k) = 8 * (size - (k + 1)) + 8 by omega, Nat.pow_add]
   have hmu : U64 m := by rw [← hm]; exact Nat.lt_of_le_of_lt (Nat.div_le_self _ _) hn
   rw [hm]
   have e1 : (((k + 1 : Nat) : Int) - 1) = (k : Int) := by omega
   rw [e1]
   have HB := Lib.hid hblk; have HS := Lib.hid hst; have HD := Lib.hid hd; have HM := Lib.hid hmu; clear hblk hst hd hm e1 hmu
   go_wp2
   go_roundw
   case measure => simp [intOf]
   case rel =>
    refine ⟨k, by omega, rfl, ?_, ?_, hx.setCell (Nat.le_refl _) _⟩
    ·rw [← HD.out, wrap_div256 m HM.out]
    ·rw [heap_setCell_same _ HB.out, HS.out]
set_option maxHeartbeats 400000 in
theorem RefGet_yes (n : Nat) (l : List UInt8) (p : Nat) (w : World) (hn : n ≤ 8) (hl : l.length ≤ 1099511627776) (h : p + n ≤ l.length) :
  Calls Tryz.prog 99 #[.string (bs l), .int .i64 p, .int .i64 n] w fun e w' => e = .returned (.tuple #[.int .u64 (getB (seg l p n)), .bool true]) ∧ w = w' := by
 go_enter Tryz.func99, Tryz.ntmps99
 go_wp2
 go_loop [8, 9] (fun v i => ∃ k : Nat, k ≤ n ∧ i = .int .i64 k ∧ v = .int .u64 (getB (seg l p k))) (fun _ i => n - (intOf i).toNat)
 case atStart => exact ⟨0, by omega, rfl, by simp [seg, getB]⟩
 case round =>
  obtain ⟨k, hk, rfl, rfl⟩ := hrel
  by_cases hlt : k < n
  ·have h1 := getB_lt (seg l p k)
   rw [seg_length l p k (by omega)] at h1
   have h2 : getB (seg l p k) ≤ 72057594037927935 := by
    have : 256 ^ k ≤ 256 ^ 7 := Nat.pow_le_pow_right (by omega) (by omega)
    omega
   have h3 := seg_snoc l p k (by omega)
   have H3 := Lib.hid h3
   clear h1 h3
   go_wp2
   go_round
   case rel =>
    refine ⟨k + 1, by omega, by go_num, ?_⟩
    rw [H3.out, getB_snoc]
    have := (l[p + k]'(by omega)).toNat_lt
    rw [IntKind.wrap_u64]
    congr 1
    omega
   case measure => simp [intOf]; omega
  ·obtain rfl : k = n := by omega
   go_wp2
   go_ret2
   exact ⟨rfl, rfl⟩
set_option maxHeartbeats 400000 in
theorem RefGet_no (n : Nat) (l : List UInt8) (p : Int) (w : World) (hn : n ≤ 8) (hl : l.length ≤ 1099511627776) (h : p < 0 ∨ (l.length : Int) < p + n) :
  Calls Tryz.prog 99 #[.string (bs l), .int .i64 p, .int .i64 n] w fun e w' => e = .returned (.tuple #[.int .u64 0, .bool false]) ∧ w = w' := by
 by_cases h0 : p < 0
 ·clear h
  go_enter Tryz.func99, Tryz.ntmps99
  go_wp2
  go_ret2
  exact ⟨rfl, rfl⟩
 ·have h1 : (l.length : Int) - n < p := by omega
  clear h
  go_enter Tryz.func99, Tryz.ntmps99
  go_wp2
  go_ret2
  exact ⟨rfl, rfl⟩
theorem RefGet4_any (l : List UInt8) (p : Int) (w : World) (hl : l.length ≤ 1099511627776) :
  Calls Tryz.prog 99 #[.string (bs l), .int .i64 p, .int .i64 4] w fun e w' => e = .returned (.tuple #[.int .u64 (Get32 l p).1, .bool (Get32 l p).2]) ∧ w = w' := by
 unfold Get32
 by_cases h : 0 ≤ p ∧ p + 4 ≤ l.length
 ·obtain ⟨q, rfl⟩ := Int.eq_ofNat_of_zero_le h.1
  rw [if_pos h]
  exact RefGet_yes 4 l q w (by omega) hl (by omega)
 ·rw [if_neg h]
  exact RefGet_no 4 l p w (by omega) hl (by omega)
theorem RefPut4_any (n : Nat) (w : World) (hn : U64 n) :
  Calls Tryz.prog 108 #[.int .u64 n, .int .i64 4] w fun e w' => e = .returned (.string (bs (putB 4 n))) ∧ Ext w w' :=
 RefPut_any n 4 w (by omega) (by omega) hn
theorem RefPut8_any (n : Nat) (w : World) (hn : U64 n) :
  Calls Tryz.prog 108 #[.int .u64 n, .int .i64 8] w fun e w' => e = .returned (.string (bs (putB 8 n))) ∧ Ext w w' :=
 RefPut_any n 8 w (by omega) (by omega) hn
theorem Get32_lt (l : List UInt8) (p : Int) : (Get32 l p).1 ≤ 4294967295 := by
 unfold Get32
 split
 ·have h := getB_lt (seg l p.toNat 4)
  have h2 : (seg l p.toNat 4).length ≤ 4 := by unfold seg; simp; omega
  have h3 : 256 ^ (seg l p.toNat 4).length ≤ 256 ^ 4 := Nat.pow_le_pow_right (by omega) h2
  show getB (seg l p.toNat 4) ≤ _
  omega
 ·show 0 ≤ 4294967295; omega
end Go.Proofs.YtclekllaikcglaaGreat
