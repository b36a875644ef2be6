/- Plain laws of layer 4: products as those of polynomials; columns, rounds and blocks back. -/
import Derived.Test.YtbacamepmilmhaaXor
import Derived.Test.YtbacamepmilmhaaBlock
namespace Go.Proofs.Ytbacamepmilmhaa
open Go Go.RowKit

def twC : Bool := (List.range 256).all fun a => (List.range 256).all fun b => Nat.beq (twN (Nat.xor a b)) (Nat.xor (twN a) (twN b))
theorem twC_ok : twC = true := by decide +kernel
theorem tw_x8 (a c : UInt8) : tw (x8 a c) = x8 (tw a) (tw c) := by
  apply UInt8.toNat_inj.1
  rw [tw_toNat, x8_toNat, x8_toNat, tw_toNat, tw_toNat]
  have h := List.all_eq_true.1 twC_ok a.toNat (List.mem_range.2 a.toNat_lt)
  have h := List.all_eq_true.1 h c.toNat (List.mem_range.2 c.toNat_lt)
  exact Nat.eq_of_beq_eq_true h
theorem x8_left_comm (a b c : UInt8) : x8 a (x8 b c) = x8 b (x8 a c) := by rw [← x8_assoc, x8_comm a b, x8_assoc]
theorem tmU_left : ∀ (k : Nat) (a c : UInt8) (n : Nat), tmU k (x8 a c) n = x8 (tmU k a n) (tmU k c n)
  | 0, _, _, _ => (x8_z 0).symm
  | k + 1, a, c, n => by
    rw [tmU, tmU, tmU, tw_x8, tmU_left k]
    by_cases h : n % 2 = 1
    · simp only [if_pos h]
      rw [x8_assoc, x8_assoc, x8_left_comm c]
    · simp only [if_neg h, x8_z]
theorem gm_left (a c b : UInt8) : gm (x8 a c) b = x8 (gm a b) (gm c b) := tmU_left 8 a c b.toNat
theorem tmU_right : ∀ (k : Nat) (a : UInt8) (n m : Nat), tmU k a (n ^^^ m) = x8 (tmU k a n) (tmU k a m)
  | 0, _, _, _ => (x8_z 0).symm
  | k + 1, a, n, m => by
    have h2 : (n ^^^ m) / 2 = n / 2 ^^^ m / 2 := by
      have := Nat.shiftRight_xor_distrib (a := n) (b := m) (i := 1)
      simpa [Nat.shiftRight_eq_div_pow] using this
    have h1 : (n ^^^ m) % 2 = (n + m) % 2 := by
      have h := Nat.xor_mod_two_pow (a := n) (b := m) (n := 1)
      rw [Nat.pow_one] at h
      rw [h]
      rcases Nat.mod_two_eq_zero_or_one n with hn | hn <;> rcases Nat.mod_two_eq_zero_or_one m with hm | hm <;> rw [hn, hm] <;> simp <;> omega
    rw [tmU, tmU, tmU, h2, tmU_right k, h1]
    rcases Nat.mod_two_eq_zero_or_one n with hn | hn <;> rcases Nat.mod_two_eq_zero_or_one m with hm | hm
    · rw [if_neg (by omega), if_neg (by omega), if_neg (by omega)]; simp only [x8_z]
    · rw [if_pos (by omega), if_neg (by omega), if_pos (by omega)]; simp only [x8_z]; rw [x8_left_comm]
    · rw [if_pos (by omega), if_pos (by omega), if_neg (by omega)]; simp only [x8_z]; rw [x8_assoc]
    · rw [if_neg (by omega), if_pos (by omega), if_pos (by omega)]; simp only [x8_z]
      rw [x8_assoc, x8_left_comm (tmU k (tw a) (n / 2)), ← x8_assoc a a, x8_self, x8_z]
theorem gm_right (a b d : UInt8) : gm a (x8 b d) = x8 (gm a b) (gm a d) := by
  unfold gm
  rw [x8_toNat]
  exact tmU_right 8 a b.toNat d.toNat
theorem gm_one (a : UInt8) : gm a 1 = a := by
  have h : ∀ (k : Nat) (a : UInt8), tmU k a 0 = 0 := by
    intro k
    induction k with
    | zero => intro a; rfl
    | succ k ih => intro a; rw [tmU, Nat.zero_div, ih, if_neg (by decide), x8_z]
  show tmU 8 a 1 = a
  rw [tmU, show 1 / 2 = 0 from rfl, h, if_pos rfl, x8_z']
/-! ### Linear functions of a byte -/
def bitU (a : UInt8) (i : Nat) : UInt8 := if a.toNat / 2 ^ i % 2 = 1 then b8 (2 ^ i) else 0
def sumU (a : UInt8) : UInt8 := x8 (bitU a 0) (x8 (bitU a 1) (x8 (bitU a 2) (x8 (bitU a 3) (x8 (bitU a 4) (x8 (bitU a 5) (x8 (bitU a 6) (bitU a 7)))))))
theorem sumU_all : ∀ a : Fin 256, sumU (b8 a.val) = b8 a.val := by decide +kernel
theorem sumU_self (a : UInt8) : sumU a = a := by
  have := sumU_all ⟨a.toNat, a.toNat_lt⟩
  simp only [b8_self] at this
  exact this
theorem lin_zero {f : UInt8 → UInt8} (hf : ∀ a c, f (x8 a c) = x8 (f a) (f c)) : f 0 = 0 := by
  have h := hf 0 0
  rw [x8_z, x8_self] at h
  exact h
theorem lin_bit {f g : UInt8 → UInt8} (hf : ∀ a c, f (x8 a c) = x8 (f a) (f c)) (hg : ∀ a c, g (x8 a c) = x8 (g a) (g c)) (a : UInt8) (i : Nat) (h : f (b8 (2 ^ i)) = g (b8 (2 ^ i))) : f (bitU a i) = g (bitU a i) := by
  unfold bitU
  split
  · exact h
  · rw [lin_zero hf, lin_zero hg]
/-- Two linear functions are one if they agree on the powers of 2. -/
theorem lin_ext {f g : UInt8 → UInt8} (hf : ∀ a c, f (x8 a c) = x8 (f a) (f c)) (hg : ∀ a c, g (x8 a c) = x8 (g a) (g c)) (h : ∀ i, i < 8 → f (b8 (2 ^ i)) = g (b8 (2 ^ i))) (a : UInt8) : f a = g a := by
  have hb := fun i hi => lin_bit hf hg a i (h i hi)
  rw [← sumU_self a]
  unfold sumU
  simp only [hf, hg]
  rw [hb 0 (by omega), hb 1 (by omega), hb 2 (by omega), hb 3 (by omega), hb 4 (by omega), hb 5 (by omega), hb 6 (by omega), hb 7 (by omega)]
theorem gm_comm_bits : ∀ i j : Fin 8, gm (b8 (2 ^ i.val)) (b8 (2 ^ j.val)) = gm (b8 (2 ^ j.val)) (b8 (2 ^ i.val)) := by decide +kernel
theorem gm_comm (a b : UInt8) : gm a b = gm b a := by
  refine lin_ext (f := fun a => gm a b) (g := fun a => gm b a) (fun a c => gm_left a c b) (fun a c => gm_right b a c) (fun i hi => ?_) a
  refine lin_ext (f := fun b => gm (b8 (2 ^ i)) b) (g := fun b => gm b (b8 (2 ^ i))) (fun a c => gm_right _ a c) (fun a c => gm_left a c _) (fun j hj => ?_) b
  exact gm_comm_bits ⟨i, hi⟩ ⟨j, hj⟩
theorem gm_assoc_bits : ∀ i j k : Fin 8, gm (b8 (2 ^ i.val)) (gm (b8 (2 ^ j.val)) (b8 (2 ^ k.val))) = gm (gm (b8 (2 ^ i.val)) (b8 (2 ^ j.val))) (b8 (2 ^ k.val)) := by decide +kernel
theorem gm_assoc (a b d : UInt8) : gm a (gm b d) = gm (gm a b) d := by
  refine lin_ext (f := fun a => gm a (gm b d)) (g := fun a => gm (gm a b) d) (fun a c => gm_left a c _) (fun a c => by rw [gm_left, gm_left]) (fun i hi => ?_) a
  refine lin_ext (f := fun b => gm (b8 (2 ^ i)) (gm b d)) (g := fun b => gm (gm (b8 (2 ^ i)) b) d) (fun a c => by rw [gm_left, gm_right]) (fun a c => by rw [gm_right, gm_left]) (fun j hj => ?_) b
  refine lin_ext (f := fun d => gm (b8 (2 ^ i)) (gm (b8 (2 ^ j)) d)) (g := fun d => gm (gm (b8 (2 ^ i)) (b8 (2 ^ j))) d) (fun a c => by rw [gm_right, gm_right]) (fun a c => gm_right _ a c) (fun k hk => ?_) d
  exact gm_assoc_bits ⟨i, hi⟩ ⟨j, hj⟩ ⟨k, hk⟩
/-! ### Columns -/
theorem four_one (a c1 c2 c3 c4 : UInt8) (h : x8 (x8 (x8 c1 c2) c3) c4 = 1) : x8 (x8 (x8 (gm a c1) (gm a c2)) (gm a c3)) (gm a c4) = a := by
  rw [← gm_right, ← gm_right, ← gm_right, h, gm_one]
theorem four_zero (a c1 c2 c3 c4 : UInt8) (h : x8 (x8 (x8 c1 c2) c3) c4 = 0) : x8 (x8 (x8 (gm a c1) (gm a c2)) (gm a c3)) (gm a c4) = 0 := by
  rw [← gm_right, ← gm_right, ← gm_right, h, gm_zero]
theorem mixL_four (f0 f1 f2 f3 a b c d : UInt8) : mixL [f0, f1, f2, f3] [a, b, c, d] =
    [x8 (x8 (x8 (gm a f0) (gm b f1)) (gm c f2)) (gm d f3), x8 (x8 (x8 (gm a f3) (gm b f0)) (gm c f1)) (gm d f2),
     x8 (x8 (x8 (gm a f2) (gm b f3)) (gm c f0)) (gm d f1), x8 (x8 (x8 (gm a f1) (gm b f2)) (gm c f3)) (gm d f0)] := by
  have h : ∀ r, mixK [f0, f1, f2, f3] [a, b, c, d] r 4 = x8 (x8 (x8 (gm a ([f0, f1, f2, f3].getD ((0 + 4 - r) % 4) 0)) (gm b ([f0, f1, f2, f3].getD ((1 + 4 - r) % 4) 0))) (gm c ([f0, f1, f2, f3].getD ((2 + 4 - r) % 4) 0))) (gm d ([f0, f1, f2, f3].getD ((3 + 4 - r) % 4) 0)) := by
    intro r
    rw [mixK, mixK, mixK, mixK, mixK, x8_z]
    rfl
  unfold mixL
  rw [show List.range 4 = [0, 1, 2, 3] from rfl]
  simp only [List.map_cons, List.map_nil, h]
  rfl
instance : Std.Associative x8 := ⟨x8_assoc⟩
instance : Std.Commutative x8 := ⟨x8_comm⟩
theorem sixteen (a1 a2 a3 a4 b1 b2 b3 b4 c1 c2 c3 c4 d1 d2 d3 d4 : UInt8) :
    x8 (x8 (x8 (x8 (x8 (x8 a1 b1) c1) d1) (x8 (x8 (x8 a2 b2) c2) d2)) (x8 (x8 (x8 a3 b3) c3) d3)) (x8 (x8 (x8 a4 b4) c4) d4) =
    x8 (x8 (x8 (x8 (x8 (x8 a1 a2) a3) a4) (x8 (x8 (x8 b1 b2) b3) b4)) (x8 (x8 (x8 c1 c2) c3) c4)) (x8 (x8 (x8 d1 d2) d3) d4) := by ac_rfl
theorem gf_row_one (f g : UInt8) (x : UInt8) : gm (gm x f) g = gm x (gm f g) := (gm_assoc x f g).symm
theorem mix_back (a b c d : UInt8) : mixL [14, 11, 13, 9] (mixL [2, 3, 1, 1] [a, b, c, d]) = [a, b, c, d] := by
  rw [mixL_four, mixL_four]
  simp only [gm_left, gf_row_one]
  congr 1
  · rw [sixteen, four_one a _ _ _ _ (by decide +kernel), four_zero b _ _ _ _ (by decide +kernel), four_zero c _ _ _ _ (by decide +kernel), four_zero d _ _ _ _ (by decide +kernel)]
    simp only [x8_z']
  · congr 1
    · rw [sixteen, four_zero a _ _ _ _ (by decide +kernel), four_one b _ _ _ _ (by decide +kernel), four_zero c _ _ _ _ (by decide +kernel), four_zero d _ _ _ _ (by decide +kernel)]
      simp only [x8_z', x8_z]
    · congr 1
      · rw [sixteen, four_zero a _ _ _ _ (by decide +kernel), four_zero b _ _ _ _ (by decide +kernel), four_one c _ _ _ _ (by decide +kernel), four_zero d _ _ _ _ (by decide +kernel)]
        simp only [x8_z', x8_z]
      · congr 1
        rw [sixteen, four_zero a _ _ _ _ (by decide +kernel), four_zero b _ _ _ _ (by decide +kernel), four_zero c _ _ _ _ (by decide +kernel), four_one d _ _ _ _ (by decide +kernel)]
        simp only [x8_z', x8_z]
theorem mix_fore (a b c d : UInt8) : mixL [2, 3, 1, 1] (mixL [14, 11, 13, 9] [a, b, c, d]) = [a, b, c, d] := by
  rw [mixL_four, mixL_four]
  simp only [gm_left, gf_row_one]
  congr 1
  · rw [sixteen, four_one a _ _ _ _ (by decide +kernel), four_zero b _ _ _ _ (by decide +kernel), four_zero c _ _ _ _ (by decide +kernel), four_zero d _ _ _ _ (by decide +kernel)]
    simp only [x8_z']
  · congr 1
    · rw [sixteen, four_zero a _ _ _ _ (by decide +kernel), four_one b _ _ _ _ (by decide +kernel), four_zero c _ _ _ _ (by decide +kernel), four_zero d _ _ _ _ (by decide +kernel)]
      simp only [x8_z', x8_z]
    · congr 1
      · rw [sixteen, four_zero a _ _ _ _ (by decide +kernel), four_zero b _ _ _ _ (by decide +kernel), four_one c _ _ _ _ (by decide +kernel), four_zero d _ _ _ _ (by decide +kernel)]
        simp only [x8_z', x8_z]
      · congr 1
        rw [sixteen, four_zero a _ _ _ _ (by decide +kernel), four_zero b _ _ _ _ (by decide +kernel), four_zero c _ _ _ _ (by decide +kernel), four_one d _ _ _ _ (by decide +kernel)]
        simp only [x8_z', x8_z]
/-! ### Blocks -/
theorem sixteen_of (s : List UInt8) (h : s.length = 16) : ∃ a b c d e f g i j k l m n o p q, s = [a, b, c, d, e, f, g, i, j, k, l, m, n, o, p, q] := by
  match s, h with
  | [a, b, c, d, e, f, g, i, j, k, l, m, n, o, p, q], _ => exact ⟨a, b, c, d, e, f, g, i, j, k, l, m, n, o, p, q, rfl⟩
theorem mixL_is (f col : List UInt8) : ∃ a b c d, mixL f col = [a, b, c, d] := ⟨_, _, _, _, rfl⟩
theorem mixC_four (f : List UInt8) (a b c d e f' g i j k l m n o p q : UInt8) :
    mixC f [a, b, c, d, e, f', g, i, j, k, l, m, n, o, p, q] 4 = mixL f [a, b, c, d] ++ (mixL f [e, f', g, i] ++ (mixL f [j, k, l, m] ++ mixL f [n, o, p, q])) := by
  obtain ⟨a1, b1, c1, d1, h1⟩ := mixL_is f [a, b, c, d]
  obtain ⟨a2, b2, c2, d2, h2⟩ := mixL_is f [e, f', g, i]
  obtain ⟨a3, b3, c3, d3, h3⟩ := mixL_is f [j, k, l, m]
  obtain ⟨a4, b4, c4, d4, h4⟩ := mixL_is f [n, o, p, q]
  have e1 : mixC f [a, b, c, d, e, f', g, i, j, k, l, m, n, o, p, q] 1 = [a1, b1, c1, d1, e, f', g, i, j, k, l, m, n, o, p, q] := by
    rw [mixC, mixC, show (([a, b, c, d, e, f', g, i, j, k, l, m, n, o, p, q] : List UInt8).drop (4 * 0)).take 4 = [a, b, c, d] from rfl, h1]; rfl
  have e2 : mixC f [a, b, c, d, e, f', g, i, j, k, l, m, n, o, p, q] 2 = [a1, b1, c1, d1, a2, b2, c2, d2, j, k, l, m, n, o, p, q] := by
    rw [mixC, e1, show (([a1, b1, c1, d1, e, f', g, i, j, k, l, m, n, o, p, q] : List UInt8).drop (4 * 1)).take 4 = [e, f', g, i] from rfl, h2]; rfl
  have e3 : mixC f [a, b, c, d, e, f', g, i, j, k, l, m, n, o, p, q] 3 = [a1, b1, c1, d1, a2, b2, c2, d2, a3, b3, c3, d3, n, o, p, q] := by
    rw [mixC, e2, show (([a1, b1, c1, d1, a2, b2, c2, d2, j, k, l, m, n, o, p, q] : List UInt8).drop (4 * 2)).take 4 = [j, k, l, m] from rfl, h3]; rfl
  rw [mixC, e3, show (([a1, b1, c1, d1, a2, b2, c2, d2, a3, b3, c3, d3, n, o, p, q] : List UInt8).drop (4 * 3)).take 4 = [n, o, p, q] from rfl, h1, h2, h3, h4]
  rfl
theorem cols_back (F G : List UInt8) (h : ∀ a b c d, mixL G (mixL F [a, b, c, d]) = [a, b, c, d]) (s : List UInt8) (hs : s.length = 16) : mixC G (mixC F s 4) 4 = s := by
  obtain ⟨a, b, c, d, e, f, g, i, j, k, l, m, n, o, p, q, rfl⟩ := sixteen_of s hs
  rw [mixC_four]
  obtain ⟨a1, b1, c1, d1, h1⟩ := mixL_is F [a, b, c, d]
  obtain ⟨a2, b2, c2, d2, h2⟩ := mixL_is F [e, f, g, i]
  obtain ⟨a3, b3, c3, d3, h3⟩ := mixL_is F [j, k, l, m]
  obtain ⟨a4, b4, c4, d4, h4⟩ := mixL_is F [n, o, p, q]
  rw [h1, h2, h3, h4]
  show mixC G [a1, b1, c1, d1, a2, b2, c2, d2, a3, b3, c3, d3, a4, b4, c4, d4] 4 = _
  rw [mixC_four, ← h1, ← h2, ← h3, ← h4, h, h, h, h]
  rfl
theorem un_sub (s : List UInt8) (hs : s.length = 16) : unS (subS s) = s := by
  obtain ⟨a, b, c, d, e, f, g, i, j, k, l, m, n, o, p, q, rfl⟩ := sixteen_of s hs
  have h1 : subS [a, b, c, d, e, f, g, i, j, k, l, m, n, o, p, q] = [boxO a, boxO f, boxO l, boxO q, boxO e, boxO k, boxO p, boxO d, boxO j, boxO o, boxO c, boxO i, boxO n, boxO b, boxO g, boxO m] := rfl
  rw [h1]
  generalize hA : boxO a = A; generalize hB : boxO b = B; generalize hC : boxO c = C; generalize hD : boxO d = D
  generalize hE : boxO e = E; generalize hF : boxO f = F; generalize hG : boxO g = G; generalize hI : boxO i = I
  generalize hJ : boxO j = J; generalize hK : boxO k = K; generalize hL : boxO l = L; generalize hM : boxO m = M
  generalize hN : boxO n = N; generalize hO : boxO o = O; generalize hP : boxO p = P; generalize hQ : boxO q = Q
  have h2 : unS [A, F, L, Q, E, K, P, D, J, O, C, I, N, B, G, M] = [unO A, unO B, unO C, unO D, unO E, unO F, unO G, unO I, unO J, unO K, unO L, unO M, unO N, unO O, unO P, unO Q] := rfl
  rw [h2, ← hA, ← hB, ← hC, ← hD, ← hE, ← hF, ← hG, ← hI, ← hJ, ← hK, ← hL, ← hM, ← hN, ← hO, ← hP, ← hQ]
  simp only [un_box]
theorem sub_un (s : List UInt8) (hs : s.length = 16) : subS (unS s) = s := by
  obtain ⟨A, F, L, Q, E, K, P, D, J, O, C, I, N, B, G, M, rfl⟩ := sixteen_of s hs
  have h2 : unS [A, F, L, Q, E, K, P, D, J, O, C, I, N, B, G, M] = [unO A, unO B, unO C, unO D, unO E, unO F, unO G, unO I, unO J, unO K, unO L, unO M, unO N, unO O, unO P, unO Q] := rfl
  rw [h2]
  generalize hA : unO A = a; generalize hB : unO B = b; generalize hC : unO C = c; generalize hD : unO D = d
  generalize hE : unO E = e; generalize hF : unO F = f; generalize hG : unO G = g; generalize hI : unO I = i
  generalize hJ : unO J = j; generalize hK : unO K = k; generalize hL : unO L = l; generalize hM : unO M = m
  generalize hN : unO N = n; generalize hO : unO O = o; generalize hP : unO P = p; generalize hQ : unO Q = q
  have h1 : subS [a, b, c, d, e, f, g, i, j, k, l, m, n, o, p, q] = [boxO a, boxO f, boxO l, boxO q, boxO e, boxO k, boxO p, boxO d, boxO j, boxO o, boxO c, boxO i, boxO n, boxO b, boxO g, boxO m] := rfl
  rw [h1, ← hA, ← hB, ← hC, ← hD, ← hE, ← hF, ← hG, ← hI, ← hJ, ← hK, ← hL, ← hM, ← hN, ← hO, ← hP, ← hQ]
  simp only [box_un]
theorem unS_length (s : List UInt8) (hs : s.length = 16) : (unS s).length = 16 := usK_length s hs 16
theorem back_round (K t : List UInt8) (hK : K.length = 176) (ht : t.length = 16) (r : Nat) (hr : r ≤ 10) : backS K (roundS K t r) r = t := by
  have hk := rkey_length K hK r hr
  unfold backS roundS
  by_cases h : r < 10
  · simp only [if_pos h]
    rw [xorL_back _ _ (by rw [hk, mixC_length _ _ (subS_length t) 4 (by omega)]), cols_back _ _ mix_back _ (subS_length t), un_sub t ht]
  · simp only [if_neg h]
    rw [xorL_back _ _ (by rw [hk, subS_length]), un_sub t ht]
theorem round_back (K t : List UInt8) (hK : K.length = 176) (ht : t.length = 16) (r : Nat) (hr : r ≤ 10) : roundS K (backS K t r) r = t := by
  have hk := rkey_length K hK r hr
  have hx := xorL_len t (rkey K r) ht hk
  unfold backS roundS
  by_cases h : r < 10
  · simp only [if_pos h]
    rw [sub_un _ (mixC_length _ _ hx 4 (by omega)), cols_back _ _ mix_fore _ hx, xorL_back _ _ (by rw [hk, ht])]
  · simp only [if_neg h]
    rw [sub_un _ hx, xorL_back _ _ (by rw [hk, ht])]
theorem bck_blk (K s : List UInt8) (hK : K.length = 176) (hs : s.length = 16) : ∀ n, n ≤ 10 → bckN K (encL K s) n = blkN K s (10 - n)
  | 0, _ => rfl
  | n + 1, h => by
    rw [bckN, bck_blk K s hK hs n (by omega), show 10 - n = (10 - (n + 1)) + 1 by omega, blkN]
    exact back_round K _ hK (blkN_length K s hK hs _ (by omega)) _ (by omega)
theorem dec_enc (K s : List UInt8) (hK : K.length = 176) (hs : s.length = 16) : decL K (encL K s) = s := by
  unfold decL
  rw [bck_blk K s hK hs 10 (by omega), show 10 - 10 = 0 from rfl, blkN, xorL_back _ _ (by rw [hs, rkey_length K hK 0 (by omega)])]
theorem blk_bck (K s : List UInt8) (hK : K.length = 176) (hs : s.length = 16) : ∀ n, n ≤ 10 → blkN K (decL K s) n = bckN K s (10 - n)
  | 0, _ => by
    rw [blkN, decL, xorL_back _ _ (by rw [bckN_length K s hK hs, rkey_length K hK 0 (by omega)])]
  | n + 1, h => by
    rw [blkN, blk_bck K s hK hs n (by omega), show 10 - n = (10 - (n + 1)) + 1 by omega, bckN, show 10 - (10 - (n + 1)) = n + 1 by omega]
    exact round_back K _ hK (bckN_length K s hK hs _) _ (by omega)
theorem enc_dec (K s : List UInt8) (hK : K.length = 176) (hs : s.length = 16) : encL K (decL K s) = s := blk_bck K s hK hs 10 (by omega)
theorem encL_length (K s : List UInt8) (hK : K.length = 176) (hs : s.length = 16) : (encL K s).length = 16 := blkN_length K s hK hs 10 (by omega)
theorem decL_length (K s : List UInt8) (hK : K.length = 176) (hs : s.length = 16) : (decL K s).length = 16 := xorL_len _ _ (bckN_length K s hK hs 10) (rkey_length K hK 0 (by omega))
theorem enc_inj (K s t : List UInt8) (hK : K.length = 176) (hs : s.length = 16) (ht : t.length = 16) : encL K s = encL K t ↔ s = t :=
  ⟨fun h => by rw [← dec_enc K s hK hs, ← dec_enc K t hK ht, h], fun h => by rw [h]⟩
end Go.Proofs.Ytbacamepmilmhaa
namespace Go.Proofs.Ytbacamepmilmhaa
open Go Go.RowKit

/-- A word's byte m, the highest first. -/
def wb (w : UInt32) (m : Nat) : UInt8 := UInt8.ofNat (w.toNat / 2 ^ (8 * (3 - m)))
theorem wb_x (a b : UInt32) (m : Nat) : wb (x32 a b) m = x8 (wb a m) (wb b m) := xor_byte a b _
theorem wb_toNat (w : UInt32) (m : Nat) : (wb w m).toNat = w.toNat / 2 ^ (8 * (3 - m)) % 256 := by unfold wb; rw [UInt8.toNat_ofNat']
theorem rks_wb (key : List UInt8) (i m : Nat) (hi : i < 44) (hm : m < 4) : (rks key).getD (4 * i + m) 0 = wb ((ksW key).getD i 0) m := by
  simp only [List.getD]
  rw [rks_at key i m hi hm]; rfl
theorem ksW_top (key : List UInt8) (n : Nat) (h4 : 4 ≤ n) (hn : n < 44) (hm : n % 4 = 0) : (ksW key).getD n 0 = x32 ((ksW key).getD (n - 4) 0) (x32 (boxW (rotr ((ksW key).getD (n - 1) 0) (-8))) (shl24 (wsN key n).2)) := by
  rw [ksW_at key n hn, wsN_last key n (x32 ((wsN key n).1.getD (n - 4) 0) (x32 (boxW (rotr ((wsN key n).1.getD (n - 1) 0) (-8))) (shl24 (wsN key n).2))) (tw (wsN key n).2) (by rw [wsN]; simp only [if_neg (show ¬ n < 4 by omega), if_pos hm]), wsN_old key n (n - 4) (by omega) (by omega), wsN_old key n (n - 1) (by omega) (by omega)]
theorem rot_toNat (x : UInt32) : (rotr x (-8)).toNat = x.toNat % 16777216 * 256 + x.toNat / 16777216 := by
  have hx := x.toNat_lt
  have h : rotr x (-8) = UInt32.ofNat (rotrN x.toNat 24) := rfl
  rw [h, UInt32.toNat_ofNat_of_lt' (rotrN_lt _ _ hx)]
  unfold rotrN
  rw [show x.toNat * 2 ^ (32 - 24) % 4294967296 = (x.toNat % 16777216) <<< 8 by rw [Nat.shiftLeft_eq]; omega, Nat.or_comm, ← Nat.shiftLeft_add_eq_or_of_lt (show x.toNat / 2 ^ 24 < 2 ^ 8 by omega), Nat.shiftLeft_eq]
theorem byteK_wb (n : UInt32) (k : Nat) (hk : k < 4) : byteK n k = wb n k := by
  apply UInt8.toNat_inj.1
  unfold byteK
  rw [b8_mod, wb_toNat, show 24 - 8 * k = 8 * (3 - k) by omega]
theorem wb_box (n : UInt32) (k : Nat) (hk : k < 4) : wb (boxW n) k = boxO (wb n k) := by
  have h0 := (boxO (byteK n 0)).toNat_lt; have h1 := (boxO (byteK n 1)).toNat_lt; have h2 := (boxO (byteK n 2)).toNat_lt; have h3 := (boxO (byteK n 3)).toNat_lt
  rw [← byteK_wb n k hk]
  apply UInt8.toNat_inj.1
  rw [wb_toNat, boxW_toNat]
  simp only [bwN]
  rcases (by omega : k = 0 ∨ k = 1 ∨ k = 2 ∨ k = 3) with rfl | rfl | rfl | rfl <;> simp only [Nat.reduceSub, Nat.reduceMul, Nat.reducePow] <;> omega
theorem four_at (a b c d : Nat) (ha : a < 256) (hb : b < 256) (hc : c < 256) (hd : d < 256) :
    (((a * 256 + b) * 256 + c) * 256 + d) / 2 ^ 24 % 256 = a ∧ (((a * 256 + b) * 256 + c) * 256 + d) / 2 ^ 16 % 256 = b ∧ (((a * 256 + b) * 256 + c) * 256 + d) / 2 ^ 8 % 256 = c ∧ (((a * 256 + b) * 256 + c) * 256 + d) / 2 ^ 0 % 256 = d := by
  have h1 : (((a * 256 + b) * 256 + c) * 256 + d) / 2 ^ 24 = a := by omega
  have h2 : (((a * 256 + b) * 256 + c) * 256 + d) / 2 ^ 16 = a * 256 + b := by omega
  have h3 : (((a * 256 + b) * 256 + c) * 256 + d) / 2 ^ 8 = (a * 256 + b) * 256 + c := by omega
  rw [h1, h2, h3]
  refine ⟨by omega, by omega, by omega, by omega⟩
theorem wb_rot (x : UInt32) (k : Nat) (hk : k < 4) : wb (rotr x (-8)) k = wb x ((k + 1) % 4) := by
  have hx := x.toNat_lt
  apply UInt8.toNat_inj.1
  rw [wb_toNat, wb_toNat, rot_toNat]
  generalize x.toNat = n at *
  obtain ⟨a, b, c, d, hb, hc, hd, ha, rfl⟩ : ∃ a b c d : Nat, b < 256 ∧ c < 256 ∧ d < 256 ∧ a < 256 ∧ n = ((a * 256 + b) * 256 + c) * 256 + d := ⟨n / 16777216, n / 65536 % 256, n / 256 % 256, n % 256, by omega, by omega, by omega, by omega, by omega⟩
  rw [show (((a * 256 + b) * 256 + c) * 256 + d) % 16777216 * 256 + (((a * 256 + b) * 256 + c) * 256 + d) / 16777216 = ((b * 256 + c) * 256 + d) * 256 + a by omega]
  clear hx
  obtain ⟨p0, p1, p2, p3⟩ := four_at a b c d ha hb hc hd
  obtain ⟨q0, q1, q2, q3⟩ := four_at b c d a hb hc hd ha
  rcases (by omega : k = 0 ∨ k = 1 ∨ k = 2 ∨ k = 3) with rfl | rfl | rfl | rfl
  · exact q0.trans p1.symm
  · exact q1.trans p2.symm
  · exact q2.trans p3.symm
  · exact q3.trans p0.symm
theorem wb_shl (r : UInt8) (k : Nat) (hk : k < 4) : wb (shl24 r) k = if k = 0 then r else 0 := by
  have hr := r.toNat_lt
  apply UInt8.toNat_inj.1
  rw [wb_toNat, shl24_toNat]
  rcases (by omega : k = 0 ∨ k = 1 ∨ k = 2 ∨ k = 3) with rfl | rfl | rfl | rfl <;> simp <;> omega
/-- What the document's b holds ahead of word i. -/
def bI (key : List UInt8) (i : Nat) : List UInt8 :=
  if i % 4 = 0 then [x8 (boxO ((rks key).getD (4 * i - 3) 0)) (wsN key i).2, boxO ((rks key).getD (4 * i - 2) 0), boxO ((rks key).getD (4 * i - 1) 0), boxO ((rks key).getD (4 * i - 4) 0)]
  else [(rks key).getD (4 * i - 4) 0, (rks key).getD (4 * i - 3) 0, (rks key).getD (4 * i - 2) 0, (rks key).getD (4 * i - 1) 0]
theorem rks_fore (key : List UInt8) (i k : Nat) (h4 : 4 ≤ i) (hi : i < 44) (hk : k < 4) : (rks key).getD (4 * i + k) 0 = x8 ((rks key).getD (4 * i - 16 + k) 0) ((bI key i).getD k 0) := by
  rw [rks_wb key i k hi hk, show 4 * i - 16 + k = 4 * (i - 4) + k by omega, rks_wb key (i - 4) k (by omega) hk]
  have e0 : (rks key).getD (4 * i - 4) 0 = wb ((ksW key).getD (i - 1) 0) 0 := by rw [show 4 * i - 4 = 4 * (i - 1) + 0 by omega, rks_wb key (i - 1) 0 (by omega) (by omega)]
  have e1 : (rks key).getD (4 * i - 3) 0 = wb ((ksW key).getD (i - 1) 0) 1 := by rw [show 4 * i - 3 = 4 * (i - 1) + 1 by omega, rks_wb key (i - 1) 1 (by omega) (by omega)]
  have e2 : (rks key).getD (4 * i - 2) 0 = wb ((ksW key).getD (i - 1) 0) 2 := by rw [show 4 * i - 2 = 4 * (i - 1) + 2 by omega, rks_wb key (i - 1) 2 (by omega) (by omega)]
  have e3 : (rks key).getD (4 * i - 1) 0 = wb ((ksW key).getD (i - 1) 0) 3 := by rw [show 4 * i - 1 = 4 * (i - 1) + 3 by omega, rks_wb key (i - 1) 3 (by omega) (by omega)]
  unfold bI
  rw [e0, e1, e2, e3]
  by_cases hm : i % 4 = 0
  · rw [if_pos hm, ksW_top key i h4 hi hm, wb_x, wb_x, wb_box _ k hk, wb_rot _ k hk, wb_shl _ k hk]
    rcases (by omega : k = 0 ∨ k = 1 ∨ k = 2 ∨ k = 3) with rfl | rfl | rfl | rfl <;> simp [x8_zero_right]
  · rw [if_neg hm, ksW_mid key i h4 hi hm, wb_x]
    rcases (by omega : k = 0 ∨ k = 1 ∨ k = 2 ∨ k = 3) with rfl | rfl | rfl | rfl <;> simp
theorem wsN_fac (key : List UInt8) (i : Nat) (h4 : 4 ≤ i) : (wsN key (i + 1)).2 = if i % 4 = 0 then tw (wsN key i).2 else (wsN key i).2 := by
  rw [wsN]
  simp only [if_neg (show ¬ i < 4 by omega)]
  split <;> rfl
theorem wsN_four (key : List UInt8) : (wsN key 4).2 = 1 := rfl
theorem gm_two_all : ∀ b : Fin 256, gm (b8 b.val) 2 = tw (b8 b.val) := by decide +kernel
theorem gm_two (b : UInt8) : gm b 2 = tw b := by
  have := gm_two_all ⟨b.toNat, b.toNat_lt⟩
  simp only [b8_self] at this
  exact this
theorem rks_key (key : List UInt8) (h : key.length = 16) : (rks key).take 16 = key := by
  have := rks_first key h
  unfold rkey at this
  simpa using this
end Go.Proofs.Ytbacamepmilmhaa
