/- Plain laws of layer 4: products as those of polynomials; columns, rounds and blocks back. -/
import Derived.Test.YtclekllaikcglaaGreatXor
import Derived.Test.YtclekllaikcglaaGreatBlock
import Derived.Test.YtclekllaikcglaaGreatMixed
import Derived.Test.YtclekllaikcglaaGreatWeave
import Derived.Test.YtclekllaikcglaaGreatBase
namespace Go.Proofs.YtclekllaikcglaaGreat
open Go Go.RowKit

def twC : Bool := (List.range 256).all fun a => (List.range 256).all fun b => Nat.beq (twN (Nat.xor a b)) (Nat.xor (twN a) (twN b))
theorem twC_ok : twC = true := by decide +kernel
theorem tw_x8 (a c : UInt8) : tw (x8 a c) = x8 (tw a) (tw c) := by
  apply UInt8.toNat_inj.1
  rw [tw_toNat, x8_toNat, x8_toNat, tw_toNat, tw_toNat]
  have h := List.all_eq_true.1 twC_ok a.toNat (List.mem_range.2 a.toNat_lt)
  have h := List.all_eq_true.1 h c.toNat (List.mem_range.2 c.toNat_lt)
  exact Nat.eq_of_beq_eq_true h
theorem x8_left_comm (a b c : UInt8) : x8 a (x8 b c) = x8 b (x8 a c) := by rw [← x8_assoc, x8_comm a b, x8_assoc]
theorem tmU_left : ∀ (k : Nat) (a c : UInt8) (n : Nat), tmU k (x8 a c) n = x8 (tmU k a n) (tmU k c n)
  | 0, _, _, _ => (x8_z 0).symm
  | k + 1, a, c, n => by
    rw [tmU, tmU, tmU, tw_x8, tmU_left k]
    by_cases h : n % 2 = 1
    · simp only [if_pos h]
      rw [x8_assoc, x8_assoc, x8_left_comm c]
    · simp only [if_neg h, x8_z]
theorem gm_left (a c b : UInt8) : gm (x8 a c) b = x8 (gm a b) (gm c b) := tmU_left 8 a c b.toNat
theorem tmU_right : ∀ (k : Nat) (a : UInt8) (n m : Nat), tmU k a (n ^^^ m) = x8 (tmU k a n) (tmU k a m)
  | 0, _, _, _ => (x8_z 0).symm
  | k + 1, a, n, m => by
    have h2 : (n ^^^ m) / 2 = n / 2 ^^^ m / 2 := by
      have := Nat.shiftRight_xor_distrib (a := n) (b := m) (i := 1)
      simpa [Nat.shiftRight_eq_div_pow] using this
    have h1 : (n ^^^ m) % 2 = (n + m) % 2 := by
      have h := Nat.xor_mod_two_pow (a := n) (b := m) (n := 1)
      rw [Nat.pow_one] at h
      rw [h]
      rcases Nat.mod_two_eq_zero_or_one n with hn | hn <;> rcases Nat.mod_two_eq_zero_or_one m with hm | hm <;> rw [hn, hm] <;> simp <;> omega
    rw [tmU, tmU, tmU, h2, tmU_right k, h1]
    rcases Nat.mod_two_eq_zero_or_one n with hn | hn <;> rcases Nat.mod_two_eq_zero_or_one m with hm | hm
    · rw [if_neg (by omega), if_neg (by omega), if_neg (by omega)]; simp only [x8_z]
    · rw [if_pos (by omega), if_neg (by omega), if_pos (by omega)]; simp only [x8_z]; rw [x8_left_comm]
    · rw [if_pos (by omega), if_pos (by omega), if_neg (by omega)]; simp only [x8_z]; rw [x8_assoc]
    · rw [if_neg (by omega), if_pos (by omega), if_pos (by omega)]; simp only [x8_z]
      rw [x8_assoc, x8_left_comm (tmU k (tw a) (n / 2)), ← x8_assoc a a, x8_self, x8_z]
theorem gm_right (a b d : UInt8) : gm a (x8 b d) = x8 (gm a b) (gm a d) := by
  unfold gm
  rw [x8_toNat]
  exact tmU_right 8 a b.toNat d.toNat
theorem gm_one (a : UInt8) : gm a 1 = a := by
  have h : ∀ (k : Nat) (a : UInt8), tmU k a 0 = 0 := by
    intro k
    induction k with
    | zero => intro a; rfl
    | succ k ih => intro a; rw [tmU, Nat.zero_div, ih, if_neg (by decide), x8_z]
  show tmU 8 a 1 = a
  rw [tmU, show 1 / 2 = 0 from rfl, h, if_pos rfl, x8_z']
/-! ### Linear functions of a byte -/
def bitU (a : UInt8) (i : Nat) : UInt8 := if a.toNat / 2 ^ i % 2 = 1 then b8 (2 ^ i) else 0
def sumU (a : UInt8) : UInt8 := x8 (bitU a 0) (x8 (bitU a 1) (x8 (bitU a 2) (x8 (bitU a 3) (x8 (bitU a 4) (x8 (bitU a 5) (x8 (bitU a 6) (bitU a 7)))))))
theorem sumU_all : ∀ a : Fin 256, sumU (b8 a.val) = b8 a.val := by decide +kernel
theorem sumU_self (a : UInt8) : sumU a = a := by
  have := sumU_all ⟨a.toNat, a.toNat_lt⟩
  simp only [b8_self] at this
  exact this
theorem lin_zero {f : UInt8 → UInt8} (hf : ∀ a c, f (x8 a c) = x8 (f a) (f c)) : f 0 = 0 := by
  have h := hf 0 0
  rw [x8_z, x8_self] at h
  exact h
theorem lin_bit {f g : UInt8 → UInt8} (hf : ∀ a c, f (x8 a c) = x8 (f a) (f c)) (hg : ∀ a c, g (x8 a c) = x8 (g a) (g c)) (a : UInt8) (i : Nat) (h : f (b8 (2 ^ i)) = g (b8 (2 ^ i))) : f (bitU a i) = g (bitU a i) := by
  unfold bitU
  split
  · exact h
  · rw [lin_zero hf, lin_zero hg]
/-- Two linear functions are one if they agree on the powers of 2. -/
theorem lin_ext {f g : UInt8 → UInt8} (hf : ∀ a c, f (x8 a c) = x8 (f a) (f c)) (hg : ∀ a c, g (x8 a c) = x8 (g a) (g c)) (h : ∀ i, i < 8 → f (b8 (2 ^ i)) = g (b8 (2 ^ i))) (a : UInt8) : f a = g a := by
  have hb := fun i hi => lin_bit hf hg a i (h i hi)
  rw [← sumU_self a]
  unfold sumU
  simp only [hf, hg]
  rw [hb 0 (by omega), hb 1 (by omega), hb 2 (by omega), hb 3 (by omega), hb 4 (by omega), hb 5 (by omega), hb 6 (by omega), hb 7 (by omega)]
theorem gm_comm_bits : ∀ i j : Fin 8, gm (b8 (2 ^ i.val)) (b8 (2 ^ j.val)) = gm (b8 (2 ^ j.val)) (b8 (2 ^ i.val)) := by decide +kernel
theorem gm_comm (a b : UInt8) : gm a b = gm b a := by
  refine lin_ext (f := fun a => gm a b) (g := fun a => gm b a) (fun a c => gm_left a c b) (fun a c => gm_right b a c) (fun i hi => ?_) a
  refine lin_ext (f := fun b => gm (b8 (2 ^ i)) b) (g := fun b => gm b (b8 (2 ^ i))) (fun a c => gm_right _ a c) (fun a c => gm_left a c _) (fun j hj => ?_) b
  exact gm_comm_bits ⟨i, hi⟩ ⟨j, hj⟩
theorem gm_assoc_bits : ∀ i j k : Fin 8, gm (b8 (2 ^ i.val)) (gm (b8 (2 ^ j.val)) (b8 (2 ^ k.val))) = gm (gm (b8 (2 ^ i.val)) (b8 (2 ^ j.val))) (b8 (2 ^ k.val)) := by decide +kernel
theorem gm_assoc (a b d : UInt8) : gm a (gm b d) = gm (gm a b) d := by
  refine lin_ext (f := fun a => gm a (gm b d)) (g := fun a => gm (gm a b) d) (fun a c => gm_left a c _) (fun a c => by rw [gm_left, gm_left]) (fun i hi => ?_) a
  refine lin_ext (f := fun b => gm (b8 (2 ^ i)) (gm b d)) (g := fun b => gm (gm (b8 (2 ^ i)) b) d) (fun a c => by rw [gm_left, gm_right]) (fun a c => by rw [gm_right, gm_left]) (fun j hj => ?_) b
  refine lin_ext (f := fun d => gm (b8 (2 ^ i)) (gm (b8 (2 ^ j)) d)) (g := fun d => gm (gm (b8 (2 ^ i)) (b8 (2 ^ j))) d) (fun a c => by rw [gm_right, gm_right]) (fun a c => gm_right _ a c) (fun k hk => ?_) d
  exact gm_assoc_bits ⟨i, hi⟩ ⟨j, hj⟩ ⟨k, hk⟩
/-! ### Columns -/
theorem four_one (a c1 c2 c3 c4 : UInt8) (h : x8 (x8 (x8 c1 c2) c3) c4 = 1) : x8 (x8 (x8 (gm a c1) (gm a c2)) (gm a c3)) (gm a c4) = a := by
  rw [← gm_right, ← gm_right, ← gm_right, h, gm_one]
theorem four_zero (a c1 c2 c3 c4 : UInt8) (h : x8 (x8 (x8 c1 c2) c3) c4 = 0) : x8 (x8 (x8 (gm a c1) (gm a c2)) (gm a c3)) (gm a c4) = 0 := by
  rw [← gm_right, ← gm_right, ← gm_right, h, gm_zero]
theorem mixL_four (f0 f1 f2 f3 a b c d : UInt8) : mixL [f0, f1, f2, f3] [a, b, c, d] =
    [x8 (x8 (x8 (gm a f0) (gm b f1)) (gm c f2)) (gm d f3), x8 (x8 (x8 (gm a f3) (gm b f0)) (gm c f1)) (gm d f2),
     x8 (x8 (x8 (gm a f2) (gm b f3)) (gm c f0)) (gm d f1), x8 (x8 (x8 (gm a f1) (gm b f2)) (gm c f3)) (gm d f0)] := by
  have h : ∀ r, mixK [f0, f1, f2, f3] [a, b, c, d] r 4 = x8 (x8 (x8 (gm a ([f0, f1, f2, f3].getD ((0 + 4 - r) % 4) 0)) (gm b ([f0, f1, f2, f3].getD ((1 + 4 - r) % 4) 0))) (gm c ([f0, f1, f2, f3].getD ((2 + 4 - r) % 4) 0))) (gm d ([f0, f1, f2, f3].getD ((3 + 4 - r) % 4) 0)) := by
    intro r
    rw [mixK, mixK, mixK, mixK, mixK, x8_z]
    rfl
  unfold mixL
  rw [show List.range 4 = [0, 1, 2, 3] from rfl]
  simp only [List.map_cons, List.map_nil, h]
  rfl
instance : Std.Associative x8 := ⟨x8_assoc⟩
instance : Std.Commutative x8 := ⟨x8_comm⟩
theorem sixteen (a1 a2 a3 a4 b1 b2 b3 b4 c1 c2 c3 c4 d1 d2 d3 d4 : UInt8) :
    x8 (x8 (x8 (x8 (x8 (x8 a1 b1) c1) d1) (x8 (x8 (x8 a2 b2) c2) d2)) (x8 (x8 (x8 a3 b3) c3) d3)) (x8 (x8 (x8 a4 b4) c4) d4) =
    x8 (x8 (x8 (x8 (x8 (x8 a1 a2) a3) a4) (x8 (x8 (x8 b1 b2) b3) b4)) (x8 (x8 (x8 c1 c2) c3) c4)) (x8 (x8 (x8 d1 d2) d3) d4) := by ac_rfl
theorem gf_row_one (f g : UInt8) (x : UInt8) : gm (gm x f) g = gm x (gm f g) := (gm_assoc x f g).symm
theorem mix_back (a b c d : UInt8) : mixL [14, 11, 13, 9] (mixL [2, 3, 1, 1] [a, b, c, d]) = [a, b, c, d] := by
  rw [mixL_four, mixL_four]
  simp only [gm_left, gf_row_one]
  congr 1
  · rw [sixteen, four_one a _ _ _ _ (by decide +kernel), four_zero b _ _ _ _ (by decide +kernel), four_zero c _ _ _ _ (by decide +kernel), four_zero d _ _ _ _ (by decide +kernel)]
    simp only [x8_z']
  · congr 1
    · rw [sixteen, four_zero a _ _ _ _ (by decide +kernel), four_one b _ _ _ _ (by decide +kernel), four_zero c _ _ _ _ (by decide +kernel), four_zero d _ _ _ _ (by decide +kernel)]
      simp only [x8_z', x8_z]
    · congr 1
      · rw [sixteen, four_zero a _ _ _ _ (by decide +kernel), four_zero b _ _ _ _ (by decide +kernel), four_one c _ _ _ _ (by decide +kernel), four_zero d _ _ _ _ (by decide +kernel)]
        simp only [x8_z', x8_z]
      · congr 1
        rw [sixteen, four_zero a _ _ _ _ (by decide +kernel), four_zero b _ _ _ _ (by decide +kernel), four_zero c _ _ _ _ (by decide +kernel), four_one d _ _ _ _ (by decide +kernel)]
        simp only [x8_z', x8_z]
theorem mix_fore (a b c d : UInt8) : mixL [2, 3, 1, 1] (mixL [14, 11, 13, 9] [a, b, c, d]) = [a, b, c, d] := by
  rw [mixL_four, mixL_four]
  simp only [gm_left, gf_row_one]
  congr 1
  · rw [sixteen, four_one a _ _ _ _ (by decide +kernel), four_zero b _ _ _ _ (by decide +kernel), four_zero c _ _ _ _ (by decide +kernel), four_zero d _ _ _ _ (by decide +kernel)]
    simp only [x8_z']
  · congr 1
    · rw [sixteen, four_zero a _ _ _ _ (by decide +kernel), four_one b _ _ _ _ (by decide +kernel), four_zero c _ _ _ _ (by decide +kernel), four_zero d _ _ _ _ (by decide +kernel)]
      simp only [x8_z', x8_z]
    · congr 1
      · rw [sixteen, four_zero a _ _ _ _ (by decide +kernel), four_zero b _ _ _ _ (by decide +kernel), four_one c _ _ _ _ (by decide +kernel), four_zero d _ _ _ _ (by decide +kernel)]
        simp only [x8_z', x8_z]
      · congr 1
        rw [sixteen, four_zero a _ _ _ _ (by decide +kernel), four_zero b _ _ _ _ (by decide +kernel), four_zero c _ _ _ _ (by decide +kernel), four_one d _ _ _ _ (by decide +kernel)]
        simp only [x8_z', x8_z]
/-! ### Blocks -/
theorem sixteen_of (s : List UInt8) (h : s.length = 16) : ∃ a b c d e f g i j k l m n o p q, s = [a, b, c, d, e, f, g, i, j, k, l, m, n, o, p, q] := by
  match s, h with
  | [a, b, c, d, e, f, g, i, j, k, l, m, n, o, p, q], _ => exact ⟨a, b, c, d, e, f, g, i, j, k, l, m, n, o, p, q, rfl⟩
theorem mixL_is (f col : List UInt8) : ∃ a b c d, mixL f col = [a, b, c, d] := ⟨_, _, _, _, rfl⟩
theorem mixC_four (f : List UInt8) (a b c d e f' g i j k l m n o p q : UInt8) :
    mixC f [a, b, c, d, e, f', g, i, j, k, l, m, n, o, p, q] 4 = mixL f [a, b, c, d] ++ (mixL f [e, f', g, i] ++ (mixL f [j, k, l, m] ++ mixL f [n, o, p, q])) := by
  obtain ⟨a1, b1, c1, d1, h1⟩ := mixL_is f [a, b, c, d]
  obtain ⟨a2, b2, c2, d2, h2⟩ := mixL_is f [e, f', g, i]
  obtain ⟨a3, b3, c3, d3, h3⟩ := mixL_is f [j, k, l, m]
  obtain ⟨a4, b4, c4, d4, h4⟩ := mixL_is f [n, o, p, q]
  have e1 : mixC f [a, b, c, d, e, f', g, i, j, k, l, m, n, o, p, q] 1 = [a1, b1, c1, d1, e, f', g, i, j, k, l, m, n, o, p, q] := by
    rw [mixC, mixC, show (([a, b, c, d, e, f', g, i, j, k, l, m, n, o, p, q] : List UInt8).drop (4 * 0)).take 4 = [a, b, c, d] from rfl, h1]; rfl
  have e2 : mixC f [a, b, c, d, e, f', g, i, j, k, l, m, n, o, p, q] 2 = [a1, b1, c1, d1, a2, b2, c2, d2, j, k, l, m, n, o, p, q] := by
    rw [mixC, e1, show (([a1, b1, c1, d1, e, f', g, i, j, k, l, m, n, o, p, q] : List UInt8).drop (4 * 1)).take 4 = [e, f', g, i] from rfl, h2]; rfl
  have e3 : mixC f [a, b, c, d, e, f', g, i, j, k, l, m, n, o, p, q] 3 = [a1, b1, c1, d1, a2, b2, c2, d2, a3, b3, c3, d3, n, o, p, q] := by
    rw [mixC, e2, show (([a1, b1, c1, d1, a2, b2, c2, d2, j, k, l, m, n, o, p, q] : List UInt8).drop (4 * 2)).take 4 = [j, k, l, m] from rfl, h3]; rfl
  rw [mixC, e3, show (([a1, b1, c1, d1, a2, b2, c2, d2, a3, b3, c3, d3, n, o, p, q] : List UInt8).drop (4 * 3)).take 4 = [n, o, p, q] from rfl, h1, h2, h3, h4]
  rfl
theorem cols_back (F G : List UInt8) (h : ∀ a b c d, mixL G (mixL F [a, b, c, d]) = [a, b, c, d]) (s : List UInt8) (hs : s.length = 16) : mixC G (mixC F s 4) 4 = s := by
  obtain ⟨a, b, c, d, e, f, g, i, j, k, l, m, n, o, p, q, rfl⟩ := sixteen_of s hs
  rw [mixC_four]
  obtain ⟨a1, b1, c1, d1, h1⟩ := mixL_is F [a, b, c, d]
  obtain ⟨a2, b2, c2, d2, h2⟩ := mixL_is F [e, f, g, i]
  obtain ⟨a3, b3, c3, d3, h3⟩ := mixL_is F [j, k, l, m]
  obtain ⟨a4, b4, c4, d4, h4⟩ := mixL_is F [n, o, p, q]
  rw [h1, h2, h3, h4]
  show mixC G [a1, b1, c1, d1, a2, b2, c2, d2, a3, b3, c3, d3, a4, b4, c4, d4] 4 = _
  rw [mixC_four, ← h1, ← h2, ← h3, ← h4, h, h, h, h]
  rfl
theorem un_sub (s : List UInt8) (hs : s.length = 16) : unS (subS s) = s := by
  obtain ⟨a, b, c, d, e, f, g, i, j, k, l, m, n, o, p, q, rfl⟩ := sixteen_of s hs
  have h1 : subS [a, b, c, d, e, f, g, i, j, k, l, m, n, o, p, q] = [boxO a, boxO f, boxO l, boxO q, boxO e, boxO k, boxO p, boxO d, boxO j, boxO o, boxO c, boxO i, boxO n, boxO b, boxO g, boxO m] := rfl
  rw [h1]
  generalize hA : boxO a = A; generalize hB : boxO b = B; generalize hC : boxO c = C; generalize hD : boxO d = D
  generalize hE : boxO e = E; generalize hF : boxO f = F; generalize hG : boxO g = G; generalize hI : boxO i = I
  generalize hJ : boxO j = J; generalize hK : boxO k = K; generalize hL : boxO l = L; generalize hM : boxO m = M
  generalize hN : boxO n = N; generalize hO : boxO o = O; generalize hP : boxO p = P; generalize hQ : boxO q = Q
  have h2 : unS [A, F, L, Q, E, K, P, D, J, O, C, I, N, B, G, M] = [unO A, unO B, unO C, unO D, unO E, unO F, unO G, unO I, unO J, unO K, unO L, unO M, unO N, unO O, unO P, unO Q] := rfl
  rw [h2, ← hA, ← hB, ← hC, ← hD, ← hE, ← hF, ← hG, ← hI, ← hJ, ← hK, ← hL, ← hM, ← hN, ← hO, ← hP, ← hQ]
  simp only [un_box]
theorem sub_un (s : List UInt8) (hs : s.length = 16) : subS (unS s) = s := by
  obtain ⟨A, F, L, Q, E, K, P, D, J, O, C, I, N, B, G, M, rfl⟩ := sixteen_of s hs
  have h2 : unS [A, F, L, Q, E, K, P, D, J, O, C, I, N, B, G, M] = [unO A, unO B, unO C, unO D, unO E, unO F, unO G, unO I, unO J, unO K, unO L, unO M, unO N, unO O, unO P, unO Q] := rfl
  rw [h2]
  generalize hA : unO A = a; generalize hB : unO B = b; generalize hC : unO C = c; generalize hD : unO D = d
  generalize hE : unO E = e; generalize hF : unO F = f; generalize hG : unO G = g; generalize hI : unO I = i
  generalize hJ : unO J = j; generalize hK : unO K = k; generalize hL : unO L = l; generalize hM : unO M = m
  generalize hN : unO N = n; generalize hO : unO O = o; generalize hP : unO P = p; generalize hQ : unO Q = q
  have h1 : subS [a, b, c, d, e, f, g, i, j, k, l, m, n, o, p, q] = [boxO a, boxO f, boxO l, boxO q, boxO e, boxO k, boxO p, boxO d, boxO j, boxO o, boxO c, boxO i, boxO n, boxO b, boxO g, boxO m] := rfl
  rw [h1, ← hA, ← hB, ← hC, ← hD, ← hE, ← hF, ← hG, ← hI, ← hJ, ← hK, ← hL, ← hM, ← hN, ← hO, ← hP, ← hQ]
  simp only [box_un]
theorem unS_length (s : List UInt8) (hs : s.length = 16) : (unS s).length = 16 := usK_length s hs 16
theorem back_round (K t : List UInt8) (hK : K.length = 176) (ht : t.length = 16) (r : Nat) (hr : r ≤ 10) : backS K (roundS K t r) r = t := by
  have hk := rkey_length K hK r hr
  unfold backS roundS
  by_cases h : r < 10
  · simp only [if_pos h]
    rw [xorL_back _ _ (by rw [hk, mixC_length _ _ (subS_length t) 4 (by omega)]), cols_back _ _ mix_back _ (subS_length t), un_sub t ht]
  · simp only [if_neg h]
    rw [xorL_back _ _ (by rw [hk, subS_length]), un_sub t ht]
theorem round_back (K t : List UInt8) (hK : K.length = 176) (ht : t.length = 16) (r : Nat) (hr : r ≤ 10) : roundS K (backS K t r) r = t := by
  have hk := rkey_length K hK r hr
  have hx := xorL_len t (rkey K r) ht hk
  unfold backS roundS
  by_cases h : r < 10
  · simp only [if_pos h]
    rw [sub_un _ (mixC_length _ _ hx 4 (by omega)), cols_back _ _ mix_fore _ hx, xorL_back _ _ (by rw [hk, ht])]
  · simp only [if_neg h]
    rw [sub_un _ hx, xorL_back _ _ (by rw [hk, ht])]
theorem bck_blk (K s : List UInt8) (hK : K.length = 176) (hs : s.length = 16) : ∀ n, n ≤ 10 → bckN K (encL K s) n = blkN K s (10 - n)
  | 0, _ => rfl
  | n + 1, h => by
    rw [bckN, bck_blk K s hK hs n (by omega), show 10 - n = (10 - (n + 1)) + 1 by omega, blkN]
    exact back_round K _ hK (blkN_length K s hK hs _ (by omega)) _ (by omega)
theorem dec_enc (K s : List UInt8) (hK : K.length = 176) (hs : s.length = 16) : decL K (encL K s) = s := by
  unfold decL
  rw [bck_blk K s hK hs 10 (by omega), show 10 - 10 = 0 from rfl, blkN, xorL_back _ _ (by rw [hs, rkey_length K hK 0 (by omega)])]
theorem blk_bck (K s : List UInt8) (hK : K.length = 176) (hs : s.length = 16) : ∀ n, n ≤ 10 → blkN K (decL K s) n = bckN K s (10 - n)
  | 0, _ => by
    rw [blkN, decL, xorL_back _ _ (by rw [bckN_length K s hK hs, rkey_length K hK 0 (by omega)])]
  | n + 1, h => by
    rw [blkN, blk_bck K s hK hs n (by omega), show 10 - n = (10 - (n + 1)) + 1 by omega, bckN, show 10 - (10 - (n + 1)) = n + 1 by omega]
    exact round_back K _ hK (bckN_length K s hK hs _) _ (by omega)
theorem enc_dec (K s : List UInt8) (hK : K.length = 176) (hs : s.length = 16) : encL K (decL K s) = s := blk_bck K s hK hs 10 (by omega)
theorem encL_length (K s : List UInt8) (hK : K.length = 176) (hs : s.length = 16) : (encL K s).length = 16 := blkN_length K s hK hs 10 (by omega)
theorem decL_length (K s : List UInt8) (hK : K.length = 176) (hs : s.length = 16) : (decL K s).length = 16 := xorL_len _ _ (bckN_length K s hK hs 10) (rkey_length K hK 0 (by omega))
theorem enc_inj (K s t : List UInt8) (hK : K.length = 176) (hs : s.length = 16) (ht : t.length = 16) : encL K s = encL K t ↔ s = t :=
  ⟨fun h => by rw [← dec_enc K s hK hs, ← dec_enc K t hK ht, h], fun h => by rw [h]⟩
end Go.Proofs.YtclekllaikcglaaGreat
namespace Go.Proofs.YtclekllaikcglaaGreat
open Go Go.RowKit

/-- A word's byte m, the highest first. -/
def wb (w : UInt32) (m : Nat) : UInt8 := UInt8.ofNat (w.toNat / 2 ^ (8 * (3 - m)))
theorem wb_x (a b : UInt32) (m : Nat) : wb (x32 a b) m = x8 (wb a m) (wb b m) := xor_byte a b _
theorem wb_toNat (w : UInt32) (m : Nat) : (wb w m).toNat = w.toNat / 2 ^ (8 * (3 - m)) % 256 := by unfold wb; rw [UInt8.toNat_ofNat']
theorem rks_wb (key : List UInt8) (i m : Nat) (hi : i < 44) (hm : m < 4) : (rks key).getD (4 * i + m) 0 = wb ((ksW key).getD i 0) m := by
  simp only [List.getD]
  rw [rks_at key i m hi hm]; rfl
theorem ksW_top (key : List UInt8) (n : Nat) (h4 : 4 ≤ n) (hn : n < 44) (hm : n % 4 = 0) : (ksW key).getD n 0 = x32 ((ksW key).getD (n - 4) 0) (x32 (boxW (rotr ((ksW key).getD (n - 1) 0) (-8))) (shl24 (wsN key n).2)) := by
  rw [ksW_at key n hn, wsN_last key n (x32 ((wsN key n).1.getD (n - 4) 0) (x32 (boxW (rotr ((wsN key n).1.getD (n - 1) 0) (-8))) (shl24 (wsN key n).2))) (tw (wsN key n).2) (by rw [wsN]; simp only [if_neg (show ¬ n < 4 by omega), if_pos hm]), wsN_old key n (n - 4) (by omega) (by omega), wsN_old key n (n - 1) (by omega) (by omega)]
theorem rot_toNat (x : UInt32) : (rotr x (-8)).toNat = x.toNat % 16777216 * 256 + x.toNat / 16777216 := by
  have hx := x.toNat_lt
  have h : rotr x (-8) = UInt32.ofNat (rotrN x.toNat 24) := rfl
  rw [h, UInt32.toNat_ofNat_of_lt' (rotrN_lt _ _ hx)]
  unfold rotrN
  rw [show x.toNat * 2 ^ (32 - 24) % 4294967296 = (x.toNat % 16777216) <<< 8 by rw [Nat.shiftLeft_eq]; omega, Nat.or_comm, ← Nat.shiftLeft_add_eq_or_of_lt (show x.toNat / 2 ^ 24 < 2 ^ 8 by omega), Nat.shiftLeft_eq]
theorem byteK_wb (n : UInt32) (k : Nat) (hk : k < 4) : byteK n k = wb n k := by
  apply UInt8.toNat_inj.1
  unfold byteK
  rw [b8_mod, wb_toNat, show 24 - 8 * k = 8 * (3 - k) by omega]
theorem wb_box (n : UInt32) (k : Nat) (hk : k < 4) : wb (boxW n) k = boxO (wb n k) := by
  have h0 := (boxO (byteK n 0)).toNat_lt; have h1 := (boxO (byteK n 1)).toNat_lt; have h2 := (boxO (byteK n 2)).toNat_lt; have h3 := (boxO (byteK n 3)).toNat_lt
  rw [← byteK_wb n k hk]
  apply UInt8.toNat_inj.1
  rw [wb_toNat, boxW_toNat]
  simp only [bwN]
  rcases (by omega : k = 0 ∨ k = 1 ∨ k = 2 ∨ k = 3) with rfl | rfl | rfl | rfl <;> simp only [Nat.reduceSub, Nat.reduceMul, Nat.reducePow] <;> omega
theorem four_at (a b c d : Nat) (ha : a < 256) (hb : b < 256) (hc : c < 256) (hd : d < 256) :
    (((a * 256 + b) * 256 + c) * 256 + d) / 2 ^ 24 % 256 = a ∧ (((a * 256 + b) * 256 + c) * 256 + d) / 2 ^ 16 % 256 = b ∧ (((a * 256 + b) * 256 + c) * 256 + d) / 2 ^ 8 % 256 = c ∧ (((a * 256 + b) * 256 + c) * 256 + d) / 2 ^ 0 % 256 = d := by
  have h1 : (((a * 256 + b) * 256 + c) * 256 + d) / 2 ^ 24 = a := by omega
  have h2 : (((a * 256 + b) * 256 + c) * 256 + d) / 2 ^ 16 = a * 256 + b := by omega
  have h3 : (((a * 256 + b) * 256 + c) * 256 + d) / 2 ^ 8 = (a * 256 + b) * 256 + c := by omega
  rw [h1, h2, h3]
  refine ⟨by omega, by omega, by omega, by omega⟩
theorem wb_rot (x : UInt32) (k : Nat) (hk : k < 4) : wb (rotr x (-8)) k = wb x ((k + 1) % 4) := by
  have hx := x.toNat_lt
  apply UInt8.toNat_inj.1
  rw [wb_toNat, wb_toNat, rot_toNat]
  generalize x.toNat = n at *
  obtain ⟨a, b, c, d, hb, hc, hd, ha, rfl⟩ : ∃ a b c d : Nat, b < 256 ∧ c < 256 ∧ d < 256 ∧ a < 256 ∧ n = ((a * 256 + b) * 256 + c) * 256 + d := ⟨n / 16777216, n / 65536 % 256, n / 256 % 256, n % 256, by omega, by omega, by omega, by omega, by omega⟩
  rw [show (((a * 256 + b) * 256 + c) * 256 + d) % 16777216 * 256 + (((a * 256 + b) * 256 + c) * 256 + d) / 16777216 = ((b * 256 + c) * 256 + d) * 256 + a by omega]
  clear hx
  obtain ⟨p0, p1, p2, p3⟩ := four_at a b c d ha hb hc hd
  obtain ⟨q0, q1, q2, q3⟩ := four_at b c d a hb hc hd ha
  rcases (by omega : k = 0 ∨ k = 1 ∨ k = 2 ∨ k = 3) with rfl | rfl | rfl | rfl
  · exact q0.trans p1.symm
  · exact q1.trans p2.symm
  · exact q2.trans p3.symm
  · exact q3.trans p0.symm
theorem wb_shl (r : UInt8) (k : Nat) (hk : k < 4) : wb (shl24 r) k = if k = 0 then r else 0 := by
  have hr := r.toNat_lt
  apply UInt8.toNat_inj.1
  rw [wb_toNat, shl24_toNat]
  rcases (by omega : k = 0 ∨ k = 1 ∨ k = 2 ∨ k = 3) with rfl | rfl | rfl | rfl <;> simp <;> omega
/-- What the document's b holds ahead of word i. -/
def bI (key : List UInt8) (i : Nat) : List UInt8 :=
  if i % 4 = 0 then [x8 (boxO ((rks key).getD (4 * i - 3) 0)) (wsN key i).2, boxO ((rks key).getD (4 * i - 2) 0), boxO ((rks key).getD (4 * i - 1) 0), boxO ((rks key).getD (4 * i - 4) 0)]
  else [(rks key).getD (4 * i - 4) 0, (rks key).getD (4 * i - 3) 0, (rks key).getD (4 * i - 2) 0, (rks key).getD (4 * i - 1) 0]
theorem rks_fore (key : List UInt8) (i k : Nat) (h4 : 4 ≤ i) (hi : i < 44) (hk : k < 4) : (rks key).getD (4 * i + k) 0 = x8 ((rks key).getD (4 * i - 16 + k) 0) ((bI key i).getD k 0) := by
  rw [rks_wb key i k hi hk, show 4 * i - 16 + k = 4 * (i - 4) + k by omega, rks_wb key (i - 4) k (by omega) hk]
  have e0 : (rks key).getD (4 * i - 4) 0 = wb ((ksW key).getD (i - 1) 0) 0 := by rw [show 4 * i - 4 = 4 * (i - 1) + 0 by omega, rks_wb key (i - 1) 0 (by omega) (by omega)]
  have e1 : (rks key).getD (4 * i - 3) 0 = wb ((ksW key).getD (i - 1) 0) 1 := by rw [show 4 * i - 3 = 4 * (i - 1) + 1 by omega, rks_wb key (i - 1) 1 (by omega) (by omega)]
  have e2 : (rks key).getD (4 * i - 2) 0 = wb ((ksW key).getD (i - 1) 0) 2 := by rw [show 4 * i - 2 = 4 * (i - 1) + 2 by omega, rks_wb key (i - 1) 2 (by omega) (by omega)]
  have e3 : (rks key).getD (4 * i - 1) 0 = wb ((ksW key).getD (i - 1) 0) 3 := by rw [show 4 * i - 1 = 4 * (i - 1) + 3 by omega, rks_wb key (i - 1) 3 (by omega) (by omega)]
  unfold bI
  rw [e0, e1, e2, e3]
  by_cases hm : i % 4 = 0
  · rw [if_pos hm, ksW_top key i h4 hi hm, wb_x, wb_x, wb_box _ k hk, wb_rot _ k hk, wb_shl _ k hk]
    rcases (by omega : k = 0 ∨ k = 1 ∨ k = 2 ∨ k = 3) with rfl | rfl | rfl | rfl <;> simp [x8_zero_right]
  · rw [if_neg hm, ksW_mid key i h4 hi hm, wb_x]
    rcases (by omega : k = 0 ∨ k = 1 ∨ k = 2 ∨ k = 3) with rfl | rfl | rfl | rfl <;> simp
theorem wsN_fac (key : List UInt8) (i : Nat) (h4 : 4 ≤ i) : (wsN key (i + 1)).2 = if i % 4 = 0 then tw (wsN key i).2 else (wsN key i).2 := by
  rw [wsN]
  simp only [if_neg (show ¬ i < 4 by omega)]
  split <;> rfl
theorem wsN_four (key : List UInt8) : (wsN key 4).2 = 1 := rfl
theorem gm_two_all : ∀ b : Fin 256, gm (b8 b.val) 2 = tw (b8 b.val) := by decide +kernel
theorem gm_two (b : UInt8) : gm b 2 = tw b := by
  have := gm_two_all ⟨b.toNat, b.toNat_lt⟩
  simp only [b8_self] at this
  exact this
theorem rks_key (key : List UInt8) (h : key.length = 16) : (rks key).take 16 = key := by
  have := rks_first key h
  unfold rkey at this
  simpa using this
end Go.Proofs.YtclekllaikcglaaGreat
namespace Go.Proofs.YtclekllaikcglaaGreat
open Go Go.RowKit Go.Shelf
attribute [local go_sem] Oper.semAt_some

/-- A stream's block k. -/
def ctrB (K nonce : List UInt8) (f k : Nat) : List UInt8 := encL K (nonce ++ putB 4 (f + k))
/-- A stream's first k blocks. -/
def ctrN (K nonce : List UInt8) (f : Nat) : Nat → List UInt8
  | 0 => []
  | k + 1 => ctrN K nonce f k ++ ctrB K nonce f k
theorem ctrB_length (K nonce : List UInt8) (f k : Nat) (hK : K.length = 176) (hn : nonce.length = 12) : (ctrB K nonce f k).length = 16 :=
  encL_length K _ hK (by rw [List.length_append, putB_length]; omega)
theorem ctrN_length (K nonce : List UInt8) (f : Nat) (hK : K.length = 176) (hn : nonce.length = 12) : ∀ k, (ctrN K nonce f k).length = 16 * k
  | 0 => rfl
  | k + 1 => by rw [ctrN, List.length_append, ctrN_length K nonce f hK hn k, ctrB_length K nonce f k hK hn]; omega
/-- The number in a cell. -/
def numAt (w : World) (p : Addr) : Nat := match w.cell? p with
  | some (.int _ i) => i.toNat
  | _ => 0
theorem numAt_of {w : World} {p : Addr} {k : IntKind} {i : Int} (h : w.cell? p = some (.int k i)) : numAt w p = i.toNat := by simp [numAt, h]
/-- What the iterator asks of a round. -/
def Keeps4 (c B1 B2 B3 : Nat) (A B : World) : Prop := ∀ b, b = c ∨ b = B1 ∨ b = B2 ∨ b = B3 → B.heap[b]? = A.heap[b]?
theorem Keeps4.t {c B1 B2 B3 : Nat} {A B C : World} (h : Keeps4 c B1 B2 B3 A B) (k : Keeps4 c B1 B2 B3 B C) : Keeps4 c B1 B2 B3 A C := fun b hb => (k b hb).trans (h b hb)
theorem ext_grown {w w' : World} (h : Ext w w') : w.grownBy w' none := ⟨h.os, h.tape, h.output, h.size, fun _ hk _ => Ext.block h hk⟩

set_option maxRecDepth 100000 in
set_option maxHeartbeats 2000000 in
theorem blocks_in (n N : Nat) (hn : 1 ≤ n) (c B1 B2 B3 : Nat) (K nonce : List UInt8) (f : Nat) (hnl : nonce.length = 12) (hf : f + N ≤ 4294967296) (w : World) (hci : CI w c K)
    (T1 T2 : TypeId) (h1 : w.heap[B1]? = some (.cells #[.pointer (some ⟨c, 0, none⟩)] T1)) (h2 : w.heap[B2]? = some (.cells #[.string (bs nonce)] T2)) (h3 : w.heap[B3]? = some (.cells #[.int .u32 (f : Int)] 46))
    (d1 : c ≠ B3) (d2 : B1 ≠ B3) (d3 : B2 ≠ B3) :
    Streams Fence.wide n Tryz.prog 127 #[.pointer (some ⟨B1, 0, none⟩), .pointer (some ⟨B2, 0, none⟩), .pointer (some ⟨B3, 0, none⟩)] (fun k => .string (bs (ctrB K nonce f k))) ⟨B3, 0, none⟩ (Keeps4 c B1 B2 B3) N w := by
  have K1 := Lib.hid h1; have K2 := Lib.hid h2
  intro l J Jx W hx hJ hJw hJN hY h0
  have hlen : ∀ m, (nonce ++ putB 4 m).length = 16 := fun m => by rw [List.length_append, putB_length]; omega
  refine callsIn_of_wp Tryz.func127 rfl trivial ?_ rfl
  simp only [Tryz.ntmps127, List.size_toArray, List.length_cons, List.length_nil, Nat.reduceAdd, Nat.reduceSub, Array.replicate_succ, Array.replicate_zero, List.push_toArray, List.append_toArray, List.nil_append, List.cons_append]
  gi_wp2
  gi_loopw [5, 6] (fun _ _ wr => ∃ k : Nat, J k wr ∧ wr.heap[c]? = w.heap[c]? ∧ wr.heap[B1]? = w.heap[B1]? ∧ wr.heap[B2]? = w.heap[B2]? ∧ wr.heap[B3]? = some (.cells #[.int .u32 ((f + k : Nat) : Int)] 46)) (fun _ _ wr => f + N - numAt wr ⟨B3, 0, none⟩)
  case atStart => exact ⟨0, h0, (hx.keep hci.2).trans hci.2.symm, (hx.keep h1).trans h1.symm, (hx.keep h2).trans h2.symm, hx.keep h3⟩
  case round =>
    obtain ⟨k, hJs, e0, e1, e2, e3⟩ := hrel
    have HCI := Lib.hid (show CI wr c K from ⟨hci.1, e0.trans hci.2⟩)
    have c1 := cell_blk (i := 0) (e1.trans h1) rfl
    have c2 := cell_blk (i := 0) (e2.trans h2) rfl
    have c3 := cell_blk (i := 0) e3 rfl
    have hkN := hJN _ _ hJs
    have H3 := Lib.hid e3; have H0 := Lib.hid e0; have H1 := Lib.hid e1; have H2 := Lib.hid e2
    have HJ := Lib.hid hJs
    clear hJs e0 e1 e2 e3
    have HY := Lib.hid (hY k)
    have GP := Lib.hid (fun W => Put32_any (f + k) W (by unfold U32; omega))
    have GB := Lib.hid (fun W (h : CI W c K) => Block_yes c K (nonce ++ putB 4 (f + k)) W h (hlen _))
    have hfx : ((f + k : Nat) : Int) + 1 = ((f + (k + 1) : Nat) : Int) := by omega
    have hmu := numAt_of c3
    rw [show ctrB K nonce f k = encL K (nonce ++ putB 4 (f + k)) from rfl] at HY
    generalize encL K (nonce ++ putB 4 (f + k)) = y at *
    gi_wp2
    refine wpIn_wide.2 ?_
    go_wp2
    refine Loud.wp_region_weave 11 wr (Loud.sps [.val (.pointer (some ⟨c, 0, none⟩)), .val (.string (bs nonce)), .val (.int .u32 ((f + k : Nat) : Int)), .val (.string (bs (putB 4 (f + k)))), .val (.string (bs (nonce ++ putB 4 (f + k)))), .val (.tuple #[.string (bs y), .bool true]), .val (.tuple #[.string (bs y), .bool true]), .val (.string (bs y)), .val (.bool true), .val (.string (bs y)), .val (.bool true)]) (by kernel_rfl) (by kernel_rfl) (by show Ext _ _; repeat (first | exact Ext.refl _ | assumption | (with_reducible refine Ext.drew ?_) | (with_reducible refine Ext.drewN ?_ _) | (with_reducible refine Ext.alloc ?_ _) | (refine Ext.trans ?_ (by assumption)))) (Loud.sps_st _) ?wAx1 ?whAx1 ?whSx1 ?whFx1
    case whAx1 => intro u K hK; simp only [List.take_succ_cons, List.take_zero, Loud.puts]; go_simp; exact hK
    case whSx1 =>
      simp only [List.take_succ_cons, List.take_zero, Loud.stepsW]
      refine ⟨?wsx1_0, ?wsx1_1, ?wsx1_2, ?wsx1_3, ?wsx1_4, ?wsx1_5, ?wsx1_6, ?wsx1_7, ?wsx1_8, ?wsx1_9, ?wsx1_10, trivial⟩
      case wsx1_0 =>
        intro u β wq hq h
        repeat (obtain ⟨h1, h⟩ := h; first | (replace h1 := h1 rfl; simp only [go_sem] at h1; try (obtain ⟨h1, h1b⟩ := h1)) | (have hno := (h1 : Region.binds _ _ = true → _); clear hno h1))
        refine Or.inl ⟨rfl, fun K hK => ?_⟩
        have hqc := hq.cell_of c1
        go_simp
        exact hK _ 0 _ (Ext.refl _) rfl
      case wsx1_1 =>
        intro u β wq hq h
        repeat (obtain ⟨h1, h⟩ := h; first | (replace h1 := h1 rfl; simp only [go_sem] at h1; try (obtain ⟨h1, h1b⟩ := h1)) | (have hno := (h1 : Region.binds _ _ = true → _); clear hno h1))
        refine Or.inl ⟨rfl, fun K hK => ?_⟩
        have hqc := hq.cell_of c2
        go_simp
        exact hK _ 0 _ (Ext.refl _) rfl
      case wsx1_2 =>
        intro u β wq hq h
        repeat (obtain ⟨h1, h⟩ := h; first | (replace h1 := h1 rfl; simp only [go_sem] at h1; try (obtain ⟨h1, h1b⟩ := h1)) | (have hno := (h1 : Region.binds _ _ = true → _); clear hno h1))
        refine Or.inl ⟨rfl, fun K hK => ?_⟩
        have hqc := hq.cell_of c3
        go_simp
        exact hK _ 0 _ (Ext.refl _) rfl
      case wsx1_3 =>
        intro u β wq hq h
        repeat (obtain ⟨h1, h⟩ := h; first | (replace h1 := h1 rfl; simp only [go_sem] at h1; try (obtain ⟨h1, h1b⟩ := h1)) | (have hno := (h1 : Region.binds _ _ = true → _); clear hno h1))
        refine Or.inl ⟨rfl, fun K hK => ?_⟩
        go_simp
        refine (GP.out _).mono ?_; rintro e w1 ⟨rfl, hx1⟩; exact ⟨_, rfl, hK _ 0 _ hx1 rfl⟩
      case wsx1_4 =>
        intro u β wq hq h
        repeat (obtain ⟨h1, h⟩ := h; first | (replace h1 := h1 rfl; simp only [go_sem] at h1; try (obtain ⟨h1, h1b⟩ := h1)) | (have hno := (h1 : Region.binds _ _ = true → _); clear hno h1))
        refine Or.inl ⟨rfl, fun K hK => ?_⟩
        go_simp
        exact hK _ 0 _ (Ext.refl _) rfl
      case wsx1_5 =>
        intro u β wq hq h
        repeat (obtain ⟨h1, h⟩ := h; first | (replace h1 := h1 rfl; simp only [go_sem] at h1; try (obtain ⟨h1, h1b⟩ := h1)) | (have hno := (h1 : Region.binds _ _ = true → _); clear hno h1))
        refine Or.inl ⟨rfl, fun K hK => ?_⟩
        go_simp
        refine (GB.out _ (HCI.out.ext hq)).mono ?_; rintro e w1 ⟨rfl, hx1⟩; exact ⟨_, rfl, hK _ 0 _ hx1 rfl⟩
      case wsx1_6 =>
        intro u β wq hq h
        repeat (obtain ⟨h1, h⟩ := h; first | (replace h1 := h1 rfl; simp only [go_sem] at h1; try (obtain ⟨h1, h1b⟩ := h1)) | (have hno := (h1 : Region.binds _ _ = true → _); clear hno h1))
        refine Or.inl ⟨rfl, fun K hK => ?_⟩
        go_simp
        exact hK _ 0 _ (Ext.refl _) rfl
      case wsx1_7 =>
        intro u β wq hq h
        repeat (obtain ⟨h1, h⟩ := h; first | (replace h1 := h1 rfl; simp only [go_sem] at h1; try (obtain ⟨h1, h1b⟩ := h1)) | (have hno := (h1 : Region.binds _ _ = true → _); clear hno h1))
        refine Or.inl ⟨rfl, fun K hK => ?_⟩
        go_simp
        exact hK _ 0 _ (Ext.refl _) rfl
      case wsx1_8 =>
        intro u β wq hq h
        repeat (obtain ⟨h1, h⟩ := h; first | (replace h1 := h1 rfl; simp only [go_sem] at h1; try (obtain ⟨h1, h1b⟩ := h1)) | (have hno := (h1 : Region.binds _ _ = true → _); clear hno h1))
        refine Or.inl ⟨rfl, fun K hK => ?_⟩
        go_simp
        exact hK _ 0 _ (Ext.refl _) rfl
      case wsx1_9 =>
        intro u β wq hq h
        repeat (obtain ⟨h1, h⟩ := h; first | (replace h1 := h1 rfl; simp only [go_sem] at h1; try (obtain ⟨h1, h1b⟩ := h1)) | (have hno := (h1 : Region.binds _ _ = true → _); clear hno h1))
        refine Or.inl ⟨rfl, fun K hK => ?_⟩
        go_simp
        exact hK _ 0 _ (Ext.refl _) rfl
      case wsx1_10 =>
        intro u β wq hq h
        repeat (obtain ⟨h1, h⟩ := h; first | (replace h1 := h1 rfl; simp only [go_sem] at h1; try (obtain ⟨h1, h1b⟩ := h1)) | (have hno := (h1 : Region.binds _ _ = true → _); clear hno h1))
        refine Or.inl ⟨rfl, fun K hK => ?_⟩
        go_simp
        exact hK _ 0 _ (Ext.refl _) rfl
    intro u β w5 hq h
    have h0 := h 0 (by omega)
    have h1 := h 1 (by omega)
    have h2 := h 2 (by omega)
    have h3 := h 3 (by omega)
    have h4 := h 4 (by omega)
    have h5 := h 5 (by omega)
    have h6 := h 6 (by omega)
    have h7 := h 7 (by omega)
    have h8 := h 8 (by omega)
    have h9 := h 9 (by omega)
    have h10 := h 10 (by omega)
    clear h
    simp only [go_sem] at h0 h1 h2 h3 h4 h5 h6 h7 h8 h9 h10
    simp only [List.drop_succ_cons, List.drop_zero]
    rw [h10]
    go_wp2
    have hJ5 := hJ _ _ _ none HJ.out (ext_grown hq) (fun r h => by cases h)
    obtain ⟨fn, tmps, assign, body, hy, hR⟩ := HY.out w5 hJ5
    have HR := Lib.hid hR
    clear hR hJ5
    gi_wp2
    refine HR.out.mono ?_
    rintro e W3 (⟨rfl, hJ3, hk3⟩ | ⟨rfl, hJx3⟩)
    · have HJ3 := Lib.hid hJ3
      have hkN' := hJN _ _ hJ3
      have HE3 := Lib.hid ((hk3 B3 (by simp)).trans (hq.keep H3.out))
      have E0 := Lib.hid ((hk3 c (by simp)).trans ((hq.keep (H0.out.trans hci.2)).trans hci.2.symm))
      have E1 := Lib.hid ((hk3 B1 (by simp)).trans ((hq.keep (H1.out.trans K1.out)).trans K1.out.symm))
      have E2 := Lib.hid ((hk3 B2 (by simp)).trans ((hq.keep (H2.out.trans K2.out)).trans K2.out.symm))
      have d3' := cell_blk (i := 0) HE3.out rfl
      have f3 : W3.frozen? ⟨B3, 0, none⟩ = false := frozen_blk HE3.out
      clear hJ3
      have hwr : IntKind.u32.wrap ((f + (k + 1) : Nat) : Int) = ((f + (k + 1) : Nat) : Int) := by rw [IntKind.wrap_u32]; omega
      gi_wp2
      have g3 := heap_setCell_same (i := 0) (.int .u32 ((f + (k + 1) : Nat) : Int)) HE3.out
      have o3 := fun b (hb : b ≠ B3) => heap_setCell_other W3 ⟨B3, 0, none⟩ (.int .u32 ((f + (k + 1) : Nat) : Int)) (k := b) hb
      rw [show (f : Int) + (k : Int) + 1 = ((f + (k + 1) : Nat) : Int) by omega]
      go_roundw
      case measure =>
        rw [hmu, numAt_of (cell_blk (i := 0) g3 rfl)]
        omega
      case rel => exact ⟨k + 1, hJw _ _ _ HJ3.out, (o3 c d1).trans E0.out, (o3 B1 d2).trans E1.out, (o3 B2 d3).trans E2.out, g3⟩
    · have HJ3 := Lib.hid hJx3
      clear hJx3
      gi_wp2
      refine bodyPost_ret (results_none rfl _ _ _) rfl ?_
      exact ⟨⟨_, rfl⟩, _, HJ3.out⟩
end Go.Proofs.YtclekllaikcglaaGreat
namespace Go.Proofs.YtclekllaikcglaaGreat
open Go Go.RowKit Go.Shelf
attribute [local go_sem] Oper.semAt_some

set_option maxRecDepth 100000 in
theorem blocks_any (c f : Nat) (nonce : List UInt8) (w : World) :
    Calls Tryz.prog 112 #[.pointer (some ⟨c, 0, none⟩), .string (bs nonce), .int .u32 (f : Int)] w fun e w' => e = .returned (.func (.func 127) #[] #[.pointer (some ⟨w.heap.size, 0, none⟩), .pointer (some ⟨w.heap.size + 1, 0, none⟩), .pointer (some ⟨w.heap.size + 2, 0, none⟩)]) ∧ w' = ((w.alloc (.cells #[.pointer (some ⟨c, 0, none⟩)] 148)).alloc (.cells #[.string (bs nonce)] 9)).alloc (.cells #[.int .u32 (f : Int)] 46) := by
  go_enter Tryz.func112, Tryz.ntmps112
  go_wp2
  go_returns
  exact ⟨rfl, rfl⟩
set_option maxRecDepth 100000 in
set_option maxHeartbeats 2000000 in
theorem Stream_arg (key nonce : List UInt8) (f : Nat) (n : Int) (w : World) (hk : key.length = 16) (h : nonce.length ≠ 12 ∨ n < 0) (_hn : nonce.length ≤ 140737488351232) :
    Calls Tryz.prog 89 #[.string (bs key), .string (bs nonce), .int .u32 (f : Int), .int .i64 n] w fun e w' => e = .returned (.tuple #[.string (bs []), .int .i64 2]) ∧ Ext w w' := by
  have GN := Lib.hid (fun W => New_yes key W hk)
  by_cases hn : nonce.length = 12
  · have h0 : n < 0 := by omega
    have hn' : ((nonce.length : Int) != 12) = false := by simp; omega
    clear h hn
    go_enter Tryz.func89, Tryz.ntmps89
    go_wp2_with (go_at_call 111; refine (GN.out _).mono ?_; rintro e w1 ⟨c, rfl, hcl, hci, hx1⟩; have q := hx1.cell_of (cell_blk (i := 0) (heap_alloc_new w _) rfl); clear hci hcl)
    go_returns
    exact ⟨rfl, ((Ext.refl w).alloc _).trans hx1⟩
  · have hn' : ((nonce.length : Int) != 12) = true := by simp; omega
    clear h hn
    go_enter Tryz.func89, Tryz.ntmps89
    go_wp2_with (go_at_call 111; refine (GN.out _).mono ?_; rintro e w1 ⟨c, rfl, hcl, hci, hx1⟩; clear hci hcl)
    go_returns
    exact ⟨rfl, ((Ext.refl w).alloc _).trans hx1⟩
set_option maxRecDepth 100000 in
set_option maxHeartbeats 2000000 in
theorem Stream_key (key nonce : List UInt8) (f : Nat) (n : Int) (w : World) (hk : key.length ≠ 16) (hl : key.length ≤ 140737488351232) :
    Calls Tryz.prog 89 #[.string (bs key), .string (bs nonce), .int .u32 (f : Int), .int .i64 n] w fun e w' => e = .returned (.tuple #[.string (bs []), .int .i64 2]) ∧ Ext w w' := by
  have GN := Lib.hid (fun W => New_no key W hk hl)
  go_enter Tryz.func89, Tryz.ntmps89
  go_wp2_with (go_at_call 111; refine (GN.out _).mono ?_; rintro e w1 ⟨rfl, rfl⟩)
  go_returns
  exact ⟨rfl, (Ext.refl w).alloc _⟩
set_option maxRecDepth 100000 in
set_option maxHeartbeats 2000000 in
theorem Stream_max (key nonce : List UInt8) (f : Nat) (n : Int) (w : World) (hk : key.length = 16) (hn : nonce.length = 12) (h : 1048576 < n) :
    Calls Tryz.prog 89 #[.string (bs key), .string (bs nonce), .int .u32 (f : Int), .int .i64 n] w fun e w' => e = .returned (.tuple #[.string (bs []), .int .i64 5]) ∧ Ext w w' := by
  have GN := Lib.hid (fun W => New_yes key W hk)
  have hn' : ((nonce.length : Int) != 12) = false := by simp; omega
  have h0 : ¬ n < 0 := by omega
  clear hn
  go_enter Tryz.func89, Tryz.ntmps89
  go_wp2_with (go_at_call 111; refine (GN.out _).mono ?_; rintro e w1 ⟨c, rfl, hcl, hci, hx1⟩; have q := hx1.cell_of (cell_blk (i := 0) (heap_alloc_new w _) rfl); clear hci hcl)
  go_returns
  exact ⟨rfl, ((Ext.refl w).alloc _).trans hx1⟩
set_option maxRecDepth 100000 in
set_option maxHeartbeats 2000000 in
theorem Stream_end (key nonce : List UInt8) (f n : Nat) (w : World) (hk : key.length = 16) (hn : nonce.length = 12) (h1 : n ≤ 1048576) (h2 : f < 4294967296) (h : 4294967296 < f + (n + 15) / 16) :
    Calls Tryz.prog 89 #[.string (bs key), .string (bs nonce), .int .u32 (f : Int), .int .i64 (n : Int)] w fun e w' => e = .returned (.tuple #[.string (bs []), .int .i64 5]) ∧ Ext w w' := by
  have GN := Lib.hid (fun W => New_yes key W hk)
  have hn' : ((nonce.length : Int) != 12) = false := by simp; omega
  have h0 : ¬ (n : Int) < 0 := by omega
  have h3 : ¬ 1048576 < (n : Int) := by omega
  clear hn
  go_enter Tryz.func89, Tryz.ntmps89
  go_wp2_with (go_at_call 111; refine (GN.out _).mono ?_; rintro e w1 ⟨c, rfl, hcl, hci, hx1⟩; have q := hx1.cell_of (cell_blk (i := 0) (heap_alloc_new w _) rfl); clear hci hcl)
  go_returns
  exact ⟨rfl, ((Ext.refl w).alloc _).trans hx1⟩
set_option maxRecDepth 100000 in
set_option maxHeartbeats 2000000 in
theorem Stream_zero (key nonce : List UInt8) (f : Nat) (w : World) (hk : key.length = 16) (hn : nonce.length = 12) (h2 : f < 4294967296) :
    Calls Tryz.prog 89 #[.string (bs key), .string (bs nonce), .int .u32 (f : Int), .int .i64 0] w fun e w' => e = .returned (.tuple #[.string (bs []), .int .i64 0]) ∧ Ext w w' := by
  have GN := Lib.hid (fun W => New_yes key W hk)
  have hn' : ((nonce.length : Int) != 12) = false := by simp; omega
  have hc : ¬ (4294967296 : Int) < (f : Int) := by omega
  clear hn
  go_enter Tryz.func89, Tryz.ntmps89
  go_wp2_with (go_at_call 111; refine (GN.out _).mono ?_; rintro e w1 ⟨c, rfl, hcl, hci, hx1⟩; have q := hx1.cell_of (cell_blk (i := 0) (heap_alloc_new w _) rfl); clear hci hcl)
  go_returns
  exact ⟨rfl, ((Ext.refl w).alloc _).trans hx1⟩
theorem wpListIn_app {F : Fence} {n : Nat} {P : Program} {w : World} {ops : Array Oper} {rest : List Oper} {o : Oper} {a : Act} {Q : Exit → Act → World → Prop}
    (hg : o.guard = none) (s x : Operand) (t u : TypeId) (hop : o.op = Op.call { callee := Callee.builtin Builtin.append, args := #[s, x], argTypes := #[t, u] }) {v1 v2 v : Value} {w' : World} (hs : a.eval s = v1) (hx : a.eval x = v2)
    (hrun : (Builtin.append_ #[t, u] o.type #[v1, v2]).run P w = .ok v w') (hK : wpListIn F n P ops Q rest (a.put o.dst v) w') : wpListIn F n P ops Q (o :: rest) a w := by
  subst hs hx
  refine wpListIn_plain hg fun K hK' => ?_
  unfold Oper.wpIn
  refine ⟨by simp [Oper.about, hop, resolve, Target.leads, Sem.run_pure], ?_⟩
  rw [Oper.semAt_plain F _ _ (by rw [hop]; intro c hc'; cases hc')]
  simp [execOp, hop, resolve, invoke, builtin, hrun, Result.andThen]
  exact hK' _ _ hK
theorem padTo_long (N : Nat) (t : List UInt8) (h : t.length ≤ N) : padTo N t = t ++ List.replicate (N - t.length) 0 := by
  unfold padTo; rw [List.take_of_length_le h]
theorem run_app (g N : Nat) (t y : List UInt8) (ty : TypeId) (W : World) (hg : W.heap[g]? = some (.cells (bcells (padTo N t)) 5 (0, 0))) (h : t.length + y.length ≤ N) :
    (Builtin.append_ #[27, 9] ty #[.slice (some ⟨g, 0, none⟩) t.length N, .string (bs y)]).run Tryz.prog W = .ok (.slice (some ⟨g, 0, none⟩) (t.length + y.length) N) (W.setRow g (bcells (padTo N (t ++ y)))) := by
  obtain ⟨i0, hi, hz0, hz1, _⟩ := info_parts info_u8
  have hsz : (bs y).size = y.length := by simp [bs, ByteArray.size]
  have hc : (bcells (padTo N t)).size = N := by rw [bcells_size, padTo_length]
  have hr := Lib.run_append_room_string (P := Tryz.prog) W 27 9 ty 5 i0 und_bytes und_string hi hz1 g t.length N _ hg (bs y) (by rw [hsz]; exact h) (by rw [hsz, hc]; exact h)
  rw [hsz] at hr
  rw [hr]
  refine congrArg (fun x => Result.ok (Value.slice (some ⟨g, 0, none⟩) (t.length + y.length) N) (W.setRow g x)) ?_
  have hs : Lib.strCells (bs y) = y.map byteV := rfl
  have hb : (bcells (padTo N t)).toList = (padTo N t).map byteV := rfl
  rw [hs, hb, padTo_long N t (by omega), padTo_long N (t ++ y) (by rw [List.length_append]; exact h)]
  apply Array.ext'
  show _ = ((t ++ y ++ List.replicate (N - (t ++ y).length) 0).map byteV)
  rw [List.map_append, List.take_left' (by simp), List.map_append, List.map_append, List.length_append]
  rw [← List.drop_drop, List.drop_left' (by simp), ← List.map_drop, List.drop_replicate, Nat.sub_sub]
set_option maxRecDepth 100000 in
set_option maxHeartbeats 500000 in
theorem Stream_yes (key nonce : List UInt8) (f n : Nat) (w : World) (hk : key.length = 16) (hn : nonce.length = 12) (h0 : 0 < n) (h1 : n ≤ 1048576) (h2 : f < 4294967296) (h : f + (n + 15) / 16 ≤ 4294967296) :
    Calls Tryz.prog 89 #[.string (bs key), .string (bs nonce), .int .u32 (f : Int), .int .i64 (n : Int)] w fun e w' => e = .returned (.tuple #[.string (bs ((ctrN (rks key) nonce f ((n + 15) / 16)).take n)), .int .i64 0]) ∧ Ext w w' := by
  have GN := Lib.hid (fun W => New_yes key W hk)
  have hn' : ((nonce.length : Int) != 12) = false := by simp; omega
  obtain ⟨m, hm⟩ : ∃ m : Nat, ((n : Int) + 15) / 16 = (m : Int) := ⟨(n + 15) / 16, by omega⟩
  have hmn : (n + 15) / 16 = m := by omega
  rw [hmn] at h ⊢
  have hc : ¬ (4294967296 : Int) < (f : Int) + (m : Int) := by omega
  have hnn : ¬ (n : Int) < 0 := by omega
  have hnm : ¬ 1048576 < (n : Int) := by omega
  have hn0 : ((n : Int) == 0) = false := by simp; omega
  have hmk := fun W => mk_bytes0 (n + 16) (by omega) W
  rw [show ((n + 16 : Nat) : Int) = (n : Int) + 16 by omega] at hmk
  refine (callsIn_wide (n := 3)).1 ?_
  refine callsIn_of_wp_marks Tryz.func89 rfl trivial ?_ rfl
  simp only [Tryz.ntmps89, List.size_toArray, List.length_cons, List.length_nil, Nat.reduceAdd, Nat.reduceSub, Array.replicate_succ, Array.replicate_zero, List.push_toArray, List.append_toArray, List.nil_append, List.cons_append]
  gi_wp2_with (first
    | (refine ⟨trivial, ?_⟩; gi_at_call 111; refine (callsIn_wide.2 (GN.out _)).mono ?_; rintro e w1 ⟨c, rfl, hcl, hci, hx1⟩; have q := hx1.cell_of (cell_blk (i := 0) (heap_alloc_new w _) rfl); have HCI := Lib.hid hci; clear hci)
    | (refine ⟨trivial, ?_⟩; gi_at_call 112; refine (callsIn_wide.2 (blocks_any c f nonce _)).mono ?_; rintro e w2 ⟨rfl, rfl⟩))
  have hs1 : w.heap.size < w1.heap.size := by have := hx1.size; simp at this; omega
  obtain ⟨s, hs⟩ : ∃ s, w1.heap.size = s := ⟨_, rfl⟩
  obtain ⟨W0, hW0⟩ : ∃ W0, ((((w1.alloc (.cells (bcells (List.replicate (n + 16) 0)) 5)).alloc (.cells #[.slice (some ⟨w1.heap.size, 0, none⟩) 0 (n + 16)] 27)).alloc (.cells #[.pointer (some ⟨c, 0, none⟩)] 148)).alloc (.cells #[.string (bs nonce)] 9)).alloc (.cells #[.int .u32 (f : Int)] 46) = W0 := ⟨_, rfl⟩
  have hsz : W0.heap.size = s + 5 := by rw [← hW0, ← hs]; simp
  have kn : W0.heap[w.heap.size]? = some (.cells #[.int .i64 (n : Int)] 3) := by rw [← hW0]; exact heap_alloc_old _ _ (heap_alloc_old _ _ (heap_alloc_old _ _ (heap_alloc_old _ _ (heap_alloc_old _ _ (hx1.keep (heap_alloc_new _ _))))))
  have kg : W0.heap[s]? = some (.cells (bcells (padTo (n + 16) [])) 5) := by rw [← hW0, ← hs]; exact heap_alloc_old _ _ (heap_alloc_old _ _ (heap_alloc_old _ _ (heap_alloc_old _ _ (heap_alloc_new _ _))))
  have kp : W0.heap[s + 1]? = some (.cells #[.slice (some ⟨s, 0, none⟩) 0 (n + 16)] 27) := by
    have h := heap_alloc_new (w1.alloc (.cells (bcells (List.replicate (n + 16) 0)) 5)) (.cells #[.slice (some ⟨w1.heap.size, 0, none⟩) 0 (n + 16)] 27)
    rw [← hW0, ← hs]
    simp only [World.size_alloc] at h
    exact heap_alloc_old _ _ (heap_alloc_old _ _ (heap_alloc_old _ _ h))
  have k1 : W0.heap[s + 2]? = some (.cells #[.pointer (some ⟨c, 0, none⟩)] 148) := by
    have h := heap_alloc_new ((w1.alloc (.cells (bcells (List.replicate (n + 16) 0)) 5)).alloc (.cells #[.slice (some ⟨w1.heap.size, 0, none⟩) 0 (n + 16)] 27)) (.cells #[.pointer (some ⟨c, 0, none⟩)] 148)
    rw [← hW0, ← hs]
    simp only [World.size_alloc] at h
    exact heap_alloc_old _ _ (heap_alloc_old _ _ h)
  have k2 : W0.heap[s + 3]? = some (.cells #[.string (bs nonce)] 9) := by
    have h := heap_alloc_new (((w1.alloc (.cells (bcells (List.replicate (n + 16) 0)) 5)).alloc (.cells #[.slice (some ⟨w1.heap.size, 0, none⟩) 0 (n + 16)] 27)).alloc (.cells #[.pointer (some ⟨c, 0, none⟩)] 148)) (.cells #[.string (bs nonce)] 9)
    rw [← hW0, ← hs]
    simp only [World.size_alloc] at h
    exact heap_alloc_old _ _ h
  have k3 : W0.heap[s + 4]? = some (.cells #[.int .u32 (f : Int)] 46) := by
    have h := heap_alloc_new ((((w1.alloc (.cells (bcells (List.replicate (n + 16) 0)) 5)).alloc (.cells #[.slice (some ⟨w1.heap.size, 0, none⟩) 0 (n + 16)] 27)).alloc (.cells #[.pointer (some ⟨c, 0, none⟩)] 148)).alloc (.cells #[.string (bs nonce)] 9)) (.cells #[.int .u32 (f : Int)] 46)
    rw [← hW0, ← hs]
    simp only [World.size_alloc] at h
    exact h
  have hcs : c < s := hs ▸ blk_lt HCI.out.2
  have kx1 : Ext w1 W0 := by rw [← hW0]; exact (((((Ext.refl w1).alloc _).alloc _).alloc _).alloc _).alloc _
  have kx : Ext w W0 := (((Ext.refl w).alloc _).trans hx1).trans kx1
  have kci : CI W0 c (rks key) := HCI.out.ext kx1
  have hKl := rks_length key
  clear HCI hcl q GN hmk
  rw [hs] at hs1 ⊢
  rw [hs] at hW0
  rw [hW0]
  clear hW0 kx1
  obtain ⟨K, hKK⟩ : ∃ K, rks key = K := ⟨_, rfl⟩
  rw [hKK] at kci hKl
  have HKK := Lib.hid hKK
  clear hKK
  have own : ∀ (A B : World) (row : Option Nat) (b : Nat) (o : Obj), A.heap[b]? = some o → b < W0.heap.size → A.grownBy B row → (∀ r, row = some r → W0.heap.size ≤ r) → B.heap[b]? = some o := fun A B row b o h hb hg hr =>
    (hg.block b (blk_lt h) (fun e => by have := hr b e.symm; omega)).trans h
  refine wpIn_streams (a₁ := ?a1) rfl (by omega) (gf := 127) (lb := #[.pointer (some ⟨s + 2, 0, none⟩), .pointer (some ⟨s + 3, 0, none⟩), .pointer (some ⟨s + 4, 0, none⟩)]) rfl trivial (enters_of Tryz.func127 (by kernel_rfl) rfl)
    (blocks_in _ m (by omega) c (s + 2) (s + 3) (s + 4) K nonce f hn h W0 kci _ _ k1 k2 k3 (by omega) (by omega) (by omega)) (by show s + 4 < W0.heap.size; omega) Keeps4.t ?kb 1
    (fun k W => k < m ∧ W.heap[w.heap.size]? = some (.cells #[.int .i64 (n : Int)] 3) ∧ W.heap[s + 1]? = some (.cells #[.slice (some ⟨s, 0, none⟩) (ctrN K nonce f k).length (n + 16)] 27) ∧ W.heap[s]? = some (.cells (bcells (padTo (n + 16) (ctrN K nonce f k))) 5) ∧ Below w.heap.size w W)
    (fun _ W => W.heap[w.heap.size]? = some (.cells #[.int .i64 (n : Int)] 3) ∧ W.heap[s + 1]? = some (.cells #[.slice (some ⟨s, 0, none⟩) (ctrN K nonce f m).length (n + 16)] 27) ∧ W.heap[s]? = some (.cells (bcells (padTo (n + 16) (ctrN K nonce f m))) 5) ∧ Below w.heap.size w W)
    ?hI ?hIx ?hIw (fun k A h => h.1) ⟨by omega, kn, kp, kg, kx⟩ ?assign ?body ?stop
  case kb => exact fun A l o hl b hb => World.putObj_heap_other (by omega)
  case hI =>
    rintro k A B row ⟨h0, h1, h2, h3, h4⟩ hg hr
    exact ⟨h0, own A B row _ _ h1 (by omega) hg (fun r e => (hr r e).1), own A B row _ _ h2 (by omega) hg (fun r e => (hr r e).1), own A B row _ _ h3 (by omega) hg (fun r e => (hr r e).1), h4.grown hg (Nat.le_of_lt (blk_lt h1)) (fun r e => by have := (hr r e).1; omega)⟩
  case hIx =>
    rintro k A B row ⟨h1, h2, h3, h4⟩ hg hr
    exact ⟨own A B row _ _ h1 (by omega) hg (fun r e => (hr r e).1), own A B row _ _ h2 (by omega) hg (fun r e => (hr r e).1), own A B row _ _ h3 (by omega) hg (fun r e => (hr r e).1), h4.grown hg (Nat.le_of_lt (blk_lt h1)) (fun r e => by have := (hr r e).1; omega)⟩
  case hIw =>
    rintro k A v ⟨h0, h1, h2, h3, h4⟩
    exact ⟨h0, (heap_setCell_other _ _ _ (by show w.heap.size ≠ s + 4; omega)).trans h1, (heap_setCell_other _ _ _ (by show s + 1 ≠ s + 4; omega)).trans h2, (heap_setCell_other _ _ _ (by show s ≠ s + 4; omega)).trans h3, Below.setCell h4 (by show w.heap.size ≤ s + 4; omega) v⟩
  case assign =>
    intro l k W Q hQ
    gi_wp2
    exact hQ
  case body =>
    rintro l k W ⟨hkm, h1, h2, h3, h4⟩
    have hcl := ctrN_length K nonce f hKl hn k
    have hbl := ctrB_length K nonce f k hKl hn
    have HS : Hid (ctrN K nonce f (k + 1) = ctrN K nonce f k ++ ctrB K nonce f k) := Lib.hid rfl
    generalize ctrN K nonce f k = t at *
    generalize ctrB K nonce f k = y at *
    have hra := fun ty => run_app s (n + 16) t y ty W h3 (by omega)
    have q0 : W.cell? ⟨w.heap.size, 0, none⟩ = some (.int .i64 (n : Int)) := cell_blk h1 rfl
    have q1 : W.cell? ⟨s + 1, 0, none⟩ = some (.slice (some ⟨s, 0, none⟩) t.length (n + 16)) := cell_blk h2 rfl
    obtain ⟨W2, hW2⟩ : ∃ W2, W.setRow s (bcells (padTo (n + 16) (t ++ y))) = W2 := ⟨_, rfl⟩
    rw [hW2] at hra
    have e1 : W2.heap[w.heap.size]? = some (.cells #[.int .i64 (n : Int)] 3) := by rw [← hW2]; exact (setRow_other _ _ _ _ (by omega)).trans h1
    have e2 : W2.heap[s + 1]? = some (.cells #[.slice (some ⟨s, 0, none⟩) t.length (n + 16)] 27) := by rw [← hW2]; exact (setRow_other _ _ _ _ (by omega)).trans h2
    have e3 : W2.heap[s]? = some (.cells (bcells (padTo (n + 16) (t ++ y))) 5) := by rw [← hW2]; exact setRow_get h3
    have e4 : Below w.heap.size w W2 := by rw [← hW2]; exact below_setRow h4 (by omega) _
    have e5 : KeepsOthers W W2 := by
      rw [← hW2]
      refine ⟨by simp [World.setRow], fun k o hk ho => ?_⟩
      refine (setRow_other _ _ _ _ ?_).trans hk
      rintro rfl
      rw [h3] at hk; cases hk; cases ho
    have e6 : Keeps4 c (s + 2) (s + 3) (s + 4) W W2 := fun b hb => by rw [← hW2]; exact setRow_other _ _ _ _ (by omega)
    have p1 : W2.cell? ⟨w.heap.size, 0, none⟩ = some (.int .i64 (n : Int)) := cell_blk e1 rfl
    have p2 : W2.cell? ⟨s + 1, 0, none⟩ = some (.slice (some ⟨s, 0, none⟩) t.length (n + 16)) := cell_blk e2 rfl
    have p3 : W2.frozen? ⟨s + 1, 0, none⟩ = false := frozen_blk e2
    have E1 := Lib.hid (fun v => (heap_setCell_other W2 ⟨s + 1, 0, none⟩ v (k := w.heap.size) (by show w.heap.size ≠ s + 1; omega)).trans e1)
    have E2 := Lib.hid (fun v => heap_setCell_same (i := 0) v e2)
    have E3 := Lib.hid (fun v => (heap_setCell_other W2 ⟨s + 1, 0, none⟩ v (k := s) (by show s ≠ s + 1; omega)).trans e3)
    have E4 := Lib.hid (fun v => e4.setCell (p := ⟨s + 1, 0, none⟩) (by show w.heap.size ≤ s + 1; omega) v)
    have E5 := Lib.hid (fun v => e5.trans (KeepsOthers.setCell W2 ⟨s + 1, 0, none⟩ v))
    have E6 := Lib.hid (fun v => e6.t (C := W2.setCell ⟨s + 1, 0, none⟩ v) fun b hb => heap_setCell_other _ _ _ (by show b ≠ s + 1; omega))
    have hne : w.heap.size ≠ s + 1 := by omega
    have HA := Lib.hid hra
    have hm16 : n ≤ 16 * m := by omega
    have hm15 : 16 * m ≤ n + 15 := by omega
    clear hra h1 h2 h3 h4 hW2 e1 e2 e3 e4 e5 e6 own kci kx k1 k2 k3 kn kg kp hx1
    have hlen : (t ++ y).length = t.length + y.length := List.length_append
    by_cases hbr : n ≤ 16 * (k + 1)
    · have hbi : (n : Int) ≤ (t.length : Int) + (y.length : Int) := by omega
      obtain rfl : m = k + 1 := by omega
      clear hcl hbl
      gi_wp2_with (gi_at_builtin; refine wpListIn_app (v := .slice (some ⟨s, 0, none⟩) (t.length + y.length) (n + 16)) (w' := W2) (v1 := .slice (some ⟨s, 0, none⟩) t.length (n + 16)) (v2 := .string (bs y)) rfl (Operand.tmp 49) (Operand.tmp 50) 27 9 rfl rfl rfl (HA.out _) ?_)
      refine ⟨E5.out _, rfl, E1.out _, ?_, ?_, E4.out _⟩
      · rw [HS.out, hlen]; exact E2.out _
      · rw [HS.out]; exact E3.out _
    · have hbi : (t.length : Int) + (y.length : Int) < (n : Int) := by omega
      have hkm' : k + 1 < m := by omega
      have hbd : decide ((n : Int) ≤ (t.length : Int) + (y.length : Int)) = false := by simp; omega
      clear hcl hbl
      gi_wp2_with (gi_at_builtin; refine wpListIn_app (v := .slice (some ⟨s, 0, none⟩) (t.length + y.length) (n + 16)) (w' := W2) (v1 := .slice (some ⟨s, 0, none⟩) t.length (n + 16)) (v2 := .string (bs y)) rfl (Operand.tmp 49) (Operand.tmp 50) 27 9 rfl rfl rfl (HA.out _) ?_)
      refine ⟨E5.out _, E6.out _, hkm', E1.out _, ?_, ?_, E4.out _⟩
      · rw [HS.out, hlen]; exact E2.out _
      · rw [HS.out]; exact E3.out _
  case stop =>
    rintro D k W hD ⟨h1, h2, h3, h4⟩ hK
    have hcl := ctrN_length K nonce f hKl hn m
    obtain ⟨t, ht⟩ : ∃ t, ctrN K nonce f m = t := ⟨_, rfl⟩
    rw [ht] at h2 h3 hcl
    have HT := Lib.hid ht
    clear ht
    have hsp : padTo (n + 16) t = t.take n ++ (t.drop n ++ List.replicate (n + 16 - t.length) 0) := by
      rw [padTo_long _ _ (by omega), ← List.append_assoc, List.take_append_drop]
    rw [hsp] at h3
    have htn : (t.take n).length = n := by rw [List.length_take]; omega
    have hcv := fun cap => to_str_blk (c := cap) (n := n) h3 htn
    have q0 : W.cell? ⟨w.heap.size, 0, none⟩ = some (.int .i64 (n : Int)) := cell_blk h1 rfl
    have q1 : W.cell? ⟨s + 1, 0, none⟩ = some (.slice (some ⟨s, 0, none⟩) t.length (n + 16)) := cell_blk h2 rfl
    have HK := Lib.hid hK
    have H4 := Lib.hid h4
    have hlt := blk_lt hK
    have hnt : (n : Int) ≤ (t.length : Int) := by omega
    clear hcl hK h4 h1 h2 h3 hsp htn own kci kx k1 k2 k3 kn kg kp hx1
    gi_wp2
    refine ⟨by simp, .inl ⟨_, _, rfl, run_takeDeferred HK.out, ?_⟩⟩
    refine ⟨.tuple #[.string (bs (t.take n)), .int .i64 0], ?_, by rw [HKK.out, HT.out], ?_⟩
    · exact results_tmp2 (fn := Tryz.f89) rfl _ _ _
    · exact H4.out.trans (belowK_b (w := w) (Nat.le_refl _) _ D _ _ (by omega) HK.out rfl rfl)
end Go.Proofs.YtclekllaikcglaaGreat
