/- Plain facts of layer 6: all shares are the secret, in whatever order. -/
import Derived.Test.YtgjaefolmnelcaaLaw06c
namespace Go.Proofs.Ytgjaefolmnelcaa
open Go Go.RowKit

def parts (m : Nat) (U : List (List UInt8)) : GS := U.zipIdx.map fun p => (p.2 + 1, m, p.1)
theorem parts_length (m : Nat) (U : List (List UInt8)) : (parts m U).length = U.length := by simp [parts]
theorem parts_at (m : Nat) (U : List (List UInt8)) (i : Nat) (hi : i < U.length) : (parts m U)[i]'(by rw [parts_length]; exact hi) = (i + 1, m, U[i]) := by simp [parts]
/-- The shares handed in ahead of the i-th, but for the k-th. -/
def got (m : Nat) (U : List (List UInt8)) (k i : Nat) : GS := ((parts m U).take i).eraseIdx k
theorem got_zero (m : Nat) (U : List (List UInt8)) (k : Nat) : got m U k 0 = [] := by simp [got]
theorem got_mem {m : Nat} {U : List (List UInt8)} {k i : Nat} {x : Nat × Nat × List UInt8} (h : x ∈ got m U k i) : ∃ j, ∃ hj : j < U.length, j < i ∧ j ≠ k ∧ x = (j + 1, m, U[j]) := by
  obtain ⟨j, hj, hne, he⟩ := List.mem_eraseIdx_iff_getElem.1 h
  have hj' : j < i ∧ j < U.length := by rw [List.length_take, parts_length] at hj; omega
  refine ⟨j, hj'.2, hj'.1, hne, ?_⟩
  rw [← he, List.getElem_take, parts_at m U j hj'.2]
theorem got_same (m : Nat) (U : List (List UInt8)) (k : Nat) : got m U k (k + 1) = got m U k k := by
  unfold got
  rw [List.eraseIdx_of_length_le (k := k) (l := (parts m U).take k) (by rw [List.length_take]; omega)]
  by_cases hk : k < (parts m U).length
  · rw [List.take_succ_eq_append_getElem hk, List.eraseIdx_append_of_length_le (by rw [List.length_take]; omega)]
    rw [List.length_take, Nat.min_eq_left (by omega)]
    simp
  · rw [List.take_of_length_le (by omega), List.take_of_length_le (by omega), List.eraseIdx_of_length_le (by omega)]
theorem got_next (m : Nat) (U : List (List UInt8)) (k i : Nat) (hi : i < U.length) (hne : i ≠ k) : got m U k (i + 1) = got m U k i ++ [(i + 1, m, U[i])] := by
  unfold got
  have hip : i < (parts m U).length := by rw [parts_length]; exact hi
  rw [List.take_succ_eq_append_getElem hip, parts_at m U i hi]
  by_cases h : k < i
  · rw [List.eraseIdx_append_of_lt_length (by rw [List.length_take]; omega)]
  · rw [List.eraseIdx_of_length_le (by simp [List.length_take]; omega), List.eraseIdx_of_length_le (by rw [List.length_take]; omega)]
theorem got_length (m : Nat) (U : List (List UInt8)) (k : Nat) (hk : k < U.length) : (got m U k U.length).length + 1 = U.length := by
  unfold got
  rw [List.length_eraseIdx_of_lt (by rw [List.length_take, parts_length]; omega), List.length_take, parts_length]; omega
theorem got_len_le (m : Nat) (U : List (List UInt8)) (k i : Nat) : (got m U k i).length ≤ U.length := by
  unfold got
  refine Nat.le_trans (List.length_eraseIdx_le _ _) ?_
  rw [List.length_take, parts_length]; omega
theorem got_texts (m : Nat) (U : List (List UInt8)) (k : Nat) : (got m U k U.length).map (·.2.2) = U.eraseIdx k := by
  unfold got
  rw [List.take_of_length_le (by rw [parts_length]; omega)]
  have e : (parts m U).map (·.2.2) = U := by
    simp only [parts, List.map_map]
    exact List.zipIdx_map_fst 0 U
  rw [List.eraseIdx_eq_take_drop_succ, List.eraseIdx_eq_take_drop_succ, List.map_append, List.map_take, List.map_drop, e]
theorem add_new {gs : GS} {s t : List UInt8} {i m q : Nat} (hr : readS s = some (i, m, t)) (ht : t.length = q) (h : ∀ x ∈ gs, x.2.1 = m ∧ x.2.2.length = q ∧ x.1 ≠ i) : addS gs s = (0, gs ++ [(i, m, t)]) := by
  unfold addS
  rw [hr]
  have h1 : gs.any (fun x => x.2.1 != m || x.2.2.length != t.length) = false := by
    rw [List.any_eq_false]; intro x hx; obtain ⟨a, b, _⟩ := h x hx; simp [a, b, ht]
  have h2 : gs.any (fun x => x.1 == i) = false := by
    rw [List.any_eq_false]; intro x hx; obtain ⟨_, _, c⟩ := h x hx; simp [c]
  simp only [h1, h2]; rfl
theorem add_had {gs : GS} {s t : List UInt8} {i m q : Nat} (hr : readS s = some (i, m, t)) (ht : t.length = q) (h : ∀ x ∈ gs, x.2.1 = m ∧ x.2.2.length = q) (hi : ∃ x ∈ gs, x.1 = i) : addS gs s = (8, gs) := by
  unfold addS
  rw [hr]
  have h1 : gs.any (fun x => x.2.1 != m || x.2.2.length != t.length) = false := by
    rw [List.any_eq_false]; intro x hx; obtain ⟨a, b⟩ := h x hx; simp [a, b, ht]
  have h2 : gs.any (fun x => x.1 == i) = true := by
    rw [List.any_eq_true]; obtain ⟨x, hx, he⟩ := hi; exact ⟨x, hx, by simp [he]⟩
  simp only [h1, h2]; rfl
theorem secretS_full {n q : Nat} : ∀ (l : GS), (∀ x ∈ l, x.2.1 = n ∧ x.2.2.length = q) → l ≠ [] → n ≤ l.length → secretS l = some (lastS (List.replicate q 0) (l.map (·.2.2)))
  | [], _, h, _ => absurd rfl h
  | x :: m, h, _, hn => by
    obtain ⟨h1, h2⟩ := h x (by simp)
    simp only [secretS]
    rw [if_neg (by omega)]
    show some _ = some (lastS (xorL (List.replicate q 0) x.2.2) _)
    rw [zeros_xorL _ _ h2]
theorem secretS_less {n : Nat} : ∀ (l : GS), (∀ x ∈ l, x.2.1 = n) → l.length < n → secretS l = none
  | [], _, _ => rfl
  | x :: m, h, hn => by
    have h1 := h x (by simp)
    simp only [secretS]
    rw [if_pos (by omega)]
theorem lastS_xor (a : List UInt8) : ∀ (T : List (List UInt8)) (b : List UInt8), lastS (xorL a b) T = xorL a (lastS b T)
  | [], b => rfl
  | s :: T, b => by
    have ih := lastS_xor a T (xorL b s)
    show lastS (xorL (xorL a b) s) T = _
    rw [xorL_assoc, ih]; rfl
theorem lastS_len (q : Nat) (T : List (List UInt8)) (b : List UInt8) (hb : b.length = q) (h : ∀ x ∈ T, x.length = q) : (lastS b T).length = q := by
  rw [lastS_length b T (fun x hx => by rw [hb]; exact h x hx), hb]
theorem all_secret (q : Nat) (secret : List UInt8) (T : List (List UInt8)) (hs : secret.length = q) (h : ∀ x ∈ T, x.length = q) : lastS (List.replicate q 0) (T ++ [lastS secret T]) = secret := by
  have hz : (List.replicate q (0 : UInt8)).length = q := by simp
  have e : lastS secret T = xorL secret (lastS (List.replicate q 0) T) := by
    have := lastS_xor secret T (List.replicate q 0)
    rwa [xorL_comm secret, zeros_xorL q secret hs] at this
  rw [lastS_snoc, e, xorL_comm]
  exact xorL_back _ _ (by rw [hs, lastS_len q T _ hz h])
theorem erase_xor (q : Nat) (U : List (List UInt8)) (k : Nat) (hk : k < U.length) : xorL (lastS (List.replicate q 0) (U.eraseIdx k)) U[k] = lastS (List.replicate q 0) U := by
  rw [← lastS_snoc]
  refine lastS_perm (List.Perm.trans List.perm_append_comm ?_) _
  rw [List.eraseIdx_eq_take_drop_succ]
  refine List.Perm.trans (List.perm_middle (l₁ := List.take k U) (l₂ := List.drop (k + 1) U)).symm ?_
  rw [← List.drop_eq_getElem_cons hk, List.take_append_drop]
end Go.Proofs.Ytgjaefolmnelcaa
