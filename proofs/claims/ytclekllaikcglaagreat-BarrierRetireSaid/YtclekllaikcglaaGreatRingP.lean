/- Plain laws on rings' keys. -/
import Derived.Test.YtclekllaikcglaaGreatOpenE
import Derived.Test.YtclekllaikcglaaGreatLaw14a
namespace Go.Proofs.YtclekllaikcglaaGreat
open Go Go.RowKit

/-- Epochs rise. -/
def AscE (E : Eps) : Prop := E.Pairwise (fun p q => p.1 < q.1)
theorem AscE.gone {E : Eps} (h : AscE E) (e : Nat) : AscE (goneE E e) := List.Pairwise.sublist List.eraseP_sublist h
theorem AscE.snoc {E : Eps} {n : Nat} {key : List UInt8} (h : AscE E) (hl : ∀ p ∈ E, p.1 < n) : AscE (E ++ [(n, key)]) := by
  unfold AscE
  rw [List.pairwise_append]
  exact ⟨h, by simp, fun a ha b hb => by simp at hb; subst hb; exact hl a ha⟩
theorem asc_epsN (keys : List (List UInt8)) : ∀ k, AscE (epsN keys k)
  | 0 => by simp [epsN, AscE]
  | k + 1 => (asc_epsN keys k).snoc fun p hp => by have := epsN_le keys k p hp; omega
theorem lookE_cons (p : Nat × List UInt8) (E : Eps) (e : Nat) : lookE (p :: E) e = if p.1 = e then some p.2 else lookE E e := by
  unfold lookE
  by_cases h : p.1 = e
  · rw [List.find?_cons_of_pos (by simpa using h), if_pos h]; rfl
  · rw [List.find?_cons_of_neg (by simpa using h), if_neg h]
theorem lookE_left {E F : Eps} {e : Nat} {x : List UInt8} (h : lookE E e = some x) : lookE (E ++ F) e = some x := by
  induction E with
  | nil => cases h
  | cons p E ih =>
    rw [List.cons_append, lookE_cons]
    rw [lookE_cons] at h
    split at h
    · rw [if_pos (by assumption)]; exact h
    · rw [if_neg (by assumption)]; exact ih h
theorem lookE_right {E F : Eps} {e : Nat} (h : lookE E e = none) : lookE (E ++ F) e = lookE F e := by
  induction E with
  | nil => rfl
  | cons p E ih =>
    rw [List.cons_append, lookE_cons]
    rw [lookE_cons] at h
    split at h
    · cases h
    · rw [if_neg (by assumption)]; exact ih h
theorem lookE_gone_ne (E : Eps) (e e' : Nat) (h : e' ≠ e) : lookE (goneE E e) e' = lookE E e' := by
  induction E with
  | nil => rfl
  | cons p E ih =>
    unfold goneE at ih ⊢
    by_cases hp : p.1 = e
    · rw [List.eraseP_cons_of_pos (by simpa using hp), lookE_cons, if_neg (by omega)]
    · rw [List.eraseP_cons_of_neg (by simpa using hp), lookE_cons, lookE_cons, ih]
theorem lookE_not {E : Eps} {e : Nat} (h : ∀ p ∈ E, p.1 ≠ e) : lookE E e = none := by
  induction E with
  | nil => rfl
  | cons p E ih =>
    rw [lookE_cons, if_neg (h p (by simp))]
    exact ih fun q hq => h q (by simp [hq])
theorem lookE_gone_self {E : Eps} (h : AscE E) (e : Nat) : lookE (goneE E e) e = none := by
  induction E with
  | nil => rfl
  | cons p E ih =>
    unfold AscE at h
    rw [List.pairwise_cons] at h
    unfold goneE at ih ⊢
    by_cases hp : p.1 = e
    · rw [List.eraseP_cons_of_pos (by simpa using hp)]
      exact lookE_not fun q hq => by have := h.1 q hq; omega
    · rw [List.eraseP_cons_of_neg (by simpa using hp), lookE_cons, if_neg hp]
      exact ih h.2
theorem gone_key {E : Eps} (h : ∀ p ∈ E, p.2.length = 32) (e : Nat) : ∀ p ∈ goneE E e, p.2.length = 32 := fun p hp => h p (List.mem_of_mem_eraseP hp)
theorem epsN_app (keys more : List (List UInt8)) : ∀ k, k ≤ keys.length → epsN (keys ++ more) k = epsN keys k
  | 0, _ => rfl
  | k + 1, h => by
    rw [epsN, epsN, epsN_app keys more k (by omega)]
    congr 4
    simp [List.getD, List.getElem?_append_left (show k < keys.length by omega)]
theorem epsN_keep {keys : List (List UInt8)} {e : Nat} {x : List UInt8} : ∀ (k i : Nat), lookE (epsN keys k) e = some x → lookE (epsN keys (k + i)) e = some x
  | _, 0, h => h
  | k, i + 1, h => lookE_left (epsN_keep k i h)
end Go.Proofs.YtclekllaikcglaaGreat
