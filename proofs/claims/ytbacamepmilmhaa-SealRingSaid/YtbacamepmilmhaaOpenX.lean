/- Contracts: layer 14: Open, whatever the bytes. -/
import Derived.Test.YtbacamepmilmhaaOpen
import Derived.Test.YtbacamepmilmhaaSeal
namespace Go.Proofs.Ytbacamepmilmhaa
open Go Go.RowKit

/-- What bytes open as, by the keys of a ring. -/
def openAny (E : Eps) (path : List UInt8) (ver : Nat) (s : List UInt8) : List UInt8 × Int :=
  if (epR s).2 = 7 then ([], 7) else match lookE E (epR s).1 with
    | none => ([], 140)
    | some key => openR key path ver s
theorem look_key {E : Eps} {ep : Nat} {key : List UInt8} (h : ∀ p ∈ E, p.2.length = 32) (hk : lookE E ep = some key) : key.length = 32 := by
  unfold lookE at hk
  obtain ⟨p, hp, rfl⟩ := Option.map_eq_some_iff.1 hk
  exact h p (List.mem_of_find?_eq_some hp)
theorem Open_any (r m : Nat) (E : Eps) (n : Nat) (path s : List UInt8) (ver : Nat) (w : World) (h : RingAt w r m E n) (hn : 0 < n) (hl : s.length ≤ 1099511627776) (hkl : ∀ p ∈ E, p.2.length = 32) (hv : U64 ver) (hp : path.length ≤ 1048576) :
    Calls Try.prog 22 #[.pointer (some ⟨r, 0, none⟩), .string (bs path), .int .u64 (ver : Int), .string (bs s)] w fun e w' => e = .returned (.tuple #[.string (bs (openAny E path ver s).1), .int .i64 (openAny E path ver s).2]) ∧ Ext w w' := by
  rcases epR_cases s with he | ⟨ep, he⟩
  · rw [show openAny E path ver s = ([], 7) by unfold openAny; rw [he]; rfl]
    exact Open_form r path s ver w hl he
  · cases hk : lookE E ep with
    | none =>
      rw [show openAny E path ver s = ([], 140) by unfold openAny; rw [he]; simp only [hk]; rfl]
      exact Open_none r m E n ep path s ver w h hn hl he hk hp
    | some key =>
      rw [show openAny E path ver s = openR key path ver s by unfold openAny; rw [he]; simp only [hk]; rfl]
      exact Open_core r m E n ep key path s ver w h hn he hk (by have := look_key hkl hk; omega) hv hp
theorem refOpen_any (B d : Nat) (E : Eps) (path s : List UInt8) (ver : Nat) (w : World) (h : DocAt w B d E) (hE : E ≠ []) (hel : E.length ≤ 1000) (hl : s.length ≤ 1099511627776) (hkl : ∀ p ∈ E, p.2.length = 32) (hv : U64 ver) (hp : path.length ≤ 1048576) :
    Calls Try.prog 23 #[.pointer (some ⟨d, 0, none⟩), .string (bs path), .int .u64 (ver : Int), .string (bs s)] w fun e w' => e = .returned (.tuple #[.string (bs (openAny E path ver s).1), .int .i64 (openAny E path ver s).2]) ∧ Ext w w' := by
  rcases epR_cases s with he | ⟨ep, he⟩
  · rw [show openAny E path ver s = ([], 7) by unfold openAny; rw [he]; rfl]
    exact refOpen_form d path s ver w hl he
  · cases hk : lookE E ep with
    | none =>
      rw [show openAny E path ver s = ([], 140) by unfold openAny; rw [he]; simp only [hk]; rfl]
      exact refOpen_none B d E ep path s ver w h hE hel hl he hk hp
    | some key =>
      rw [show openAny E path ver s = openR key path ver s by unfold openAny; rw [he]; simp only [hk]; rfl]
      exact refOpen_core B d E ep key path s ver w h hel he hk (by have := look_key hkl hk; omega) hv hp
end Go.Proofs.Ytbacamepmilmhaa
namespace Go.Proofs.Ytbacamepmilmhaa
open Go Go.RowKit

/-- Epochs rise. -/
def AscE (E : Eps) : Prop := E.Pairwise (fun p q => p.1 < q.1)
theorem AscE.gone {E : Eps} (h : AscE E) (e : Nat) : AscE (goneE E e) := List.Pairwise.sublist List.eraseP_sublist h
theorem AscE.snoc {E : Eps} {n : Nat} {key : List UInt8} (h : AscE E) (hl : ∀ p ∈ E, p.1 < n) : AscE (E ++ [(n, key)]) := by
  unfold AscE
  rw [List.pairwise_append]
  exact ⟨h, by simp, fun a ha b hb => by simp at hb; subst hb; exact hl a ha⟩
theorem asc_epsN (keys : List (List UInt8)) : ∀ k, AscE (epsN keys k)
  | 0 => by simp [epsN, AscE]
  | k + 1 => (asc_epsN keys k).snoc fun p hp => by have := epsN_le keys k p hp; omega
theorem lookE_cons (p : Nat × List UInt8) (E : Eps) (e : Nat) : lookE (p :: E) e = if p.1 = e then some p.2 else lookE E e := by
  unfold lookE
  by_cases h : p.1 = e
  · rw [List.find?_cons_of_pos (by simpa using h), if_pos h]; rfl
  · rw [List.find?_cons_of_neg (by simpa using h), if_neg h]
theorem lookE_left {E F : Eps} {e : Nat} {x : List UInt8} (h : lookE E e = some x) : lookE (E ++ F) e = some x := by
  induction E with
  | nil => cases h
  | cons p E ih =>
    rw [List.cons_append, lookE_cons]
    rw [lookE_cons] at h
    split at h
    · rw [if_pos (by assumption)]; exact h
    · rw [if_neg (by assumption)]; exact ih h
theorem lookE_right {E F : Eps} {e : Nat} (h : lookE E e = none) : lookE (E ++ F) e = lookE F e := by
  induction E with
  | nil => rfl
  | cons p E ih =>
    rw [List.cons_append, lookE_cons]
    rw [lookE_cons] at h
    split at h
    · cases h
    · rw [if_neg (by assumption)]; exact ih h
theorem lookE_gone_ne (E : Eps) (e e' : Nat) (h : e' ≠ e) : lookE (goneE E e) e' = lookE E e' := by
  induction E with
  | nil => rfl
  | cons p E ih =>
    unfold goneE at ih ⊢
    by_cases hp : p.1 = e
    · rw [List.eraseP_cons_of_pos (by simpa using hp), lookE_cons, if_neg (by omega)]
    · rw [List.eraseP_cons_of_neg (by simpa using hp), lookE_cons, lookE_cons, ih]
theorem lookE_not {E : Eps} {e : Nat} (h : ∀ p ∈ E, p.1 ≠ e) : lookE E e = none := by
  induction E with
  | nil => rfl
  | cons p E ih =>
    rw [lookE_cons, if_neg (h p (by simp))]
    exact ih fun q hq => h q (by simp [hq])
theorem lookE_gone_self {E : Eps} (h : AscE E) (e : Nat) : lookE (goneE E e) e = none := by
  induction E with
  | nil => rfl
  | cons p E ih =>
    unfold AscE at h
    rw [List.pairwise_cons] at h
    unfold goneE at ih ⊢
    by_cases hp : p.1 = e
    · rw [List.eraseP_cons_of_pos (by simpa using hp)]
      exact lookE_not fun q hq => by have := h.1 q hq; omega
    · rw [List.eraseP_cons_of_neg (by simpa using hp), lookE_cons, if_neg hp]
      exact ih h.2
theorem gone_key {E : Eps} (h : ∀ p ∈ E, p.2.length = 32) (e : Nat) : ∀ p ∈ goneE E e, p.2.length = 32 := fun p hp => h p (List.mem_of_mem_eraseP hp)
theorem epsN_app (keys more : List (List UInt8)) : ∀ k, k ≤ keys.length → epsN (keys ++ more) k = epsN keys k
  | 0, _ => rfl
  | k + 1, h => by
    rw [epsN, epsN, epsN_app keys more k (by omega)]
    congr 4
    simp [List.getD, List.getElem?_append_left (show k < keys.length by omega)]
theorem epsN_keep {keys : List (List UInt8)} {e : Nat} {x : List UInt8} : ∀ (k i : Nat), lookE (epsN keys k) e = some x → lookE (epsN keys (k + i)) e = some x
  | _, 0, h => h
  | k, i + 1, h => lookE_left (epsN_keep k i h)
end Go.Proofs.Ytbacamepmilmhaa
