/- Contracts: layer 14: Open, whatever the bytes. -/
import Derived.Test.YtbacamepmilmhaaOpen
namespace Go.Proofs.Ytbacamepmilmhaa
open Go Go.RowKit

/-- What bytes open as, by the keys of a ring. -/
def openAny (E : Eps) (path : List UInt8) (ver : Nat) (s : List UInt8) : List UInt8 × Int :=
  if (epR s).2 = 7 then ([], 7) else match lookE E (epR s).1 with
    | none => ([], 140)
    | some key => openR key path ver s
theorem look_key {E : Eps} {ep : Nat} {key : List UInt8} (h : ∀ p ∈ E, p.2.length = 32) (hk : lookE E ep = some key) : key.length = 32 := by
  unfold lookE at hk
  obtain ⟨p, hp, rfl⟩ := Option.map_eq_some_iff.1 hk
  exact h p (List.mem_of_find?_eq_some hp)
theorem Open_any (r m : Nat) (E : Eps) (n : Nat) (path s : List UInt8) (ver : Nat) (w : World) (h : RingAt w r m E n) (hn : 0 < n) (hl : s.length ≤ 1099511627776) (hkl : ∀ p ∈ E, p.2.length = 32) (hv : U64 ver) (hp : path.length ≤ 1048576) :
    Calls Try.prog 22 #[.pointer (some ⟨r, 0, none⟩), .string (bs path), .int .u64 (ver : Int), .string (bs s)] w fun e w' => e = .returned (.tuple #[.string (bs (openAny E path ver s).1), .int .i64 (openAny E path ver s).2]) ∧ Ext w w' := by
  rcases epR_cases s with he | ⟨ep, he⟩
  · rw [show openAny E path ver s = ([], 7) by unfold openAny; rw [he]; rfl]
    exact Open_form r path s ver w hl he
  · cases hk : lookE E ep with
    | none =>
      rw [show openAny E path ver s = ([], 140) by unfold openAny; rw [he]; simp only [hk]; rfl]
      exact Open_none r m E n ep path s ver w h hn hl he hk hp
    | some key =>
      rw [show openAny E path ver s = openR key path ver s by unfold openAny; rw [he]; simp only [hk]; rfl]
      exact Open_core r m E n ep key path s ver w h hn he hk (by have := look_key hkl hk; omega) hv hp
theorem refOpen_any (B d : Nat) (E : Eps) (path s : List UInt8) (ver : Nat) (w : World) (h : DocAt w B d E) (hE : E ≠ []) (hel : E.length ≤ 1000) (hl : s.length ≤ 1099511627776) (hkl : ∀ p ∈ E, p.2.length = 32) (hv : U64 ver) (hp : path.length ≤ 1048576) :
    Calls Try.prog 23 #[.pointer (some ⟨d, 0, none⟩), .string (bs path), .int .u64 (ver : Int), .string (bs s)] w fun e w' => e = .returned (.tuple #[.string (bs (openAny E path ver s).1), .int .i64 (openAny E path ver s).2]) ∧ Ext w w' := by
  rcases epR_cases s with he | ⟨ep, he⟩
  · rw [show openAny E path ver s = ([], 7) by unfold openAny; rw [he]; rfl]
    exact refOpen_form d path s ver w hl he
  · cases hk : lookE E ep with
    | none =>
      rw [show openAny E path ver s = ([], 140) by unfold openAny; rw [he]; simp only [hk]; rfl]
      exact refOpen_none B d E ep path s ver w h hE hel hl he hk hp
    | some key =>
      rw [show openAny E path ver s = openR key path ver s by unfold openAny; rw [he]; simp only [hk]; rfl]
      exact refOpen_core B d E ep key path s ver w h hel he hk (by have := look_key hkl hk; omega) hv hp
end Go.Proofs.Ytbacamepmilmhaa
