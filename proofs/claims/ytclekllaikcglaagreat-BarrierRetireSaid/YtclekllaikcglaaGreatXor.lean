/- Plain facts on either or of rows of bytes (seat C: beside XGf). -/
import Derived.Test.YtclekllaikcglaaGreatWord
import Derived.Test.YtclekllaikcglaaGreatGf
namespace Go.Proofs.YtclekllaikcglaaGreat
open Go Go.RowKit
theorem x8_self (x : UInt8) : x8 x x = 0 := by unfold x8; simp
theorem x8_zero_right (x : UInt8) : x8 x 0 = x := by unfold x8; simp
theorem x8_back (x y : UInt8) : x8 (x8 x y) y = x := by rw [x8_assoc, x8_self, x8_zero_right]
theorem xorL_back : ∀ (a b : List UInt8), a.length = b.length → xorL (xorL a b) b = a
  | [], [], _ => rfl
  | x :: a, y :: b, h => by
    have ih := xorL_back a b (by simpa using h)
    unfold xorL at ih ⊢
    rw [List.zipWith_cons_cons, List.zipWith_cons_cons, ih, x8_back]
  | [], _ :: _, h => by simp at h
  | _ :: _, [], h => by simp at h
theorem xorL_comm : ∀ (a b : List UInt8), xorL a b = xorL b a
  | [], [] => rfl
  | x :: a, y :: b => by
    have ih := xorL_comm a b
    unfold xorL at ih ⊢
    rw [List.zipWith_cons_cons, List.zipWith_cons_cons, ih, x8_comm]
  | [], _ :: _ => rfl
  | _ :: _, [] => rfl
theorem xorL_assoc : ∀ (a b c : List UInt8), xorL (xorL a b) c = xorL a (xorL b c)
  | x :: a, y :: b, z :: c => by
    have ih := xorL_assoc a b c
    unfold xorL at ih ⊢
    simp only [List.zipWith_cons_cons, ih, x8_assoc]
  | [], _, _ => by simp [xorL]
  | _ :: _, [], _ => by simp [xorL]
  | _ :: _, _ :: _, [] => by simp [xorL]
theorem xorL_self : ∀ (a : List UInt8), xorL a a = List.replicate a.length 0
  | [] => rfl
  | x :: a => by
    have ih := xorL_self a
    unfold xorL at ih ⊢
    rw [List.zipWith_cons_cons, ih, x8_self]; rfl
theorem xorL_zeros (a b : List UInt8) (h : a.length = b.length) : (xorL a b = List.replicate a.length 0) ↔ a = b := by
  rw [← xorL_zero a b h]
  constructor
  · intro e x hx; rw [e] at hx; exact (List.mem_replicate.1 hx).2
  · intro hz
    apply List.eq_replicate_of_mem |> fun f => (xorL_length a b h) ▸ f (fun x hx => hz x hx)
end Go.Proofs.YtclekllaikcglaaGreat
