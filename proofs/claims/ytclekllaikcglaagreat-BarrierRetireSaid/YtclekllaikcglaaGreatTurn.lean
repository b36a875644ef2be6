/- Contracts: layer 5, the program's Stream and Turn, and the statements' full and works. -/
import Derived.Test.YtclekllaikcglaaGreatGfLaw
import Derived.Test.YtclekllaikcglaaGreatXor
import Derived.Test.YtclekllaikcglaaGreatBase
namespace Go.Proofs.YtclekllaikcglaaGreat
open Go Go.RowKit

/-- A stream's first n bytes. -/
def ctrS (K nonce : List UInt8) (f n : Nat) : List UInt8 := (ctrN K nonce f ((n + 15) / 16)).take n
theorem ctrS_length (K nonce : List UInt8) (f n : Nat) (hK : K.length = 176) (hn : nonce.length = 12) : (ctrS K nonce f n).length = n := by
  unfold ctrS; rw [List.length_take, ctrN_length K nonce f hK hn]; omega
theorem ctrN_add (K nonce : List UInt8) (f a : Nat) : ∀ b, ctrN K nonce f (a + b) = ctrN K nonce f a ++ ctrN K nonce (f + a) b
  | 0 => by simp [ctrN]
  | b + 1 => by
    rw [← Nat.add_assoc, ctrN, ctrN_add K nonce f a b, ctrN, List.append_assoc]
    simp only [ctrB, Nat.add_assoc]
theorem ctrS_cut (K nonce : List UInt8) (f q m : Nat) (hK : K.length = 176) (hn : nonce.length = 12) : ctrS K nonce f (16 * q + m) = ctrS K nonce f (16 * q) ++ ctrS K nonce (f + q) m := by
  unfold ctrS
  rw [show (16 * q + m + 15) / 16 = q + (m + 15) / 16 by omega, show (16 * q + 15) / 16 = q by omega, ctrN_add]
  have hl := ctrN_length K nonce f hK hn q
  rw [List.take_of_length_le (l := ctrN K nonce f q) (by omega), List.take_append, hl, show 16 * q + m - 16 * q = m by omega, List.take_of_length_le (l := ctrN K nonce f q) (by omega)]
theorem Stream_ok (key nonce : List UInt8) (f n : Nat) (w : World) (hk : key.length = 16) (hn : nonce.length = 12) (h1 : n ≤ 1048576) (h2 : f < 4294967296) (h : f + (n + 15) / 16 ≤ 4294967296) :
    Calls Tryz.prog 89 #[.string (bs key), .string (bs nonce), .int .u32 (f : Int), .int .i64 (n : Int)] w fun e w' => e = .returned (.tuple #[.string (bs (ctrS (rks key) nonce f n)), .int .i64 0]) ∧ Ext w w' := by
  by_cases h0 : n = 0
  · subst h0
    exact Stream_zero key nonce f w hk hn h2
  · exact Stream_yes key nonce f n w hk hn (by omega) h1 h2 h
set_option maxRecDepth 100000 in
theorem Turn_ok (key nonce s : List UInt8) (f : Nat) (w : World) (hk : key.length = 16) (hn : nonce.length = 12) (h1 : s.length ≤ 1048576) (h2 : f < 4294967296) (h : f + (s.length + 15) / 16 ≤ 4294967296) :
    Calls Tryz.prog 63 #[.string (bs key), .string (bs nonce), .int .u32 (f : Int), .string (bs s)] w fun e w' => e = .returned (.tuple #[.string (bs (xorL s (ctrS (rks key) nonce f s.length))), .int .i64 0]) ∧ Ext w w' := by
  have hsl := ctrS_length (rks key) nonce f s.length (rks_length key) hn
  have GS := Lib.hid (fun W => Stream_ok key nonce f s.length W hk hn h1 h2 h)
  generalize ctrS (rks key) nonce f s.length = x at *
  have GX := Lib.hid (fun W => Xor_yes s x W hsl.symm (by omega))
  clear hsl
  go_enter Tryz.func63, Tryz.ntmps63
  go_wp2_with (first
    | (go_at_call 89; refine (GS.out _).mono ?_; rintro e w1 ⟨rfl, hx1⟩)
    | (go_at_call 56; refine (GX.out _).mono ?_; rintro e w2 ⟨rfl, hx2⟩))
  go_returns
  exact ⟨rfl, hx1.trans hx2⟩
set_option maxRecDepth 100000 in
theorem Turn_err (key nonce s : List UInt8) (f : Nat) (r : Int) (hr : r ≠ 0) (w : World) (HS : ∀ W, Calls Tryz.prog 89 #[.string (bs key), .string (bs nonce), .int .u32 (f : Int), .int .i64 (s.length : Int)] W fun e w' => e = .returned (.tuple #[.string (bs []), .int .i64 r]) ∧ Ext W w') :
    Calls Tryz.prog 63 #[.string (bs key), .string (bs nonce), .int .u32 (f : Int), .string (bs s)] w fun e w' => e = .returned (.tuple #[.string (bs []), .int .i64 r]) ∧ Ext w w' := by
  have GS := Lib.hid HS
  have hr' : (r != 0) = true := by simpa using hr
  clear HS hr
  go_enter Tryz.func63, Tryz.ntmps63
  go_wp2_with (go_at_call 89; refine (GS.out _).mono ?_; rintro e w1 ⟨rfl, hx1⟩)
  go_returns
  exact ⟨rfl, hx1⟩
end Go.Proofs.YtclekllaikcglaaGreat
