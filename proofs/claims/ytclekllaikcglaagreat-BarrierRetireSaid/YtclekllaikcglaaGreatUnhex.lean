/- Contracts: word.Hex, four, Unhex and their references. -/
import Derived.Test.YtclekllaikcglaaGreatWord
import Derived.Test.YtclekllaikcglaaGreatLoud
namespace Go.Proofs.YtclekllaikcglaaGreat
open Go Go.RowKit

/-- What a hex digit is. -/
def hexVal (c : UInt8) : Option UInt8 := if 48 ≤ c.toNat ∧ c.toNat ≤ 57 then some (UInt8.ofNat (c.toNat - 48)) else if 97 ≤ c.toNat ∧ c.toNat ≤ 102 then some (UInt8.ofNat (c.toNat - 87)) else none
theorem hexVal_lt (c v : UInt8) (h : hexVal c = some v) : v.toNat < 16 := by
  unfold hexVal at h
  split at h
  · cases h; simp; omega
  · split at h
    · cases h; simp; omega
    · cases h
/-- A pair of digits' byte. -/
def nib (h l : UInt8) : UInt8 := UInt8.ofNat (h.toNat * 16 + l.toNat)
/-- Unhex. -/
def unhexL : List UInt8 → Option (List UInt8)
  | [] => some []
  | h :: l :: r => match hexVal h, hexVal l with
    | some x, some y => (unhexL r).map (nib x y :: ·)
    | _, _ => none
  | [_] => none
theorem unhexL_odd : ∀ (n : Nat) (l : List UInt8), l.length = 2 * n + 1 → unhexL l = none
  | 0, [_], _ => rfl
  | n + 1, h :: x :: r, hl => by
    have ih := unhexL_odd n r (by simp at hl; omega)
    unfold unhexL
    split <;> simp [ih]
theorem drop_two (l : List UInt8) (j : Nat) (h : j + 1 < l.length) : l.drop j = l[j] :: l[j + 1] :: l.drop (j + 2) := by
  rw [List.drop_eq_getElem_cons (by omega), List.drop_eq_getElem_cons h]
theorem nib_form (x y : UInt8) (hx : x.toNat < 16) (hy : y.toNat < 16) : bits .or .u8 ((x.toNat : Int) * 16 % 256) (y.toNat : Int) = ((nib x y).toNat : Int) := by
  have h := or_join .u8 8 (by decide) wraps_u8 4 x.toNat y.toNat (by omega) (by omega)
  rw [show ((x.toNat : Int) * 16 % 256) = (x.toNat : Int) * 2 ^ 4 by omega, h]
  simp [nib]; omega
theorem nib_form' (x y : UInt8) (hx : x.toNat < 16) (hy : y.toNat < 16) : (16 * (x.toNat : Int) + (y.toNat : Int)) = ((nib x y).toNat : Int) := by
  simp [nib]; omega
theorem unhex_step (l out : List UInt8) (j : Nat) (x y : UInt8) (h : j + 1 < l.length) (hx : hexVal l[j] = some x) (hy : hexVal l[j + 1] = some y)
    (hr : unhexL l = (unhexL (l.drop j)).map (out ++ ·)) : unhexL l = (unhexL (l.drop (j + 2))).map ((out ++ [nib x y]) ++ ·) := by
  rw [hr, drop_two l j h]
  conv => lhs; unfold unhexL
  simp only [hx, hy, Option.map_map]
  congr 1
  funext z; simp
theorem unhex_fail (l out : List UInt8) (j : Nat) (h : j + 1 < l.length) (hx : hexVal l[j] = none ∨ hexVal l[j + 1] = none)
    (hr : unhexL l = (unhexL (l.drop j)).map (out ++ ·)) : unhexL l = none := by
  rw [hr, drop_two l j h]
  unfold unhexL
  rcases hx with hx | hx <;> simp [hx]
/-- What Unhex answers. -/
def Unhex (l : List UInt8) : List UInt8 × Bool := match unhexL l with | some o => (o, true) | none => ([], false)
theorem and1_len (n : Nat) (hn : n ≤ 1099511627776) : bits .and .i64 (n : Int) 1 = ((n % 2 : Nat) : Int) := by
  have h := (bits_nat .i64 62 (by decide) (fun n h0 h1 => by rw [IntKind.wrap_i64]; omega) n 1 (by omega) (by omega)).1
  rw [Nat.and_one_is_mod] at h
  exact_mod_cast h
/-! ### Hex -/
def hexDig (n : Nat) : UInt8 := if n < 10 then UInt8.ofNat (48 + n) else UInt8.ofNat (87 + n)
def hexB (c : UInt8) : List UInt8 := [hexDig (c.toNat / 16), hexDig (c.toNat % 16)]
/-- Hex. -/
def hexL (l : List UInt8) : List UInt8 := l.flatMap hexB
theorem hexL_length (l : List UInt8) : (hexL l).length = 2 * l.length := by
  induction l with
  | nil => rfl
  | cons x l ih => simp only [hexL, List.flatMap_cons, List.length_append, List.length_cons] at ih ⊢; rw [ih]; simp [hexB]; omega
theorem hexL_snoc (l : List UInt8) (c : UInt8) : hexL (l ++ [c]) = hexL l ++ hexB c := by simp [hexL]
theorem hexL_take (l : List UInt8) (k : Nat) (h : k < l.length) : hexL (l.take (k + 1)) = hexL (l.take k) ++ hexB l[k] := by
  rw [List.take_succ_eq_append_getElem h, hexL_snoc]
def hexDigits : List UInt8 := [48, 49, 50, 51, 52, 53, 54, 55, 56, 57, 97, 98, 99, 100, 101, 102]
theorem hexDigits_at (n : Nat) (h : n < 16) (h' : n < hexDigits.length) : hexDigits[n]'h' = hexDig n := by
  have : ∀ m : Fin 16, hexDigits[m.val]'(m.isLt) = hexDig m.val := by decide
  exact this ⟨n, h⟩
theorem idx_digits (i : Int) (n : Nat) (hi : i = n) (h : n < 16) (w : World) :
    (Instr.index 9 (.string { data := #[48, 49, 50, 51, 52, 53, 54, 55, 56, 57, 97, 98, 99, 100, 101, 102] }) (.int .u8 i)).run Tryz.prog w = .ok (.int .u8 ((hexDig n).toNat : Int)) w := by
  subst hi
  have h1 := run_index_string (P := Tryz.prog) w 9 (bs hexDigits) .u8 (n : Int) und_string
  have h2 : n < hexDigits.length := h
  rw [dif_pos ⟨by omega, by rw [bs_size]; omega⟩] at h1
  simp only [bs_get, Int.toNat_natCast] at h1
  rw [hexDigits_at n h h2] at h1
  exact h1
end Go.Proofs.YtclekllaikcglaaGreat
