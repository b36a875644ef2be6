/- Contracts: layer 3, what is derived of a key. -/
import Derived.Test.YtipdgiikifmjdaaMacR
namespace Go.Proofs.Ytipdgiikifmjdaa
open Go Go.RowKit

/-- T k. -/
def tL (key label : List UInt8) : Nat → List UInt8
  | 0 => []
  | k + 1 => macL key (tL key label k ++ (label ++ [b8 (k + 1)]))
/-- T 1 to T k. -/
def derN (key label : List UInt8) : Nat → List UInt8
  | 0 => []
  | k + 1 => derN key label k ++ tL key label (k + 1)
theorem tL_length (key label : List UInt8) : ∀ k, (tL key label k).length ≤ 32
  | 0 => by simp [tL]
  | k + 1 => by rw [tL, macL_length]; exact Nat.le_refl _
theorem derN_length (key label : List UInt8) : ∀ k, (derN key label k).length = 32 * k
  | 0 => rfl
  | k + 1 => by rw [derN, List.length_append, derN_length key label k, tL, macL_length]; omega
theorem derN_take (key label : List UInt8) (n k : Nat) (h : n ≤ 32 * k) : ∀ j, (derN key label (k + j)).take n = (derN key label k).take n
  | 0 => rfl
  | j + 1 => by
    rw [show k + (j + 1) = (k + j) + 1 by omega, derN, List.take_append_of_le_length (by rw [derN_length]; omega)]
    exact derN_take key label n k h j
/-- The first n bytes. -/
def derL (key label : List UInt8) (n : Nat) : List UInt8 := (derN key label 255).take n
theorem derL_of (key label : List UInt8) (n k : Nat) (h : n ≤ 32 * k) (hk : k ≤ 255) : (derN key label k).take n = derL key label n := by
  have := derN_take key label n k h (255 - k)
  rw [show k + (255 - k) = 255 by omega] at this
  exact this.symm
theorem derL_length (key label : List UInt8) (n : Nat) (h : n ≤ 8160) : (derL key label n).length = n := by
  rw [derL, List.length_take, derN_length]; omega
theorem derL_take (key label : List UInt8) (n m : Nat) (h : n ≤ m) : (derL key label m).take n = derL key label n := by
  rw [derL, derL, List.take_take, Nat.min_eq_left h]
set_option maxRecDepth 100000 in
theorem one_str (x : UInt8) (w : World) (c : Nat) : (convert 31 9 (.slice (some ⟨w.heap.size, 0, none⟩) 1 c)).run Try.prog (w.alloc (.cells #[.int .u8 (x.toNat : Int)] 5)) = .ok (.string (bs [x])) (w.alloc (.cells #[.int .u8 (x.toNat : Int)] 5)) :=
  to_str_of (l := [x]) (heap_alloc_new w _) rfl
set_option maxRecDepth 100000 in
set_option maxHeartbeats 2000000 in
theorem refDerive_yes (key label : List UInt8) (n : Nat) (w : World) (hk : key.length ≤ 1099511627776) (hl : label.length ≤ 1099511620000) (h1 : 1 ≤ n) (h2 : n ≤ 8160) :
    Calls Try.prog 23 #[.string (bs key), .string (bs label), .int .i64 (n : Int)] w fun e w' => e = .returned (.string (bs (derL key label n))) ∧ Ext w w' := by
  go_enter Try.func23, Try.ntmps23
  go_wp2
  go_loopw [7, 8, 9] (fun all t i wr => ∃ k : Nat, k ≤ 255 ∧ (k = 0 ∨ 32 * (k - 1) < n) ∧ all = .string (bs (derN key label k)) ∧ t = .string (bs (tL key label k)) ∧ i = .int .i64 ((k : Int) + 1) ∧ Ext w wr) (fun _ _ i _ => 256 - (intOf i).toNat)
  case atStart => exact ⟨0, by omega, Or.inl rfl, rfl, rfl, rfl, Ext.refl _⟩
  case round =>
    obtain ⟨k, hk1, hk2, rfl, rfl, rfl, hx⟩ := hrel
    have hdl := derN_length key label k
    have htl := tL_length key label k
    by_cases hlt : 32 * k < n
    · have hk3 : k < 255 := by omega
      have hnext : derN key label (k + 1) = derN key label k ++ macL key (tL key label k ++ (label ++ [b8 (k + 1)])) := rfl
      have hnt : tL key label (k + 1) = macL key (tL key label k ++ (label ++ [b8 (k + 1)])) := rfl
      have hl2 : (macL key (tL key label k ++ (label ++ [b8 (k + 1)]))).length = 32 := macL_length _ _
      have GM := Lib.hid (fun W => refMac_any key (tL key label k ++ (label ++ [b8 (k + 1)])) W hk (by simp; omega))
      have hw8 : IntKind.u8.wrap ((k : Int) + 1) = ((b8 (k + 1)).toNat : Int) := by rw [b8_toNat _ (by omega), IntKind.wrap_u8]; omega
      have HN := Lib.hid hnext; have HT := Lib.hid hnt
      have ks := one_str (b8 (k + 1))
      clear hnext hnt
      generalize derN key label k = d at *
      generalize tL key label k = t at *
      generalize hb : b8 (k + 1) = b at *
      clear hb
      go_wp2_with (go_at_call 25; refine (GM.out _).mono ?_; rintro e w1 ⟨rfl, hx1⟩)
      have hxn : Ext w w1 := (hx.alloc _).trans hx1
      go_roundw
      case measure => simp [intOf]; omega
      case rel => exact ⟨k + 1, by omega, Or.inr (by simpa using hlt), by rw [HN.out], by rw [HT.out], by go_num, hxn⟩
    · have hres := derL_of key label n k (by omega) hk1
      have HR := Lib.hid hres; clear hres
      generalize derN key label k = d at *
      generalize tL key label k = t at *
      go_wp2
      go_returns
      exact ⟨ret_str HR.out, hx⟩
set_option maxRecDepth 100000 in
theorem refDerive_no (key label : List UInt8) (n : Int) (w : World) (h : n < 1 ∨ 8160 < n) :
    Calls Try.prog 23 #[.string (bs key), .string (bs label), .int .i64 n] w fun e w' => e = .returned (.string (bs [])) ∧ w = w' := by
  by_cases h1 : n < 1
  · clear h
    go_enter Try.func23, Try.ntmps23
    go_wp2
    go_returns
    exact ⟨rfl, rfl⟩
  · have h2 : 8160 < n := by omega
    clear h
    go_enter Try.func23, Try.ntmps23
    go_wp2
    go_returns
    exact ⟨rfl, rfl⟩
end Go.Proofs.Ytipdgiikifmjdaa
