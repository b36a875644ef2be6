/- The statements of layer 14: works, and SealCloses. -/
import Derived.Test.YtbacamepmilmhaaOpen
import Derived.Test.YtbacamepmilmhaaSealAbc
namespace Go.Proofs.Ytbacamepmilmhaa
open Go Go.RowKit

def wText : List UInt8 := [115, 101, 99, 114, 101, 116]
def wSeal : List UInt8 := envL (padTo 32 [107]) 1 (padTo 12 [110]) wText ++ tagL (padTo 32 [107]) [97] 1 (envL (padTo 32 [107]) 1 (padTo 12 [110]) wText)
set_option maxRecDepth 100000 in
set_option maxHeartbeats 4000000 in
theorem works14 (w : World) : Calls Try.prog 13 #[] w fun e w' => e = .returned (.bool true) ∧ Ext w w' := by
  have hn12 : (padTo 12 [110]).length = 12 := padTo_length 12 _
  have hk32 : (padTo 32 [107]).length = 32 := padTo_length 32 _
  have hlk : lookE (epsN [] 0) 1 = some (padTo 32 [107]) := rfl
  have hlen : wSeal.length = 55 := by
    unfold wSeal
    rw [List.length_append, envL_length _ _ _ _ hn12, tagL_length]
    rfl
  have hep : epR wSeal = (1, 0) := ep_env _ _ _ _ 1 1 hn12 (by omega) (by decide)
  have hoa : openR (padTo 32 [107]) [97] 1 wSeal = (wText, 0) := open_close _ _ _ _ 1 1 hn12
  have hob : openR (padTo 32 [107]) [98] 1 wSeal = ([], 141) := seal_other
  have GR : Hid (∀ W, Calls Try.prog 14 #[.slice none 0 0] W fun e w' => ∃ r m d, e = .returned (.tuple #[.pointer (some ⟨r, 0, none⟩), .pointer (some ⟨d, 0, none⟩)]) ∧ RingAt w' r m (epsN [] 0) 1 ∧ Ext W w') := Lib.hid fun W =>
    (rings14 [] none 0 W (Sl.nil W) (by simp) (by simp)).mono fun e w' ⟨r, m, d, h1, h2, _, _, _, h3⟩ => ⟨r, m, d, h1, h2, h3⟩
  have GN : Hid (∀ W, Calls Try.prog 15 #[.string { data := #[110] }] W fun e w' => e = .returned (.string (bs (padTo 12 [110]))) ∧ Ext W w') := Lib.hid fun W => nonce14 [110] W (by simp)
  have GC : Hid (∀ r m W, RingAt W r m (epsN [] 0) 1 → Calls Try.prog 16 #[.pointer (some ⟨r, 0, none⟩), .string { data := #[97] }, .int .u64 1, .string (bs (padTo 12 [110])), .string { data := #[115, 101, 99, 114, 101, 116] }] W fun e w' => e = .returned (.tuple #[.string (bs wSeal), .int .i64 0]) ∧ Ext W w') := Lib.hid fun r m W h =>
    Close_yes r m (epsN [] 0) 1 (padTo 32 [107]) [97] (padTo 12 [110]) wText 1 W h (by omega) (by omega) hlk (by omega) (by unfold U64; omega) hn12 (by simp) (by decide)
  have GOA : Hid (∀ r m W, RingAt W r m (epsN [] 0) 1 → Calls Try.prog 22 #[.pointer (some ⟨r, 0, none⟩), .string { data := #[97] }, .int .u64 1, .string (bs wSeal)] W fun e w' => e = .returned (.tuple #[.string { data := #[115, 101, 99, 114, 101, 116] }, .int .i64 0]) ∧ Ext W w') := Lib.hid fun r m W h => by
    have := Open_core r m (epsN [] 0) 1 1 (padTo 32 [107]) [97] wSeal 1 W h (by omega) hep hlk (by omega) (by unfold U64; omega) (by simp)
    rw [hoa] at this
    exact this
  have GOB : Hid (∀ r m W, RingAt W r m (epsN [] 0) 1 → Calls Try.prog 22 #[.pointer (some ⟨r, 0, none⟩), .string { data := #[98] }, .int .u64 1, .string (bs wSeal)] W fun e w' => e = .returned (.tuple #[.string { data := #[] }, .int .i64 141]) ∧ Ext W w') := Lib.hid fun r m W h => by
    have := Open_core r m (epsN [] 0) 1 1 (padTo 32 [107]) [98] wSeal 1 W h (by omega) hep hlk (by omega) (by unfold U64; omega) (by simp)
    rw [hob] at this
    exact this
  have GE : Hid (∀ W, Calls Try.prog 18 #[.string (bs wSeal)] W fun e w' => e = .returned (.tuple #[.int .u32 1, .int .i64 0]) ∧ Ext W w') := Lib.hid fun W => by
    have := Epoch_any wSeal W (by omega)
    rw [hep] at this
    exact this
  have GZ : Hid (∀ W, Calls Try.prog 20 #[.int .i64 6] W fun e w' => e = .returned (.int .i64 55) ∧ W = w') := Lib.hid fun W => Size_any 6 W (by omega)
  have hli : (wSeal.length : Int) = 55 := by omega
  clear hep hoa hob hlk hk32 hn12 hlen
  generalize wSeal = S at *
  generalize padTo 12 [110] = nn at *
  generalize padTo 32 [107] = kk at *
  generalize epsN [] 0 = E at *
  go_enter Try.func13, Try.ntmps13
  go_upto_region 2 with
    (go_at_call 14; with_reducible refine (GR.out _).mono ?_; rintro e w1 ⟨r, m, d, rfl, hri, hx1⟩; have HRI := Lib.hid hri; clear hri; obtain ⟨w2, hw2⟩ : ∃ x, x = w1 := ⟨_, rfl⟩; rw [← hw2] at HRI hx1 ⊢; clear hw2; have HX := Lib.hid hx1; clear hx1; have HY := Lib.hid (Ext.refl w2))
  go_wp2_with (first
    | (go_at_call 15; with_reducible refine (GN.out _).mono ?_; rintro e w1 ⟨rfl, hx1⟩; have hq := HY.out.trans hx1; clear HY hx1; have HY := Lib.hid hq; clear hq)
    | (go_at_call 16; with_reducible refine (GC.out r m _ (HRI.out.ext HY.out)).mono ?_; rintro e w1 ⟨rfl, hx1⟩; have hq := HY.out.trans hx1; clear HY hx1; have HY := Lib.hid hq; clear hq)
    | (go_at_call 22; with_reducible refine (GOA.out r m _ (HRI.out.ext HY.out)).mono ?_; rintro e w1 ⟨rfl, hx1⟩; have hq := HY.out.trans hx1; clear HY hx1; have HY := Lib.hid hq; clear hq)
    | (go_at_call 22; with_reducible refine (GOB.out r m _ (HRI.out.ext HY.out)).mono ?_; rintro e w1 ⟨rfl, hx1⟩; have hq := HY.out.trans hx1; clear HY hx1; have HY := Lib.hid hq; clear hq)
    | (go_at_call 18; with_reducible refine (GE.out _).mono ?_; rintro e w1 ⟨rfl, hx1⟩; have hq := HY.out.trans hx1; clear HY hx1; have HY := Lib.hid hq; clear hq)
    | (go_at_call 20; with_reducible refine (GZ.out _).mono ?_; rintro e w' ⟨rfl, rfl⟩))
  go_returns
  exact ⟨rfl, HX.out.trans HY.out⟩
theorem law_SealCloses (w : World) (keys : List (List UInt8)) (ad : Option Addr) (cp : Nat) (path : List UInt8) (ver : Nat) (n : List UInt8) (fit : Bool) (text : List UInt8) (hkl : keys.length ≤ 8796093022208) (hkb : ∀ x ∈ keys, x.length ≤ 140737488351232) (hk : Sl w (.slice ad keys.length cp) (keys.map strV))
    (ha : path.length ≤ 140737488351232) (hv : U64 ver) (hb : n.length ≤ 140737488351232) (hc : text.length ≤ 140737488351232) :
    Calls Try.prog 3 #[.slice ad keys.length cp, .string (bs path), .int .u64 (ver : Int), .string (bs n), .bool fit, .string (bs text)] w fun e w' => e = .returned (.bool true) ∧ Ext w w' := by
  cases hh : heavyB keys [path, n, text]
  · cases fit
    · by_cases hn : n.length = 12
      · exact closes_raw keys ad cp path n text ver w hk hkl hkb ha hb hc hv hn hh works14
      · exact closes_arg keys ad cp path n text ver w hk hkl hkb ha hb hc hv hn hh works14
    · exact closes_fit keys ad cp path n text ver w hk hkl hkb ha hb hc hv hh works14
  · exact closes_heavy keys ad cp path n text ver fit w hk hkl hkb ha hb hc hh works14
end Go.Proofs.Ytbacamepmilmhaa
