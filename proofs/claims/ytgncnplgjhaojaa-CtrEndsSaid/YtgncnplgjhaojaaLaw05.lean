/- The statements of layer 5: the walk of CtrBack. -/
import Derived.Test.YtgncnplgjhaojaaTurn
namespace Go.Proofs.Ytgncnplgjhaojaa
open Go Go.RowKit

theorem x8_zero_left (x : UInt8) : x8 0 x = x := by unfold x8; simp
theorem xorL_zeros_left : ∀ (z : List UInt8) (n : Nat), z.length = n → xorL (List.replicate n 0) z = z
  | [], _, h => by subst h; rfl
  | x :: z, _, h => by
    subst h
    show x8 0 x :: xorL (List.replicate z.length 0) z = _
    rw [x8_zero_left, xorL_zeros_left z _ rfl]
theorem xorL_app : ∀ (a b c d : List UInt8), a.length = c.length → xorL (a ++ b) (c ++ d) = xorL a c ++ xorL b d
  | [], _, [], _, _ => rfl
  | x :: a, b, y :: c, d, h => by
    show x8 x y :: xorL (a ++ b) (c ++ d) = _
    rw [xorL_app a b c d (by simpa using h)]; rfl
/-- The pieces of a stream that is laid over a text which is cut at a block's end. -/
theorem ctr_pieces (K nonce s : List UInt8) (f q : Nat) (hK : K.length = 176) (hn : nonce.length = 12) (h : 16 * q ≤ s.length) :
    xorL (s.take (16 * q)) (ctrS K nonce f (16 * q)) ++ xorL (s.drop (16 * q)) (ctrS K nonce (f + q) (s.length - 16 * q)) = xorL s (ctrS K nonce f s.length) := by
  obtain ⟨m, hm⟩ : ∃ m, s.length = 16 * q + m := ⟨s.length - 16 * q, by omega⟩
  rw [hm, show 16 * q + m - 16 * q = m by omega, ctrS_cut K nonce f q m hK hn, ← xorL_app _ _ _ _ (by rw [List.length_take, ctrS_length _ _ _ _ hK hn]; omega), List.take_append_drop]
set_option maxRecDepth 100000 in
set_option maxHeartbeats 2000000 in
theorem back05 (w : World) (key nonce : List UInt8) (fr : UInt32) (s : List UInt8) (cut : UInt8) (hkl : key.length ≤ 140737488351232) (hnl : nonce.length ≤ 140737488351232)
    (h1 : key.length + nonce.length ≤ 1024) (h2 : s.length ≤ 4096) (h3 : fr.toNat ≤ 4294966296) :
    Calls Try.prog 8 #[.string (bs key), .string (bs nonce), .int .u32 (fr.toNat : Int), .string (bs s), .int .u8 (cut.toNat : Int)] w fun e w' => e = .returned (.bool true) ∧ Ext w w' := by
  have G0 := Lib.hid works05
  have hkk : (padTo 16 key).length = 16 := padTo_length 16 key
  have hnn : (padTo 12 nonce).length = 12 := padTo_length 12 nonce
  have GK : Hid (∀ W, Calls Try.prog 27 #[.string (bs key), .int .i64 16] W fun e w' => e = .returned (.string (bs (padTo 16 key))) ∧ Ext W w') := Lib.hid fun W => full05 key 16 W hkl (by omega)
  have GN : Hid (∀ W, Calls Try.prog 27 #[.string (bs nonce), .int .i64 12] W fun e w' => e = .returned (.string (bs (padTo 12 nonce))) ∧ Ext W w') := Lib.hid fun W => full05 nonce 12 W hnl (by omega)
  have hc := cut.toNat_lt
  have i1 : ¬ (1024 : Int) < (key.length : Int) + (nonce.length : Int) := by omega
  have i2 : ¬ (4096 : Int) < (s.length : Int) := by omega
  have i3 : ¬ (4294966296 : Int) < (fr.toNat : Int) := by omega
  clear h1 hkl hnl
  generalize padTo 16 key = k at *
  generalize padTo 12 nonce = n at *
  generalize fr.toNat = f at *
  generalize cut.toNat = c at *
  obtain ⟨q, hq⟩ : ∃ q, min c (s.length / 16) = q := ⟨_, rfl⟩
  have hqs : 16 * q ≤ s.length := by omega
  have hxl : (xorL s (ctrS (rks k) n f s.length)).length = s.length := xorL_length _ _ (by rw [ctrS_length _ _ _ _ (rks_length k) hnn])
  have g1 := fun W => Turn_ok k n s f W hkk hnn (by omega) (by omega) (by omega)
  have g2 := fun W => Turn_ok k n (xorL s (ctrS (rks k) n f s.length)) f W hkk hnn (by omega) (by omega) (by omega)
  rw [hxl, xorL_back _ _ (by rw [ctrS_length _ _ _ _ (rks_length k) hnn])] at g2
  have ht : (s.take (16 * q)).length = 16 * q := by rw [List.length_take]; omega
  have hd : (s.drop (16 * q)).length = s.length - 16 * q := by rw [List.length_drop]
  have g3 := fun W => Turn_ok k n (s.take (16 * q)) f W hkk hnn (by omega) (by omega) (by omega)
  have g4 := fun W => Turn_ok k n (s.drop (16 * q)) (f + q) W hkk hnn (by omega) (by omega) (by omega)
  have g5 := fun W => Stream_ok k n f s.length W hkk hnn (by omega) (by omega) (by omega)
  have hpp := ctr_pieces (rks k) n s f q (rks_length k) hnn hqs
  have g6 := fun W => Turn_ok k n (List.replicate s.length 0) f W hkk hnn (by simp; omega) (by omega) (by simp; omega)
  rw [ht] at g3
  rw [hd] at g4
  rw [List.length_replicate, xorL_zeros_left _ _ (ctrS_length _ _ _ _ (rks_length k) hnn)] at g6
  have hmk := fun W => mk_bytes s.length (by omega) W
  have hcv := fun W c => to_str_new W s.length c 5 (List.replicate s.length 0) (by simp)
  generalize List.replicate s.length (0 : UInt8) = zz at *
  generalize xorL s (ctrS (rks k) n f s.length) = x at *
  generalize xorL (s.take (16 * q)) (ctrS (rks k) n f (16 * q)) = p1 at *
  generalize xorL (s.drop (16 * q)) (ctrS (rks k) n (f + q) (s.length - 16 * q)) = p2 at *
  generalize ctrS (rks k) n f s.length = z at *
  obtain ⟨a, ha⟩ : ∃ a : Nat, 16 * q = a := ⟨_, rfl⟩
  rw [ha] at g3 g4 hqs
  have hmin : min (16 * (c : Int)) ((s.length : Int) / 16 * 16) = (a : Int) := by omega
  have haq : (a : Int) / 16 = (q : Int) := by omega
  have hfq : ((f + q : Nat) : Int) = (f : Int) + (q : Int) := by omega
  rw [hfq] at g4
  have hda : (bs s).extract a s.length = bs (s.drop a) := by rw [bs_extract, List.take_of_length_le (by rw [List.length_drop]; omega)]
  have hal : (a : Int) ≤ (s.length : Int) := by omega
  have hfl : (f : Int) + (q : Int) < 4294967296 := by omega
  have hql : (q : Int) < 4294967296 := by omega
  have G1 := Lib.hid g1; have G2 := Lib.hid g2; have G3 := Lib.hid g3; have G4 := Lib.hid g4; have G5 := Lib.hid g5; have G6 := Lib.hid g6
  clear g1 g2 g3 g4 g5 g6 hkk hnn ht hd ha hq hfq hqs
  have hpl : ¬ 9223372036854775807 < p1.length + p2.length := by
    have := congrArg List.length hpp
    rw [List.length_append] at this
    omega
  have HQ := Lib.hid (Ext.refl w)
  go_enter Try.func8, Try.ntmps8
  go_wp2_with (first
    | (go_at_call 27; with_reducible refine (GK.out _).mono ?_; rintro e w1 ⟨rfl, hx1⟩; have hq := HQ.out.trans hx1; clear HQ hx1; have HQ := Lib.hid hq; clear hq)
    | (go_at_call 27; with_reducible refine (GN.out _).mono ?_; rintro e w1 ⟨rfl, hx1⟩; have hq := HQ.out.trans hx1; clear HQ hx1; have HQ := Lib.hid hq; clear hq)
    | (go_at_call 30; with_reducible refine (G1.out _).mono ?_; rintro e w1 ⟨rfl, hx1⟩; have hq := HQ.out.trans hx1; clear HQ hx1; have HQ := Lib.hid hq; clear hq)
    | (go_at_call 30; with_reducible refine (G2.out _).mono ?_; rintro e w1 ⟨rfl, hx1⟩; have hq := HQ.out.trans hx1; clear HQ hx1; have HQ := Lib.hid hq; clear hq)
    | (go_at_call 30; with_reducible refine (G3.out _).mono ?_; rintro e w1 ⟨rfl, hx1⟩; have hq := HQ.out.trans hx1; clear HQ hx1; have HQ := Lib.hid hq; clear hq)
    | (go_at_call 30; with_reducible refine (G4.out _).mono ?_; rintro e w1 ⟨rfl, hx1⟩; have hq := HQ.out.trans hx1; clear HQ hx1; have HQ := Lib.hid hq; clear hq)
    | (go_at_call 28; with_reducible refine (G5.out _).mono ?_; rintro e w1 ⟨rfl, hx1⟩; have hq := HQ.out.trans hx1; clear HQ hx1; have HQ := Lib.hid hq; clear hq)
    | (go_at_call 30; with_reducible refine (G6.out _).mono ?_; rintro e w1 ⟨rfl, hx1⟩; have hq := (HQ.out.alloc _).trans hx1; clear HQ hx1; have HQ := Lib.hid hq; clear hq)
    | (go_at_call 26; with_reducible refine (G0.out _).mono ?_; rintro e w1 ⟨rfl, hx1⟩; have hq := HQ.out.trans hx1; clear HQ hx1; have HQ := Lib.hid hq; clear hq)
    | (refine wpl_min2 rfl rfl rfl rfl (a : Int) hmin.symm ?_))
  go_returns
  exact ⟨rfl, HQ.out⟩
set_option maxRecDepth 100000 in
theorem law_CtrBack (w : World) (key nonce : List UInt8) (fr : UInt32) (s : List UInt8) (cut : UInt8) (hkl : key.length ≤ 140737488351232) (hnl : nonce.length ≤ 140737488351232) (hsl : s.length ≤ 140737488351232) :
    Calls Try.prog 8 #[.string (bs key), .string (bs nonce), .int .u32 (fr.toNat : Int), .string (bs s), .int .u8 (cut.toNat : Int)] w fun e w' => e = .returned (.bool true) ∧ Ext w w' := by
  have G0 := Lib.hid works05
  by_cases h1 : 1024 < key.length + nonce.length
  · have i1 : (1024 : Int) < (key.length : Int) + (nonce.length : Int) := by omega
    clear h1
    go_enter Try.func8, Try.ntmps8
    go_wp2_with (go_at_call 26; with_reducible refine (G0.out _).mono ?_; rintro e w1 ⟨rfl, hx1⟩)
    go_returns
    exact ⟨rfl, hx1⟩
  have i1 : ¬ (1024 : Int) < (key.length : Int) + (nonce.length : Int) := by omega
  by_cases h2 : 4096 < s.length
  · have i2 : (4096 : Int) < (s.length : Int) := by omega
    clear h1 h2
    go_enter Try.func8, Try.ntmps8
    go_wp2_with (go_at_call 26; with_reducible refine (G0.out _).mono ?_; rintro e w1 ⟨rfl, hx1⟩)
    go_returns
    exact ⟨rfl, hx1⟩
  have i2 : ¬ (4096 : Int) < (s.length : Int) := by omega
  by_cases h3 : 4294966296 < fr.toNat
  · have i3 : (4294966296 : Int) < (fr.toNat : Int) := by omega
    clear h1 h2 h3
    go_enter Try.func8, Try.ntmps8
    go_wp2_with (go_at_call 26; with_reducible refine (G0.out _).mono ?_; rintro e w1 ⟨rfl, hx1⟩)
    go_returns
    exact ⟨rfl, hx1⟩
  exact back05 w key nonce fr s cut hkl hnl (by omega) (by omega) (by omega)
end Go.Proofs.Ytgncnplgjhaojaa
