/- Contracts: layer 5, the program's Stream and Turn, and the statements' full and works. -/
import Derived.Test.YtgncnplgjhaojaaStream
import Derived.Test.YtgncnplgjhaojaaXor
import Derived.Test.YtgncnplgjhaojaaMem
namespace Go.Proofs.Ytgncnplgjhaojaa
open Go Go.RowKit

/-- A stream's first n bytes. -/
def ctrS (K nonce : List UInt8) (f n : Nat) : List UInt8 := (ctrN K nonce f ((n + 15) / 16)).take n
theorem ctrS_length (K nonce : List UInt8) (f n : Nat) (hK : K.length = 176) (hn : nonce.length = 12) : (ctrS K nonce f n).length = n := by
  unfold ctrS; rw [List.length_take, ctrN_length K nonce f hK hn]; omega
theorem ctrN_add (K nonce : List UInt8) (f a : Nat) : ∀ b, ctrN K nonce f (a + b) = ctrN K nonce f a ++ ctrN K nonce (f + a) b
  | 0 => by simp [ctrN]
  | b + 1 => by
    rw [← Nat.add_assoc, ctrN, ctrN_add K nonce f a b, ctrN, List.append_assoc]
    simp only [ctrB, Nat.add_assoc]
theorem ctrS_cut (K nonce : List UInt8) (f q m : Nat) (hK : K.length = 176) (hn : nonce.length = 12) : ctrS K nonce f (16 * q + m) = ctrS K nonce f (16 * q) ++ ctrS K nonce (f + q) m := by
  unfold ctrS
  rw [show (16 * q + m + 15) / 16 = q + (m + 15) / 16 by omega, show (16 * q + 15) / 16 = q by omega, ctrN_add]
  have hl := ctrN_length K nonce f hK hn q
  rw [List.take_of_length_le (l := ctrN K nonce f q) (by omega), List.take_append, hl, show 16 * q + m - 16 * q = m by omega, List.take_of_length_le (l := ctrN K nonce f q) (by omega)]
theorem Stream_ok (key nonce : List UInt8) (f n : Nat) (w : World) (hk : key.length = 16) (hn : nonce.length = 12) (h1 : n ≤ 1048576) (h2 : f < 4294967296) (h : f + (n + 15) / 16 ≤ 4294967296) :
    Calls Try.prog 28 #[.string (bs key), .string (bs nonce), .int .u32 (f : Int), .int .i64 (n : Int)] w fun e w' => e = .returned (.tuple #[.string (bs (ctrS (rks key) nonce f n)), .int .i64 0]) ∧ Ext w w' := by
  by_cases h0 : n = 0
  · subst h0
    exact Stream_zero key nonce f w hk hn h2
  · exact Stream_yes key nonce f n w hk hn (by omega) h1 h2 h
set_option maxRecDepth 100000 in
theorem Turn_ok (key nonce s : List UInt8) (f : Nat) (w : World) (hk : key.length = 16) (hn : nonce.length = 12) (h1 : s.length ≤ 1048576) (h2 : f < 4294967296) (h : f + (s.length + 15) / 16 ≤ 4294967296) :
    Calls Try.prog 30 #[.string (bs key), .string (bs nonce), .int .u32 (f : Int), .string (bs s)] w fun e w' => e = .returned (.tuple #[.string (bs (xorL s (ctrS (rks key) nonce f s.length))), .int .i64 0]) ∧ Ext w w' := by
  have hsl := ctrS_length (rks key) nonce f s.length (rks_length key) hn
  have GS := Lib.hid (fun W => Stream_ok key nonce f s.length W hk hn h1 h2 h)
  generalize ctrS (rks key) nonce f s.length = x at *
  have GX := Lib.hid (fun W => Xor_yes s x W hsl.symm (by omega))
  clear hsl
  go_enter Try.func30, Try.ntmps30
  go_wp2_with (first
    | (go_at_call 28; refine (GS.out _).mono ?_; rintro e w1 ⟨rfl, hx1⟩)
    | (go_at_call 46; refine (GX.out _).mono ?_; rintro e w2 ⟨rfl, hx2⟩))
  go_returns
  exact ⟨rfl, hx1.trans hx2⟩
set_option maxRecDepth 100000 in
theorem Turn_err (key nonce s : List UInt8) (f : Nat) (r : Int) (hr : r ≠ 0) (w : World) (HS : ∀ W, Calls Try.prog 28 #[.string (bs key), .string (bs nonce), .int .u32 (f : Int), .int .i64 (s.length : Int)] W fun e w' => e = .returned (.tuple #[.string (bs []), .int .i64 r]) ∧ Ext W w') :
    Calls Try.prog 30 #[.string (bs key), .string (bs nonce), .int .u32 (f : Int), .string (bs s)] w fun e w' => e = .returned (.tuple #[.string (bs []), .int .i64 r]) ∧ Ext w w' := by
  have GS := Lib.hid HS
  have hr' : (r != 0) = true := by simpa using hr
  clear HS hr
  go_enter Try.func30, Try.ntmps30
  go_wp2_with (go_at_call 28; refine (GS.out _).mono ?_; rintro e w1 ⟨rfl, hx1⟩)
  go_returns
  exact ⟨rfl, hx1⟩
set_option maxRecDepth 100000 in
theorem full05 (s : List UInt8) (n : Nat) (w : World) (_hl : s.length ≤ 140737488351232) (hn : n ≤ 1048576) :
    Calls Try.prog 27 #[.string (bs s), .int .i64 (n : Int)] w fun e w' => e = .returned (.string (bs (padTo n s))) ∧ Ext w w' := by
  have hz : ∃ z, List.replicate n (0 : UInt8) = z := ⟨_, rfl⟩
  obtain ⟨z, hz⟩ := hz
  have hzl : z.length = n := by rw [← hz]; simp
  have hmk : ∀ w : World, (Instr.makeSlice 34 (.int .i64 (n : Int)) (.int .i64 (n : Int))).run Try.prog w = .ok (.slice (some ⟨w.heap.size, 0, none⟩) n n) (w.alloc (.cells (bcells z) 5)) := fun w => by
    rw [← hz]; exact mk_bytes n (by omega) w
  have HSZ := Lib.hid (show splice z 0 (s.take n) = padTo n s by rw [← hz]; exact splice_zeros n s)
  have HZL := Lib.hid hzl
  clear hz hzl
  go_enter Try.func27, Try.ntmps27
  go_wp2_with (refine wpl_copy_str rfl rfl und_bytes info_u8 rfl rfl (L := z) (heap_alloc_new w _) (by rw [HZL.out]; omega) ?_; intro w2 hb2 _ hbel; rw [HSZ.out] at hb2; have kc := fun c => to_str_of (c := c) hb2 (padTo_length n _); have hx2 : Ext w w2 := ((Ext.refl w).alloc _).trans_below hbel; clear hb2)
  go_returns
  exact ⟨rfl, hx2⟩
set_option maxRecDepth 100000 in
set_option maxHeartbeats 1000000 in
theorem works05 (w : World) : Calls Try.prog 26 #[] w fun e w' => e = .returned (.bool true) ∧ Ext w w' := by
  have hkl : (padTo 16 []).length = 16 := padTo_length 16 []
  have hnl : (padTo 12 []).length = 12 := padTo_length 12 []
  have gk := fun W => full05 [] 16 W (by simp) (by omega)
  have gn := fun W => full05 [] 12 W (by simp) (by omega)
  generalize padTo 16 [] = k at *
  generalize padTo 12 [] = nn at *
  have h3 : ([97, 98, 99] : List UInt8).length = 3 := rfl
  obtain ⟨m, hm⟩ : ∃ m : List UInt8, m = [97, 98, 99] := ⟨_, rfl⟩
  rw [← hm] at h3
  have hsl := ctrS_length (rks k) nn 0 3 (rks_length k) hnl
  have g1 := fun W => Turn_ok k nn [] 0 W hkl hnl (by simp) (by omega) (by simp)
  rw [show ∀ l, xorL [] l = [] from fun l => by simp [xorL]] at g1
  have g2 := fun W => Turn_ok k nn m 0 W hkl hnl (by omega) (by omega) (by omega)
  rw [h3] at g2
  have htl : (xorL m (ctrS (rks k) nn 0 3)).length = 3 := by rw [xorL_length _ _ (by rw [hsl, h3]), h3]
  have htb := xorL_back m (ctrS (rks k) nn 0 3) (by rw [hsl, h3])
  have g3 := fun W => Turn_ok k nn (xorL m (ctrS (rks k) nn 0 3)) 0 W hkl hnl (by rw [htl]; omega) (by omega) (by rw [htl]; omega)
  rw [htl, htb] at g3
  generalize xorL m (ctrS (rks k) nn 0 3) = t at *
  have g4 := fun W => Turn_err [] nn m 0 2 (by decide) W (fun W' => Stream_key [] nn 0 _ W' (by simp) (by simp))
  clear hsl htb h3
  subst hm
  have GK : Hid (∀ W, Calls Try.prog 27 #[.string { data := #[] }, .int .i64 16] W fun e w' => e = .returned (.string (bs k)) ∧ Ext W w') := Lib.hid gk
  have GN : Hid (∀ W, Calls Try.prog 27 #[.string { data := #[] }, .int .i64 12] W fun e w' => e = .returned (.string (bs nn)) ∧ Ext W w') := Lib.hid gn
  have G1 : Hid (∀ W, Calls Try.prog 30 #[.string (bs k), .string (bs nn), .int .u32 0, .string { data := #[] }] W fun e w' => e = .returned (.tuple #[.string (bs []), .int .i64 0]) ∧ Ext W w') := Lib.hid g1
  have G2 : Hid (∀ W, Calls Try.prog 30 #[.string (bs k), .string (bs nn), .int .u32 0, .string { data := #[97, 98, 99] }] W fun e w' => e = .returned (.tuple #[.string (bs t), .int .i64 0]) ∧ Ext W w') := Lib.hid g2
  have G3 : Hid (∀ W, Calls Try.prog 30 #[.string (bs k), .string (bs nn), .int .u32 0, .string (bs t)] W fun e w' => e = .returned (.tuple #[.string (bs [97, 98, 99]), .int .i64 0]) ∧ Ext W w') := Lib.hid g3
  have G4 : Hid (∀ W, Calls Try.prog 30 #[.string { data := #[] }, .string (bs nn), .int .u32 0, .string { data := #[97, 98, 99] }] W fun e w' => e = .returned (.tuple #[.string (bs []), .int .i64 2]) ∧ Ext W w') := Lib.hid g4
  clear gk gn g1 g2 g3 g4 hkl hnl
  have HQ := Lib.hid (Ext.refl w)
  go_enter Try.func26, Try.ntmps26
  go_wp2_with (first
    | (go_at_call 27; with_reducible refine (GK.out _).mono ?_; rintro e w1 ⟨rfl, hx1⟩; have hq := HQ.out.trans hx1; clear HQ hx1; have HQ := Lib.hid hq; clear hq)
    | (go_at_call 27; with_reducible refine (GN.out _).mono ?_; rintro e w1 ⟨rfl, hx1⟩; have hq := HQ.out.trans hx1; clear HQ hx1; have HQ := Lib.hid hq; clear hq)
    | (go_at_call 30; with_reducible refine (G1.out _).mono ?_; rintro e w1 ⟨rfl, hx1⟩; have hq := HQ.out.trans hx1; clear HQ hx1; have HQ := Lib.hid hq; clear hq)
    | (go_at_call 30; with_reducible refine (G2.out _).mono ?_; rintro e w1 ⟨rfl, hx1⟩; have hq := HQ.out.trans hx1; clear HQ hx1; have HQ := Lib.hid hq; clear hq)
    | (go_at_call 30; with_reducible refine (G3.out _).mono ?_; rintro e w1 ⟨rfl, hx1⟩; have hq := HQ.out.trans hx1; clear HQ hx1; have HQ := Lib.hid hq; clear hq)
    | (go_at_call 30; with_reducible refine (G4.out _).mono ?_; rintro e w1 ⟨rfl, hx1⟩; have hq := HQ.out.trans hx1; clear HQ hx1; have HQ := Lib.hid hq; clear hq))
  go_returns
  exact ⟨rfl, HQ.out⟩
end Go.Proofs.Ytgncnplgjhaojaa
