/- The statements of layer 5: the walks of CtrTwo and CtrEnds. -/
import Derived.Test.YtgncnplgjhaojaaLaw05
namespace Go.Proofs.Ytgncnplgjhaojaa
open Go Go.RowKit

theorem xorL_swap (s a b : List UInt8) : xorL (xorL s a) b = xorL (xorL s b) a := by rw [xorL_assoc, xorL_comm a b, ← xorL_assoc]
set_option maxRecDepth 100000 in
set_option maxHeartbeats 2000000 in
theorem two05 (w : World) (a b m n : List UInt8) (fr fo : UInt32) (s : List UInt8) (ha : a.length ≤ 140737488351232) (hb : b.length ≤ 140737488351232) (hm : m.length ≤ 140737488351232) (hn : n.length ≤ 140737488351232)
    (h1 : a.length + b.length + m.length + n.length ≤ 1024) (h2 : s.length ≤ 2048) (h3 : fr.toNat ≤ 4294966796) (h4 : fo.toNat ≤ 4294966796) :
    Calls Try.prog 10 #[.string (bs a), .string (bs b), .string (bs m), .string (bs n), .int .u32 (fr.toNat : Int), .int .u32 (fo.toNat : Int), .string (bs s)] w fun e w' => e = .returned (.bool true) ∧ Ext w w' := by
  have G0 := Lib.hid works05
  have hk : (padTo 16 a).length = 16 := padTo_length 16 a
  have GK : Hid (∀ W, Calls Try.prog 27 #[.string (bs a), .int .i64 16] W fun e w' => e = .returned (.string (bs (padTo 16 a))) ∧ Ext W w') := Lib.hid fun W => full05 a 16 W ha (by omega)
  have hl : (padTo 16 b).length = 16 := padTo_length 16 b
  have GL : Hid (∀ W, Calls Try.prog 27 #[.string (bs b), .int .i64 16] W fun e w' => e = .returned (.string (bs (padTo 16 b))) ∧ Ext W w') := Lib.hid fun W => full05 b 16 W hb (by omega)
  have hp : (padTo 12 m).length = 12 := padTo_length 12 m
  have GP : Hid (∀ W, Calls Try.prog 27 #[.string (bs m), .int .i64 12] W fun e w' => e = .returned (.string (bs (padTo 12 m))) ∧ Ext W w') := Lib.hid fun W => full05 m 12 W hm (by omega)
  have hq : (padTo 12 n).length = 12 := padTo_length 12 n
  have GQ : Hid (∀ W, Calls Try.prog 27 #[.string (bs n), .int .i64 12] W fun e w' => e = .returned (.string (bs (padTo 12 n))) ∧ Ext W w') := Lib.hid fun W => full05 n 12 W hn (by omega)
  have i1 : ¬ (1024 : Int) < (a.length : Int) + (b.length : Int) + (m.length : Int) + (n.length : Int) := by omega
  have i2 : ¬ (2048 : Int) < (s.length : Int) := by omega
  have i3 : ¬ (4294966796 : Int) < (fr.toNat : Int) := by omega
  have i4 : ¬ (4294966796 : Int) < (fo.toNat : Int) := by omega
  clear h1 ha hb hm hn
  generalize padTo 16 a = k at *
  generalize padTo 16 b = l at *
  generalize padTo 12 m = p at *
  generalize padTo 12 n = q at *
  generalize fr.toNat = f at *
  generalize fo.toNat = g at *
  have hsz := ctrS_length (rks k) p f s.length (rks_length k) hp
  have hsy := ctrS_length (rks l) q g s.length (rks_length l) hq
  have T1 : ∀ t : List UInt8, t.length = s.length → ∀ W, Calls Try.prog 30 #[.string (bs k), .string (bs p), .int .u32 (f : Int), .string (bs t)] W fun e w' => e = .returned (.tuple #[.string (bs (xorL t (ctrS (rks k) p f s.length))), .int .i64 0]) ∧ Ext W w' := fun t ht W => by
    have := Turn_ok k p t f W hk hp (by omega) (by omega) (by omega)
    rw [ht] at this; exact this
  have T2 : ∀ t : List UInt8, t.length = s.length → ∀ W, Calls Try.prog 30 #[.string (bs l), .string (bs q), .int .u32 (g : Int), .string (bs t)] W fun e w' => e = .returned (.tuple #[.string (bs (xorL t (ctrS (rks l) q g s.length))), .int .i64 0]) ∧ Ext W w' := fun t ht W => by
    have := Turn_ok l q t g W hl hq (by omega) (by omega) (by omega)
    rw [ht] at this; exact this
  generalize ctrS (rks k) p f s.length = x at *
  generalize ctrS (rks l) q g s.length = y at *
  have hxl : (xorL s x).length = s.length := xorL_length _ _ hsz.symm
  have hyl : (xorL s y).length = s.length := xorL_length _ _ hsy.symm
  have hxy : (xorL (xorL s x) y).length = s.length := by rw [xorL_length _ _ (by omega)]; exact hxl
  have g1 := T1 s rfl
  have g2 := T2 (xorL s x) hxl
  have g3 := T2 s rfl
  have g4 := T1 (xorL s y) hyl
  have g5 := T1 (xorL (xorL s x) y) hxy
  rw [xorL_swap s y x] at g4
  rw [xorL_swap s x y, xorL_back _ _ (by omega), ← xorL_swap s x y] at g5
  clear T1 T2 hxl hyl hxy hsz hsy hk hl hp hq
  generalize xorL (xorL s x) y = z at *
  generalize xorL s x = u at *
  generalize xorL s y = v at *
  have G1 := Lib.hid g1; have G2 := Lib.hid g2; have G3 := Lib.hid g3; have G4 := Lib.hid g4; have G5 := Lib.hid g5
  clear g1 g2 g3 g4 g5
  have HQ := Lib.hid (Ext.refl w)
  go_enter Try.func10, Try.ntmps10
  go_wp2_with (first
    | (go_at_call 27; with_reducible refine (GK.out _).mono ?_; rintro e w1 ⟨rfl, hx1⟩; have hq := HQ.out.trans hx1; clear HQ hx1; have HQ := Lib.hid hq; clear hq)
    | (go_at_call 27; with_reducible refine (GL.out _).mono ?_; rintro e w1 ⟨rfl, hx1⟩; have hq := HQ.out.trans hx1; clear HQ hx1; have HQ := Lib.hid hq; clear hq)
    | (go_at_call 27; with_reducible refine (GP.out _).mono ?_; rintro e w1 ⟨rfl, hx1⟩; have hq := HQ.out.trans hx1; clear HQ hx1; have HQ := Lib.hid hq; clear hq)
    | (go_at_call 27; with_reducible refine (GQ.out _).mono ?_; rintro e w1 ⟨rfl, hx1⟩; have hq := HQ.out.trans hx1; clear HQ hx1; have HQ := Lib.hid hq; clear hq)
    | (go_at_call 30; with_reducible refine (G1.out _).mono ?_; rintro e w1 ⟨rfl, hx1⟩; have hq := HQ.out.trans hx1; clear HQ hx1; have HQ := Lib.hid hq; clear hq)
    | (go_at_call 30; with_reducible refine (G2.out _).mono ?_; rintro e w1 ⟨rfl, hx1⟩; have hq := HQ.out.trans hx1; clear HQ hx1; have HQ := Lib.hid hq; clear hq)
    | (go_at_call 30; with_reducible refine (G3.out _).mono ?_; rintro e w1 ⟨rfl, hx1⟩; have hq := HQ.out.trans hx1; clear HQ hx1; have HQ := Lib.hid hq; clear hq)
    | (go_at_call 30; with_reducible refine (G4.out _).mono ?_; rintro e w1 ⟨rfl, hx1⟩; have hq := HQ.out.trans hx1; clear HQ hx1; have HQ := Lib.hid hq; clear hq)
    | (go_at_call 30; with_reducible refine (G5.out _).mono ?_; rintro e w1 ⟨rfl, hx1⟩; have hq := HQ.out.trans hx1; clear HQ hx1; have HQ := Lib.hid hq; clear hq)
    | (go_at_call 26; with_reducible refine (G0.out _).mono ?_; rintro e w1 ⟨rfl, hx1⟩; have hq := HQ.out.trans hx1; clear HQ hx1; have HQ := Lib.hid hq; clear hq))
  go_returns
  exact ⟨rfl, HQ.out⟩
set_option maxRecDepth 100000 in
theorem law_CtrTwo (w : World) (a b m n : List UInt8) (fr fo : UInt32) (s : List UInt8) (ha : a.length ≤ 140737488351232) (hb : b.length ≤ 140737488351232) (hm : m.length ≤ 140737488351232) (hn : n.length ≤ 140737488351232) (_hs : s.length ≤ 140737488351232) :
    Calls Try.prog 10 #[.string (bs a), .string (bs b), .string (bs m), .string (bs n), .int .u32 (fr.toNat : Int), .int .u32 (fo.toNat : Int), .string (bs s)] w fun e w' => e = .returned (.bool true) ∧ Ext w w' := by
  have G0 := Lib.hid works05
  by_cases h1 : 1024 < a.length + b.length + m.length + n.length
  · have i1 : (1024 : Int) < (a.length : Int) + (b.length : Int) + (m.length : Int) + (n.length : Int) := by omega
    clear h1
    go_enter Try.func10, Try.ntmps10
    go_wp2_with (go_at_call 26; with_reducible refine (G0.out _).mono ?_; rintro e w1 ⟨rfl, hx1⟩)
    go_returns
    exact ⟨rfl, hx1⟩
  have i1 : ¬ (1024 : Int) < (a.length : Int) + (b.length : Int) + (m.length : Int) + (n.length : Int) := by omega
  by_cases h2 : 2048 < s.length
  · have i2 : (2048 : Int) < (s.length : Int) := by omega
    clear h1 h2
    go_enter Try.func10, Try.ntmps10
    go_wp2_with (go_at_call 26; with_reducible refine (G0.out _).mono ?_; rintro e w1 ⟨rfl, hx1⟩)
    go_returns
    exact ⟨rfl, hx1⟩
  have i2 : ¬ (2048 : Int) < (s.length : Int) := by omega
  by_cases h3 : 4294966796 < fr.toNat
  · have i3 : (4294966796 : Int) < (fr.toNat : Int) := by omega
    clear h1 h2 h3
    go_enter Try.func10, Try.ntmps10
    go_wp2_with (go_at_call 26; with_reducible refine (G0.out _).mono ?_; rintro e w1 ⟨rfl, hx1⟩)
    go_returns
    exact ⟨rfl, hx1⟩
  have i3 : ¬ (4294966796 : Int) < (fr.toNat : Int) := by omega
  by_cases h4 : 4294966796 < fo.toNat
  · have i4 : (4294966796 : Int) < (fo.toNat : Int) := by omega
    clear h1 h2 h3 h4
    go_enter Try.func10, Try.ntmps10
    go_wp2_with (go_at_call 26; with_reducible refine (G0.out _).mono ?_; rintro e w1 ⟨rfl, hx1⟩)
    go_returns
    exact ⟨rfl, hx1⟩
  have i4 : ¬ (4294966796 : Int) < (fo.toNat : Int) := by omega
  exact two05 w a b m n fr fo s ha hb hm hn (by omega) (by omega) (by omega) (by omega)
set_option maxRecDepth 100000 in
set_option maxHeartbeats 1000000 in
theorem ends_yl (w : World) (left asked : UInt8) (h : asked.toNat % 24 ≤ left.toNat % 20 + 1) :
    Calls Try.prog 9 #[.int .u8 (left.toNat : Int), .int .u8 (asked.toNat : Int), .bool true] w fun e w' => e = .returned (.bool true) ∧ Ext w w' := by
  have G0 := Lib.hid works05
  have hk : (padTo 16 [107]).length = 16 := padTo_length 16 [107]
  have hn : (padTo 12 [110]).length = 12 := padTo_length 12 [110]
  have GK : Hid (∀ W, Calls Try.prog 27 #[.string { data := #[107] }, .int .i64 16] W fun e w' => e = .returned (.string (bs (padTo 16 [107]))) ∧ Ext W w') := Lib.hid fun W => full05 [107] 16 W (by simp) (by omega)
  have GN : Hid (∀ W, Calls Try.prog 27 #[.string { data := #[110] }, .int .i64 12] W fun e w' => e = .returned (.string (bs (padTo 12 [110]))) ∧ Ext W w') := Lib.hid fun W => full05 [110] 12 W (by simp) (by omega)
  generalize padTo 16 [107] = k at *
  generalize padTo 12 [110] = n at *
  have hll := left.toNat_lt
  have hal := asked.toNat_lt
  generalize left.toNat = a at *
  generalize asked.toNat = b at *
  obtain ⟨r, hr⟩ : ∃ r : Nat, (a : Int) % 20 = (r : Int) := ⟨a % 20, by omega⟩
  obtain ⟨v, hv⟩ : ∃ v : Nat, (b : Int) % 24 = (v : Int) := ⟨b % 24, by omega⟩
  obtain ⟨f, hf⟩ : ∃ f : Nat, (4294967295 : Int) - (r : Int) = (f : Int) := ⟨4294967295 - r, by omega⟩
  have hr2 : (a : Int).tmod 20 = (r : Int) := by rw [Int.tmod_eq_emod_of_nonneg (by omega)]; exact hr
  have hv2 : (b : Int).tmod 24 = (v : Int) := by rw [Int.tmod_eq_emod_of_nonneg (by omega)]; exact hv
  have h' : (v : Int) ≤ (r : Int) + 1 := by omega
  have hfl : (f : Int) < 4294967296 := by omega
  have hf0 : f < 4294967296 := by omega
  have hvl : v < 24 := by omega
  have hrl : r < 20 := by omega
  have hd : decide ((v : Int) ≤ (r : Int) + 1) = true := by simpa using h'
  clear h'
  obtain ⟨s, hs, g1⟩ : ∃ s : List UInt8, (s.length : Int) = 16 * (v : Int) ∧ ∀ W, Calls Try.prog 28 #[.string (bs k), .string (bs n), .int .u32 (f : Int), .int .i64 (16 * (v : Int))] W fun e w' => e = .returned (.tuple #[.string (bs s), .int .i64 0]) ∧ Ext W w' :=
    ⟨ctrS (rks k) n f (16 * v), by rw [ctrS_length _ _ _ _ (rks_length k) hn]; omega, fun W => Stream_ok k n f (16 * v) W hk hn (by omega) hf0 (by omega)⟩
  obtain ⟨t, ht, g2⟩ : ∃ t : List UInt8, (t.length : Int) = 1048576 ∧ ∀ W, Calls Try.prog 28 #[.string (bs k), .string (bs n), .int .u32 0, .int .i64 1048576] W fun e w' => e = .returned (.tuple #[.string (bs t), .int .i64 0]) ∧ Ext W w' :=
    ⟨ctrS (rks k) n 0 1048576, by rw [ctrS_length _ _ _ _ (rks_length k) hn]; rfl, fun W => Stream_ok k n 0 1048576 W hk hn (by omega) (by omega) (by omega)⟩
  have G2 := Lib.hid g2
  clear g2
  have G3 : Hid (∀ W, Calls Try.prog 28 #[.string (bs k), .string (bs n), .int .u32 0, .int .i64 1048577] W fun e w' => e = .returned (.tuple #[.string (bs []), .int .i64 5]) ∧ Ext W w') := Lib.hid fun W => Stream_max k n 0 1048577 W hk hn (by omega)
  have G1 := Lib.hid g1
  clear g1 hk hn h hf0
  have HQ := Lib.hid (Ext.refl w)
  go_enter Try.func9, Try.ntmps9
  go_wp2_with (first
    | (go_at_call 27; with_reducible refine (GK.out _).mono ?_; rintro e w1 ⟨rfl, hx1⟩; have hq := HQ.out.trans hx1; clear HQ hx1; have HQ := Lib.hid hq; clear hq)
    | (go_at_call 27; with_reducible refine (GN.out _).mono ?_; rintro e w1 ⟨rfl, hx1⟩; have hq := HQ.out.trans hx1; clear HQ hx1; have HQ := Lib.hid hq; clear hq)
    | (go_at_call 28; with_reducible refine (G1.out _).mono ?_; rintro e w1 ⟨rfl, hx1⟩; have hq := HQ.out.trans hx1; clear HQ hx1; have HQ := Lib.hid hq; clear hq)
    | (go_at_call 28; with_reducible refine (G2.out _).mono ?_; rintro e w1 ⟨rfl, hx1⟩; have hq := HQ.out.trans hx1; clear HQ hx1; have HQ := Lib.hid hq; clear hq)
    | (go_at_call 28; with_reducible refine (G3.out _).mono ?_; rintro e w1 ⟨rfl, hx1⟩; have hq := HQ.out.trans hx1; clear HQ hx1; have HQ := Lib.hid hq; clear hq)
    | (go_at_call 26; with_reducible refine (G0.out _).mono ?_; rintro e w1 ⟨rfl, hx1⟩; have hq := HQ.out.trans hx1; clear HQ hx1; have HQ := Lib.hid hq; clear hq))
  go_returns
  exact ⟨rfl, HQ.out⟩
set_option maxRecDepth 100000 in
set_option maxHeartbeats 1000000 in
theorem ends_ys (w : World) (left asked : UInt8) (h : asked.toNat % 24 ≤ left.toNat % 20 + 1) :
    Calls Try.prog 9 #[.int .u8 (left.toNat : Int), .int .u8 (asked.toNat : Int), .bool false] w fun e w' => e = .returned (.bool true) ∧ Ext w w' := by
  have G0 := Lib.hid works05
  have hk : (padTo 16 [107]).length = 16 := padTo_length 16 [107]
  have hn : (padTo 12 [110]).length = 12 := padTo_length 12 [110]
  have GK : Hid (∀ W, Calls Try.prog 27 #[.string { data := #[107] }, .int .i64 16] W fun e w' => e = .returned (.string (bs (padTo 16 [107]))) ∧ Ext W w') := Lib.hid fun W => full05 [107] 16 W (by simp) (by omega)
  have GN : Hid (∀ W, Calls Try.prog 27 #[.string { data := #[110] }, .int .i64 12] W fun e w' => e = .returned (.string (bs (padTo 12 [110]))) ∧ Ext W w') := Lib.hid fun W => full05 [110] 12 W (by simp) (by omega)
  generalize padTo 16 [107] = k at *
  generalize padTo 12 [110] = n at *
  have hll := left.toNat_lt
  have hal := asked.toNat_lt
  generalize left.toNat = a at *
  generalize asked.toNat = b at *
  obtain ⟨r, hr⟩ : ∃ r : Nat, (a : Int) % 20 = (r : Int) := ⟨a % 20, by omega⟩
  obtain ⟨v, hv⟩ : ∃ v : Nat, (b : Int) % 24 = (v : Int) := ⟨b % 24, by omega⟩
  obtain ⟨f, hf⟩ : ∃ f : Nat, (4294967295 : Int) - (r : Int) = (f : Int) := ⟨4294967295 - r, by omega⟩
  have hr2 : (a : Int).tmod 20 = (r : Int) := by rw [Int.tmod_eq_emod_of_nonneg (by omega)]; exact hr
  have hv2 : (b : Int).tmod 24 = (v : Int) := by rw [Int.tmod_eq_emod_of_nonneg (by omega)]; exact hv
  have h' : (v : Int) ≤ (r : Int) + 1 := by omega
  have hfl : (f : Int) < 4294967296 := by omega
  have hf0 : f < 4294967296 := by omega
  have hvl : v < 24 := by omega
  have hrl : r < 20 := by omega
  have hd : decide ((v : Int) ≤ (r : Int) + 1) = true := by simpa using h'
  clear h'
  obtain ⟨s, hs, g1⟩ : ∃ s : List UInt8, (s.length : Int) = 16 * (v : Int) ∧ ∀ W, Calls Try.prog 28 #[.string (bs k), .string (bs n), .int .u32 (f : Int), .int .i64 (16 * (v : Int))] W fun e w' => e = .returned (.tuple #[.string (bs s), .int .i64 0]) ∧ Ext W w' :=
    ⟨ctrS (rks k) n f (16 * v), by rw [ctrS_length _ _ _ _ (rks_length k) hn]; omega, fun W => Stream_ok k n f (16 * v) W hk hn (by omega) hf0 (by omega)⟩
  have G3 : Hid (∀ W, Calls Try.prog 28 #[.string (bs k), .string (bs n), .int .u32 0, .int .i64 1048577] W fun e w' => e = .returned (.tuple #[.string (bs []), .int .i64 5]) ∧ Ext W w') := Lib.hid fun W => Stream_max k n 0 1048577 W hk hn (by omega)
  have G1 := Lib.hid g1
  clear g1 hk hn h hf0
  have HQ := Lib.hid (Ext.refl w)
  go_enter Try.func9, Try.ntmps9
  go_wp2_with (first
    | (go_at_call 27; with_reducible refine (GK.out _).mono ?_; rintro e w1 ⟨rfl, hx1⟩; have hq := HQ.out.trans hx1; clear HQ hx1; have HQ := Lib.hid hq; clear hq)
    | (go_at_call 27; with_reducible refine (GN.out _).mono ?_; rintro e w1 ⟨rfl, hx1⟩; have hq := HQ.out.trans hx1; clear HQ hx1; have HQ := Lib.hid hq; clear hq)
    | (go_at_call 28; with_reducible refine (G1.out _).mono ?_; rintro e w1 ⟨rfl, hx1⟩; have hq := HQ.out.trans hx1; clear HQ hx1; have HQ := Lib.hid hq; clear hq)
    | (go_at_call 28; with_reducible refine (G3.out _).mono ?_; rintro e w1 ⟨rfl, hx1⟩; have hq := HQ.out.trans hx1; clear HQ hx1; have HQ := Lib.hid hq; clear hq)
    | (go_at_call 26; with_reducible refine (G0.out _).mono ?_; rintro e w1 ⟨rfl, hx1⟩; have hq := HQ.out.trans hx1; clear HQ hx1; have HQ := Lib.hid hq; clear hq))
  go_returns
  exact ⟨rfl, HQ.out⟩
set_option maxRecDepth 100000 in
set_option maxHeartbeats 1000000 in
theorem ends_nl (w : World) (left asked : UInt8) (h : left.toNat % 20 + 1 < asked.toNat % 24) :
    Calls Try.prog 9 #[.int .u8 (left.toNat : Int), .int .u8 (asked.toNat : Int), .bool true] w fun e w' => e = .returned (.bool true) ∧ Ext w w' := by
  have G0 := Lib.hid works05
  have hk : (padTo 16 [107]).length = 16 := padTo_length 16 [107]
  have hn : (padTo 12 [110]).length = 12 := padTo_length 12 [110]
  have GK : Hid (∀ W, Calls Try.prog 27 #[.string { data := #[107] }, .int .i64 16] W fun e w' => e = .returned (.string (bs (padTo 16 [107]))) ∧ Ext W w') := Lib.hid fun W => full05 [107] 16 W (by simp) (by omega)
  have GN : Hid (∀ W, Calls Try.prog 27 #[.string { data := #[110] }, .int .i64 12] W fun e w' => e = .returned (.string (bs (padTo 12 [110]))) ∧ Ext W w') := Lib.hid fun W => full05 [110] 12 W (by simp) (by omega)
  generalize padTo 16 [107] = k at *
  generalize padTo 12 [110] = n at *
  have hll := left.toNat_lt
  have hal := asked.toNat_lt
  generalize left.toNat = a at *
  generalize asked.toNat = b at *
  obtain ⟨r, hr⟩ : ∃ r : Nat, (a : Int) % 20 = (r : Int) := ⟨a % 20, by omega⟩
  obtain ⟨v, hv⟩ : ∃ v : Nat, (b : Int) % 24 = (v : Int) := ⟨b % 24, by omega⟩
  obtain ⟨f, hf⟩ : ∃ f : Nat, (4294967295 : Int) - (r : Int) = (f : Int) := ⟨4294967295 - r, by omega⟩
  have hr2 : (a : Int).tmod 20 = (r : Int) := by rw [Int.tmod_eq_emod_of_nonneg (by omega)]; exact hr
  have hv2 : (b : Int).tmod 24 = (v : Int) := by rw [Int.tmod_eq_emod_of_nonneg (by omega)]; exact hv
  have h' : ¬ (v : Int) ≤ (r : Int) + 1 := by omega
  have hfl : (f : Int) < 4294967296 := by omega
  have hf0 : f < 4294967296 := by omega
  have hvl : v < 24 := by omega
  have hrl : r < 20 := by omega
  have hd : decide ((v : Int) ≤ (r : Int) + 1) = false := by simpa using h'
  clear h'
  have g1 : ∀ W, Calls Try.prog 28 #[.string (bs k), .string (bs n), .int .u32 (f : Int), .int .i64 (16 * (v : Int))] W fun e w' => e = .returned (.tuple #[.string (bs []), .int .i64 5]) ∧ Ext W w' :=
    fun W => Stream_end k n f (16 * v) W hk hn (by omega) hf0 (by omega)
  obtain ⟨t, ht, g2⟩ : ∃ t : List UInt8, (t.length : Int) = 1048576 ∧ ∀ W, Calls Try.prog 28 #[.string (bs k), .string (bs n), .int .u32 0, .int .i64 1048576] W fun e w' => e = .returned (.tuple #[.string (bs t), .int .i64 0]) ∧ Ext W w' :=
    ⟨ctrS (rks k) n 0 1048576, by rw [ctrS_length _ _ _ _ (rks_length k) hn]; rfl, fun W => Stream_ok k n 0 1048576 W hk hn (by omega) (by omega) (by omega)⟩
  have G2 := Lib.hid g2
  clear g2
  have G3 : Hid (∀ W, Calls Try.prog 28 #[.string (bs k), .string (bs n), .int .u32 0, .int .i64 1048577] W fun e w' => e = .returned (.tuple #[.string (bs []), .int .i64 5]) ∧ Ext W w') := Lib.hid fun W => Stream_max k n 0 1048577 W hk hn (by omega)
  have G1 := Lib.hid g1
  clear g1 hk hn h hf0
  have HQ := Lib.hid (Ext.refl w)
  go_enter Try.func9, Try.ntmps9
  go_wp2_with (first
    | (go_at_call 27; with_reducible refine (GK.out _).mono ?_; rintro e w1 ⟨rfl, hx1⟩; have hq := HQ.out.trans hx1; clear HQ hx1; have HQ := Lib.hid hq; clear hq)
    | (go_at_call 27; with_reducible refine (GN.out _).mono ?_; rintro e w1 ⟨rfl, hx1⟩; have hq := HQ.out.trans hx1; clear HQ hx1; have HQ := Lib.hid hq; clear hq)
    | (go_at_call 28; with_reducible refine (G1.out _).mono ?_; rintro e w1 ⟨rfl, hx1⟩; have hq := HQ.out.trans hx1; clear HQ hx1; have HQ := Lib.hid hq; clear hq)
    | (go_at_call 28; with_reducible refine (G2.out _).mono ?_; rintro e w1 ⟨rfl, hx1⟩; have hq := HQ.out.trans hx1; clear HQ hx1; have HQ := Lib.hid hq; clear hq)
    | (go_at_call 28; with_reducible refine (G3.out _).mono ?_; rintro e w1 ⟨rfl, hx1⟩; have hq := HQ.out.trans hx1; clear HQ hx1; have HQ := Lib.hid hq; clear hq)
    | (go_at_call 26; with_reducible refine (G0.out _).mono ?_; rintro e w1 ⟨rfl, hx1⟩; have hq := HQ.out.trans hx1; clear HQ hx1; have HQ := Lib.hid hq; clear hq))
  go_returns
  exact ⟨rfl, HQ.out⟩
set_option maxRecDepth 100000 in
set_option maxHeartbeats 1000000 in
theorem ends_ns (w : World) (left asked : UInt8) (h : left.toNat % 20 + 1 < asked.toNat % 24) :
    Calls Try.prog 9 #[.int .u8 (left.toNat : Int), .int .u8 (asked.toNat : Int), .bool false] w fun e w' => e = .returned (.bool true) ∧ Ext w w' := by
  have G0 := Lib.hid works05
  have hk : (padTo 16 [107]).length = 16 := padTo_length 16 [107]
  have hn : (padTo 12 [110]).length = 12 := padTo_length 12 [110]
  have GK : Hid (∀ W, Calls Try.prog 27 #[.string { data := #[107] }, .int .i64 16] W fun e w' => e = .returned (.string (bs (padTo 16 [107]))) ∧ Ext W w') := Lib.hid fun W => full05 [107] 16 W (by simp) (by omega)
  have GN : Hid (∀ W, Calls Try.prog 27 #[.string { data := #[110] }, .int .i64 12] W fun e w' => e = .returned (.string (bs (padTo 12 [110]))) ∧ Ext W w') := Lib.hid fun W => full05 [110] 12 W (by simp) (by omega)
  generalize padTo 16 [107] = k at *
  generalize padTo 12 [110] = n at *
  have hll := left.toNat_lt
  have hal := asked.toNat_lt
  generalize left.toNat = a at *
  generalize asked.toNat = b at *
  obtain ⟨r, hr⟩ : ∃ r : Nat, (a : Int) % 20 = (r : Int) := ⟨a % 20, by omega⟩
  obtain ⟨v, hv⟩ : ∃ v : Nat, (b : Int) % 24 = (v : Int) := ⟨b % 24, by omega⟩
  obtain ⟨f, hf⟩ : ∃ f : Nat, (4294967295 : Int) - (r : Int) = (f : Int) := ⟨4294967295 - r, by omega⟩
  have hr2 : (a : Int).tmod 20 = (r : Int) := by rw [Int.tmod_eq_emod_of_nonneg (by omega)]; exact hr
  have hv2 : (b : Int).tmod 24 = (v : Int) := by rw [Int.tmod_eq_emod_of_nonneg (by omega)]; exact hv
  have h' : ¬ (v : Int) ≤ (r : Int) + 1 := by omega
  have hfl : (f : Int) < 4294967296 := by omega
  have hf0 : f < 4294967296 := by omega
  have hvl : v < 24 := by omega
  have hrl : r < 20 := by omega
  have hd : decide ((v : Int) ≤ (r : Int) + 1) = false := by simpa using h'
  clear h'
  have g1 : ∀ W, Calls Try.prog 28 #[.string (bs k), .string (bs n), .int .u32 (f : Int), .int .i64 (16 * (v : Int))] W fun e w' => e = .returned (.tuple #[.string (bs []), .int .i64 5]) ∧ Ext W w' :=
    fun W => Stream_end k n f (16 * v) W hk hn (by omega) hf0 (by omega)
  have G3 : Hid (∀ W, Calls Try.prog 28 #[.string (bs k), .string (bs n), .int .u32 0, .int .i64 1048577] W fun e w' => e = .returned (.tuple #[.string (bs []), .int .i64 5]) ∧ Ext W w') := Lib.hid fun W => Stream_max k n 0 1048577 W hk hn (by omega)
  have G1 := Lib.hid g1
  clear g1 hk hn h hf0
  have HQ := Lib.hid (Ext.refl w)
  go_enter Try.func9, Try.ntmps9
  go_wp2_with (first
    | (go_at_call 27; with_reducible refine (GK.out _).mono ?_; rintro e w1 ⟨rfl, hx1⟩; have hq := HQ.out.trans hx1; clear HQ hx1; have HQ := Lib.hid hq; clear hq)
    | (go_at_call 27; with_reducible refine (GN.out _).mono ?_; rintro e w1 ⟨rfl, hx1⟩; have hq := HQ.out.trans hx1; clear HQ hx1; have HQ := Lib.hid hq; clear hq)
    | (go_at_call 28; with_reducible refine (G1.out _).mono ?_; rintro e w1 ⟨rfl, hx1⟩; have hq := HQ.out.trans hx1; clear HQ hx1; have HQ := Lib.hid hq; clear hq)
    | (go_at_call 28; with_reducible refine (G3.out _).mono ?_; rintro e w1 ⟨rfl, hx1⟩; have hq := HQ.out.trans hx1; clear HQ hx1; have HQ := Lib.hid hq; clear hq)
    | (go_at_call 26; with_reducible refine (G0.out _).mono ?_; rintro e w1 ⟨rfl, hx1⟩; have hq := HQ.out.trans hx1; clear HQ hx1; have HQ := Lib.hid hq; clear hq))
  go_returns
  exact ⟨rfl, HQ.out⟩
theorem law_CtrEnds (w : World) (left asked : UInt8) (long_ : Bool) :
    Calls Try.prog 9 #[.int .u8 (left.toNat : Int), .int .u8 (asked.toNat : Int), .bool long_] w fun e w' => e = .returned (.bool true) ∧ Ext w w' := by
  by_cases h : asked.toNat % 24 ≤ left.toNat % 20 + 1
  · cases long_
    · exact ends_ys w left asked h
    · exact ends_yl w left asked h
  · cases long_
    · exact ends_ns w left asked (by omega)
    · exact ends_nl w left asked (by omega)
end Go.Proofs.Ytgncnplgjhaojaa
