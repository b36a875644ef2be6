/- The statements of layer 5: the walk of CtrTells. -/
import Derived.Test.YtgncnplgjhaojaaRefCtr
namespace Go.Proofs.Ytgncnplgjhaojaa
open Go Go.RowKit

/-- What a stream is, or why it is none. -/
def strR (key nonce : List UInt8) (f : Nat) (n : Int) : List UInt8 × Int :=
  if key.length ≠ 16 ∨ nonce.length ≠ 12 ∨ n < 0 then ([], 2)
  else if 1048576 < n ∨ 4294967296 < f + (n.toNat + 15) / 16 then ([], 5)
  else (ctrS (rks key) nonce f n.toNat, 0)
/-- What a text becomes. -/
def turnR (key nonce : List UInt8) (f : Nat) (s : List UInt8) : List UInt8 × Int :=
  if (strR key nonce f s.length).2 = 0 then (xorL s (strR key nonce f s.length).1, 0) else ([], (strR key nonce f s.length).2)
theorem Stream_all (key nonce : List UInt8) (f : Nat) (n : Int) (w : World) (hkl : key.length ≤ 140737488351232) (hnl : nonce.length ≤ 140737488351232) (hf : f < 4294967296) :
    Calls Try.prog 28 #[.string (bs key), .string (bs nonce), .int .u32 (f : Int), .int .i64 n] w fun e w' => e = .returned (.tuple #[.string (bs (strR key nonce f n).1), .int .i64 (strR key nonce f n).2]) ∧ Ext w w' := by
  unfold strR
  by_cases hk : key.length = 16
  · by_cases h : nonce.length ≠ 12 ∨ n < 0
    · rw [if_pos (Or.inr h)]
      exact Stream_arg key nonce f n w hk h hnl
    · rw [if_neg (by omega)]
      have hn : nonce.length = 12 := by omega
      obtain ⟨m, rfl⟩ : ∃ m : Nat, n = m := ⟨n.toNat, by omega⟩
      rw [show (m : Int).toNat = m from rfl]
      by_cases h1 : (1048576 : Int) < (m : Int)
      · rw [if_pos (Or.inl h1)]
        exact Stream_max key nonce f m w hk hn h1
      · by_cases h2 : 4294967296 < f + (m + 15) / 16
        · rw [if_pos (Or.inr h2)]
          exact Stream_end key nonce f m w hk hn (by omega) hf h2
        · rw [if_neg (by omega)]
          exact Stream_ok key nonce f m w hk hn (by omega) hf (by omega)
  · rw [if_pos (Or.inl hk)]
    exact Stream_key key nonce f n w hk hkl
theorem refStream_all (key nonce : List UInt8) (f : Nat) (n : Int) (w : World) (hf : f < 4294967296) (hn63 : n ≤ 9223372036854775807) :
    Calls Try.prog 29 #[.string (bs key), .string (bs nonce), .int .u32 (f : Int), .int .i64 n] w fun e w' => e = .returned (.tuple #[.string (bs (strR key nonce f n).1), .int .i64 (strR key nonce f n).2]) ∧ Ext w w' := by
  unfold strR
  by_cases h : key.length ≠ 16 ∨ nonce.length ≠ 12 ∨ n < 0
  · rw [if_pos h]
    exact refStream_arg key nonce f n w h
  · rw [if_neg h]
    have hk : key.length = 16 := by omega
    have hn : nonce.length = 12 := by omega
    obtain ⟨m, rfl⟩ : ∃ m : Nat, n = m := ⟨n.toNat, by omega⟩
    rw [show (m : Int).toNat = m from rfl]
    by_cases h1 : (1048576 : Int) < (m : Int) ∨ 4294967296 < f + (m + 15) / 16
    · rw [if_pos h1]
      exact refStream_long key nonce f m w hk hn (by omega) hf (by omega)
    · rw [if_neg h1]
      exact refStream_ok key nonce f m w hk hn (by omega) hf (by omega)
theorem strR_len (key nonce : List UInt8) (f n : Nat) (h : (strR key nonce f n).2 = 0) : (strR key nonce f n).1.length = n := by
  unfold strR at h ⊢
  by_cases h1 : key.length ≠ 16 ∨ nonce.length ≠ 12 ∨ (n : Int) < 0
  · rw [if_pos h1] at h; cases h
  · rw [if_neg h1] at h ⊢
    by_cases h2 : 1048576 < (n : Int) ∨ 4294967296 < f + ((n : Int).toNat + 15) / 16
    · rw [if_pos h2] at h; cases h
    · rw [if_neg h2]
      exact ctrS_length _ _ _ _ (rks_length key) (by omega)
set_option maxRecDepth 100000 in
theorem Turn_all (key nonce s : List UInt8) (f : Nat) (w : World) (hkl : key.length ≤ 140737488351232) (hnl : nonce.length ≤ 140737488351232) (hf : f < 4294967296) (hs : s.length ≤ 400) :
    Calls Try.prog 30 #[.string (bs key), .string (bs nonce), .int .u32 (f : Int), .string (bs s)] w fun e w' => e = .returned (.tuple #[.string (bs (turnR key nonce f s).1), .int .i64 (turnR key nonce f s).2]) ∧ Ext w w' := by
  have GS := Lib.hid (fun W => Stream_all key nonce f s.length W hkl hnl hf)
  unfold turnR
  have hlen := strR_len key nonce f s.length
  generalize strR key nonce f s.length = p at *
  obtain ⟨x, r⟩ := p
  by_cases h : r = 0
  · subst h
    rw [if_pos rfl]
    have hxl : x.length = s.length := hlen rfl
    have GX := Lib.hid (fun W => Xor_yes s x W hxl.symm (by omega))
    clear hxl hlen
    go_enter Try.func30, Try.ntmps30
    go_wp2_with (first
      | (go_at_call 28; refine (GS.out _).mono ?_; rintro e w1 ⟨rfl, hx1⟩)
      | (go_at_call 46; refine (GX.out _).mono ?_; rintro e w2 ⟨rfl, hx2⟩))
    go_returns
    exact ⟨rfl, hx1.trans hx2⟩
  · rw [if_neg h]
    have hr' : (r != 0) = true := by simpa using h
    clear h hlen
    go_enter Try.func30, Try.ntmps30
    go_wp2_with (go_at_call 28; refine (GS.out _).mono ?_; rintro e w1 ⟨rfl, hx1⟩)
    go_returns
    exact ⟨rfl, hx1⟩
set_option maxRecDepth 100000 in
theorem refTurn_all (key nonce s : List UInt8) (f : Nat) (w : World) (hf : f < 4294967296) (hs : s.length ≤ 400) :
    Calls Try.prog 31 #[.string (bs key), .string (bs nonce), .int .u32 (f : Int), .string (bs s)] w fun e w' => e = .returned (.tuple #[.string (bs (turnR key nonce f s).1), .int .i64 (turnR key nonce f s).2]) ∧ Ext w w' := by
  have GS := Lib.hid (fun W => refStream_all key nonce f s.length W hf (by omega))
  unfold turnR
  have hlen := strR_len key nonce f s.length
  generalize strR key nonce f s.length = p at *
  obtain ⟨x, r⟩ := p
  by_cases h : r = 0
  · subst h
    rw [if_pos rfl]
    have hxl : x.length = s.length := hlen rfl
    have GX := Lib.hid (fun W => RefXor_any s x W hxl.symm (by omega))
    clear hxl hlen
    go_enter Try.func31, Try.ntmps31
    go_wp2_with (first
      | (go_at_call 29; refine (GS.out _).mono ?_; rintro e w1 ⟨rfl, hx1⟩)
      | (go_at_call 47; refine (GX.out _).mono ?_; rintro e w2 ⟨rfl, hx2⟩))
    go_returns
    exact ⟨rfl, hx1.trans hx2⟩
  · rw [if_neg h]
    have hr' : (r != 0) = true := by simpa using h
    clear h hlen
    go_enter Try.func31, Try.ntmps31
    go_wp2_with (go_at_call 29; refine (GS.out _).mono ?_; rintro e w1 ⟨rfl, hx1⟩)
    go_returns
    exact ⟨rfl, hx1⟩
set_option maxRecDepth 100000 in
set_option maxHeartbeats 2000000 in
theorem tells_fit (w : World) (key nonce : List UInt8) (fr : UInt32) (s : List UInt8) (n : Int) (hkl : key.length ≤ 140737488351232) (hnl : nonce.length ≤ 140737488351232) (hn63 : n ≤ 9223372036854775807) (h1 : key.length + nonce.length ≤ 1024) (h2 : s.length ≤ 400) (h3 : n ≤ 400 ∨ 1048576 < n) :
    Calls Try.prog 7 #[.string (bs key), .string (bs nonce), .bool true, .int .u32 (fr.toNat : Int), .string (bs s), .int .i64 n] w fun e w' => e = .returned (.bool true) ∧ Ext w w' := by
  have G0 := Lib.hid works05
  have i1 : ¬ (1024 : Int) < (key.length : Int) + (nonce.length : Int) := by omega
  have i2 : ¬ (400 : Int) < (s.length : Int) := by omega
  have hf := fr.toNat_lt
  have hkk : (padTo 16 key).length = 16 := padTo_length 16 key
  have hnn : (padTo 12 nonce).length = 12 := padTo_length 12 nonce
  have GK : Hid (∀ W, Calls Try.prog 27 #[.string (bs key), .int .i64 16] W fun e w' => e = .returned (.string (bs (padTo 16 key))) ∧ Ext W w') := Lib.hid fun W => full05 key 16 W hkl (by omega)
  have GN : Hid (∀ W, Calls Try.prog 27 #[.string (bs nonce), .int .i64 12] W fun e w' => e = .returned (.string (bs (padTo 12 nonce))) ∧ Ext W w') := Lib.hid fun W => full05 nonce 12 W hnl (by omega)
  generalize padTo 16 key = k at *
  generalize padTo 12 nonce = m at *
  have hkl' : k.length ≤ 140737488351232 := by omega
  have hnl' : m.length ≤ 140737488351232 := by omega
  have g1 := fun W => Stream_all k m fr.toNat n W hkl' hnl' hf
  have g2 := fun W => refStream_all k m fr.toNat n W hf hn63
  have g3 := fun W => Turn_all k m s fr.toNat W hkl' hnl' hf h2
  have g4 := fun W => refTurn_all k m s fr.toNat W hf h2
  generalize fr.toNat = f at *
  generalize strR k m f n = A at *
  generalize turnR k m f s = T at *
  obtain ⟨a, ea⟩ := A
  obtain ⟨t, et⟩ := T
  have G1 := Lib.hid g1; have G2 := Lib.hid g2; have G3 := Lib.hid g3; have G4 := Lib.hid g4
  clear g1 g2 g3 g4 h1 hkl hnl hkl' hnl' hn63 hf h2 hkk hnn
  have HQ := Lib.hid (Ext.refl w)
  by_cases h4 : n ≤ 400
  · have i3 : ¬ (400 : Int) < n := by omega
    clear h3 h4
    go_enter Try.func7, Try.ntmps7
    go_wp2_with (first
      | (go_at_call 27; with_reducible refine (GK.out _).mono ?_; rintro e w1 ⟨rfl, hx1⟩; have hq := HQ.out.trans hx1; clear HQ hx1; have HQ := Lib.hid hq; clear hq)
      | (go_at_call 27; with_reducible refine (GN.out _).mono ?_; rintro e w1 ⟨rfl, hx1⟩; have hq := HQ.out.trans hx1; clear HQ hx1; have HQ := Lib.hid hq; clear hq)
      | (go_at_call 28; with_reducible refine (G1.out _).mono ?_; rintro e w1 ⟨rfl, hx1⟩; have hq := HQ.out.trans hx1; clear HQ hx1; have HQ := Lib.hid hq; clear hq)
      | (go_at_call 29; with_reducible refine (G2.out _).mono ?_; rintro e w1 ⟨rfl, hx1⟩; have hq := HQ.out.trans hx1; clear HQ hx1; have HQ := Lib.hid hq; clear hq)
      | (go_at_call 30; with_reducible refine (G3.out _).mono ?_; rintro e w1 ⟨rfl, hx1⟩; have hq := HQ.out.trans hx1; clear HQ hx1; have HQ := Lib.hid hq; clear hq)
      | (go_at_call 31; with_reducible refine (G4.out _).mono ?_; rintro e w1 ⟨rfl, hx1⟩; have hq := HQ.out.trans hx1; clear HQ hx1; have HQ := Lib.hid hq; clear hq)
      | (go_at_call 26; with_reducible refine (G0.out _).mono ?_; rintro e w1 ⟨rfl, hx1⟩; have hq := HQ.out.trans hx1; clear HQ hx1; have HQ := Lib.hid hq; clear hq))
    go_returns
    exact ⟨rfl, HQ.out⟩
  · have i3 : (400 : Int) < n := by omega
    have i4 : ¬ n ≤ (1048576 : Int) := by omega
    clear h3 h4
    go_enter Try.func7, Try.ntmps7
    go_wp2_with (first
      | (go_at_call 27; with_reducible refine (GK.out _).mono ?_; rintro e w1 ⟨rfl, hx1⟩; have hq := HQ.out.trans hx1; clear HQ hx1; have HQ := Lib.hid hq; clear hq)
      | (go_at_call 27; with_reducible refine (GN.out _).mono ?_; rintro e w1 ⟨rfl, hx1⟩; have hq := HQ.out.trans hx1; clear HQ hx1; have HQ := Lib.hid hq; clear hq)
      | (go_at_call 28; with_reducible refine (G1.out _).mono ?_; rintro e w1 ⟨rfl, hx1⟩; have hq := HQ.out.trans hx1; clear HQ hx1; have HQ := Lib.hid hq; clear hq)
      | (go_at_call 29; with_reducible refine (G2.out _).mono ?_; rintro e w1 ⟨rfl, hx1⟩; have hq := HQ.out.trans hx1; clear HQ hx1; have HQ := Lib.hid hq; clear hq)
      | (go_at_call 30; with_reducible refine (G3.out _).mono ?_; rintro e w1 ⟨rfl, hx1⟩; have hq := HQ.out.trans hx1; clear HQ hx1; have HQ := Lib.hid hq; clear hq)
      | (go_at_call 31; with_reducible refine (G4.out _).mono ?_; rintro e w1 ⟨rfl, hx1⟩; have hq := HQ.out.trans hx1; clear HQ hx1; have HQ := Lib.hid hq; clear hq)
      | (go_at_call 26; with_reducible refine (G0.out _).mono ?_; rintro e w1 ⟨rfl, hx1⟩; have hq := HQ.out.trans hx1; clear HQ hx1; have HQ := Lib.hid hq; clear hq))
    go_returns
    exact ⟨rfl, HQ.out⟩
set_option maxRecDepth 100000 in
set_option maxHeartbeats 2000000 in
theorem tells_raw (w : World) (key nonce : List UInt8) (fr : UInt32) (s : List UInt8) (n : Int) (hkl : key.length ≤ 140737488351232) (hnl : nonce.length ≤ 140737488351232) (hn63 : n ≤ 9223372036854775807) (h1 : key.length + nonce.length ≤ 1024) (h2 : s.length ≤ 400) (h3 : n ≤ 400 ∨ 1048576 < n) :
    Calls Try.prog 7 #[.string (bs key), .string (bs nonce), .bool false, .int .u32 (fr.toNat : Int), .string (bs s), .int .i64 n] w fun e w' => e = .returned (.bool true) ∧ Ext w w' := by
  have G0 := Lib.hid works05
  have i1 : ¬ (1024 : Int) < (key.length : Int) + (nonce.length : Int) := by omega
  have i2 : ¬ (400 : Int) < (s.length : Int) := by omega
  have hf := fr.toNat_lt
  obtain ⟨k, hk⟩ : ∃ k, k = key := ⟨_, rfl⟩
  obtain ⟨m, hm⟩ : ∃ m, m = nonce := ⟨_, rfl⟩
  have hkl' : k.length ≤ 140737488351232 := by rw [hk]; exact hkl
  have hnl' : m.length ≤ 140737488351232 := by rw [hm]; exact hnl
  rw [← hk] at i1 ⊢
  rw [← hm] at i1 ⊢
  clear hk hm
  have g1 := fun W => Stream_all k m fr.toNat n W hkl' hnl' hf
  have g2 := fun W => refStream_all k m fr.toNat n W hf hn63
  have g3 := fun W => Turn_all k m s fr.toNat W hkl' hnl' hf h2
  have g4 := fun W => refTurn_all k m s fr.toNat W hf h2
  generalize fr.toNat = f at *
  generalize strR k m f n = A at *
  generalize turnR k m f s = T at *
  obtain ⟨a, ea⟩ := A
  obtain ⟨t, et⟩ := T
  have G1 := Lib.hid g1; have G2 := Lib.hid g2; have G3 := Lib.hid g3; have G4 := Lib.hid g4
  clear g1 g2 g3 g4 h1 hkl hnl hkl' hnl' hn63 hf h2
  have HQ := Lib.hid (Ext.refl w)
  by_cases h4 : n ≤ 400
  · have i3 : ¬ (400 : Int) < n := by omega
    clear h3 h4
    go_enter Try.func7, Try.ntmps7
    go_wp2_with (first
      | (go_at_call 28; with_reducible refine (G1.out _).mono ?_; rintro e w1 ⟨rfl, hx1⟩; have hq := HQ.out.trans hx1; clear HQ hx1; have HQ := Lib.hid hq; clear hq)
      | (go_at_call 29; with_reducible refine (G2.out _).mono ?_; rintro e w1 ⟨rfl, hx1⟩; have hq := HQ.out.trans hx1; clear HQ hx1; have HQ := Lib.hid hq; clear hq)
      | (go_at_call 30; with_reducible refine (G3.out _).mono ?_; rintro e w1 ⟨rfl, hx1⟩; have hq := HQ.out.trans hx1; clear HQ hx1; have HQ := Lib.hid hq; clear hq)
      | (go_at_call 31; with_reducible refine (G4.out _).mono ?_; rintro e w1 ⟨rfl, hx1⟩; have hq := HQ.out.trans hx1; clear HQ hx1; have HQ := Lib.hid hq; clear hq)
      | (go_at_call 26; with_reducible refine (G0.out _).mono ?_; rintro e w1 ⟨rfl, hx1⟩; have hq := HQ.out.trans hx1; clear HQ hx1; have HQ := Lib.hid hq; clear hq))
    go_returns
    exact ⟨rfl, HQ.out⟩
  · have i3 : (400 : Int) < n := by omega
    have i4 : ¬ n ≤ (1048576 : Int) := by omega
    clear h3 h4
    go_enter Try.func7, Try.ntmps7
    go_wp2_with (first
      | (go_at_call 28; with_reducible refine (G1.out _).mono ?_; rintro e w1 ⟨rfl, hx1⟩; have hq := HQ.out.trans hx1; clear HQ hx1; have HQ := Lib.hid hq; clear hq)
      | (go_at_call 29; with_reducible refine (G2.out _).mono ?_; rintro e w1 ⟨rfl, hx1⟩; have hq := HQ.out.trans hx1; clear HQ hx1; have HQ := Lib.hid hq; clear hq)
      | (go_at_call 30; with_reducible refine (G3.out _).mono ?_; rintro e w1 ⟨rfl, hx1⟩; have hq := HQ.out.trans hx1; clear HQ hx1; have HQ := Lib.hid hq; clear hq)
      | (go_at_call 31; with_reducible refine (G4.out _).mono ?_; rintro e w1 ⟨rfl, hx1⟩; have hq := HQ.out.trans hx1; clear HQ hx1; have HQ := Lib.hid hq; clear hq)
      | (go_at_call 26; with_reducible refine (G0.out _).mono ?_; rintro e w1 ⟨rfl, hx1⟩; have hq := HQ.out.trans hx1; clear HQ hx1; have HQ := Lib.hid hq; clear hq))
    go_returns
    exact ⟨rfl, HQ.out⟩
set_option maxRecDepth 100000 in
theorem law_CtrTells (w : World) (key nonce : List UInt8) (fit : Bool) (fr : UInt32) (s : List UInt8) (n : Int) (hkl : key.length ≤ 140737488351232) (hnl : nonce.length ≤ 140737488351232) (_hsl : s.length ≤ 140737488351232) (hrn : -9223372036854775808 ≤ n ∧ n ≤ 9223372036854775807) :
    Calls Try.prog 7 #[.string (bs key), .string (bs nonce), .bool fit, .int .u32 (fr.toNat : Int), .string (bs s), .int .i64 n] w fun e w' => e = .returned (.bool true) ∧ Ext w w' := by
  have G0 := Lib.hid works05
  by_cases h1 : 1024 < key.length + nonce.length
  · have i1 : (1024 : Int) < (key.length : Int) + (nonce.length : Int) := by omega
    clear h1
    go_enter Try.func7, Try.ntmps7
    go_wp2_with (go_at_call 26; with_reducible refine (G0.out _).mono ?_; rintro e w1 ⟨rfl, hx1⟩)
    go_returns
    exact ⟨rfl, hx1⟩
  have i1 : ¬ (1024 : Int) < (key.length : Int) + (nonce.length : Int) := by omega
  by_cases h2 : 400 < s.length
  · have i2 : (400 : Int) < (s.length : Int) := by omega
    clear h1 h2
    go_enter Try.func7, Try.ntmps7
    go_wp2_with (go_at_call 26; with_reducible refine (G0.out _).mono ?_; rintro e w1 ⟨rfl, hx1⟩)
    go_returns
    exact ⟨rfl, hx1⟩
  have i2 : ¬ (400 : Int) < (s.length : Int) := by omega
  by_cases h3 : 400 < n ∧ n ≤ 1048576
  · have i3 : (400 : Int) < n := h3.1
    have i4 : n ≤ (1048576 : Int) := h3.2
    clear h1 h2 h3
    go_enter Try.func7, Try.ntmps7
    go_wp2_with (go_at_call 26; with_reducible refine (G0.out _).mono ?_; rintro e w1 ⟨rfl, hx1⟩)
    go_returns
    exact ⟨rfl, hx1⟩
  cases fit
  · exact tells_raw w key nonce fr s n hkl hnl hrn.2 (by omega) (by omega) (by omega)
  · exact tells_fit w key nonce fr s n hkl hnl hrn.2 (by omega) (by omega) (by omega)
end Go.Proofs.Ytgncnplgjhaojaa
