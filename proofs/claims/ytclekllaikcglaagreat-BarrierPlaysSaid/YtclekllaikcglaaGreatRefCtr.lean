import Derived.Test.YtclekllaikcglaaGreatRefBlock
import Derived.Test.YtclekllaikcglaaGreatCtr
import Derived.Test.YtclekllaikcglaaGreatHex

/- Contracts: layer 5, the document's Stream and Turn. -/
namespace Go.Proofs.YtclekllaikcglaaGreat
open Go Go.RowKit
set_option maxRecDepth 100000 in
set_option maxHeartbeats 2000000 in
theorem refStream_ok (key nonce : List UInt8) (f n : Nat) (w : World) (hk : key.length = 16) (hn : nonce.length = 12) (h1 : n ≤ 1048576) (h2 : f < 4294967296) (h : f + (n + 15) / 16 ≤ 4294967296) :
  Calls Tryz.prog 121 #[.string (bs key), .string (bs nonce), .int .u32 (f : Int), .int .i64 (n : Int)] w fun e w' => e = .returned (.tuple #[.string (bs (ctrS (rks key) nonce f n)), .int .i64 0]) ∧ Ext w w' := by
 have hk' : ((key.length : Int) != 16) = false := by simp; omega
 have hn' : ((nonce.length : Int) != 12) = false := by simp; omega
 have h0 : ¬ (n : Int) < 0 := by omega
 obtain ⟨m, hm⟩ : ∃ m : Nat, ((n : Int) + 15) / 16 = (m : Int) := ⟨(n + 15) / 16, by omega⟩
 have hmn : (n + 15) / 16 = m := by omega
 have HCS : Hid (ctrS (rks key) nonce f n = (ctrN (rks key) nonce f m).take n) := Lib.hid (by unfold ctrS; rw [hmn])
 rw [hmn] at h
 have htd : ((n : Int) + 15).tdiv 16 = (m : Int) := by rw [Int.tdiv_eq_ediv_of_nonneg (by omega)]; exact hm
 have hwf : IntKind.u64.wrap (f : Int) = (f : Int) := by rw [IntKind.wrap_u64]; omega
 have hw1 : IntKind.u64.wrap (n : Int) = (n : Int) := by rw [IntKind.wrap_u64]; omega
 have hw2 : IntKind.u64.wrap ((n : Int) + 15) = (n : Int) + 15 := by rw [IntKind.wrap_u64]; omega
 have hw3 : IntKind.u64.wrap (m : Int) = (m : Int) := by rw [IntKind.wrap_u64]; omega
 have hw4 : IntKind.u64.wrap ((f : Int) + (m : Int)) = (f : Int) + (m : Int) := by rw [IntKind.wrap_u64]; omega
 have h3 : decide ((1048576 : Int) < (n : Int)) = false := by simp; omega
 have h4 : decide ((4294967296 : Int) < (f : Int) + (m : Int)) = false := by simp; omega
 have GT := Lib.hid Table_any
 have GB := Lib.hid (fun k tb to_ cp W hT => refCipher_any key (nonce ++ putB 4 (f + k)) hk (by rw [List.length_append, putB_length]; omega) tb to_ cp W hT)
 have hKl := rks_length key
 have HNL := Lib.hid hn
 have hmb : n ≤ 16 * m := by omega
 have hm1 : m ≤ 65536 := by omega
 obtain ⟨K, hK⟩ : ∃ K, rks key = K := ⟨_, rfl⟩
 rw [hK] at GB hKl HCS ⊢
 have HKL := Lib.hid hKl
 clear hK hKl hk hn hmn
 go_enter Tryz.func121, Tryz.ntmps121
 go_upto_region 7 with (go_at_call 143; with_reducible refine (GT.out _).mono ?_; rintro e w1 ht; obtain ⟨tb, to_, cp, he, hT, hx1⟩ := table_look ht; subst he; clear ht; have HT := Lib.hid hT; clear hT)
 go_wp2
 go_loopw [12, 13] (fun s i wr => ∃ k : Nat, k ≤ m ∧ s = .string (bs (ctrN K nonce f k)) ∧ i = .int .u64 k ∧ Ext w1 wr) (fun _ i _ => m - (intOf i).toNat)
 case atStart => exact ⟨0, by omega, rfl, rfl, Ext.refl _⟩
 case round =>
  obtain ⟨k, hk, rfl, rfl, hx⟩ := hrel
  by_cases hlk : k < m
  ·have HS : Hid (ctrN K nonce f (k + 1) = ctrN K nonce f k ++ encL K (nonce ++ putB 4 (f + k))) := Lib.hid rfl
   have hcl := ctrN_length K nonce f HKL.out HNL.out k
   have hbl := ctrB_length K nonce f k HKL.out HNL.out
   have hpl := putB_length 4 (f + k)
   have hnl := HNL.out
   rw [show ctrB K nonce f k = encL K (nonce ++ putB 4 (f + k)) from rfl] at hbl
   have GBK := Lib.hid (GB.out k tb to_ cp)
   have gp := fun W => RefPut4_any (f + k) W (by unfold U64; omega)
   have hfk : ((f + k : Nat) : Int) = (f : Int) + (k : Int) := by omega
   rw [hfk] at gp
   have GP := Lib.hid gp
   have hw5 : IntKind.u64.wrap ((f : Int) + (k : Int)) = (f : Int) + (k : Int) := by rw [IntKind.wrap_u64]; omega
   have hw6 : IntKind.u64.wrap ((k : Int) + 1) = (k : Int) + 1 := by rw [IntKind.wrap_u64]; omega
   have hlki : decide ((k : Int) < (m : Int)) = true := by simp; omega
   have hp1 : ¬ 9223372036854775807 < nonce.length + (putB 4 (f + k)).length := by omega
   clear gp hpl hfk hnl
   generalize putB 4 (f + k) = p at *
   generalize encL K (nonce ++ p) = y at *
   generalize ctrN K nonce f k = t at *
   have hp2 : ¬ 9223372036854775807 < t.length + y.length := by omega
   clear hcl hbl
   go_wp2_with (first
    | (go_at_call 108; with_reducible refine (GP.out _).mono ?_; rintro e w2 ⟨rfl, hx2⟩; have hx3 := hx.trans hx2)
    | (go_at_call 144; with_reducible refine (GBK.out _ (fun x => hx3.cell_of (HT.out x))).mono ?_; rintro e w3 ⟨rfl, hx4⟩))
   go_roundw
   case measure => simp [intOf]; omega
   case rel => exact ⟨k + 1, by omega, by rw [HS.out], by go_num, hx3.trans hx4⟩
  ·obtain rfl : k = m := by omega
   have hcl := ctrN_length K nonce f HKL.out HNL.out k
   have hnle : n ≤ (ctrN K nonce f k).length := by omega
   have hlki : decide ((k : Int) < (k : Int)) = false := by simp
   clear hcl
   generalize ctrN K nonce f k = t at *
   go_wp2
   go_returns
   exact ⟨by rw [HCS.out]; rfl, hx1.trans hx⟩
end Go.Proofs.YtclekllaikcglaaGreat
