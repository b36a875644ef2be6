import Derived.Test.YtclekllaikcglaaGreatShaT
import Derived.Test.YtclekllaikcglaaGreatShaE

/- Contracts: layer 2, the document's sum of a text. -/
namespace Go.Proofs.YtclekllaikcglaaGreat
open Go Go.RowKit
theorem soak_len (n : Nat) : ∀ (s : St) (t : List UInt8), t.length ≤ n → (soak s t).2.length = t.length % 64 := by
 induction n with
 | zero => intro s t h; rw [soak_less s t (by omega)]; simp; omega
 | succ n ih =>
  intro s t h
  by_cases h64 : 64 ≤ t.length
  ·rw [soak_more s t h64, ih _ _ (by simp; omega)]; simp; omega
  ·rw [soak_less s t (by omega)]; simp; omega
def padded02 (t : List UInt8) : List UInt8 := t ++ 128 :: (List.replicate ((119 - t.length % 64) % 64) 0 ++ putB 8 (t.length * 8))
theorem padded02_length (t : List UInt8) : (padded02 t).length = t.length + 1 + (119 - t.length % 64) % 64 + 8 := by
 simp [padded02, putB_length]; omega
def pz (t : List UInt8) (m : Nat) : List UInt8 := t ++ 128 :: List.replicate m 0
theorem pz_length (t : List UInt8) (m : Nat) : (pz t m).length = t.length + 1 + m := by simp [pz]; omega
theorem pz_zero (t : List UInt8) : bs t ++ ({ data := #[128] } : ByteArray) = bs (pz t 0) := by rw [show ({ data := #[128] } : ByteArray) = bs [128] from rfl, bs_append]; rfl
theorem pz_succ (t : List UInt8) (m : Nat) : bs (pz t m) ++ ({ data := #[0] } : ByteArray) = bs (pz t (m + 1)) := by
 rw [show ({ data := #[0] } : ByteArray) = bs [0] from rfl, bs_append, pz, pz, List.replicate_succ']; simp
theorem shaS_eq (t : List UInt8) : shaS t = digest (soak iv (padded02 t)).1.list := by
 have h := soak_len t.length iv t (Nat.le_refl _)
 unfold shaS sumS
 rw [soak_step]
 have : padS (soak iv t).2 t.length = 128 :: (List.replicate ((119 - t.length % 64) % 64) 0 ++ putB 8 (t.length * 8)) := by unfold padS; rw [h]; rfl
 rw [this]; rfl
set_option maxRecDepth 100000 in
set_option maxHeartbeats 4000000 in
theorem RefOf_any (t : List UInt8) (w : World) (hl : t.length ≤ 1099511627776) :
  Calls Tryz.prog 141 #[.string (bs t)] w fun e w' => e = .returned (.string (bs (shaS t))) ∧ Ext w w' := by
 rw [shaS_eq]
 obtain ⟨M, hM⟩ : ∃ M, M = (119 - t.length % 64) % 64 := ⟨_, rfl⟩
 have hpl := padded02_length t
 rw [← hM] at hpl
 have hpd : padded02 t = pz t M ++ putB 8 (t.length * 8) := by rw [padded02, hM, pz]; simp
 have hMt : (t.length + 1 + M) % 64 = 56 ∧ ∀ m, m < M → (t.length + 1 + m) % 64 ≠ 56 := by
  refine ⟨by omega, fun m hm => by omega⟩
 have hM64 : M < 64 := by omega
 obtain ⟨p, hp⟩ : ∃ p, p = padded02 t := ⟨_, rfl⟩
 rw [← hp] at hpl hpd ⊢
 have HPD := Lib.hid hpd; have HPL := Lib.hid hpl; have HMT := Lib.hid hMt
 have GP := Lib.hid (fun w => RefPut8_any (t.length * 8) w (by unfold U64; omega))
 have G4 := Lib.hid (fun (x : UInt32) w => RefPut4_any x.toNat w (by unfold U64; have := x.toNat_lt; omega))
 have GS := Lib.hid (fun s b gs w hb hg => RefStep_any s b gs w hb hg)
 obtain ⟨res, hres⟩ : ∃ r, soak iv p = r := ⟨_, rfl⟩
 rw [hres]
 have HR := Lib.hid hres
 have s5 : ¬ 9223372036854775807 < t.length + 1 := by omega
 have w8 : IntKind.u64.wrap (t.length : Int) = (t.length : Int) := by rw [IntKind.wrap_u64]; omega
 have w9 : IntKind.u64.wrap (8 * (t.length : Int)) = ((t.length * 8 : Nat) : Int) := by rw [IntKind.wrap_u64]; omega
 have h128 := pz_zero t
 clear hM hMt hpl hpd hp hres
 go_enter Tryz.func141, Tryz.ntmps141
 go_wp2
 go_loopw [3] (fun o wr => ∃ m : Nat, m ≤ M ∧ o = .string (bs (pz t m)) ∧ wr = w) (fun o _ => M + t.length + 1 - (match o with | .string b => b.size | _ => 0))
 case atStart => exact ⟨0, by omega, rfl, rfl⟩
 case round =>
  obtain ⟨m, hm, rfl, rfl⟩ := hrel
  have hlen := pz_length t m
  by_cases hlt : m < M
  ·have hne := HMT.out.2 m hlt
   have hne' : (((t.length : Int) + 1 + m) % 64 != 56) = true := by
    simp; omega
   have hz := pz_succ t m
   have s6 : ¬ 9223372036854775807 < t.length + 1 + m + 1 := by omega
   go_wp2
   go_roundw
   case measure => simp [pz_length]; omega
   case rel => exact ⟨m + 1, by omega, by first | rfl | (rw [hz]), trivial⟩
  ·obtain rfl : m = M := by omega
   have hne' : (((t.length : Int) + 1 + m) % 64 != 56) = false := by
    have := HMT.out.1
    simp; omega
   have hap : bs (pz t m) ++ bs (putB 8 (t.length * 8)) = bs p := by rw [bs_append, HPD.out]
   have s6 : ¬ 9223372036854775807 < t.length + 1 + m + 8 := by omega
   have hp8 := putB_length 8 (t.length * 8)
   go_wp2_with (go_at_call 108; refine (GP.out _).mono ?_; rintro e w2 ⟨rfl, hx2⟩)
   have hiv : (w2.alloc (.cells iv.v 46)).heap[w2.heap.size]? = some (.cells iv.v 46) := heap_alloc_new _ _
   have hxa : Ext wr (w2.alloc (.cells iv.v 46)) := hx2.alloc _
   have hplen : ∃ B, p.length = 64 * B := by have := HPL.out; have := HMT.out.1; exact ⟨p.length / 64, by omega⟩
   obtain ⟨B, hB⟩ := hplen
   have hBl : 64 * B ≤ 2199023255552 := by have := HPL.out; omega
   have HB := Lib.hid hB
   have HIV := Lib.hid hiv
   have HR2 := Lib.hid (show soak iv (p.drop (64 * 0)) = res from HR.out)
   clear hiv hB hap hne' s6 hp8 hlen h128 w8 w9 s5
   change Code.wp _ _ _ _ (w2.alloc (.cells iv.v 46))
   obtain ⟨w0, rfl⟩ : ∃ x, x = wr := ⟨_, rfl⟩
   go_loopw [4, 5] (fun o i wr => ∃ (j gs : Nat) (st : St), j ≤ B ∧ i = .int .i64 (64 * (j : Int)) ∧ o = .slice (some ⟨gs, 0, none⟩) 8 8 ∧ wr.heap[gs]? = some (.cells st.v 46) ∧ soak st (p.drop (64 * j)) = res ∧ Ext w0 wr) (fun _ i _ => 64 * B - (intOf i).toNat)
   case atStart => exact ⟨0, w2.heap.size, iv, by omega, rfl, rfl, HIV.out, HR2.out, hxa⟩
   case round =>
    obtain ⟨j, gs, st, hj, rfl, rfl, hh, hsk, hx⟩ := hrel
    have HH := Lib.hid hh; have HS := Lib.hid hsk
    clear hh hsk
    by_cases hlt : j < B
    ·have hlt1 : 64 * (j : Int) < (p.length : Int) := by have := HB.out; omega
     have hle1 : 64 * (j : Int) + 64 ≤ (p.length : Int) := by have := HB.out; omega
     have hpl2 : p.length ≤ 2199023255552 := by have := HB.out; omega
     have he : (bs p).extract (64 * j) (64 * j + 64) = bs ((p.drop (64 * j)).take 64) := by rw [bs_extract]; congr 2; omega
     have h64 : ((p.drop (64 * j)).take 64).length = 64 := by rw [List.length_take, List.length_drop]; omega
     have HSM := Lib.hid (soak_more st (p.drop (64 * j)) (by rw [List.length_drop]; omega))
     have HD := Lib.hid (show (p.drop (64 * j)).drop 64 = p.drop (64 * (j + 1)) by rw [List.drop_drop]; congr 1)
     go_wp2_with (go_at_call 158; refine (GS.out st _ gs wr h64 HH.out).mono ?_; rintro e w3 ⟨g3, rfl, hh3, hx3⟩; have HH3 := Lib.hid hh3; clear hh3)
     go_roundw
     case measure => simp [intOf]; omega
     case rel => exact ⟨j + 1, g3, behindS st ((p.drop (64 * j)).take 64), by omega, by go_num, rfl, HH3.out, by rw [← HD.out, ← HSM.out]; exact HS.out, hx.trans hx3⟩
    ·obtain rfl : j = B := by omega
     have hpl3 : (p.length : Int) = 64 * (j : Int) := by have := HB.out; omega
     have hres2 : (st, ([] : List UInt8)) = res := by
      have h1 := HS.out
      rw [List.drop_of_length_le (by have := HB.out; omega), soak_less st [] (by simp)] at h1
      exact h1
     have HX := Lib.hid HH.out
     have HRES := Lib.hid hres2
     clear hres2
     go_wp2
     obtain ⟨w1, rfl⟩ : ∃ x, x = wr := ⟨_, rfl⟩
     go_loopw [6, 7] (fun o i wr => ∃ k : Nat, k ≤ 8 ∧ i = .int .i64 k ∧ o = .string (bs (digest (st.list.take k))) ∧ Ext w1 wr) (fun _ i _ => 8 - (intOf i).toNat)
     case atStart => exact ⟨0, by omega, rfl, rfl, Ext.refl _⟩
     case round =>
      obtain ⟨k, hk, rfl, rfl, hh⟩ := hrel
      have hdl : (digest (st.list.take k)).length ≤ 32 := by rw [digest_length, List.length_take]; have : st.list.length = 8 := rfl; omega
      have hp4 : ∀ n, (putB 4 n).length = 4 := fun n => putB_length 4 n
      have hgl := blk_lt (hh.keep HX.out)
      rcases (by omega : k = 0 ∨ k = 1 ∨ k = 2 ∨ k = 3 ∨ k = 4 ∨ k = 5 ∨ k = 6 ∨ k = 7 ∨ k = 8) with rfl | rfl | rfl | rfl | rfl | rfl | rfl | rfl | rfl
      ·have HST := Lib.hid (digest_take st.list 0 st.a rfl)
       have cell : wr.cell? ⟨gs, 0, none⟩ = some (.int .u32 st.a.toNat) := hh.cell_of (cell_blk HX.out rfl)
       go_wp2_with (go_at_call 108; refine (G4.out st.a _).mono ?_; rintro e w5 ⟨rfl, hx5⟩)
       go_roundw
       case measure => simp [intOf]
       case rel => exact ⟨1, by omega, rfl, by first | (rw [HST.out]; done) | (rw [HST.out]; rfl), hh.trans hx5⟩
      ·have HST := Lib.hid (digest_take st.list 1 st.b rfl)
       have cell : wr.cell? ⟨gs, 1, none⟩ = some (.int .u32 st.b.toNat) := hh.cell_of (cell_blk HX.out rfl)
       go_wp2_with (go_at_call 108; refine (G4.out st.b _).mono ?_; rintro e w5 ⟨rfl, hx5⟩)
       go_roundw
       case measure => simp [intOf]
       case rel => exact ⟨2, by omega, rfl, by first | (rw [HST.out]; done) | (rw [HST.out]; rfl), hh.trans hx5⟩
      ·have HST := Lib.hid (digest_take st.list 2 st.c rfl)
       have cell : wr.cell? ⟨gs, 2, none⟩ = some (.int .u32 st.c.toNat) := hh.cell_of (cell_blk HX.out rfl)
       go_wp2_with (go_at_call 108; refine (G4.out st.c _).mono ?_; rintro e w5 ⟨rfl, hx5⟩)
       go_roundw
       case measure => simp [intOf]
       case rel => exact ⟨3, by omega, rfl, by first | (rw [HST.out]; done) | (rw [HST.out]; rfl), hh.trans hx5⟩
      ·have HST := Lib.hid (digest_take st.list 3 st.d rfl)
       have cell : wr.cell? ⟨gs, 3, none⟩ = some (.int .u32 st.d.toNat) := hh.cell_of (cell_blk HX.out rfl)
       go_wp2_with (go_at_call 108; refine (G4.out st.d _).mono ?_; rintro e w5 ⟨rfl, hx5⟩)
       go_roundw
       case measure => simp [intOf]
       case rel => exact ⟨4, by omega, rfl, by first | (rw [HST.out]; done) | (rw [HST.out]; rfl), hh.trans hx5⟩
      ·have HST := Lib.hid (digest_take st.list 4 st.e rfl)
       have cell : wr.cell? ⟨gs, 4, none⟩ = some (.int .u32 st.e.toNat) := hh.cell_of (cell_blk HX.out rfl)
       go_wp2_with (go_at_call 108; refine (G4.out st.e _).mono ?_; rintro e w5 ⟨rfl, hx5⟩)
       go_roundw
       case measure => simp [intOf]
       case rel => exact ⟨5, by omega, rfl, by first | (rw [HST.out]; done) | (rw [HST.out]; rfl), hh.trans hx5⟩
      ·have HST := Lib.hid (digest_take st.list 5 st.f rfl)
       have cell : wr.cell? ⟨gs, 5, none⟩ = some (.int .u32 st.f.toNat) := hh.cell_of (cell_blk HX.out rfl)
       go_wp2_with (go_at_call 108; refine (G4.out st.f _).mono ?_; rintro e w5 ⟨rfl, hx5⟩)
       go_roundw
       case measure => simp [intOf]
       case rel => exact ⟨6, by omega, rfl, by first | (rw [HST.out]; done) | (rw [HST.out]; rfl), hh.trans hx5⟩
      ·have HST := Lib.hid (digest_take st.list 6 st.g rfl)
       have cell : wr.cell? ⟨gs, 6, none⟩ = some (.int .u32 st.g.toNat) := hh.cell_of (cell_blk HX.out rfl)
       go_wp2_with (go_at_call 108; refine (G4.out st.g _).mono ?_; rintro e w5 ⟨rfl, hx5⟩)
       go_roundw
       case measure => simp [intOf]
       case rel => exact ⟨7, by omega, rfl, by first | (rw [HST.out]; done) | (rw [HST.out]; rfl), hh.trans hx5⟩
      ·have HST := Lib.hid (digest_take st.list 7 st.h rfl)
       have cell : wr.cell? ⟨gs, 7, none⟩ = some (.int .u32 st.h.toNat) := hh.cell_of (cell_blk HX.out rfl)
       go_wp2_with (go_at_call 108; refine (G4.out st.h _).mono ?_; rintro e w5 ⟨rfl, hx5⟩)
       go_roundw
       case measure => simp [intOf]
       case rel => exact ⟨8, by omega, rfl, by first | (rw [HST.out]; done) | (rw [HST.out]; rfl), hh.trans hx5⟩
      ·go_wp2
       go_returns
       refine ⟨?_, hx.trans hh⟩
       rw [← HRES.out]; rfl
end Go.Proofs.YtclekllaikcglaaGreat

/- The sum of the text abc. -/
namespace Go.Proofs.YtclekllaikcglaaGreat
open Go Go.RowKit
end Go.Proofs.YtclekllaikcglaaGreat
