/- Contracts: layers 13 and 14: the statements' Full, nonce, heavy. -/
import Derived.Test.YtbacamepmilmhaaSeal
namespace Go.Proofs.Ytbacamepmilmhaa
open Go Go.RowKit

def z32 : List UInt8 := List.replicate 32 0
theorem z32_length : z32.length = 32 := List.length_replicate
def z12 : List UInt8 := List.replicate 12 0
theorem z12_length : z12.length = 12 := List.length_replicate
set_option maxRecDepth 100000 in
theorem full13 (s : List UInt8) (w : World) (_hl : s.length ≤ 140737488351232) :
    Calls Try.prog 26 #[.string (bs s)] w fun e w' => e = .returned (.string (bs (padTo 32 s))) ∧ Ext w w' := by
  have hmk : ∀ w : World, (Instr.makeSlice 41 (.int .i64 32) (.int .i64 32)).run Try.prog w = .ok (.slice (some ⟨w.heap.size, 0, none⟩) 32 32) (w.alloc (.cells (bcells z32) 5)) := fun w => mk_bytes 32 (by omega) w
  have HSZ := Lib.hid (show splice z32 0 (s.take 32) = padTo 32 s from splice_zeros 32 s)
  go_enter Try.func26, Try.ntmps26
  go_wp2_with (refine wpl_copy_str rfl rfl und_bytes info_u8 rfl rfl (L := z32) (heap_alloc_new w _) (by rw [z32_length]; decide) ?_; intro w2 hb2 _ hbel; rw [HSZ.out] at hb2; have kc := fun c => to_str_of (c := c) hb2 (padTo_length 32 _); have hx2 : Ext w w2 := ((Ext.refl w).alloc _).trans_below hbel; clear hb2)
  go_returns
  exact ⟨rfl, hx2⟩
set_option maxRecDepth 100000 in
theorem nonce14 (s : List UInt8) (w : World) (_hl : s.length ≤ 140737488351232) :
    Calls Try.prog 15 #[.string (bs s)] w fun e w' => e = .returned (.string (bs (padTo 12 s))) ∧ Ext w w' := by
  have hmk : ∀ w : World, (Instr.makeSlice 41 (.int .i64 12) (.int .i64 12)).run Try.prog w = .ok (.slice (some ⟨w.heap.size, 0, none⟩) 12 12) (w.alloc (.cells (bcells z12) 5)) := fun w => mk_bytes 12 (by omega) w
  have HSZ := Lib.hid (show splice z12 0 (s.take 12) = padTo 12 s from splice_zeros 12 s)
  go_enter Try.func15, Try.ntmps15
  go_wp2_with (refine wpl_copy_str rfl rfl und_bytes info_u8 rfl rfl (L := z12) (heap_alloc_new w _) (by rw [z12_length]; decide) ?_; intro w2 hb2 _ hbel; rw [HSZ.out] at hb2; have kc := fun c => to_str_of (c := c) hb2 (padTo_length 12 _); have hx2 : Ext w w2 := ((Ext.refl w).alloc _).trans_below hbel; clear hb2)
  go_returns
  exact ⟨rfl, hx2⟩
/-- How many bytes the first k texts have. -/
def sumL (l : List (List UInt8)) (k : Nat) : Nat := ((l.take k).map List.length).sum
theorem sumL_succ (l : List (List UInt8)) (k : Nat) (h : k < l.length) : sumL l (k + 1) = sumL l k + l[k].length := by
  unfold sumL
  rw [List.take_succ_eq_append_getElem h, List.map_append, List.sum_append]
  simp
theorem sumL_le (l : List (List UInt8)) (C : Nat) (hb : ∀ x ∈ l, x.length ≤ C) : ∀ k, sumL l k ≤ k * C
  | 0 => Nat.zero_le _
  | k + 1 => by
    have ih := sumL_le l C hb k
    rw [Nat.succ_mul]
    by_cases h : k < l.length
    · have hx := hb _ (List.getElem_mem h)
      rw [sumL_succ l k h]; omega
    · have e : sumL l (k + 1) = sumL l k := by
        unfold sumL
        rw [List.take_of_length_le (by omega), List.take_of_length_le (by omega)]
      rw [e]; omega
/-- More than a statement plays. -/
def heavyB (keys l : List (List UInt8)) : Bool := decide (1500 < sumL l l.length + sumL keys (min keys.length 30)) || decide (8 < keys.length)
set_option maxRecDepth 100000 in
set_option maxHeartbeats 1000000 in
theorem heavy14 (keys l : List (List UInt8)) (ad1 ad2 : Option Addr) (c1 c2 : Nat) (w : World) (hk : Sl w (.slice ad1 keys.length c1) (keys.map strV)) (hl : Sl w (.slice ad2 l.length c2) (l.map strV)) (hll : l.length ≤ 100) (hkl : keys.length ≤ 8796093022208)
    (hkb : ∀ x ∈ keys, x.length ≤ 140737488351232) (hlb : ∀ x ∈ l, x.length ≤ 140737488351232) :
    Calls Try.prog 12 #[.slice ad1 keys.length c1, .slice ad2 l.length c2] w fun e w' => e = .returned (.bool (heavyB keys l)) ∧ w = w' := by
  have HK := Lib.hid hk; have HL := Lib.hid hl
  have HSL := Lib.hid (sumL_le l _ hlb); have HSK := Lib.hid (sumL_le keys _ hkb)
  have HLL := Lib.hid hll; have HKL := Lib.hid hkl
  have HKB := Lib.hid hkb; have HLB := Lib.hid hlb
  clear hk hl hkb hlb hll hkl
  go_enter Try.func12, Try.ntmps12
  go_wp2
  go_loopw [5, 6] (fun n i wr => ∃ k : Nat, k ≤ l.length ∧ n = .int .i64 (sumL l k : Int) ∧ i = .int .i64 k ∧ w = wr) (fun _ i _ => l.length - (intOf i).toNat)
  case atStart => exact ⟨0, by omega, rfl, rfl, rfl⟩
  case round =>
    obtain ⟨k, hk, rfl, rfl, rfl⟩ := hrel
    by_cases hlt : k < l.length
    · obtain ⟨b, o, ha, _, hc⟩ := HL.out.str k hlt
      have hsk := HSL.out k
      have hll := HLL.out
      have hxb := HLB.out _ (List.getElem_mem hlt)
      have HS := Lib.hid (sumL_succ l k hlt)
      subst ha
      generalize l[k] = x at *
      have hki : (k : Int) < (l.length : Int) := by omega
      have hnb : sumL l k + x.length ≤ 101 * 140737488351232 := by
        have : k * 140737488351232 ≤ 100 * 140737488351232 := Nat.mul_le_mul_right _ (by omega)
        omega
      generalize sumL l k = n at *
      obtain ⟨n1, hn1⟩ : ∃ n1, n + x.length = n1 := ⟨_, rfl⟩
      rw [hn1] at HS hnb
      have hni : (n : Int) + (x.length : Int) = (n1 : Int) := by omega
      have hw : IntKind.i64.wrap (n1 : Int) = (n1 : Int) := by rw [IntKind.wrap_i64]; omega
      have hw2 : wrap64 (n1 : Int) = (n1 : Int) := by unfold wrap64; omega
      clear hsk hnb hn1 hxb
      go_wp2
      go_roundw
      case measure => simp [intOf]; omega
      case rel => exact ⟨k + 1, by omega, by rw [HS.out], by go_num, by first | rfl | trivial⟩
    · obtain rfl : k = l.length := by omega
      have hbl := HSL.out l.length
      have hbl2 : sumL l l.length ≤ 100 * 140737488351232 := Nat.le_trans hbl (Nat.mul_le_mul_right _ HLL.out)
      clear hbl
      have HV : Hid (heavyB keys l = (decide (1500 < sumL l l.length + sumL keys (min keys.length 30)) || decide (8 < keys.length))) := Lib.hid rfl
      generalize sumL l l.length = n0 at *
      have hlt2 : decide ((l.length : Int) < (l.length : Int)) = false := by simp
      go_wp2
      obtain ⟨wo, hwo⟩ : ∃ x, x = w := ⟨_, rfl⟩
      go_loopw [5, 7] (fun n i wr => ∃ k : Nat, k ≤ min keys.length 30 ∧ n = .int .i64 ((n0 + sumL keys k : Nat) : Int) ∧ i = .int .i64 k ∧ w = wr) (fun _ i _ => 30 - (intOf i).toNat)
      case atStart => exact ⟨0, by omega, rfl, rfl, rfl⟩
      case round =>
        obtain ⟨k, hk, rfl, rfl, rfl⟩ := hrel
        have hsk := HSK.out k
        have hkb : sumL keys k ≤ 30 * 140737488351232 := Nat.le_trans hsk (Nat.mul_le_mul_right _ (by omega))
        clear hsk
        by_cases hlt : k < min keys.length 30
        · obtain ⟨b, o, ha, _, hc⟩ := HK.out.str k (by omega)
          have hxb := HKB.out _ (List.getElem_mem (show k < keys.length by omega))
          have HS := Lib.hid (sumL_succ keys k (by omega))
          subst ha
          generalize keys[k] = x at *
          have hki : decide ((k : Int) < (keys.length : Int)) = true := by simp; omega
          have hk30 : decide ((k : Int) < 30) = true := by simp; omega
          have hki2 : (k : Int) < (keys.length : Int) := by omega
          generalize sumL keys k = n at *
          obtain ⟨n2, hn2⟩ : ∃ n2, n0 + n = n2 := ⟨_, rfl⟩
          obtain ⟨n1, hn1⟩ : ∃ n1, n2 + x.length = n1 := ⟨_, rfl⟩
          have hni : (n2 : Int) + (x.length : Int) = (n1 : Int) := by omega
          have hw : IntKind.i64.wrap (n1 : Int) = (n1 : Int) := by rw [IntKind.wrap_i64]; omega
          have hw2 : wrap64 (n1 : Int) = (n1 : Int) := by unfold wrap64; omega
          have HN := Lib.hid hn2; have HN1 := Lib.hid hn1
          rw [hn2]
          clear hxb hkb hn1 hn2 hbl2
          have hk100 : k < 30 := by omega
          clear hlt hk
          go_wp2
          go_roundw
          case measure => simp [intOf]; omega
          case rel => exact ⟨k + 1, by have := hki2; omega, by rw [HS.out, ← Nat.add_assoc, HN.out, HN1.out], by go_num, by first | rfl | trivial⟩
        · obtain rfl : k = min keys.length 30 := by omega
          have HV2 := HV.out
          generalize sumL keys (min keys.length 30) = n at *
          obtain ⟨n2, hn2⟩ : ∃ n2, n0 + n = n2 := ⟨_, rfl⟩
          rw [hn2] at HV2 ⊢
          have HR : Hid (heavyB keys l = (decide ((1500 : Int) < (n2 : Int)) || decide ((8 : Int) < (keys.length : Int)))) := Lib.hid (by
            rw [HV2]
            congr 1 <;> exact decide_eq_decide.2 (by omega))
          clear HV2 hn2 hkb hbl2 hk HV
          by_cases h30 : keys.length ≤ 30
          · have hmin : min keys.length 30 = keys.length := by omega
            rw [hmin]
            have hlt3 : decide ((keys.length : Int) < (keys.length : Int)) = false := by simp
            clear hmin hlt
            rcases hb1 : decide ((1500 : Int) < (n2 : Int)) with _ | _
            · go_wp2
              go_returns
              exact ⟨by rw [HR.out, hb1]; rfl, rfl⟩
            · go_wp2
              go_returns
              exact ⟨by rw [HR.out, hb1]; rfl, rfl⟩
          · have hmin : min keys.length 30 = 30 := by omega
            rw [hmin]
            have hlt3 : decide ((30 : Int) < (keys.length : Int)) = true := by simp; omega
            clear hmin hlt
            rcases hb1 : decide ((1500 : Int) < (n2 : Int)) with _ | _
            · go_wp2
              go_returns
              exact ⟨by rw [HR.out, hb1]; rfl, rfl⟩
            · go_wp2
              go_returns
              exact ⟨by rw [HR.out, hb1]; rfl, rfl⟩
end Go.Proofs.Ytbacamepmilmhaa
namespace Go.Proofs.Ytbacamepmilmhaa
open Go Go.RowKit

/-- The keys of a ring that k of some texts have come to. -/
def epsN (keys : List (List UInt8)) : Nat → Eps
  | 0 => [(1, padTo 32 [107])]
  | k + 1 => epsN keys k ++ [(k + 2, padTo 32 (keys.getD k []))]
theorem epsN_length (keys : List (List UInt8)) : ∀ k, (epsN keys k).length = k + 1
  | 0 => rfl
  | k + 1 => by rw [epsN, List.length_append, epsN_length keys k]; rfl
theorem epsN_le (keys : List (List UInt8)) : ∀ k, ∀ p ∈ epsN keys k, p.1 ≤ k + 1
  | 0, p, h => by simp [epsN] at h; subst h; exact Nat.le_refl _
  | k + 1, p, h => by
    rw [epsN, List.mem_append] at h
    rcases h with h | h
    · have := epsN_le keys k p h; omega
    · simp at h; subst h; exact Nat.le_refl _
theorem epsN_key (keys : List (List UInt8)) : ∀ k, ∀ p ∈ epsN keys k, p.2.length = 32
  | 0, p, h => by simp [epsN] at h; subst h; exact padTo_length 32 _
  | k + 1, p, h => by
    rw [epsN, List.mem_append] at h
    rcases h with h | h
    · exact epsN_key keys k p h
    · simp at h; subst h; exact padTo_length 32 _
theorem epsN_new (keys : List (List UInt8)) (k e : Nat) (he : k + 1 < e) : lookE (epsN keys k) e = none :=
  lookE_none _ _ (fun j hj h => by have := epsN_le keys k _ (List.getElem_mem hj); omega)
theorem epsN_last (keys : List (List UInt8)) (k : Nat) : ∃ E0 key, epsN keys k = E0 ++ [(k + 1, key)] ∧ E0.length = k ∧ key.length = 32 ∧ lookE (epsN keys k) (k + 1) = some key := by
  have look : ∀ (E0 : Eps) (key : List UInt8), (∀ p ∈ E0, p.1 ≠ k + 1) → lookE (E0 ++ [(k + 1, key)]) (k + 1) = some key := by
    intro E0 key h
    have := lookE_first (E0 ++ [(k + 1, key)]) (k + 1) E0.length (by simp) (fun j hj => by
      rw [List.getElem_append_left hj]; exact h _ (List.getElem_mem hj)) (by simp)
    rw [this]; simp
  cases k with
  | zero => exact ⟨[], padTo 32 [107], rfl, rfl, padTo_length 32 _, look [] _ (by simp)⟩
  | succ k => exact ⟨epsN keys k, padTo 32 (keys.getD k []), rfl, epsN_length keys k, padTo_length 32 _, look _ _ (fun p hp => by have := epsN_le keys k p hp; omega)⟩
theorem DocAt.mono {w : World} {B B' d : Nat} {E : Eps} (h : DocAt w B d E) (hB : B' ≤ B) : DocAt w B' d E := by
  obtain ⟨v, hd, hb, hown⟩ := h
  refine ⟨v, hd, by omega, hown.1, ?_⟩
  rcases hown.2 with h0 | ⟨g, cap, cur, hv, hg, q⟩
  · exact .inl h0
  · exact .inr ⟨g, cap, cur, hv, by omega, q⟩
theorem DocAt.but {w w' : World} {B d r m : Nat} {E E' : Eps} {n : Nat} (h : DocAt w B d E) (hr : RingAt w r m E' n) (hb : But [r, m] w w') : DocAt w' B d E := by
  obtain ⟨L, clk, _, _, h1, h2⟩ := hr
  obtain ⟨v, hd, hB, hown⟩ := h
  have ne1 : d ∉ [r, m] := by
    simp only [List.mem_cons, List.not_mem_nil, or_false, not_or]
    exact ⟨fun e => (by rw [e, h1] at hd; cases hd), fun e => (by rw [e, h2] at hd; cases hd)⟩
  refine ⟨v, hb.keep hd ne1, hB, hown.1, ?_⟩
  rcases hown.2 with h0 | ⟨g, cap, cur, hv, hg, hh, q⟩
  · exact .inl h0
  · have ne2 : g ∉ [r, m] := by
      simp only [List.mem_cons, List.not_mem_nil, or_false, not_or]
      exact ⟨fun e => (by rw [e, h1] at hh; cases hh), fun e => (by rw [e, h2] at hh; cases hh)⟩
    exact .inr ⟨g, cap, cur, hv, hg, hb.keep hh ne2, q⟩
theorem RingAt.keepsD {w w' : World} {B d r m : Nat} {E E' : Eps} {n : Nat} (h : RingAt w r m E n) (hd : DocAt w B d E') (hk : KeepsD d w w') : RingAt w' r m E n := by
  obtain ⟨L, clk, a, b, h1, h2⟩ := h
  obtain ⟨v, hdd, _, _⟩ := hd
  refine ⟨L, clk, a, b, hk r _ h1 (fun e => by rw [e, hdd] at h1; cases h1) (fun cs fz e => by cases e), hk m _ h2 (fun e => by rw [e, hdd] at h2; cases h2) (fun cs fz e => by cases e)⟩
set_option maxRecDepth 100000 in
set_option maxHeartbeats 2000000 in
theorem rings14 (keys : List (List UInt8)) (ad : Option Addr) (c : Nat) (w : World) (hk : Sl w (.slice ad keys.length c) (keys.map strV)) (h8 : keys.length ≤ 8) (hkb : ∀ x ∈ keys, x.length ≤ 140737488351232) :
    Calls Try.prog 14 #[.slice ad keys.length c] w fun e w' => ∃ r m d, e = .returned (.tuple #[.pointer (some ⟨r, 0, none⟩), .pointer (some ⟨d, 0, none⟩)]) ∧ RingAt w' r m (epsN keys keys.length) (keys.length + 1) ∧ DocAt w' w.heap.size d (epsN keys keys.length) ∧ w.heap.size ≤ r ∧ w.heap.size ≤ m ∧ Ext w w' := by
  have HK := Lib.hid hk
  have HKB := Lib.hid hkb
  have GF0 : Hid (∀ W, Calls Try.prog 26 #[.string { data := #[107] }] W fun e w' => e = .returned (.string (bs (padTo 32 [107]))) ∧ Ext W w') := Lib.hid fun W => full13 [107] W (by simp)
  have GNW := Lib.hid (fun W => ring_New (padTo 32 [107]) W (padTo_length 32 _))
  have GND := Lib.hid (fun W => ref_ring_New (padTo 32 [107]) W)
  have HE0 : Hid (epsN keys 0 = [(1, padTo 32 [107])]) := Lib.hid rfl
  generalize padTo 32 [107] = k0 at *
  clear hk hkb
  go_enter Try.func14, Try.ntmps14
  go_upto_region 6 with (first
    | (go_at_call 26; with_reducible refine (GF0.out _).mono ?_; rintro e w1 ⟨rfl, hx1⟩)
    | (go_at_call 31; with_reducible refine (GNW.out _).mono ?_; rintro e w2 ⟨r, m, rfl, hr1, hm1, hrm, hri, hx2⟩; have HRI := Lib.hid hri; clear hri)
    | (go_at_call 34; with_reducible refine (GND.out _).mono ?_; rintro e w3 ⟨d, rfl, hdo, hx3⟩; have HDO := Lib.hid hdo; clear hdo))
  have hs1 := hx1.size; have hs2 := hx2.size
  go_wp2
  go_loopw [4, 8] (fun kk i wr => ∃ k : Nat, k ≤ keys.length ∧ i = .int .i64 k ∧ RingAt wr r m (epsN keys k) (k + 1) ∧ DocAt wr w.heap.size d (epsN keys k) ∧ Ext w wr) (fun _ i _ => keys.length - (intOf i).toNat)
  case atStart => exact ⟨0, by omega, rfl, by rw [HE0.out]; exact HRI.out.ext hx3, by rw [HE0.out]; exact (show DocAt w3 w2.heap.size d _ from HDO.out).mono (by omega), (hx1.trans hx2).trans hx3⟩
  case round =>
    clear HRI HDO
    obtain ⟨k, hk, rfl, hri, hdo, hx⟩ := hrel
    have HRI := Lib.hid hri; have HDO := Lib.hid hdo
    clear hri hdo
    by_cases hlt : k < keys.length
    · obtain ⟨b, o, ha, _, hc⟩ := (HK.out.ext hx).str k hlt
      have hxb := HKB.out _ (List.getElem_mem hlt)
      obtain ⟨E0, key, hE, hEl, hkey, hlk⟩ := epsN_last keys k
      have hEN : Hid (epsN keys (k + 1) = epsN keys k ++ [(k + 2, padTo 32 keys[k])]) := Lib.hid (by
        rw [epsN, show keys.getD k [] = keys[k] by simp [List.getD, hlt]])
      have hnew := epsN_new keys k (k + 2) (by omega)
      have helen := epsN_length keys k
      subst ha
      generalize keys[k] = x at *
      have GF := Lib.hid (fun W => full13 x W hxb)
      have hpl : (padTo 32 x).length = 32 := padTo_length 32 x
      generalize padTo 32 x = kx at *
      have GRR := Lib.hid (fun W (h : RingAt W r m (epsN keys k) (k + 1)) => ring_Rotate r m (epsN keys k) (k + 1) kx W h (by omega) hpl (by omega) (by omega) hnew)
      have GDR := Lib.hid (fun W (h : DocAt W w.heap.size d (epsN keys k)) (hB : w.heap.size ≤ W.heap.size) => (hE ▸ ref_ring_Rotate w.heap.size d E0 (k + 1) key kx W (hE ▸ h) hB hpl (by omega) (by omega) : Calls Try.prog 36 #[.pointer (some ⟨d, 0, none⟩), .string (bs kx)] W fun e w' => e = .returned (.tuple #[.int .u32 ((k + 1 + 1 : Nat) : Int), .int .i64 0]) ∧ DocAt w' w.heap.size d (epsN keys k ++ [(k + 1 + 1, kx)]) ∧ Below w.heap.size W w' ∧ KeepsD d W w'))
      generalize epsN keys k = E at *
      have HNN := Lib.hid hEN.out
      have hki : (k : Int) < (keys.length : Int) := by omega
      have hk8 : (k : Int) < 8 := by omega
      have HL := Lib.hid hlt
      clear hE hEl hkey hlk hnew helen hpl hxb hEN
      go_wp2_with (first
        | (go_at_call 26; with_reducible refine (GF.out _).mono ?_; rintro e w5 ⟨rfl, hx5⟩)
        | (go_at_call 25; with_reducible refine (GRR.out _ (HRI.out.ext hx5)).mono ?_; rintro e w6 ⟨rfl, hr6, hb6⟩; have HR6 := Lib.hid hr6; have HD6 := Lib.hid ((HDO.out.ext hx5).but (HRI.out.ext hx5) hb6); have hx6 : Ext w w6 := But.ext (hx.trans hx5) hb6 (by simp; omega); clear hr6 hb6; have hs6 := hx6.size)
        | (go_at_call 36; with_reducible refine (GDR.out _ HD6.out hs6).mono ?_; rintro e w7 ⟨rfl, hd7, hb7, hk7⟩; have HD7 := Lib.hid hd7; have HR7 := Lib.hid (HR6.out.keepsD HD6.out hk7); have hx7 := hx6.trans_below hb7; clear hd7 hb7 hk7))
      go_roundw
      case measure => simp [intOf]; omega
      case rel => exact ⟨k + 1, by have := HL.out; omega, by go_num, by rw [HNN.out]; exact HR7.out, by rw [HNN.out]; exact HD7.out, hx7⟩
    · obtain rfl : k = keys.length := by omega
      have hlt2 : decide ((keys.length : Int) < (keys.length : Int)) = false := by simp
      go_wp2
      go_returns
      exact ⟨r, m, d, rfl, HRI.out, HDO.out, by omega, by omega, hx⟩
end Go.Proofs.Ytbacamepmilmhaa
