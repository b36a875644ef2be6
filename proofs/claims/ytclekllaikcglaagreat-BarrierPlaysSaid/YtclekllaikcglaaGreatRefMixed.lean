import Derived.Test.YtclekllaikcglaaGreatNew
import Derived.Test.YtclekllaikcglaaGreatRefAes
import Derived.Test.YtclekllaikcglaaGreatWeave

/- Contracts: layer 4, the document's mixed. -/
namespace Go.Proofs.YtclekllaikcglaaGreat
open Go Go.RowKit
def mixR (f s : List UInt8) : List UInt8 := (List.range 16).map fun i => mixK f ((s.drop (4 * (i / 4))).take 4) (i % 4) 4
theorem mixR_length (f s : List UInt8) : (mixR f s).length = 16 := by simp [mixR]
theorem mixR_at (f s : List UInt8) (c r : Nat) (hc : c < 4) (hr : r < 4) : (mixR f s)[4 * c + r]'(by rw [mixR_length]; omega) = mixK f ((s.drop (4 * c)).take 4) r 4 := by
 simp [mixR, show (4 * c + r) / 4 = c by omega, show (4 * c + r) % 4 = r by omega]
theorem mixR_is (s : List UInt8) (hs : s.length = 16) : mixR [2, 3, 1, 1] s = mixC [2, 3, 1, 1] s 4 := by
 match s, hs with
 | [a0, a1, a2, a3, a4, a5, a6, a7, a8, a9, a10, a11, a12, a13, a14, a15], _ => rfl
set_option maxRecDepth 100000 in
set_option maxHeartbeats 4000000 in
theorem refMixed_of (g0 cap : Nat) (s m : List UInt8) (f : List UInt8) (hf : f = [2, 3, 1, 1]) (hm : m.length = 16) (hs : s.length = 16) (w : World) (hg : w.heap[g0]? = some (.cells (bcells s) 5))
  (HM : Hid (∀ c r (hc : c < 4) (hr : r < 4), m[4 * c + r]'(by omega) = mixK f ((s.drop (4 * c)).take 4) r 4)) :
  Calls Tryz.prog 161 #[.slice (some ⟨g0, 0, none⟩) 16 cap] w fun e w' => ∃ g, e = .returned (.slice (some ⟨g, 0, none⟩) 16 16) ∧ w'.heap[g]? = some (.cells (bcells m) 5) ∧ w.heap.size ≤ g ∧ Ext w w' := by
 have hmk : ∀ w : World, (Instr.makeSlice 27 (.int .i64 16) (.int .i64 16)).run Tryz.prog w = .ok (.slice (some ⟨w.heap.size, 0, none⟩) 16 16) (w.alloc (.cells (bcells z16) 5)) := fun w => mk_bytes 16 (by omega) w
 have HG := Lib.hid hg
 have HL := Lib.hid hm
 have hgl := blk_lt hg
 have HFL : Hid (bcells f = #[.int .u8 2, .int .u8 3, .int .u8 1, .int .u8 1]) := Lib.hid (by rw [hf]; rfl)
 have hfl : f.length = 4 := by rw [hf]; rfl
 have GT := Lib.hid (fun a b W => (refTimes_any a b W).mono fun e w' h => (⟨h.1, Ext.of_eq h.2⟩ : e = .returned (.int .u8 ((gm a b).toNat : Int)) ∧ Ext W w'))
 clear hg
 go_enter Tryz.func161, Tryz.ntmps161
 go_wp2
 rw [← HFL.out]
 obtain ⟨W1, hW1⟩ : ∃ W1, ((w.alloc (.cells (bcells f) 5)).alloc (.cells (bcells z16) 5)) = W1 := ⟨_, rfl⟩
 have k1 : W1.heap[w.heap.size]? = some (.cells (bcells f) 5) := by rw [← hW1]; exact heap_alloc_old _ _ (heap_alloc_new _ _)
 have k2 : W1.heap[w.heap.size + 1]? = some (.cells (bcells z16) 5) := by
  have := heap_alloc_new (w.alloc (.cells (bcells f) 5)) (.cells (bcells z16) 5)
  rw [World.size_alloc] at this
  rw [← hW1]; exact this
 have k3 : Ext w W1 := by rw [← hW1]; exact ((Ext.refl w).alloc _).alloc _
 rw [hW1]
 clear hW1 hmk
 have K1 := Lib.hid k1; have K2 := Lib.hid k2; have K3 := Lib.hid k3
 clear k1 k2 k3
 go_loopw [5, 6, 7, 8] (fun c _ _ _ wr => ∃ n : Nat, n ≤ 4 ∧ c = .int .i64 n ∧ wr.heap[w.heap.size]? = some (.cells (bcells f) 5) ∧ wr.heap[w.heap.size + 1]? = some (.cells (bcells (m.take (4 * n) ++ List.replicate (16 - 4 * n) 0)) 5) ∧ Ext w wr) (fun c _ _ _ _ => 4 - (intOf c).toNat)
 case atStart => exact ⟨0, by omega, rfl, K1.out, K2.out, K3.out⟩
 case round =>
  clear K1 K2 K3
  obtain ⟨n, hn, rfl, k1, k2, hx⟩ := hrel
  by_cases hlt : n < 4
  ·have K1 := Lib.hid k1; have K2 := Lib.hid k2
   clear k1 k2
   go_wp2
   obtain ⟨wo, hwo⟩ : ∃ x, x = wr := ⟨_, rfl⟩
   subst hwo
   go_loopw [6, 7, 8] (fun r _ _ wr => ∃ q : Nat, q ≤ 4 ∧ r = .int .i64 q ∧ wr.heap[w.heap.size]? = some (.cells (bcells f) 5) ∧ wr.heap[w.heap.size + 1]? = some (.cells (bcells (m.take (4 * n + q) ++ List.replicate (16 - (4 * n + q)) 0)) 5) ∧ Ext w wr) (fun r _ _ _ => 4 - (intOf r).toNat)
   case atStart => exact ⟨0, by omega, rfl, K1.out, K2.out, hx⟩
   case round =>
    clear K1 K2 hx
    obtain ⟨q, hq4, rfl, k1, k2, hx⟩ := hrel
    have K1 := Lib.hid k1; have K2 := Lib.hid k2
    clear k1 k2
    by_cases hlq : q < 4
    ·have HMQ := Lib.hid (HM.out n q hlt hlq)
     have HCS : Hid (∀ k (hk : k < 4), s[4 * n + k]'(by omega) = ((s.drop (4 * n)).take 4).getD k 0) := Lib.hid fun k hk => by
      simp only [List.getD]
      rw [List.getElem?_take_of_lt hk, List.getElem?_drop, List.getElem?_eq_getElem (by omega)]
      rfl
     have hfill := fill_set m 0 16 (4 * n + q) HL.out (by omega)
     have hfat := fill_cell m 16 (4 * n + q) HL.out (by omega)
     have hoc := cell_blk (i := 4 * n + q) K2.out hfat
     rw [HMQ.out] at hfill
     have HFI := Lib.hid hfill
     clear hfill hfat HMQ
     generalize (s.drop (4 * n)).take 4 = col at *
     go_wp2
     obtain ⟨wo, hwo⟩ : ∃ x, x = wr := ⟨_, rfl⟩
     subst hwo
     go_loopw [7, 8] (fun v k wr => ∃ j : Nat, j ≤ 4 ∧ v = .int .u8 ((mixK f col q j).toNat : Int) ∧ k = .int .i64 j ∧ wr.heap[w.heap.size]? = some (.cells (bcells f) 5) ∧ wr.heap[w.heap.size + 1]? = some (.cells (bcells (m.take (4 * n + q) ++ List.replicate (16 - (4 * n + q)) 0)) 5) ∧ Ext w wr) (fun _ k _ => 4 - (intOf k).toNat)
     case atStart => exact ⟨0, by omega, rfl, rfl, K1.out, K2.out, hx⟩
     case round =>
      clear K1 K2 hx hoc
      obtain ⟨j, hj, rfl, rfl, k1, k2, hx⟩ := hrel
      have K1 := Lib.hid k1; have K2 := Lib.hid k2
      clear k1 k2
      by_cases hlj : j < 4
      ·obtain ⟨idx, hidx⟩ : ∃ idx : Nat, ((j : Int) - (q : Int) + 4) % 4 = (idx : Int) := ⟨(j + 4 - q) % 4, by omega⟩
       have hid2 : idx = (j + 4 - q) % 4 := by omega
       have hi4 : idx < 4 := by omega
       have hgc := cell_blk (i := 4 * n + j) (hx.keep HG.out) (bcells_at s (4 * n + j) (by omega))
       rw [HCS.out j hlj] at hgc
       have hfc := cell_blk (i := idx) K1.out (bcells_at f idx (by omega))
       rw [show f[idx]'(by omega) = f.getD idx 0 by simp [List.getD, show idx < f.length by omega]] at hfc
       have HMJ : Hid (mixK f col q (j + 1) = x8 (mixK f col q j) (gm (col.getD j 0) (f.getD idx 0))) := Lib.hid (by rw [hid2]; rfl)
       clear hid2
       generalize col.getD j 0 = b at *
       generalize f.getD idx 0 = c at *
       generalize mixK f col q j = a at *
       obtain ⟨ix, hix⟩ : ∃ ix : Nat, 4 * (n : Int) + (j : Int) = (ix : Int) := ⟨4 * n + j, by omega⟩
       rw [show 4 * n + j = ix by omega] at hgc
       have hixl : (ix : Int) < 16 := by omega
       have hii : (idx : Int) < 4 := by omega
       have hw0 : IntKind.i64.wrap (4 * (n : Int)) = 4 * (n : Int) := by rw [IntKind.wrap_i64]; omega
       have hw1 : IntKind.i64.wrap (ix : Int) = (ix : Int) := by rw [IntKind.wrap_i64]; omega
       have hws : IntKind.i64.wrap ((j : Int) - (q : Int)) = (j : Int) - (q : Int) := by rw [IntKind.wrap_i64]; omega
       have hwt : IntKind.i64.wrap ((j : Int) - (q : Int) + 4) = (j : Int) - (q : Int) + 4 := by rw [IntKind.wrap_i64]; omega
       have htm : ((j : Int) - (q : Int) + 4).tmod 4 = (idx : Int) := by rw [Int.tmod_eq_emod_of_nonneg (by omega)]; exact hidx
       have hxr := bxor8n (x := (a.toNat : Int)) (y := ((gm b c).toNat : Int)) a.toNat (gm b c).toNat rfl rfl a.toNat_lt (gm b c).toNat_lt
       rw [← x8_toNat] at hxr
       go_wp2
       refine Loud.wp_region_weave 18 wr (Loud.sps [.val (.int .u8 (a.toNat : Int)), .val (.slice (some ⟨g0, 0, none⟩) 16 cap), .val (.int .i64 (n : Int)), .val (.int .i64 (4 * (n : Int))), .val (.int .i64 (j : Int)), .val (.int .i64 (ix : Int)), .val (.pointer (some ⟨g0, ix, none⟩)), .val (.int .u8 (b.toNat : Int)), .val (.slice (some ⟨w.heap.size, 0, none⟩) 4 4), .val (.int .i64 (j : Int)), .val (.int .i64 (q : Int)), .val (.int .i64 ((j : Int) - (q : Int))), .val (.int .i64 ((j : Int) - (q : Int) + 4)), .val (.int .i64 (idx : Int)), .val (.pointer (some ⟨w.heap.size, idx, none⟩)), .val (.int .u8 (c.toNat : Int)), .val (.int .u8 ((gm b c).toNat : Int)), .val (.int .u8 ((x8 a (gm b c)).toNat : Int))]) (by kernel_rfl) (by kernel_rfl) (by show Ext _ _; repeat (first | exact Ext.refl _ | assumption | (with_reducible refine Ext.drew ?_) | (with_reducible refine Ext.drewN ?_ _) | (with_reducible refine Ext.alloc ?_ _) | (refine Ext.trans ?_ (by assumption)))) (Loud.sps_st _) ?wAx1 ?whAx1 ?whSx1 ?whFx1
       case whAx1 => intro u K hK; simp only [List.take_succ_cons, List.take_zero, Loud.puts]; go_simp; exact hK
       case whSx1 =>
        refine ⟨?wsx1_0, ?wsx1_1, ?wsx1_2, ?wsx1_3, ?wsx1_4, ?wsx1_5, ?wsx1_6, ?wsx1_7, ?wsx1_8, ?wsx1_9, ?wsx1_10, ?wsx1_11, ?wsx1_12, ?wsx1_13, ?wsx1_14, ?wsx1_15, ?wsx1_16, ?wsx1_17, trivial⟩
        all_goals (intro u β wq hq h; repeat (obtain ⟨h1, h⟩ := h; first | (replace h1 := h1 rfl; simp only [go_sem] at h1; try (obtain ⟨h1, h1b⟩ := h1)) | (have hno := (h1 : Region.binds _ _ = true → _); clear hno h1)))
        case wsx1_7 =>
         refine Or.inl ⟨rfl, fun K hK => ?_⟩
         have hqc := hq.cell_of hgc
         go_simp
         exact hK _ 0 _ (Ext.refl _) rfl
        case wsx1_15 =>
         refine Or.inl ⟨rfl, fun K hK => ?_⟩
         have hqc := hq.cell_of hfc
         go_simp
         exact hK _ 0 _ (Ext.refl _) rfl
        case wsx1_16 =>
         refine Or.inl ⟨rfl, fun K hK => ?_⟩
         go_simp
         refine (GT.out b c _).mono ?_; rintro e w1 ⟨rfl, hx1⟩; exact ⟨_, rfl, hK _ 0 _ hx1 rfl⟩
        all_goals (first | refine Or.inl ⟨rfl, fun K hK => ?_⟩ | refine Or.inl ⟨Loud.wanted_of rfl rfl (congrArg some (by assumption)), fun K hK => ?_⟩); go_simp; exact hK _ 0 _ (Ext.refl _) rfl
       intro u β w1 hq h
       have h0 := h 0 (by omega)
       have h1 := h 1 (by omega)
       have h2 := h 2 (by omega)
       have h3 := h 3 (by omega)
       have h4 := h 4 (by omega)
       have h5 := h 5 (by omega)
       have h6 := h 6 (by omega)
       have h7 := h 7 (by omega)
       have h8 := h 8 (by omega)
       have h9 := h 9 (by omega)
       have h10 := h 10 (by omega)
       have h11 := h 11 (by omega)
       have h12 := h 12 (by omega)
       have h13 := h 13 (by omega)
       have h14 := h 14 (by omega)
       have h15 := h 15 (by omega)
       have h16 := h 16 (by omega)
       have h17 := h 17 (by omega)
       clear h
       simp only [go_sem] at h0 h1 h2 h3 h4 h5 h6 h7 h8 h9 h10 h11 h12 h13 h14 h15 h16 h17
       simp only [List.drop_succ_cons, List.drop_zero]
       rw [h17]
       have hbq := Lib.hid (hq.keep K1.out)
       have hfq := Lib.hid (hq.keep K2.out)
       have hxq := hx.trans hq
       go_wp2
       go_roundw
       case measure => simp [intOf]; omega
       case rel =>
        repeat apply Exists.intro
        refine ⟨?_, by rw [decide_eq_true (show (n : Int) < 4 by omega), decide_eq_true (show (q : Int) < 4 by omega)]⟩
        exact ⟨j + 1, by omega, by rw [HMJ.out], by go_num, hbq.out, hfq.out, hxq⟩
      ·obtain rfl : j = 4 := by omega
       generalize mixK f col q 4 = a at *
       obtain ⟨ix, hix⟩ : ∃ ix : Nat, 4 * (n : Int) + (q : Int) = (ix : Int) := ⟨4 * n + q, by omega⟩
       have hin : 4 * n + q = ix := by omega
       have hix1 : 4 * n + (q + 1) = ix + 1 := by omega
       rw [hin] at HFI K2
       have hoc := cell_blk (i := ix) K2.out (fill_cell m 16 ix HL.out (by omega))
       have hof : wr.frozen? ⟨w.heap.size + 1, ix, none⟩ = false := frozen_blk K2.out
       have hixl : (ix : Int) < 16 := by omega
       have hw0 : IntKind.i64.wrap (4 * (n : Int)) = 4 * (n : Int) := by rw [IntKind.wrap_i64]; omega
       have hw1 : IntKind.i64.wrap (ix : Int) = (ix : Int) := by rw [IntKind.wrap_i64]; omega
       have o1 := heap_setCell_other wr ⟨w.heap.size + 1, ix, none⟩ (.int .u8 (a.toNat : Int)) (k := w.heap.size) (by show w.heap.size ≠ w.heap.size + 1; omega)
       have o2 := heap_setCell_same (i := ix) (.int .u8 (a.toNat : Int)) K2.out
       rw [bcells_set, HFI.out] at o2
       have O1 := Lib.hid (o1.trans K1.out); have O2 := Lib.hid o2
       clear o1 o2 hin
       go_wp2
       go_roundw
       case measure => simp [intOf]; omega
       case rel =>
        exact ⟨q + 1, by omega, by go_num, O1.out, by rw [hix1]; exact O2.out, hx.setCell (by show w.heap.size ≤ w.heap.size + 1; omega) _⟩
    ·obtain rfl : q = 4 := by omega
     go_wp2
     go_roundw
     case measure => simp [intOf]; omega
     case rel =>
      exact ⟨n + 1, by omega, by go_num, K1.out, by rw [show 4 * (n + 1) = 4 * n + 4 by omega]; exact K2.out, hx⟩
  ·obtain rfl : n = 4 := by omega
   rw [show 4 * 4 = 16 from rfl, fill_done m 0 16 HL.out] at k2
   have K2 := Lib.hid k2
   clear k1 k2
   go_wp2
   go_returns
   exact ⟨_, rfl, K2.out, by omega, hx⟩
theorem refMixed_any (g0 cap : Nat) (s : List UInt8) (hs : s.length = 16) (w : World) (hg : w.heap[g0]? = some (.cells (bcells s) 5)) :
  Calls Tryz.prog 161 #[.slice (some ⟨g0, 0, none⟩) 16 cap] w fun e w' => ∃ g, e = .returned (.slice (some ⟨g, 0, none⟩) 16 16) ∧ w'.heap[g]? = some (.cells (bcells (mixC [2, 3, 1, 1] s 4)) 5) ∧ w.heap.size ≤ g ∧ Ext w w' := by
 rw [← mixR_is s hs]
 exact refMixed_of g0 cap s (mixR [2, 3, 1, 1] s) [2, 3, 1, 1] rfl (mixR_length _ _) hs w hg (Lib.hid fun c r hc hr => mixR_at _ s c r hc hr)
end Go.Proofs.YtclekllaikcglaaGreat
