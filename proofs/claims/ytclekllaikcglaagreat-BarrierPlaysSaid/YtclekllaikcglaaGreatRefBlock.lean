import Derived.Test.YtclekllaikcglaaGreatRefRounds
import Derived.Test.YtclekllaikcglaaGreatRefMixed
import Derived.Test.YtclekllaikcglaaGreatNew

/- Contracts: layer 4, the document's Block. -/
namespace Go.Proofs.YtclekllaikcglaaGreat
open Go Go.RowKit
theorem xorK_all (a b : List UInt8) (ha : a.length = 16) (hb : b.length = 16) : xorK a b 16 = xorL a b := by
 have := xorL_length a b (by omega)
 unfold xorK
 rw [List.take_of_length_le (by omega), List.drop_of_length_le (by omega), List.append_nil]
theorem subS_at (t : List UInt8) (k : Nat) (h : k < 16) : (subS t)[k]'(by rw [subS_length]; exact h) = boxO (t.getD ((k + 4 * (k % 4)) % 16) 0) := by simp [subS]
set_option maxRecDepth 100000 in
set_option maxHeartbeats 8000000 in
theorem refBlock_of (key K s : List UInt8) (HKL : Hid (K.length = 176)) (HSL : Hid (s.length = 16)) (tb to_ cp : Nat) (w : World) (hT : ∀ x : UInt8, w.cell? ⟨tb, to_ + x.toNat, none⟩ = some (.int .u8 ((boxO x).toNat : Int)))
  (GR : Hid (Calls Tryz.prog 160 #[.string (bs key), .slice (some ⟨tb, to_, none⟩) 256 cp] w (RetRow w 9 ((rkL K).map strV)))) :
  Calls Tryz.prog 144 #[.string (bs key), .string (bs s), .slice (some ⟨tb, to_, none⟩) 256 cp] w fun e w' => e = .returned (.string (bs (encL K s))) ∧ Ext w w' := by
 have kt := to_bytes s
 simp only [HSL.out] at kt
 have HT0 := Lib.hid hT
 have GM := Lib.hid refMixed_any
 have hmk : ∀ w : World, (Instr.makeSlice 27 (.int .i64 16) (.int .i64 16)).run Tryz.prog w = .ok (.slice (some ⟨w.heap.size, 0, none⟩) 16 16) (w.alloc (.cells (bcells z16) 5)) := fun w => mk_bytes 16 (by omega) w
 clear hT
 go_enter Tryz.func144, Tryz.ntmps144
 go_upto_region 2 with (go_at_call 160; refine GR.out.mono ?_; rintro e w1 ⟨v, rfl, hrow, hx1⟩; obtain ⟨lg, lcap, hv, hlc⟩ := rounds_look hrow; subst hv)
 have HLC := Lib.hid hlc
 have HT := Lib.hid (fun x => hx1.cell_of (HT0.out x))
 clear hlc hrow HT0
 go_wp2
 have hcp := capOf_ge 5 w1 16
 obtain ⟨c0, hc0⟩ : ∃ c0, capOf 5 w1 16 = c0 := ⟨_, rfl⟩
 rw [hc0] at hcp ⊢
 obtain ⟨zz, hzz⟩ : ∃ zz, List.replicate (c0 - 16) (0 : UInt8) = zz := ⟨_, rfl⟩
 have hzl : zz.length = c0 - 16 := by rw [← hzz]; simp
 rw [hzz]
 obtain ⟨W1, hW1⟩ : ∃ W1, (w1.alloc (.cells (bcells (s ++ zz)) 5 (c0, c0 + 1))).drew = W1 := ⟨_, rfl⟩
 have k1 : Ext w1 W1 := by rw [← hW1]; exact ((Ext.refl w1).alloc _).drew
 have k2 : W1.heap[w1.heap.size]? = some (.cells (bcells (s ++ zz)) 5 (c0, c0 + 1)) := by rw [← hW1]; exact heap_alloc_new w1 _
 have K1 := Lib.hid k1; have K2 := Lib.hid k2
 rw [hW1]
 clear hW1 k1 k2 kt hc0 hzz
 obtain ⟨kn, hkn⟩ : ∃ kn, rkey K 0 = kn := ⟨_, rfl⟩
 have HKN := Lib.hid (show kn.length = 16 by rw [← hkn]; exact rkey_length K HKL.out 0 (by omega))
 have HKNE := Lib.hid hkn
 have HB0 : Hid (blkN K s 0 = xorL s kn) := Lib.hid (by rw [← hkn]; rfl)
 have HE : Hid (encL K s = blkN K s 10) := Lib.hid rfl
 clear hkn
 go_loopw [9] (fun i wr => ∃ k : Nat, k ≤ 16 ∧ i = .int .i64 k ∧ wr.heap[w1.heap.size]? = some (.cells (bcells (xorK s kn k ++ zz)) 5 (c0, c0 + 1)) ∧ Ext w1 wr) (fun i _ => 16 - (intOf i).toNat)
 case atStart => exact ⟨0, by omega, rfl, by rw [show xorK s kn 0 = s by simp [xorK]]; exact K2.out, K1.out⟩
 case round =>
  clear K1 K2
  obtain ⟨k, hk, rfl, hb, hx⟩ := hrel
  have hml := HSL.out; have hkl := HKN.out
  by_cases hlk : k < 16
  ·have hkl2 : k < s.length := by omega
   have hxl := xorK_length s kn (by omega) k (by omega)
   have q1 := cell_blk (i := k) hb (bcells_left (xorK s kn k) zz k (by rw [hxl]; omega))
   rw [xorK_at s kn (by omega) k hkl2] at q1
   have HS := Lib.hid (xorK_step s kn (by omega) k hkl2)
   have HBS := Lib.hid (fun y => bcells_set_left (xorK s kn k) zz k y (by rw [hxl]; omega))
   have HB := Lib.hid hb
   have HIX := fun W => run_index_str kn k (by omega) W
   rw [show kn[k]'(by omega) = kn.getD k 0 by simp [List.getD, show k < kn.length by omega]] at HS
   have hlc2 := hx.cell_of (HLC.out 0 (by omega))
   rw [HKNE.out] at hlc2
   clear hb hml hkl hxl
   generalize kn.getD k 0 = y at *
   generalize s[k]'hkl2 = x at *
   have hxr := bxor8n (x := (x.toNat : Int)) (y := (y.toNat : Int)) x.toNat y.toNat rfl rfl x.toNat_lt y.toNat_lt
   rw [← x8_toNat] at hxr
   have hki : (k : Int) < 16 := by omega
   clear hkl2
   go_wp2
   refine Loud.wp_region_weave 13 wr (Loud.sps [.val (.slice (some ⟨w1.heap.size, 0, none⟩) 16 c0), .val (.int .i64 (k : Int)), .val (.slice (some ⟨w1.heap.size, 0, none⟩) 16 c0), .val (.int .i64 (k : Int)), .val (.pointer (some ⟨w1.heap.size, k, none⟩)), .val (.int .u8 (x.toNat : Int)), .val (.slice (some ⟨lg, 0, none⟩) 11 lcap), .val (.pointer (some ⟨lg, 0, none⟩)), .val (.string (bs kn)), .val (.int .i64 (k : Int)), .val (.int .u8 (y.toNat : Int)), .val (.int .u8 ((x8 x y).toNat : Int)), .val (.pointer (some ⟨w1.heap.size, k, none⟩))]) (by kernel_rfl) (by kernel_rfl) (by show Ext _ _; repeat (first | exact Ext.refl _ | assumption | (with_reducible refine Ext.drew ?_) | (with_reducible refine Ext.drewN ?_ _) | (with_reducible refine Ext.alloc ?_ _) | (refine Ext.trans ?_ (by assumption)))) (Loud.sps_st _) ?wAx1 ?whAx1 ?whSx1 ?whFx1
   case whAx1 => intro u K hK; simp only [List.take_succ_cons, List.take_zero, Loud.puts]; go_simp; exact hK
   case whSx1 =>
    refine ⟨?wsx1_0, ?wsx1_1, ?wsx1_2, ?wsx1_3, ?wsx1_4, ?wsx1_5, ?wsx1_6, ?wsx1_7, ?wsx1_8, ?wsx1_9, ?wsx1_10, ?wsx1_11, ?wsx1_12, trivial⟩
    all_goals (intro u β wq hq h; repeat (obtain ⟨h1, h⟩ := h; first | (replace h1 := h1 rfl; simp only [go_sem] at h1; try (obtain ⟨h1, h1b⟩ := h1)) | (have hno := (h1 : Region.binds _ _ = true → _); clear hno h1)))
    case wsx1_5 =>
     refine Or.inl ⟨rfl, fun K hK => ?_⟩
     have hqc := hq.cell_of q1
     go_simp
     exact hK _ 0 _ (Ext.refl _) rfl
    case wsx1_8 =>
     refine Or.inl ⟨rfl, fun K hK => ?_⟩
     have hqc := hq.cell_of hlc2
     go_simp
     exact hK _ 0 _ (Ext.refl _) rfl
    all_goals (first | refine Or.inl ⟨rfl, fun K hK => ?_⟩ | refine Or.inl ⟨Loud.wanted_of rfl rfl (congrArg some (by assumption)), fun K hK => ?_⟩); go_simp; exact hK _ 0 _ (Ext.refl _) rfl
   intro u β w5 hq h
   have h0 := h 0 (by omega)
   have h1 := h 1 (by omega)
   have h2 := h 2 (by omega)
   have h3 := h 3 (by omega)
   have h4 := h 4 (by omega)
   have h5 := h 5 (by omega)
   have h6 := h 6 (by omega)
   have h7 := h 7 (by omega)
   have h8 := h 8 (by omega)
   have h9 := h 9 (by omega)
   have h10 := h 10 (by omega)
   have h11 := h 11 (by omega)
   have h12 := h 12 (by omega)
   clear h
   simp only [go_sem] at h0 h1 h2 h3 h4 h5 h6 h7 h8 h9 h10 h11 h12
   simp only [List.drop_succ_cons, List.drop_zero]
   rw [h12]
   have hbq := hq.keep HB.out
   have qs := hq.cell_of q1
   have qf : w5.frozen? ⟨w1.heap.size, k, none⟩ = false := frozen_spare hbq (by omega)
   have o2 := heap_setCell_same (i := k) (.int .u8 ((x8 x y).toNat : Int)) hbq
   rw [HBS.out, HS.out] at o2
   have O2 := Lib.hid o2
   have hxq := hx.trans hq
   clear o2 hbq
   rw [h11]
   go_wp2
   go_roundw
   case measure => simp [intOf]; omega
   case rel => exact ⟨k + 1, by omega, by go_num, O2.out, hxq.setCell (Nat.le_refl _) _⟩
  ·obtain rfl : k = 16 := by omega
   have hal : xorK s kn 16 = xorL s kn := xorK_all s kn hml hkl
   have hxl := xorL_length s kn (by omega)
   rw [hal, ← HB0.out] at hb
   rw [← HB0.out] at hxl
   have hrow0 : RowB wr w.heap.size (.slice (some ⟨w1.heap.size, 0, none⟩) 16 c0) (blkN K s 0) := by
    have hsz := hx1.size
    have hcz : (bcells (blkN K s 0 ++ zz)).size = c0 := by rw [bcells_size, List.length_append]; omega
    refine ⟨w1.heap.size, bcells (blkN K s 0 ++ zz), (c0, c0 + 1), by rw [hcz, hxl, hml], hsz, hb, .inr (by rw [hcz]), ?_, by omega⟩
    show ((blkN K s 0 ++ zz).map byteV).take _ = _
    rw [List.map_append, List.take_left' (by simp)]
   have HR0 := Lib.hid hrow0
   have HX0 := Lib.hid hx
   clear hrow0 hb hal hxl hml hkl hx HB0 HKNE HKN
   go_wp2
   have h1sz := hx1.size
   go_loopw [8, 10, 11, 12, 13, 14, 15] (fun bv nn _ _ _ _ _ wr => ∃ n : Nat, 1 ≤ n ∧ n ≤ 11 ∧ nn = .int .i64 n ∧ RowB wr w.heap.size bv (blkN K s (n - 1)) ∧ Ext w1 wr) (fun _ nn _ _ _ _ _ _ => 11 - (intOf nn).toNat)
   case atStart => exact ⟨1, by omega, by omega, rfl, HR0.out, HX0.out⟩
   case round =>
    clear HR0 HX0
    obtain ⟨n, hn1, hn11, rfl, hrow, hx⟩ := hrel
    obtain ⟨g, cs, hv, hg⟩ := hrow.look
    subst hv
    have htl := blkN_length K s HKL.out HSL.out (n - 1) (by omega)
    rw [htl] at hrow ⊢
    by_cases hlt : n ≤ 10
    ·obtain ⟨kn, hkn⟩ : ∃ kn, rkey K n = kn := ⟨_, rfl⟩
     have HBN : Hid (blkN K s n = xorL (if n < 10 then mixC [2, 3, 1, 1] (subS (blkN K s (n - 1))) 4 else subS (blkN K s (n - 1))) kn) := Lib.hid (by
      obtain ⟨r', rfl⟩ : ∃ r', n = r' + 1 := ⟨n - 1, by omega⟩
      rw [← hkn]
      rfl)
     have HKN := Lib.hid (show kn.length = 16 by rw [← hkn]; exact rkey_length K HKL.out n (by omega))
     have HKNE := Lib.hid hkn
     clear hkn
     generalize blkN K s (n - 1) = t at *
     have HRB := Lib.hid hrow; have HTL := Lib.hid htl
     have hgl : g < wr.heap.size := (hrow.lt g rfl).2
     clear hrow htl
     go_wp2
     obtain ⟨wo, hwo⟩ : ∃ x, x = wr := ⟨_, rfl⟩
     subst hwo
     go_loopw [12, 13, 14] (fun i _ _ wr => ∃ k : Nat, k ≤ 16 ∧ i = .int .i64 k ∧ wr.heap[wo.heap.size]? = some (.cells (bcells ((subS t).take k ++ List.replicate (16 - k) 0)) 5) ∧ Ext wo wr) (fun i _ _ _ => 16 - (intOf i).toNat)
     case atStart => exact ⟨0, by omega, rfl, heap_alloc_new _ _, (Ext.refl _).alloc _⟩
     case round =>
      obtain ⟨k, hk, rfl, hb, hxo⟩ := hrel
      have HB := Lib.hid hb
      clear hb
      by_cases hlk : k < 16
      ·obtain ⟨r, hr⟩ : ∃ r : Nat, (k : Int) % 4 = (r : Int) := ⟨k % 4, by omega⟩
       obtain ⟨c, hc⟩ : ∃ c : Nat, (k : Int) / 4 = (c : Int) := ⟨k / 4, by omega⟩
       obtain ⟨d, hd⟩ : ∃ d : Nat, (c : Int) + (r : Int) = (d : Int) := ⟨c + r, by omega⟩
       obtain ⟨e, he⟩ : ∃ e : Nat, (d : Int) % 4 = (e : Int) := ⟨d % 4, by omega⟩
       obtain ⟨ix, hix⟩ : ∃ ix : Nat, 4 * (e : Int) + (r : Int) = (ix : Int) := ⟨4 * e + r, by omega⟩
       have hidx : (k + 4 * (k % 4)) % 16 = ix := by omega
       have hfill := fill_set (subS t) 0 16 k (subS_length t) hlk
       rw [subS_at t k hlk, hidx] at hfill
       have htl := HTL.out
       have q1 := (HRB.out.ext hxo).cell ix (by omega)
       rw [show t[ix]'(by omega) = t.getD ix 0 by simp [List.getD, show ix < t.length by omega]] at q1
       have q1' : wr.cell? ⟨g, ix, none⟩ = some (.int .u8 ((t.getD ix 0).toNat : Int)) := q1
       have q2 := (hx.trans hxo).cell_of (HT.out (t.getD ix 0))
       have q3 := cell_blk (i := k) HB.out (fill_cell (subS t) 16 k (subS_length t) hlk)
       have q4 : wr.frozen? ⟨wo.heap.size, k, none⟩ = false := frozen_blk HB.out
       have o2 := heap_setCell_same (i := k) (.int .u8 ((boxO (t.getD ix 0)).toNat : Int)) HB.out
       rw [bcells_set, hfill] at o2
       have O2 := Lib.hid o2
       have hxi : ((t.getD ix 0).toNat : Int) < 256 := by have := (t.getD ix 0).toNat_lt; omega
       clear hfill q1 o2 htl hidx
       generalize boxO (t.getD ix 0) = y at *
       generalize t.getD ix 0 = x at *
       have hr2 : (k : Int).tmod 4 = (r : Int) := by rw [Int.tmod_eq_emod_of_nonneg (by omega)]; exact hr
       have hc2 : (k : Int).tdiv 4 = (c : Int) := by rw [Int.tdiv_eq_ediv_of_nonneg (by omega)]; exact hc
       have he2 : (d : Int).tmod 4 = (e : Int) := by rw [Int.tmod_eq_emod_of_nonneg (by omega)]; exact he
       have hw1 : IntKind.i64.wrap (d : Int) = (d : Int) := by rw [IntKind.wrap_i64]; omega
       have hw2 : IntKind.i64.wrap (4 * (e : Int)) = 4 * (e : Int) := by rw [IntKind.wrap_i64]; omega
       have hw3 : IntKind.i64.wrap (ix : Int) = (ix : Int) := by rw [IntKind.wrap_i64]; omega
       have hw4 : IntKind.i64.wrap (c : Int) = (c : Int) := by rw [IntKind.wrap_i64]; omega
       have hixl : (ix : Int) < 16 := by omega
       have hki : (k : Int) < 16 := by omega
       go_wp2
       go_roundw
       case measure => simp [intOf]; omega
       case rel => exact ⟨k + 1, by omega, by go_num, O2.out, hxo.setCell (Nat.le_refl _) _⟩
      ·obtain rfl : k = 16 := by omega
       rw [fill_done (subS t) 0 16 (subS_length t)] at HB
       have hxw := hx.trans hxo
       have hgw := hx.size
       by_cases hn10 : n < 10
       ·obtain ⟨mm, hmm⟩ : ∃ mm, mixC [2, 3, 1, 1] (subS t) 4 = mm := ⟨_, rfl⟩
        have HMME := Lib.hid hmm
        have HML := Lib.hid (show mm.length = 16 by rw [← hmm]; exact mixC_length [2, 3, 1, 1] (subS t) (subS_length t) 4 (by omega))
        have GM1 := Lib.hid (GM.out wo.heap.size 16 (subS t) (subS_length t) wr HB.out)
        rw [hmm] at GM1
        clear hmm
        go_wp2_with (go_at_call 161; refine GM1.out.mono ?_; rintro e w7 ⟨g7, rfl, hb7, hg7, hx7⟩; have HB7 := Lib.hid hb7; have hxw7 := hxw.trans hx7; have hgw7 := hxw.size; clear hb7 hx7)
        obtain ⟨wo2, hwo2⟩ : ∃ x, x = w7 := ⟨_, rfl⟩
        have HMM : Hid (wo2.heap[g7]? = some (.cells (bcells mm) 5)) := Lib.hid (by rw [hwo2]; exact HB7.out)
        have HX2 : Hid (Ext w1 wo2) := Lib.hid (by rw [hwo2]; exact hxw7)
        have hgm2 : w1.heap.size ≤ g7 := (by omega)
        rw [← hwo2]
        clear HB7 hxw7 hxw hxo HB hwo2
        obtain ⟨gm2, hgm3⟩ : ∃ x, x = g7 := ⟨_, rfl⟩
        rw [← hgm3] at HMM hgm2
        rw [← hgm3]
        clear hgm3
        go_loopw [15] (fun i wr => ∃ k : Nat, k ≤ 16 ∧ i = .int .i64 k ∧ wr.heap[gm2]? = some (.cells (bcells (xorK mm kn k)) 5) ∧ Ext w1 wr) (fun i _ => 16 - (intOf i).toNat)
        case atStart => exact ⟨0, by omega, rfl, by rw [show xorK mm kn 0 = mm by simp [xorK]]; exact HMM.out, HX2.out⟩
        case round =>
         clear HMM HX2
         obtain ⟨k, hk, rfl, hb, hx⟩ := hrel
         have hml := HML.out; have hkl := HKN.out
         by_cases hlk : k < 16
         ·have hkl2 : k < mm.length := by omega
          have hxl := xorK_length mm kn (by omega) k (by omega)
          have q1 := cell_blk (i := k) hb (bcells_at _ k (by rw [hxl]; omega))
          rw [xorK_at mm kn (by omega) k hkl2] at q1
          have HS := Lib.hid (xorK_step mm kn (by omega) k hkl2)
          have HB := Lib.hid hb
          have HIX := fun W => run_index_str kn k (by omega) W
          rw [show kn[k]'(by omega) = kn.getD k 0 by simp [List.getD, show k < kn.length by omega]] at HS
          have hlc2 := hx.cell_of (HLC.out n (by omega))
          rw [HKNE.out] at hlc2
          clear hb hml hkl hxl
          generalize kn.getD k 0 = y at *
          generalize mm[k]'hkl2 = x at *
          have hxr := bxor8n (x := (x.toNat : Int)) (y := (y.toNat : Int)) x.toNat y.toNat rfl rfl x.toNat_lt y.toNat_lt
          rw [← x8_toNat] at hxr
          have hki : (k : Int) < 16 := by omega
          have hni : (n : Int) < 11 := by omega
          clear hkl2
          go_wp2
          refine Loud.wp_region_weave 14 wr (Loud.sps [.val (.slice (some ⟨gm2, 0, none⟩) 16 16), .val (.int .i64 (k : Int)), .val (.slice (some ⟨gm2, 0, none⟩) 16 16), .val (.int .i64 (k : Int)), .val (.pointer (some ⟨gm2, k, none⟩)), .val (.int .u8 (x.toNat : Int)), .val (.slice (some ⟨lg, 0, none⟩) 11 lcap), .val (.int .i64 (n : Int)), .val (.pointer (some ⟨lg, n, none⟩)), .val (.string (bs kn)), .val (.int .i64 (k : Int)), .val (.int .u8 (y.toNat : Int)), .val (.int .u8 ((x8 x y).toNat : Int)), .val (.pointer (some ⟨gm2, k, none⟩))]) (by kernel_rfl) (by kernel_rfl) (by show Ext _ _; repeat (first | exact Ext.refl _ | assumption | (with_reducible refine Ext.drew ?_) | (with_reducible refine Ext.drewN ?_ _) | (with_reducible refine Ext.alloc ?_ _) | (refine Ext.trans ?_ (by assumption)))) (Loud.sps_st _) ?wAx2 ?whAx2 ?whSx2 ?whFx2
          case whAx2 => intro u K hK; simp only [List.take_succ_cons, List.take_zero, Loud.puts]; go_simp; exact hK
          case whSx2 =>
           refine ⟨?wsx2_0, ?wsx2_1, ?wsx2_2, ?wsx2_3, ?wsx2_4, ?wsx2_5, ?wsx2_6, ?wsx2_7, ?wsx2_8, ?wsx2_9, ?wsx2_10, ?wsx2_11, ?wsx2_12, ?wsx2_13, trivial⟩
           all_goals (intro u β wq hq h; repeat (obtain ⟨h1, h⟩ := h; first | (replace h1 := h1 rfl; simp only [go_sem] at h1; try (obtain ⟨h1, h1b⟩ := h1)) | (have hno := (h1 : Region.binds _ _ = true → _); clear hno h1)))
           case wsx2_5 =>
            refine Or.inl ⟨rfl, fun K hK => ?_⟩
            have hqc := hq.cell_of q1
            go_simp
            exact hK _ 0 _ (Ext.refl _) rfl
           case wsx2_9 =>
            refine Or.inl ⟨rfl, fun K hK => ?_⟩
            have hqc := hq.cell_of hlc2
            go_simp
            exact hK _ 0 _ (Ext.refl _) rfl
           all_goals (first | refine Or.inl ⟨rfl, fun K hK => ?_⟩ | refine Or.inl ⟨Loud.wanted_of rfl rfl (congrArg some (by assumption)), fun K hK => ?_⟩); go_simp; exact hK _ 0 _ (Ext.refl _) rfl
          intro u β w5 hq h
          have h0 := h 0 (by omega)
          have h1 := h 1 (by omega)
          have h2 := h 2 (by omega)
          have h3 := h 3 (by omega)
          have h4 := h 4 (by omega)
          have h5 := h 5 (by omega)
          have h6 := h 6 (by omega)
          have h7 := h 7 (by omega)
          have h8 := h 8 (by omega)
          have h9 := h 9 (by omega)
          have h10 := h 10 (by omega)
          have h11 := h 11 (by omega)
          have h12 := h 12 (by omega)
          have h13 := h 13 (by omega)
          clear h
          simp only [go_sem] at h0 h1 h2 h3 h4 h5 h6 h7 h8 h9 h10 h11 h12 h13
          simp only [List.drop_succ_cons, List.drop_zero]
          rw [h13]
          have hbq := hq.keep HB.out
          have qs := hq.cell_of q1
          have qf : w5.frozen? ⟨gm2, k, none⟩ = false := frozen_blk hbq
          have o2 := heap_setCell_same (i := k) (.int .u8 ((x8 x y).toNat : Int)) hbq
          rw [bcells_set, HS.out] at o2
          have O2 := Lib.hid o2
          have hxq := hx.trans hq
          clear o2 hbq
          rw [h12]
          go_wp2
          go_roundw
          case measure => simp [intOf]; omega
          case rel =>
           first
            | exact ⟨k + 1, by omega, by go_num, O2.out, hxq.setCell hgm2 _⟩
            | (repeat apply Exists.intro); refine ⟨?_, rfl⟩; exact ⟨k + 1, by omega, by go_num, O2.out, hxq.setCell hgm2 _⟩
            | (repeat apply Exists.intro); refine ⟨?_, by (try rw [decide_eq_true (show (n : Int) ≤ 10 by omega)]); (try rw [decide_eq_true (show (n : Int) < 10 by omega)]); (try rw [decide_eq_false (show ¬ (n : Int) < 10 by omega)]); try rfl⟩; exact ⟨k + 1, by omega, by go_num, O2.out, hxq.setCell hgm2 _⟩
         ·obtain rfl : k = 16 := by omega
          have HB := Lib.hid hb
          clear hb hml hkl
          go_wp2
          go_roundw
          case measure => simp [intOf]; omega
          case rel =>
           have hgoal : RowB wr w.heap.size (.slice (some ⟨gm2, 0, none⟩) 16 16) (blkN K s (n + 1 - 1)) := by
            have hxl := xorK_length mm kn (by rw [HML.out, HKN.out]) 16 (by rw [HML.out]; omega)
            rw [HML.out] at hxl
            have hal : xorK mm kn 16 = xorL mm kn := xorK_all mm kn HML.out HKN.out
            have hbe := HB.out
            rw [hal] at hbe hxl
            rw [show n + 1 - 1 = n by omega, HBN.out , if_pos hn10]
            rw [HMME.out]
            refine ⟨gm2, bcells (xorL mm kn), (0, 0), by rw [hxl, bcells_size, hxl], by omega, hbe, .inl rfl, ?_, by rw [bcells_size]; omega⟩
            show ((xorL mm kn).map byteV).take _ = _
            rw [List.take_of_length_le (by simp)]
           first
            | exact ⟨n + 1, by omega, by omega, by go_num, hgoal, hx⟩
            | (repeat apply Exists.intro); refine ⟨?_, rfl⟩; exact ⟨n + 1, by omega, by omega, by go_num, hgoal, hx⟩
       ·obtain ⟨mm, hmm⟩ : ∃ mm, subS t = mm := ⟨_, rfl⟩
        have HMME := Lib.hid hmm
        have HML := Lib.hid (show mm.length = 16 by rw [← hmm]; exact subS_length t)
        rw [hmm] at HB
        clear hmm
        go_wp2
        obtain ⟨wo2, hwo2⟩ : ∃ x, x = wr := ⟨_, rfl⟩
        have HMM : Hid (wo2.heap[wo.heap.size]? = some (.cells (bcells mm) 5)) := Lib.hid (by rw [hwo2]; exact HB.out)
        have HX2 : Hid (Ext w1 wo2) := Lib.hid (by rw [hwo2]; exact hxw)
        have hgm2 : w1.heap.size ≤ wo.heap.size := hgw
        rw [← hwo2]
        clear HB hxw hxo hwo2
        obtain ⟨gm2, hgm3⟩ : ∃ x, x = wo.heap.size := ⟨_, rfl⟩
        rw [← hgm3] at HMM hgm2
        rw [← hgm3]
        clear hgm3
        go_loopw [15] (fun i wr => ∃ k : Nat, k ≤ 16 ∧ i = .int .i64 k ∧ wr.heap[gm2]? = some (.cells (bcells (xorK mm kn k)) 5) ∧ Ext w1 wr) (fun i _ => 16 - (intOf i).toNat)
        case atStart => exact ⟨0, by omega, rfl, by rw [show xorK mm kn 0 = mm by simp [xorK]]; exact HMM.out, HX2.out⟩
        case round =>
         clear HMM HX2
         obtain ⟨k, hk, rfl, hb, hx⟩ := hrel
         have hml := HML.out; have hkl := HKN.out
         by_cases hlk : k < 16
         ·have hkl2 : k < mm.length := by omega
          have hxl := xorK_length mm kn (by omega) k (by omega)
          have q1 := cell_blk (i := k) hb (bcells_at _ k (by rw [hxl]; omega))
          rw [xorK_at mm kn (by omega) k hkl2] at q1
          have HS := Lib.hid (xorK_step mm kn (by omega) k hkl2)
          have HB := Lib.hid hb
          have HIX := fun W => run_index_str kn k (by omega) W
          rw [show kn[k]'(by omega) = kn.getD k 0 by simp [List.getD, show k < kn.length by omega]] at HS
          have hlc2 := hx.cell_of (HLC.out n (by omega))
          rw [HKNE.out] at hlc2
          clear hb hml hkl hxl
          generalize kn.getD k 0 = y at *
          generalize mm[k]'hkl2 = x at *
          have hxr := bxor8n (x := (x.toNat : Int)) (y := (y.toNat : Int)) x.toNat y.toNat rfl rfl x.toNat_lt y.toNat_lt
          rw [← x8_toNat] at hxr
          have hki : (k : Int) < 16 := by omega
          have hni : (n : Int) < 11 := by omega
          clear hkl2
          go_wp2
          refine Loud.wp_region_weave 14 wr (Loud.sps [.val (.slice (some ⟨gm2, 0, none⟩) 16 16), .val (.int .i64 (k : Int)), .val (.slice (some ⟨gm2, 0, none⟩) 16 16), .val (.int .i64 (k : Int)), .val (.pointer (some ⟨gm2, k, none⟩)), .val (.int .u8 (x.toNat : Int)), .val (.slice (some ⟨lg, 0, none⟩) 11 lcap), .val (.int .i64 (n : Int)), .val (.pointer (some ⟨lg, n, none⟩)), .val (.string (bs kn)), .val (.int .i64 (k : Int)), .val (.int .u8 (y.toNat : Int)), .val (.int .u8 ((x8 x y).toNat : Int)), .val (.pointer (some ⟨gm2, k, none⟩))]) (by kernel_rfl) (by kernel_rfl) (by show Ext _ _; repeat (first | exact Ext.refl _ | assumption | (with_reducible refine Ext.drew ?_) | (with_reducible refine Ext.drewN ?_ _) | (with_reducible refine Ext.alloc ?_ _) | (refine Ext.trans ?_ (by assumption)))) (Loud.sps_st _) ?wAx3 ?whAx3 ?whSx3 ?whFx3
          case whAx3 => intro u K hK; simp only [List.take_succ_cons, List.take_zero, Loud.puts]; go_simp; exact hK
          case whSx3 =>
           refine ⟨?wsx3_0, ?wsx3_1, ?wsx3_2, ?wsx3_3, ?wsx3_4, ?wsx3_5, ?wsx3_6, ?wsx3_7, ?wsx3_8, ?wsx3_9, ?wsx3_10, ?wsx3_11, ?wsx3_12, ?wsx3_13, trivial⟩
           all_goals (intro u β wq hq h; repeat (obtain ⟨h1, h⟩ := h; first | (replace h1 := h1 rfl; simp only [go_sem] at h1; try (obtain ⟨h1, h1b⟩ := h1)) | (have hno := (h1 : Region.binds _ _ = true → _); clear hno h1)))
           case wsx3_5 =>
            refine Or.inl ⟨rfl, fun K hK => ?_⟩
            have hqc := hq.cell_of q1
            go_simp
            exact hK _ 0 _ (Ext.refl _) rfl
           case wsx3_9 =>
            refine Or.inl ⟨rfl, fun K hK => ?_⟩
            have hqc := hq.cell_of hlc2
            go_simp
            exact hK _ 0 _ (Ext.refl _) rfl
           all_goals (first | refine Or.inl ⟨rfl, fun K hK => ?_⟩ | refine Or.inl ⟨Loud.wanted_of rfl rfl (congrArg some (by assumption)), fun K hK => ?_⟩); go_simp; exact hK _ 0 _ (Ext.refl _) rfl
          intro u β w5 hq h
          have h0 := h 0 (by omega)
          have h1 := h 1 (by omega)
          have h2 := h 2 (by omega)
          have h3 := h 3 (by omega)
          have h4 := h 4 (by omega)
          have h5 := h 5 (by omega)
          have h6 := h 6 (by omega)
          have h7 := h 7 (by omega)
          have h8 := h 8 (by omega)
          have h9 := h 9 (by omega)
          have h10 := h 10 (by omega)
          have h11 := h 11 (by omega)
          have h12 := h 12 (by omega)
          have h13 := h 13 (by omega)
          clear h
          simp only [go_sem] at h0 h1 h2 h3 h4 h5 h6 h7 h8 h9 h10 h11 h12 h13
          simp only [List.drop_succ_cons, List.drop_zero]
          rw [h13]
          have hbq := hq.keep HB.out
          have qs := hq.cell_of q1
          have qf : w5.frozen? ⟨gm2, k, none⟩ = false := frozen_blk hbq
          have o2 := heap_setCell_same (i := k) (.int .u8 ((x8 x y).toNat : Int)) hbq
          rw [bcells_set, HS.out] at o2
          have O2 := Lib.hid o2
          have hxq := hx.trans hq
          clear o2 hbq
          rw [h12]
          go_wp2
          go_roundw
          case measure => simp [intOf]; omega
          case rel =>
           first
            | exact ⟨k + 1, by omega, by go_num, O2.out, hxq.setCell hgm2 _⟩
            | (repeat apply Exists.intro); refine ⟨?_, rfl⟩; exact ⟨k + 1, by omega, by go_num, O2.out, hxq.setCell hgm2 _⟩
            | (repeat apply Exists.intro); refine ⟨?_, by (try rw [decide_eq_true (show (n : Int) ≤ 10 by omega)]); (try rw [decide_eq_true (show (n : Int) < 10 by omega)]); (try rw [decide_eq_false (show ¬ (n : Int) < 10 by omega)]); try rfl⟩; exact ⟨k + 1, by omega, by go_num, O2.out, hxq.setCell hgm2 _⟩
         ·obtain rfl : k = 16 := by omega
          have HB := Lib.hid hb
          clear hb hml hkl
          go_wp2
          go_roundw
          case measure => simp [intOf]; omega
          case rel =>
           have hgoal : RowB wr w.heap.size (.slice (some ⟨gm2, 0, none⟩) 16 16) (blkN K s (n + 1 - 1)) := by
            have hxl := xorK_length mm kn (by rw [HML.out, HKN.out]) 16 (by rw [HML.out]; omega)
            rw [HML.out] at hxl
            have hal : xorK mm kn 16 = xorL mm kn := xorK_all mm kn HML.out HKN.out
            have hbe := HB.out
            rw [hal] at hbe hxl
            rw [show n + 1 - 1 = n by omega, HBN.out , if_neg hn10]
            rw [HMME.out]
            refine ⟨gm2, bcells (xorL mm kn), (0, 0), by rw [hxl, bcells_size, hxl], by omega, hbe, .inl rfl, ?_, by rw [bcells_size]; omega⟩
            show ((xorL mm kn).map byteV).take _ = _
            rw [List.take_of_length_le (by simp)]
           first
            | exact ⟨n + 1, by omega, by omega, by go_num, hgoal, hx⟩
            | (repeat apply Exists.intro); refine ⟨?_, rfl⟩; exact ⟨n + 1, by omega, by omega, by go_num, hgoal, hx⟩
    ·obtain rfl : n = 11 := by omega
     have hc := fun i (hi : i < (blkN K s (11 - 1)).length) => hrow.cell i hi
     have htl' : (blkN K s (11 - 1)).length = 16 := htl
     rw [show 11 - 1 = 10 from rfl] at hc htl'
     have kc : ∀ c, (convert 27 9 (.slice (some ⟨g, 0, none⟩) 16 c)).run Tryz.prog wr = .ok (.string (bs (blkN K s 10))) wr := fun c => by
      have := to_str wr g 0 c (blkN K s 10) (fun i hi => by rw [Nat.zero_add]; exact hc i hi)
      rw [htl'] at this
      exact this
     clear hc htl htl' hrow
     generalize blkN K s 10 = t at *
     go_wp2
     go_returns
     exact ⟨by rw [HE.out]; rfl, hx1.trans hx⟩
theorem refCipher_any (key s : List UInt8) (hk : key.length = 16) (hs : s.length = 16) (tb to_ cp : Nat) (w : World) (hT : ∀ x : UInt8, w.cell? ⟨tb, to_ + x.toNat, none⟩ = some (.int .u8 ((boxO x).toNat : Int))) :
  Calls Tryz.prog 144 #[.string (bs key), .string (bs s), .slice (some ⟨tb, to_, none⟩) 256 cp] w fun e w' => e = .returned (.string (bs (encL (rks key) s))) ∧ Ext w w' :=
 refBlock_of key (rks key) s (Lib.hid (rks_length key)) (Lib.hid hs) tb to_ cp w hT (Lib.hid (refRounds_any key hk tb to_ cp w hT))
theorem table_look {w w' : World} {e : Ending} (h : RetRow w 5 (boxT.map byteV) e w') :
  ∃ tb to_ cp : Nat, e = .returned (.slice (some ⟨tb, to_, none⟩) 256 cp) ∧ (∀ x : UInt8, w'.cell? ⟨tb, to_ + x.toNat, none⟩ = some (.int .u8 ((boxO x).toNat : Int))) ∧ Ext w w' := by
 obtain ⟨v, rfl, hrow, hx⟩ := h
 have hl : (boxT.map byteV).length = 256 := by rw [List.length_map, boxT_length]
 rcases hrow.look with ⟨_, h2⟩ | ⟨g, cap, cur, rfl, _⟩
 ·rw [h2] at hl; cases hl
 ·refine ⟨g, 0, cap, by rw [hl], fun x => ?_, hx⟩
  have hxl : x.toNat < (boxT.map byteV).length := by rw [hl]; exact x.toNat_lt
  have := Row.cellAt hrow x.toNat hxl
  rw [Nat.zero_add, this, List.getElem_map]
  have hb := boxO_at x
  rw [List.getElem?_eq_getElem (by rw [boxT_length]; exact x.toNat_lt)] at hb
  injection hb with hb
  rw [hb]; rfl
end Go.Proofs.YtclekllaikcglaaGreat
