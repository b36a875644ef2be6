import Derived.Test.YtclekllaikcglaaGreatHex
import Derived.Test.YtclekllaikcglaaGreatBase
import Derived.Test.YtclekllaikcglaaGreatLoud
import Derived.Deep.DeepCutAuto
import Derived.Laws.Tables

/- Contracts: layer 2, the program's words of a block and state behind it. -/
namespace Go.Proofs.YtclekllaikcglaaGreat
open Go Go.RowKit
def u32V (x : UInt32) : Value := .int .u32 (x.toNat : Int)
def p32 (x y : UInt32) : UInt32 := x + y
@[go_sem] theorem padd32 (x y : UInt32) : ((x.toNat : Int) + (y.toNat : Int)) % 4294967296 = ((p32 x y).toNat : Int) := by
 simp [p32]
@[go_sem] theorem padd32w (x y : UInt32) : IntKind.u32.wrap ((x.toNat : Int) + (y.toNat : Int)) = ((p32 x y).toNat : Int) := by
 rw [IntKind.wrap_u32]; exact padd32 x y
def turnedS (x : UInt32) (ks : List Int) : UInt32 := ks.foldl (fun y n => x32 y (rotr x n)) 0
theorem turnedS_take (x : UInt32) (ks : List Int) (k : Nat) (h : k < ks.length) : turnedS x (ks.take (k + 1)) = x32 (turnedS x (ks.take k)) (rotr x ks[k]) := by
 rw [List.take_succ_eq_append_getElem h, turnedS, List.foldl_append]; rfl
set_option maxRecDepth 100000 in
set_option maxHeartbeats 1000000 in
theorem turned_any (x : UInt32) (ks : List Int) (ad : Option Addr) (cap : Nat) (w : World) (hl : ks.length ≤ 1048576) (hv : Sl w (.slice ad ks.length cap) (ks.map (Value.int .i64))) :
  Calls Tryz.prog 151 #[.int .u32 x.toNat, .slice ad ks.length cap] w fun e w' => e = .returned (.int .u32 (turnedS x ks).toNat) ∧ Ext w w' := by
 have G1 := Lib.hid (fun b w => Turn_any x b w)
 go_enter Tryz.func151, Tryz.ntmps151
 go_wp2
 go_loopw [4, 9] (fun o i wr => ∃ k : Nat, k ≤ ks.length ∧ i = .int .i64 k ∧ o = .int .u32 (turnedS x (ks.take k)).toNat ∧ Ext w wr) (fun _ i _ => ks.length - (intOf i).toNat)
 case atStart => exact ⟨0, by omega, rfl, rfl, Ext.refl _⟩
 case round =>
  obtain ⟨k, hk, rfl, rfl, hx⟩ := hrel
  by_cases hlt : k < ks.length
  ·obtain ⟨b, off, ha, hbl, hcell⟩ := (hv.ext hx).at_ k (by simpa using hlt)
   rw [List.getElem_map] at hcell
   subst ha
   have HST := Lib.hid (turnedS_take x ks k hlt)
   go_wp2_with (go_at_call 125; with_reducible refine (G1.out _ _).mono ?_; rintro e w1 ⟨rfl, hx1⟩)
   go_roundw
   case measure => simp [intOf]; omega
   case rel => exact ⟨k + 1, by omega, by go_num, by rw [HST.out], hx.trans hx1⟩
  ·obtain rfl : k = ks.length := by omega
   rw [List.take_length]
   go_wp2
   go_returns
   exact ⟨rfl, hx⟩
theorem turned2 (x : UInt32) (k1 k2 : Int) (b : Nat) (w : World) {T : TypeId} (h : w.heap[b]? = some (.cells #[.int .i64 k1, .int .i64 k2] T)) :
  Calls Tryz.prog 151 #[.int .u32 x.toNat, .slice (some ⟨b, 0, none⟩) 2 2] w fun e w' => e = .returned (.int .u32 (turnedS x [k1, k2]).toNat) ∧ Ext w w' :=
 turned_any x [k1, k2] _ _ w (by simp) ⟨_, _, rfl, fun i hi => ⟨b, 0, rfl, blk_lt h, by
  match i, hi with
  | 0, _ => exact cell_blk h rfl
  | 1, _ => exact cell_blk h rfl⟩⟩
theorem turned3 (x : UInt32) (k1 k2 k3 : Int) (b : Nat) (w : World) {T : TypeId} (h : w.heap[b]? = some (.cells #[.int .i64 k1, .int .i64 k2, .int .i64 k3] T)) :
  Calls Tryz.prog 151 #[.int .u32 x.toNat, .slice (some ⟨b, 0, none⟩) 3 3] w fun e w' => e = .returned (.int .u32 (turnedS x [k1, k2, k3]).toNat) ∧ Ext w w' :=
 turned_any x [k1, k2, k3] _ _ w (by simp) ⟨_, _, rfl, fun i hi => ⟨b, 0, rfl, blk_lt h, by
  match i, hi with
  | 0, _ => exact cell_blk h rfl
  | 1, _ => exact cell_blk h rfl
  | 2, _ => exact cell_blk h rfl⟩⟩
def shr32 (x : UInt32) (k : Nat) : UInt32 := UInt32.ofNat (x.toNat / 2 ^ k)
@[go_sem] theorem shr_3 (x : UInt32) : ((x.toNat : Int) / 8) = ((shr32 x 3).toNat : Int) := by
 have := x.toNat_lt
 simp only [shr32]
 rw [UInt32.toNat_ofNat_of_lt' (by show _ < 4294967296; omega)]; omega
@[go_sem] theorem shr_10 (x : UInt32) : ((x.toNat : Int) / 1024) = ((shr32 x 10).toNat : Int) := by
 have := x.toNat_lt
 simp only [shr32]
 rw [UInt32.toNat_ofNat_of_lt' (by show _ < 4294967296; omega)]; omega
def nextW (w : List UInt32) : UInt32 :=
 let t := w.length
 p32 (p32 (p32 (w.getD (t - 16) 0) (x32 (turnedS (w.getD (t - 15) 0) [7, 18]) (shr32 (w.getD (t - 15) 0) 3))) (w.getD (t - 7) 0)) (x32 (turnedS (w.getD (t - 2) 0) [17, 19]) (shr32 (w.getD (t - 2) 0) 10))
def wordsN (b : List UInt8) : Nat → List UInt32
 | 0 => []
 | n + 1 => wordsN b n ++ [if n < 16 then UInt32.ofNat (Get32 b (4 * n)).1 else nextW (wordsN b n)]
theorem wordsN_length (b : List UInt8) : ∀ n, (wordsN b n).length = n
 | 0 => rfl
 | n + 1 => by simp [wordsN, wordsN_length b n]
theorem und_u32s : Tryz.prog.underlying 43 = some (.slice 46) := by kernel_rfl
theorem info_u32 : (Tryz.prog.info? 46).map (fun i => (i.zero, i.size, i.bytes)) = some (some (.int .u32 0), 1, 4) := by kernel_rfl
def wcells (l : List UInt32) : Array Value := (l.map u32V).toArray
theorem wcells_size (l : List UInt32) : (wcells l).size = l.length := by simp [wcells]
theorem wcells_at (l : List UInt32) (i : Nat) (h : i < l.length) : (wcells l)[i]? = some (.int .u32 (l[i].toNat : Int)) := by simp [wcells, h, u32V]
theorem wcells_set (l : List UInt32) (i : Nat) (x : UInt32) : (wcells l).setIfInBounds i (Value.int .u32 (x.toNat : Int)) = wcells (l.set i x) := by
 simp [wcells, List.map_set, u32V]
theorem wcells_rep (n : Nat) : Array.replicate n (Value.int .u32 0) = wcells (List.replicate n 0) := by
 simp [wcells, u32V]
theorem mk_u32 (c : Nat) (hc : c ≤ 17592186044416) (w : World) :
  (Instr.makeSlice 43 (.int .i64 c) (.int .i64 c)).run Tryz.prog w = .ok (.slice (some ⟨w.heap.size, 0, none⟩) c c) (w.alloc (.cells (wcells (List.replicate c 0)) 46)) := by
 obtain ⟨i0, hi, hz0, hz1, hz2⟩ := info_parts info_u32
 have := run_make (P := Tryz.prog) w _ _ i0 (.int .u32 0) und_u32s hi hz0 .i64 .i64 c c (by omega) (by omega) (by rw [hz2]; omega) (by omega)
 rw [this, ← wcells_rep]
 refine congrArg (fun x => Result.ok (Value.slice (some ⟨w.heap.size, 0, none⟩) c c) (w.alloc (.cells x 46))) (?_ : _ = Array.replicate c (Value.int .u32 0))
 simp [madeCells, hz1, Value.cells]
 apply Array.ext <;> simp
 intro i _; rw [Nat.mod_one]; rfl
theorem wordsN_take (b : List UInt8) (k : Nat) : ∀ n, k ≤ n → (wordsN b n).take k = wordsN b k := by
 intro n
 induction n with
 | zero =>
  intro h
  obtain rfl : k = 0 := by omega
  rfl
 | succ n ih =>
  intro h
  by_cases hk : k = n + 1
  ·subst hk; rw [List.take_of_length_le (by rw [wordsN_length]; omega)]
  ·simp only [wordsN]
   rw [List.take_append_of_le_length (by rw [wordsN_length]; omega), ih (by omega)]
theorem wordsN_at (b : List UInt8) (k n : Nat) (h : k < n) : (wordsN b n)[k]'(by rw [wordsN_length]; exact h) = if k < 16 then UInt32.ofNat (Get32 b (4 * k)).1 else nextW (wordsN b k) := by
 have h1 : (wordsN b n).take (k + 1) = wordsN b (k + 1) := wordsN_take b (k + 1) n (by omega)
 have h2 : ((wordsN b n).take (k + 1))[k]'(by rw [List.length_take, wordsN_length]; omega) = (wordsN b n)[k]'(by rw [wordsN_length]; exact h) := by rw [List.getElem_take]
 rw [← h2]
 simp only [h1, wordsN]
 rw [List.getElem_append_right (by rw [wordsN_length]; omega)]
 simp [wordsN_length]
theorem Get32_u32 (b : List UInt8) (p : Int) : (((Get32 b p).1 : Nat) : Int) = ((UInt32.ofNat (Get32 b p).1).toNat : Int) := by
 have := Get32_lt b p
 rw [UInt32.toNat_ofNat_of_lt' (by show _ < 4294967296; omega)]
def words (b : List UInt8) : List UInt32 := wordsN b 64
theorem words_length (b : List UInt8) : (words b).length = 64 := wordsN_length b 64
theorem words_take (b : List UInt8) (k : Nat) (hk : k ≤ 64) : (words b).take k = wordsN b k := wordsN_take b k 64 hk
theorem words_at (b : List UInt8) (k : Nat) (hk : k < 64) : (words b)[k]? = some (if k < 16 then UInt32.ofNat (Get32 b (4 * (k : Int))).1 else nextW (wordsN b k)) := by
 rw [← wordsN_at b k 64 hk]; exact List.getElem?_eq_getElem _
theorem fill_set32 (S : List UInt32) (k : Nat) (x : UInt32) (hS : S.length = 64) (hk : k < 64) (hx : S[k]? = some x) : (S.take k ++ List.replicate (64 - k) 0).set k x = S.take (k + 1) ++ List.replicate (64 - (k + 1)) 0 := by
 have hk' : k < S.length := by omega
 rw [List.getElem?_eq_getElem hk'] at hx
 cases hx
 exact fill_set S 0 64 k hS hk
def zw : List UInt32 := List.replicate 64 0
theorem mk_u32_64 (w : World) : (Instr.makeSlice 43 (.int .i64 64) (.int .i64 64)).run Tryz.prog w = .ok (.slice (some ⟨w.heap.size, 0, none⟩) 64 64) (w.alloc (.cells (wcells zw) 46)) := by
 have h := mk_u32 64 (by omega) w
 rw [show ((64 : Nat) : Int) = 64 from rfl] at h
 rw [h]; rfl
set_option maxRecDepth 100000 in
set_option maxHeartbeats 4000000 in
theorem Words_gen (b : List UInt8) (S : List UInt32) (w : World) (h : b.length = 64) (hSl : S.length = 64) (hSt : ∀ k, k ≤ 64 → S.take k = wordsN b k) (hSa : ∀ k : Nat, k < 64 → S[k]? = some (if k < 16 then UInt32.ofNat (Get32 b (4 * (k : Int))).1 else nextW (wordsN b k))) :
  Calls Tryz.prog 150 #[.string (bs b)] w fun e w' => e = .returned (.slice (some ⟨w.heap.size, 0, none⟩) 64 64) ∧ w'.heap[w.heap.size]? = some (.cells (wcells S) 46) ∧ Ext w w' := by
 have hne : ((b.length : Int) != 64) = false := by simp [h]
 have hl : b.length ≤ 1099511627776 := by omega
 have hmk : ∀ w : World, (Instr.makeSlice 43 (.int .i64 64) (.int .i64 64)).run Tryz.prog w = .ok (.slice (some ⟨w.heap.size, 0, none⟩) 64 64) (w.alloc (.cells (wcells zw) 46)) := mk_u32_64
 have hz : zw = S.take 0 ++ List.replicate (64 - 0) 0 := rfl
 have SL := Lib.hid hSl; have ST := Lib.hid hSt; have SA := Lib.hid hSa; have HZ := Lib.hid hz
 have G1 := Lib.hid (fun p w => Get32_any b p w hl)
 clear h hSl hSt hSa hz
 go_enter Tryz.func150, Tryz.ntmps150
 go_wp2
 obtain ⟨g, hg⟩ : ∃ g, g = w.heap.size := ⟨_, rfl⟩
 rw [← hg]
 have hgw : w.heap.size ≤ g := by omega
 have hst0 : (w.alloc (.cells (wcells zw) 46)).heap[g]? = some (.cells (wcells (S.take 0 ++ List.replicate (64 - 0) 0)) 46) := by rw [hg, ← HZ.out]; exact heap_alloc_new _ _
 have HG := Lib.hid hg
 clear hg
 go_loopw [13] (fun i wr => ∃ k : Nat, k ≤ 64 ∧ i = .int .i64 k ∧ wr.heap[g]? = some (.cells (wcells (S.take k ++ List.replicate (64 - k) 0)) 46) ∧ Ext w wr) (fun i _ => 64 - (intOf i).toNat)
 case atStart => exact ⟨0, by omega, rfl, hst0, (Ext.refl w).alloc _⟩
 case round =>
  obtain ⟨k, hk, rfl, hh, hx⟩ := hrel
  have hgl := blk_lt hh
  have hfz : ∀ i, wr.frozen? ⟨g, i, none⟩ = false := fun i => frozen_blk hh
  have HH := Lib.hid hh
  by_cases hlt : k < 64
  ·have hcell : wr.cell? ⟨g, k, none⟩ = some (.int .u32 0) := cell_blk hh (by
    have := fill_at S (0 : UInt32) 64 k SL.out hlt
    simp only [wcells, List.getElem?_toArray]
    rw [List.getElem?_map, this]; rfl)
   clear hh
   by_cases h16 : k < 16
   ·go_wp2_with (go_at_call 65; with_reducible refine (G1.out _ _).mono ?_; rintro e w' ⟨rfl, rfl⟩)
    have hcv : ((Get32 b (4 * (k : Int))).1 : Int) = ((UInt32.ofNat (Get32 b (4 * (k : Int))).1).toNat : Int) := Get32_u32 b _
    have hfs := fill_set32 S k (UInt32.ofNat (Get32 b (4 * (k : Int))).1) SL.out hlt (by rw [SA.out k hlt, if_pos h16])
    have HFS := Lib.hid hfs
    clear hfs
    go_roundw
    case measure => simp [intOf]; omega
    case rel =>
     refine ⟨k + 1, by omega, by go_num, ?_, hx.setCell hgw _⟩
     rw [heap_setCell_same _ HH.out]
     rw [hcv, wcells_set, HFS.out]
   ·have h16' : 16 ≤ k := by omega
    have rd : ∀ j (hj : j < k), ∀ wq, Ext wr wq → wq.cell? ⟨g, j, none⟩ = some (.int .u32 (((wordsN b k).getD j 0).toNat : Int)) := by
     intro j hj wq hq
     refine hq.cell_of (cell_blk HH.out ?_)
     have h1 : (S.take k ++ List.replicate (64 - k) 0)[j]? = some ((wordsN b k).getD j 0) := by
      rw [List.getElem?_append_left (by rw [List.length_take, SL.out]; omega), ST.out k (by omega)]
      rw [List.getD_eq_getElem?_getD, List.getElem?_eq_getElem (by rw [wordsN_length]; exact hj)]; rfl
     simp only [wcells, List.getElem?_toArray]
     rw [List.getElem?_map, h1]; rfl
    have w16 : IntKind.i64.wrap ((k : Int) - 16) = ((k - 16 : Nat) : Int) := by rw [IntKind.wrap_i64]; omega
    have w7 : IntKind.i64.wrap ((k : Int) - 7) = ((k - 7 : Nat) : Int) := by rw [IntKind.wrap_i64]; omega
    have l16 : ((k - 16 : Nat) : Int) < 64 := by omega
    have l7 : ((k - 7 : Nat) : Int) < 64 := by omega
    have r15 := rd (k - 15) (by omega); have r2 := rd (k - 2) (by omega); have r7 := rd (k - 7) (by omega); have r16 := rd (k - 16) (by omega)
    have q15 := r15 wr (Ext.refl _); have q2 := r2 wr (Ext.refl _)
    go_wp2
    go_quiet (fail)
    go_wp2
    have hfs := fill_set32 S k (nextW (wordsN b k)) SL.out hlt (by rw [SA.out k hlt, if_neg h16])
    have HFS := Lib.hid hfs
    clear hfs
    refine Loud.wp_region_fork (fun i => decide (i=8∨i=9∨i=21∨i=22)) 27 (fun w' => Ext wr w') (by kernel_rfl) (by decide) (by show Ext _ _; repeat (first | exact Ext.refl _ | assumption | (with_reducible refine Ext.drew ?_) | (with_reducible refine Ext.drewN ?_ _) | (with_reducible refine Ext.alloc ?_ _) | (refine Ext.trans ?_ (by assumption)))) ?_
    refine Loud.wf_q 0 rfl (by kernel_rfl) rfl rfl ?_; apply Exists.intro; refine ⟨fun wq hq => ?_, Loud.wf_norm fun K hK => ?_⟩; (go_simp; try rfl); go_simp; refine hK _ ?_; clear hK K
    refine Loud.wf_q 1 rfl (by kernel_rfl) rfl rfl ?_; apply Exists.intro; refine ⟨fun wq hq => ?_, Loud.wf_norm fun K hK => ?_⟩; (go_simp; try rfl); go_simp; refine hK _ ?_; clear hK K
    refine Loud.wf_q 2 rfl (by kernel_rfl) rfl rfl ?_; apply Exists.intro; refine ⟨fun wq hq => ?_, Loud.wf_norm fun K hK => ?_⟩; (go_simp; try rfl); go_simp; refine hK _ ?_; clear hK K
    refine Loud.wf_q 3 rfl (by kernel_rfl) rfl rfl ?_; apply Exists.intro; refine ⟨fun wq hq => ?_, Loud.wf_norm fun K hK => ?_⟩; (go_simp; try rfl); go_simp; refine hK _ ?_; clear hK K
    refine Loud.wf_q 4 rfl (by kernel_rfl) rfl rfl ?_; apply Exists.intro; refine ⟨fun wq hq => ?_, Loud.wf_norm fun K hK => ?_⟩; (go_simp; try rfl); go_simp; refine hK _ ?_; clear hK K
    refine Loud.wf_q 5 rfl (by kernel_rfl) rfl rfl ?_; apply Exists.intro; refine ⟨fun wq hq => ?_, Loud.wf_norm fun K hK => ?_⟩; (go_simp; try rfl); go_simp; refine hK _ ?_; clear hK K
    refine Loud.wf_q 6 rfl (by kernel_rfl) rfl rfl ?_; apply Exists.intro; refine ⟨fun wq hq => ?_, Loud.wf_norm fun K hK => ?_⟩; (go_simp; try rfl); go_simp; refine hK _ ?_; clear hK K
    refine Loud.wf_q 7 rfl (by kernel_rfl) rfl rfl ?_; apply Exists.intro; refine ⟨fun wq hq => ?_, Loud.wf_norm fun K hK => ?_⟩; (go_simp; try rfl); go_simp; refine hK _ ?_; clear hK K
    refine Loud.wf_q 10 rfl (by kernel_rfl) rfl rfl ?_; apply Exists.intro; refine ⟨fun wq hq => ?_, Loud.wf_norm fun K hK => ?_⟩; (go_simp; try rfl); go_simp; refine hK _ ?_; clear hK K
    refine Loud.wf_q 11 rfl (by kernel_rfl) rfl rfl ?_; apply Exists.intro; refine ⟨fun wq hq => ?_, Loud.wf_norm fun K hK => ?_⟩; (go_simp; try rfl); go_simp; refine hK _ ?_; clear hK K
    refine Loud.wf_q 14 rfl (by kernel_rfl) rfl rfl ?_; apply Exists.intro; refine ⟨fun wq hq => ?_, Loud.wf_norm fun K hK => ?_⟩; (go_simp; try rfl); go_simp; refine hK _ ?_; clear hK K
    refine Loud.wf_q 15 rfl (by kernel_rfl) rfl rfl ?_; apply Exists.intro; refine ⟨fun wq hq => ?_, Loud.wf_norm fun K hK => ?_⟩; (go_simp; try rfl); go_simp; refine hK _ ?_; clear hK K
    refine Loud.wf_q 16 rfl (by kernel_rfl) rfl rfl ?_; apply Exists.intro; refine ⟨fun wq hq => ?_, Loud.wf_norm fun K hK => ?_⟩; (go_simp; try rfl); go_simp; refine hK _ ?_; clear hK K
    refine Loud.wf_q 17 rfl (by kernel_rfl) rfl rfl ?_; apply Exists.intro; refine ⟨fun wq hq => ?_, Loud.wf_norm fun K hK => ?_⟩; (go_simp; try rfl); go_simp; refine hK _ ?_; clear hK K
    refine Loud.wf_q 18 rfl (by kernel_rfl) rfl rfl ?_; apply Exists.intro; refine ⟨fun wq hq => ?_, Loud.wf_norm fun K hK => ?_⟩; (go_simp; try rfl); go_simp; refine hK _ ?_; clear hK K
    refine Loud.wf_q 20 rfl (by kernel_rfl) rfl rfl ?_; apply Exists.intro; refine ⟨fun wq hq => ?_, Loud.wf_norm fun K hK => ?_⟩; (go_simp; try rfl); go_simp; refine hK _ ?_; clear hK K
    refine Loud.wf_q 23 rfl (by kernel_rfl) rfl rfl ?_; apply Exists.intro; refine ⟨fun wq hq => ?_, Loud.wf_norm fun K hK => ?_⟩; (go_simp; try rfl); go_simp; refine hK _ ?_; clear hK K
    refine Loud.wf_q 24 rfl (by kernel_rfl) rfl rfl ?_; apply Exists.intro; refine ⟨fun wq hq => ?_, Loud.wf_norm fun K hK => ?_⟩; (go_simp; try rfl); go_simp; refine hK _ ?_; clear hK K
    refine Loud.wf_fork 8 21 rfl rfl (by kernel_rfl) rfl rfl rfl rfl (fun K hK => ?_) (fun K hK => ?_)
    ·go_simp; refine hK _ _ (by show Ext _ _; repeat (first | exact Ext.refl _ | assumption | (with_reducible refine Ext.drew ?_) | (with_reducible refine Ext.drewN ?_ _) | (with_reducible refine Ext.alloc ?_ _) | (refine Ext.trans ?_ (by assumption)))) ?_; clear hK K
     refine Loud.wf_fork 9 21 rfl rfl (by kernel_rfl) rfl rfl rfl rfl (fun K hK => ?_) (fun K hK => ?_)
     ·go_simp; refine (turned2 _ 7 18 _ _ (heap_alloc_new _ _)).mono ?_; rintro e w9 ⟨rfl, hw9⟩; refine ⟨_, rfl, ?_⟩; go_simp; refine hK _ _ (by show Ext _ _; repeat (first | exact Ext.refl _ | assumption | (with_reducible refine Ext.drew ?_) | (with_reducible refine Ext.drewN ?_ _) | (with_reducible refine Ext.alloc ?_ _) | (refine Ext.trans ?_ (by assumption)))) ?_; clear hK K
      refine Loud.wf_q 12 rfl (by kernel_rfl) rfl rfl ?_; apply Exists.intro; refine ⟨fun wq hq => ?_, Loud.wf_norm fun K hK => ?_⟩; (go_simp; try rfl); go_simp; refine hK _ ?_; clear hK K
      refine Loud.wf_q 13 rfl (by kernel_rfl) rfl rfl ?_; apply Exists.intro; refine ⟨fun wq hq => ?_, Loud.wf_norm fun K hK => ?_⟩; (go_simp; try rfl); go_simp; refine hK _ ?_; clear hK K
      refine Loud.wf_q 19 rfl (by kernel_rfl) rfl rfl ?_; apply Exists.intro; refine ⟨fun wq hq => ?_, Loud.wf_norm fun K hK => ?_⟩; (go_simp; try rfl); go_simp; refine hK _ ?_; clear hK K
      refine Loud.wf_l 21 rfl (by kernel_rfl) rfl rfl (fun K hK => ?_); go_simp; refine hK _ _ (by show Ext _ _; repeat (first | exact Ext.refl _ | assumption | (with_reducible refine Ext.drew ?_) | (with_reducible refine Ext.drewN ?_ _) | (with_reducible refine Ext.alloc ?_ _) | (refine Ext.trans ?_ (by assumption)))) ?_; clear hK K
      refine Loud.wf_l 22 rfl (by kernel_rfl) rfl rfl (fun K hK => ?_); go_simp; refine (turned2 _ 17 19 _ _ (heap_alloc_new _ _)).mono ?_; rintro e w22 ⟨rfl, hw22⟩; refine ⟨_, rfl, ?_⟩; go_simp; refine hK _ _ (by show Ext _ _; repeat (first | exact Ext.refl _ | assumption | (with_reducible refine Ext.drew ?_) | (with_reducible refine Ext.drewN ?_ _) | (with_reducible refine Ext.alloc ?_ _) | (refine Ext.trans ?_ (by assumption)))) ?_; clear hK K
      refine Loud.wf_q 25 rfl (by kernel_rfl) rfl rfl ?_; apply Exists.intro; refine ⟨fun wq hq => ?_, Loud.wf_norm fun K hK => ?_⟩; (go_simp; try rfl); go_simp; refine hK _ ?_; clear hK K
      refine Loud.wf_q 26 rfl (by kernel_rfl) rfl rfl ?_; apply Exists.intro; refine ⟨fun wq hq => ?_, Loud.wf_norm fun K hK => ?_⟩; (go_simp; try rfl); go_simp; refine hK _ ?_; clear hK K
      refine Loud.wf_nil (by kernel_rfl) ?_
      simp only [List.drop_succ_cons, List.drop_zero]
      have hx2 : Ext wr w22 := (by repeat (first | exact Ext.refl _ | assumption | (with_reducible refine Ext.drew ?_) | (with_reducible refine Ext.drewN ?_ _) | (with_reducible refine Ext.alloc ?_ _) | (refine Ext.trans ?_ (by assumption))))
      have hh2 := hx2.keep HH.out
      have cell2 := hx2.cell_of hcell
      have hgl2 := blk_lt hh2
      have hfz2 : w22.frozen? ⟨g, k, none⟩ = false := frozen_blk hh2
      have HH2 := Lib.hid hh2
      clear hh2
      go_wp2
      go_roundw
      case measure => simp [intOf]; omega
      case rel =>
       refine ⟨k + 1, by omega, by go_num, ?_, (hx.trans hx2).setCell hgw _⟩
       rw [heap_setCell_same _ HH2.out, wcells_set, ← HFS.out]
       simp only [nextW, wordsN_length, List.getD_eq_getElem?_getD]
     ·go_simp; refine hK _ _ (by show Ext _ _; repeat (first | exact Ext.refl _ | assumption | (with_reducible refine Ext.drew ?_) | (with_reducible refine Ext.drewN ?_ _) | (with_reducible refine Ext.alloc ?_ _) | (refine Ext.trans ?_ (by assumption)))) ?_; clear hK K
      have m8 : (((wr.drewN nq).drew.alloc (.cells #[.int .i64 7, .int .i64 18] 3)).alloc (.cells #[.int .i64 17, .int .i64 19] 3)).heap[wr.heap.size]? = some (.cells #[.int .i64 7, .int .i64 18] 3) := heap_alloc_old _ _ (heap_alloc_new _ _)
      have m21 : (((wr.drewN nq).drew.alloc (.cells #[.int .i64 7, .int .i64 18] 3)).alloc (.cells #[.int .i64 17, .int .i64 19] 3)).heap[wr.heap.size + 1]? = some (.cells #[.int .i64 17, .int .i64 19] 3) := by
       have := heap_alloc_new ((wr.drewN nq).drew.alloc (.cells #[.int .i64 7, .int .i64 18] 3)) (.cells #[.int .i64 17, .int .i64 19] 3)
       simpa using this
      refine Loud.wf_l 9 rfl (by kernel_rfl) rfl rfl (fun K hK => ?_); go_simp; refine (turned2 _ 7 18 wr.heap.size _ m8).mono ?_; rintro e w9 ⟨rfl, hw9⟩; refine ⟨_, rfl, ?_⟩; go_simp; refine hK _ _ (by show Ext _ _; repeat (first | exact Ext.refl _ | assumption | (with_reducible refine Ext.drew ?_) | (with_reducible refine Ext.drewN ?_ _) | (with_reducible refine Ext.alloc ?_ _) | (refine Ext.trans ?_ (by assumption)))) ?_; clear hK K
      refine Loud.wf_q 12 rfl (by kernel_rfl) rfl rfl ?_; apply Exists.intro; refine ⟨fun wq hq => ?_, Loud.wf_norm fun K hK => ?_⟩; (go_simp; try rfl); go_simp; refine hK _ ?_; clear hK K
      refine Loud.wf_q 13 rfl (by kernel_rfl) rfl rfl ?_; apply Exists.intro; refine ⟨fun wq hq => ?_, Loud.wf_norm fun K hK => ?_⟩; (go_simp; try rfl); go_simp; refine hK _ ?_; clear hK K
      refine Loud.wf_q 19 rfl (by kernel_rfl) rfl rfl ?_; apply Exists.intro; refine ⟨fun wq hq => ?_, Loud.wf_norm fun K hK => ?_⟩; (go_simp; try rfl); go_simp; refine hK _ ?_; clear hK K
      have m21 := hw9.keep m21
      refine Loud.wf_l 22 rfl (by kernel_rfl) rfl rfl (fun K hK => ?_); go_simp; refine (turned2 _ 17 19 _ _ m21).mono ?_; rintro e w22 ⟨rfl, hw22⟩; refine ⟨_, rfl, ?_⟩; go_simp; refine hK _ _ (by show Ext _ _; repeat (first | exact Ext.refl _ | assumption | (with_reducible refine Ext.drew ?_) | (with_reducible refine Ext.drewN ?_ _) | (with_reducible refine Ext.alloc ?_ _) | (refine Ext.trans ?_ (by assumption)))) ?_; clear hK K
      refine Loud.wf_q 25 rfl (by kernel_rfl) rfl rfl ?_; apply Exists.intro; refine ⟨fun wq hq => ?_, Loud.wf_norm fun K hK => ?_⟩; (go_simp; try rfl); go_simp; refine hK _ ?_; clear hK K
      refine Loud.wf_q 26 rfl (by kernel_rfl) rfl rfl ?_; apply Exists.intro; refine ⟨fun wq hq => ?_, Loud.wf_norm fun K hK => ?_⟩; (go_simp; try rfl); go_simp; refine hK _ ?_; clear hK K
      refine Loud.wf_nil (by kernel_rfl) ?_
      simp only [List.drop_succ_cons, List.drop_zero]
      have hx2 : Ext wr w22 := (by repeat (first | exact Ext.refl _ | assumption | (with_reducible refine Ext.drew ?_) | (with_reducible refine Ext.drewN ?_ _) | (with_reducible refine Ext.alloc ?_ _) | (refine Ext.trans ?_ (by assumption))))
      have hh2 := hx2.keep HH.out
      have cell2 := hx2.cell_of hcell
      have hgl2 := blk_lt hh2
      have hfz2 : w22.frozen? ⟨g, k, none⟩ = false := frozen_blk hh2
      have HH2 := Lib.hid hh2
      clear hh2
      go_wp2
      go_roundw
      case measure => simp [intOf]; omega
      case rel =>
       refine ⟨k + 1, by omega, by go_num, ?_, (hx.trans hx2).setCell hgw _⟩
       rw [heap_setCell_same _ HH2.out, wcells_set, ← HFS.out]
       simp only [nextW, wordsN_length, List.getD_eq_getElem?_getD]
    ·go_simp; refine hK _ _ (by show Ext _ _; repeat (first | exact Ext.refl _ | assumption | (with_reducible refine Ext.drew ?_) | (with_reducible refine Ext.drewN ?_ _) | (with_reducible refine Ext.alloc ?_ _) | (refine Ext.trans ?_ (by assumption)))) ?_; clear hK K
     refine Loud.wf_l 8 rfl (by kernel_rfl) rfl rfl (fun K hK => ?_); go_simp; refine hK _ _ (by show Ext _ _; repeat (first | exact Ext.refl _ | assumption | (with_reducible refine Ext.drew ?_) | (with_reducible refine Ext.drewN ?_ _) | (with_reducible refine Ext.alloc ?_ _) | (refine Ext.trans ?_ (by assumption)))) ?_; clear hK K
     have m21 : (((wr.drewN nq).drew.alloc (.cells #[.int .i64 17, .int .i64 19] 3)).alloc (.cells #[.int .i64 7, .int .i64 18] 3)).heap[wr.heap.size]? = some (.cells #[.int .i64 17, .int .i64 19] 3) := heap_alloc_old _ _ (heap_alloc_new _ _)
     have m8 : (((wr.drewN nq).drew.alloc (.cells #[.int .i64 17, .int .i64 19] 3)).alloc (.cells #[.int .i64 7, .int .i64 18] 3)).heap[wr.heap.size + 1]? = some (.cells #[.int .i64 7, .int .i64 18] 3) := by
      have := heap_alloc_new ((wr.drewN nq).drew.alloc (.cells #[.int .i64 17, .int .i64 19] 3)) (.cells #[.int .i64 7, .int .i64 18] 3)
      simpa using this
     refine Loud.wf_l 9 rfl (by kernel_rfl) rfl rfl (fun K hK => ?_); go_simp; refine (turned2 _ 7 18 (wr.heap.size + 1) _ m8).mono ?_; rintro e w9 ⟨rfl, hw9⟩; refine ⟨_, rfl, ?_⟩; go_simp; refine hK _ _ (by show Ext _ _; repeat (first | exact Ext.refl _ | assumption | (with_reducible refine Ext.drew ?_) | (with_reducible refine Ext.drewN ?_ _) | (with_reducible refine Ext.alloc ?_ _) | (refine Ext.trans ?_ (by assumption)))) ?_; clear hK K
     refine Loud.wf_q 12 rfl (by kernel_rfl) rfl rfl ?_; apply Exists.intro; refine ⟨fun wq hq => ?_, Loud.wf_norm fun K hK => ?_⟩; (go_simp; try rfl); go_simp; refine hK _ ?_; clear hK K
     refine Loud.wf_q 13 rfl (by kernel_rfl) rfl rfl ?_; apply Exists.intro; refine ⟨fun wq hq => ?_, Loud.wf_norm fun K hK => ?_⟩; (go_simp; try rfl); go_simp; refine hK _ ?_; clear hK K
     refine Loud.wf_q 19 rfl (by kernel_rfl) rfl rfl ?_; apply Exists.intro; refine ⟨fun wq hq => ?_, Loud.wf_norm fun K hK => ?_⟩; (go_simp; try rfl); go_simp; refine hK _ ?_; clear hK K
     have m21 := hw9.keep m21
     refine Loud.wf_l 22 rfl (by kernel_rfl) rfl rfl (fun K hK => ?_); go_simp; refine (turned2 _ 17 19 _ _ m21).mono ?_; rintro e w22 ⟨rfl, hw22⟩; refine ⟨_, rfl, ?_⟩; go_simp; refine hK _ _ (by show Ext _ _; repeat (first | exact Ext.refl _ | assumption | (with_reducible refine Ext.drew ?_) | (with_reducible refine Ext.drewN ?_ _) | (with_reducible refine Ext.alloc ?_ _) | (refine Ext.trans ?_ (by assumption)))) ?_; clear hK K
     refine Loud.wf_q 25 rfl (by kernel_rfl) rfl rfl ?_; apply Exists.intro; refine ⟨fun wq hq => ?_, Loud.wf_norm fun K hK => ?_⟩; (go_simp; try rfl); go_simp; refine hK _ ?_; clear hK K
     refine Loud.wf_q 26 rfl (by kernel_rfl) rfl rfl ?_; apply Exists.intro; refine ⟨fun wq hq => ?_, Loud.wf_norm fun K hK => ?_⟩; (go_simp; try rfl); go_simp; refine hK _ ?_; clear hK K
     refine Loud.wf_nil (by kernel_rfl) ?_
     simp only [List.drop_succ_cons, List.drop_zero]
     have hx2 : Ext wr w22 := (by repeat (first | exact Ext.refl _ | assumption | (with_reducible refine Ext.drew ?_) | (with_reducible refine Ext.drewN ?_ _) | (with_reducible refine Ext.alloc ?_ _) | (refine Ext.trans ?_ (by assumption))))
     have hh2 := hx2.keep HH.out
     have cell2 := hx2.cell_of hcell
     have hgl2 := blk_lt hh2
     have hfz2 : w22.frozen? ⟨g, k, none⟩ = false := frozen_blk hh2
     have HH2 := Lib.hid hh2
     clear hh2
     go_wp2
     go_roundw
     case measure => simp [intOf]; omega
     case rel =>
      refine ⟨k + 1, by omega, by go_num, ?_, (hx.trans hx2).setCell hgw _⟩
      rw [heap_setCell_same _ HH2.out, wcells_set, ← HFS.out]
      simp only [nextW, wordsN_length, List.getD_eq_getElem?_getD]
  ·obtain rfl : k = 64 := by omega
   rw [List.take_of_length_le (by rw [SL.out]; omega), show List.replicate (64 - 64) (0 : UInt32) = [] from rfl, List.append_nil] at hh
   go_wp2
   go_returns
   exact ⟨by rw [← HG.out]; rfl, by rw [← HG.out]; exact hh, hx⟩
theorem Words_yes (b : List UInt8) (w : World) (h : b.length = 64) :
  Calls Tryz.prog 150 #[.string (bs b)] w fun e w' => e = .returned (.slice (some ⟨w.heap.size, 0, none⟩) 64 64) ∧ w'.heap[w.heap.size]? = some (.cells (wcells (words b)) 46) ∧ Ext w w' :=
 Words_gen b (words b) w h (words_length b) (words_take b) (words_at b)
end Go.Proofs.YtclekllaikcglaaGreat

/- Contracts: layer 2, the program's state behind a block. -/
namespace Go.Proofs.YtclekllaikcglaaGreat
open Go Go.RowKit
def kN : List Nat := [1116352408, 1899447441, 3049323471, 3921009573, 961987163, 1508970993, 2453635748, 2870763221, 3624381080, 310598401, 607225278, 1426881987, 1925078388, 2162078206, 2614888103, 3248222580, 3835390401, 4022224774, 264347078, 604807628, 770255983, 1249150122, 1555081692, 1996064986, 2554220882, 2821834349, 2952996808, 3210313671, 3336571891, 3584528711, 113926993, 338241895, 666307205, 773529912, 1294757372, 1396182291, 1695183700, 1986661051, 2177026350, 2456956037, 2730485921, 2820302411, 3259730800, 3345764771, 3516065817, 3600352804, 4094571909, 275423344, 430227734, 506948616, 659060556, 883997877, 958139571, 1322822218, 1537002063, 1747873779, 1955562222, 2024104815, 2227730452, 2361852424, 2428436474, 2756734187, 3204031479, 3329325298]
def kT : List UInt32 := kN.map UInt32.ofNat
theorem kT_length : kT.length = 64 := rfl
def kV : Array Value := wcells kT
def kZ : Array Value := wcells zw
theorem kV_size : kV.size = 64 := by rw [kV, wcells_size, kT_length]
theorem kZ_size : kZ.size = 64 := by rw [kZ, wcells_size]; rfl
theorem kV_one : kV.all (·.oneCell') = true := by kernel_rfl
theorem info_tab : (Tryz.prog.info? 197).map (·.size) = some 64 := by kernel_rfl
theorem und_tab : Tryz.prog.underlying 197 = some (.array 64 46) := by kernel_rfl
set_option maxRecDepth 100000 in
set_option maxHeartbeats 1000000 in
theorem table_any (w : World) : Calls Tryz.prog 149 #[] w fun e w' => e = .returned (.agg kV) ∧ Ext w w' := by
 have hK1 := kV_one
 have hK2 := kV_size
 have hK3 := kZ_size
 have hi : (Tryz.prog.info? 197).map (·.size) = some kV.size := by rw [hK2]; exact info_tab
 have H1 := Lib.hid hK1; have HI := Lib.hid hi; have H3 := Lib.hid (hK3.trans hK2.symm)
 clear hK1 hK2 hK3 hi
 go_enter Tryz.func149, Tryz.ntmps149
 go_wp2_with (first
  | (refine wpList_allocTo rfl _ rfl _ (.cells kZ 197) (by kernel_rfl) ?_)
  | (refine wpList_readTo rfl _ rfl (.agg kV) (by kernel_rfl) ?_)
  | (refine wpList_store_row rfl _ _ _ rfl w.heap.size kV rfl rfl _ _ (heap_alloc_new _ _) HI.out H3.out H1.out ?_))
 refine bodyPost_ret (results_cell_row rfl _ _ w.heap.size _ kV _ _ rfl (setRow_heap _ _ _ _ _ _ (heap_alloc_new _ _)) und_tab rfl HI.out) rfl ?_
 exact ⟨rfl, below_setRow ((Ext.refl w).alloc _) (Nat.le_refl _) _⟩
end Go.Proofs.YtclekllaikcglaaGreat

/- Contracts: layer 2, the document's sum. -/
namespace Go.Proofs.YtclekllaikcglaaGreat
open Go Go.RowKit
def nextR (w : List UInt32) : UInt32 :=
 let t := w.length
 p32 (p32 (p32 (x32 (x32 (rotr (w.getD (t - 2) 0) 17) (rotr (w.getD (t - 2) 0) 19)) (shr32 (w.getD (t - 2) 0) 10)) (w.getD (t - 7) 0)) (x32 (x32 (rotr (w.getD (t - 15) 0) 7) (rotr (w.getD (t - 15) 0) 18)) (shr32 (w.getD (t - 15) 0) 3))) (w.getD (t - 16) 0)
theorem x32_zero (x : UInt32) : x32 0 x = x := by simp [x32]
theorem turnedS2 (x : UInt32) (a b : Int) : turnedS x [a, b] = x32 (rotr x a) (rotr x b) := by simp [turnedS, x32_zero]
theorem turnedS3 (x : UInt32) (a b c : Int) : turnedS x [a, b, c] = x32 (x32 (rotr x a) (rotr x b)) (rotr x c) := by simp [turnedS, x32_zero]
theorem nextR_eq (w : List UInt32) : nextR w = nextW w := by
 simp only [nextR, nextW, turnedS2, p32]
 generalize x32 (x32 (rotr (w.getD (w.length - 2) 0) 17) (rotr (w.getD (w.length - 2) 0) 19)) (shr32 (w.getD (w.length - 2) 0) 10) = a
 generalize x32 (x32 (rotr (w.getD (w.length - 15) 0) 7) (rotr (w.getD (w.length - 15) 0) 18)) (shr32 (w.getD (w.length - 15) 0) 3) = b
 generalize w.getD (w.length - 7) 0 = c
 generalize w.getD (w.length - 16) 0 = d
 rw [UInt32.add_comm (a + c + b) d, UInt32.add_comm (a + c) b, ← UInt32.add_assoc, UInt32.add_comm a c, ← UInt32.add_assoc]
theorem row_some {w : World} {B : Nat} {e : TypeId} {v : Value} {xs : List Value} (h : Row w B e v xs) (hn : 0 < xs.length) : ∃ g cap, v = .slice (some ⟨g, 0, none⟩) xs.length cap := by
 rcases h.look with ⟨_, h0⟩ | ⟨g, cap, cur, hv, _⟩
 ·rw [h0] at hn; simp at hn
 ·exact ⟨g, cap, hv⟩
set_option maxRecDepth 100000 in
set_option maxHeartbeats 2000000 in
theorem RefWords_any (b : List UInt8) (w : World) (h : b.length = 64) :
  Calls Tryz.prog 164 #[.string (bs b)] w fun e w' => ∃ v, e = .returned v ∧ Row w' w.heap.size 46 v ((wordsN b 64).map u32V) ∧ Ext w w' := by
 have hl : b.length ≤ 1099511627776 := by omega
 have G1 := Lib.hid (fun p w => RefGet4_any b p w hl)
 have T17 := Lib.hid (fun (x : UInt32) w => RefTurn_any x 17 w (by omega) (by omega))
 have T19 := Lib.hid (fun (x : UInt32) w => RefTurn_any x 19 w (by omega) (by omega))
 have T7 := Lib.hid (fun (x : UInt32) w => RefTurn_any x 7 w (by omega) (by omega))
 have T18 := Lib.hid (fun (x : UInt32) w => RefTurn_any x 18 w (by omega) (by omega))
 clear h
 go_enter Tryz.func164, Tryz.ntmps164
 go_wp2
 go_loopw [3, 4] (fun o i wr => ∃ k : Nat, k ≤ 16 ∧ i = .int .i64 k ∧ Row wr w.heap.size 46 o ((wordsN b k).map u32V) ∧ Ext w wr) (fun _ i _ => 16 - (intOf i).toNat)
 case atStart => exact ⟨0, by omega, rfl, Row.nil _ _ _, Ext.refl _⟩
 case round =>
  obtain ⟨k, hk, rfl, hrow, hx⟩ := hrel
  by_cases hlt : k < 16
  ·have hcv : ((Get32 b (4 * (k : Int))).1 : Int) % 4294967296 = ((UInt32.ofNat (Get32 b (4 * (k : Int))).1).toNat : Int) := by
    rw [← Get32_u32]; have := Get32_lt b (4 * (k : Int)); omega
   have hst : wordsN b (k + 1) = wordsN b k ++ [UInt32.ofNat (Get32 b (4 * (k : Int))).1] := by
    rw [wordsN, if_pos hlt]
   have hln : ((wordsN b k).map u32V).length = k := by rw [List.length_map, wordsN_length]
   have HST := Lib.hid hst; have HLN := Lib.hid hln
   have hsz := hx.size
   clear hst hln
   generalize UInt32.ofNat (Get32 b (4 * (k : Int))).1 = z at hcv HST
   go_wp2_with (first
    | (go_at_call 99; refine (G1.out _ _).mono ?_; rintro e w' ⟨rfl, rfl⟩)
    | (at_builtin; refine wpl_append rfl _ _ 43 rfl und_u32s info_u32 rfl (by omega) w.heap.size (by simp; omega) _ ((wordsN b k).map u32V) rfl (hrow.ext ((Ext.refl wr).alloc _)) ⟨wr.heap.size, 0, none⟩ 1 1 [u32V z] rfl rfl (cells_one_new _ _ _) (by simp [u32V, Value.oneCell']) (by rw [HLN.out]; omega) ?_; intro v' w3 hrow3 hb3 _))
   go_roundw
   case measure => simp [intOf]; omega
   case rel => exact ⟨k + 1, by omega, by go_num, by rw [HST.out, List.map_append]; exact hrow3, ((hx.alloc _)).trans_below hb3⟩
  ·obtain rfl : k = 16 := by omega
   clear hlt hk
   go_wp2
   obtain ⟨wo, rfl⟩ : ∃ x, x = wr := ⟨_, rfl⟩
   go_loopw [3, 7] (fun o i wr => ∃ k g cp : Nat, 16 ≤ k ∧ k ≤ 64 ∧ i = .int .i64 k ∧ o = .slice (some ⟨g, 0, none⟩) k cp ∧ Row wr w.heap.size 46 (.slice (some ⟨g, 0, none⟩) k cp) ((wordsN b k).map u32V) ∧ Ext w wr) (fun _ i _ => 64 - (intOf i).toNat)
   case atStart =>
    obtain ⟨g, cp, hv⟩ := row_some hrow (by rw [List.length_map, wordsN_length]; omega)
    rw [List.length_map, wordsN_length] at hv
    subst hv
    exact ⟨16, g, cp, by omega, by omega, rfl, rfl, hrow, hx⟩
   case round =>
    obtain ⟨k, g, cp, hk16, hk, rfl, rfl, hrow, hx⟩ := hrel
    have hsz := hx.size
    have hgl := (hrow.lt g rfl).2
    have RW := Lib.hid hrow
    by_cases hlt : k < 64
    ·have hln : ((wordsN b k).map u32V).length = k := by rw [List.length_map, wordsN_length]
     have hst : wordsN b (k + 1) = wordsN b k ++ [nextR (wordsN b k)] := by rw [wordsN, if_neg (by omega), nextR_eq]
     have HLN := Lib.hid hln; have HST := Lib.hid hst
     have rd : ∀ j (hj : j < k), ∀ wq, Ext wr wq → wq.cell? ⟨g, j, none⟩ = some (.int .u32 (((wordsN b k).getD j 0).toNat : Int)) := by
      intro j hj wq hq
      have := (RW.out.ext hq).cellAt j (by rw [HLN.out]; exact hj)
      rw [this, List.getElem_map, List.getD_eq_getElem?_getD, List.getElem?_eq_getElem (by rw [wordsN_length]; exact hj)]; rfl
     have w16 : IntKind.i64.wrap ((k : Int) - 16) = ((k - 16 : Nat) : Int) := by rw [IntKind.wrap_i64]; omega
     have w7 : IntKind.i64.wrap ((k : Int) - 7) = ((k - 7 : Nat) : Int) := by rw [IntKind.wrap_i64]; omega
     have l16 : ((k - 16 : Nat) : Int) < (k : Int) := by omega
     have l7 : ((k - 7 : Nat) : Int) < (k : Int) := by omega
     have r15 := rd (k - 15) (by omega); have r2 := rd (k - 2) (by omega); have r7 := rd (k - 7) (by omega); have r16 := rd (k - 16) (by omega)
     have q15 := r15 wr (Ext.refl _); have q2 := r2 wr (Ext.refl _)
     clear hln hst hrow
     go_wp2
     go_quiet (fail)
     go_wp2_with (first
      | (go_at_call 168; with_reducible refine (T17.out _ _).mono ?_; rintro e w' ⟨rfl, rfl⟩)
      | (go_at_call 168; with_reducible refine (T19.out _ _).mono ?_; rintro e w' ⟨rfl, rfl⟩)
      | (go_at_call 168; with_reducible refine (T7.out _ _).mono ?_; rintro e w' ⟨rfl, rfl⟩)
      | (go_at_call 168; with_reducible refine (T18.out _ _).mono ?_; rintro e w' ⟨rfl, rfl⟩))
     refine Loud.wp_region_fork (fun i => decide (i=16)) 17 (fun w' => Ext wr w') (by kernel_rfl) (by decide) (by show Ext _ _; repeat (first | exact Ext.refl _ | assumption | (with_reducible refine Ext.drew ?_) | (with_reducible refine Ext.drewN ?_ _) | (with_reducible refine Ext.alloc ?_ _) | (refine Ext.trans ?_ (by assumption)))) ?_
     refine Loud.wf_q 0 rfl (by kernel_rfl) rfl rfl ?_; apply Exists.intro; refine ⟨fun wq hq => ?_, Loud.wf_norm fun K hK => ?_⟩; (go_simp; try rfl); go_simp; refine hK _ ?_; clear hK K
     refine Loud.wf_q 1 rfl (by kernel_rfl) rfl rfl ?_; apply Exists.intro; refine ⟨fun wq hq => ?_, Loud.wf_norm fun K hK => ?_⟩; (go_simp; try rfl); go_simp; refine hK _ ?_; clear hK K
     refine Loud.wf_q 2 rfl (by kernel_rfl) rfl rfl ?_; apply Exists.intro; refine ⟨fun wq hq => ?_, Loud.wf_norm fun K hK => ?_⟩; (go_simp; try rfl); go_simp; refine hK _ ?_; clear hK K
     refine Loud.wf_q 3 rfl (by kernel_rfl) rfl rfl ?_; apply Exists.intro; refine ⟨fun wq hq => ?_, Loud.wf_norm fun K hK => ?_⟩; (go_simp; try rfl); go_simp; refine hK _ ?_; clear hK K
     refine Loud.wf_q 4 rfl (by kernel_rfl) rfl rfl ?_; apply Exists.intro; refine ⟨fun wq hq => ?_, Loud.wf_norm fun K hK => ?_⟩; (go_simp; try rfl); go_simp; refine hK _ ?_; clear hK K
     refine Loud.wf_q 5 rfl (by kernel_rfl) rfl rfl ?_; apply Exists.intro; refine ⟨fun wq hq => ?_, Loud.wf_norm fun K hK => ?_⟩; (go_simp; try rfl); go_simp; refine hK _ ?_; clear hK K
     refine Loud.wf_q 6 rfl (by kernel_rfl) rfl rfl ?_; apply Exists.intro; refine ⟨fun wq hq => ?_, Loud.wf_norm fun K hK => ?_⟩; (go_simp; try rfl); go_simp; refine hK _ ?_; clear hK K
     refine Loud.wf_q 7 rfl (by kernel_rfl) rfl rfl ?_; apply Exists.intro; refine ⟨fun wq hq => ?_, Loud.wf_norm fun K hK => ?_⟩; (go_simp; try rfl); go_simp; refine hK _ ?_; clear hK K
     refine Loud.wf_q 8 rfl (by kernel_rfl) rfl rfl ?_; apply Exists.intro; refine ⟨fun wq hq => ?_, Loud.wf_norm fun K hK => ?_⟩; (go_simp; try rfl); go_simp; refine hK _ ?_; clear hK K
     refine Loud.wf_q 9 rfl (by kernel_rfl) rfl rfl ?_; apply Exists.intro; refine ⟨fun wq hq => ?_, Loud.wf_norm fun K hK => ?_⟩; (go_simp; try rfl); go_simp; refine hK _ ?_; clear hK K
     refine Loud.wf_q 10 rfl (by kernel_rfl) rfl rfl ?_; apply Exists.intro; refine ⟨fun wq hq => ?_, Loud.wf_norm fun K hK => ?_⟩; (go_simp; try rfl); go_simp; refine hK _ ?_; clear hK K
     refine Loud.wf_q 11 rfl (by kernel_rfl) rfl rfl ?_; apply Exists.intro; refine ⟨fun wq hq => ?_, Loud.wf_norm fun K hK => ?_⟩; (go_simp; try rfl); go_simp; refine hK _ ?_; clear hK K
     refine Loud.wf_q 12 rfl (by kernel_rfl) rfl rfl ?_; apply Exists.intro; refine ⟨fun wq hq => ?_, Loud.wf_norm fun K hK => ?_⟩; (go_simp; try rfl); go_simp; refine hK _ ?_; clear hK K
     refine Loud.wf_q 13 rfl (by kernel_rfl) rfl rfl ?_; apply Exists.intro; refine ⟨fun wq hq => ?_, Loud.wf_norm fun K hK => ?_⟩; (go_simp; try rfl); go_simp; refine hK _ ?_; clear hK K
     refine Loud.wf_q 14 rfl (by kernel_rfl) rfl rfl ?_; apply Exists.intro; refine ⟨fun wq hq => ?_, Loud.wf_norm fun K hK => ?_⟩; (go_simp; try rfl); go_simp; refine hK _ ?_; clear hK K
     refine Loud.wf_q 15 rfl (by kernel_rfl) rfl rfl ?_; apply Exists.intro; refine ⟨fun wq hq => ?_, Loud.wf_norm fun K hK => ?_⟩; (go_simp; try rfl); go_simp; refine hK _ ?_; clear hK K
     refine Loud.wf_l 16 rfl (by kernel_rfl) rfl rfl (fun K hK => ?_); go_simp; refine hK _ _ (by show Ext _ _; repeat (first | exact Ext.refl _ | assumption | (with_reducible refine Ext.drew ?_) | (with_reducible refine Ext.drewN ?_ _) | (with_reducible refine Ext.alloc ?_ _) | (refine Ext.trans ?_ (by assumption)))) ?_; clear hK K
     refine Loud.wf_nil (by kernel_rfl) ?_
     simp only [List.drop_succ_cons, List.drop_zero]
     go_wp2_with (at_builtin; refine wpl_append rfl _ _ 43 rfl und_u32s info_u32 rfl (by omega) w.heap.size (by simp; omega) _ ((wordsN b k).map u32V) rfl (RW.out.ext (by repeat (first | exact Ext.refl _ | assumption | (with_reducible refine Ext.drew ?_) | (with_reducible refine Ext.drewN ?_ _) | (with_reducible refine Ext.alloc ?_ _) | (refine Ext.trans ?_ (by assumption))))) ⟨wr.heap.size, 0, none⟩ 1 1 [u32V _] rfl rfl (fun j x h => cells_one_new wr _ _ j x h) (by simp [u32V, Value.oneCell']) (by rw [HLN.out]; omega) ?_; intro v' w3 hrow3 hb3 _; obtain ⟨g', cp', hv'⟩ := row_some hrow3 (by simp); rw [List.length_append, HLN.out, List.length_cons, List.length_nil] at hv'; subst hv'; have RW3 := Lib.hid hrow3; clear hrow3)
     go_roundw
     case measure => simp [intOf]; omega
     case rel =>
      repeat apply Exists.intro
      refine ⟨?_, rfl⟩
      refine ⟨k + 1, g', cp', by omega, by omega, by go_num, rfl, ?_, (hx.trans (by repeat (first | exact Ext.refl _ | assumption | (with_reducible refine Ext.drew ?_) | (with_reducible refine Ext.drewN ?_ _) | (with_reducible refine Ext.alloc ?_ _) | (refine Ext.trans ?_ (by assumption))))).trans_below hb3⟩
      have h := RW3.out
      rw [HST.out, List.map_append]
      simpa [nextR, wordsN_length, u32V] using h
    ·obtain rfl : k = 64 := by omega
     go_wp2
     go_returns
     exact ⟨_, rfl, RW.out, hx⟩
end Go.Proofs.YtclekllaikcglaaGreat
