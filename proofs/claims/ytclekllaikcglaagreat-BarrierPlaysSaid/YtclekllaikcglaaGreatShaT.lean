import Derived.Test.YtclekllaikcglaaGreatShaC

/- Contracts: layer 2, the document's step. -/
namespace Go.Proofs.YtclekllaikcglaaGreat
open Go Go.RowKit
theorem rndX_ref (s : St) (k w : UInt32) : p32 (p32 (p32 (p32 s.h (turnedS s.e [6, 11, 25])) (x32 (a32 s.e s.f) (a32 (n32 s.e) s.g))) k) w = rndX s k w := by rw [ch_eq]; rfl
theorem rndY_ref (s : St) : p32 (turnedS s.a [2, 13, 22]) (x32 (x32 (a32 s.a s.b) (a32 s.a s.c)) (a32 s.b s.c)) = rndY s := by rw [maj_eq]; rfl
theorem n32_eq (x : UInt32) : x32 4294967295 x = n32 x := by
 simp only [x32, n32]
 apply UInt32.toBitVec_inj.1
 simp only [UInt32.toBitVec_xor, UInt32.toBitVec_not]
 ext i hi
 simp only [BitVec.getElem_xor, BitVec.getElem_not]
 have : (4294967295 : UInt32).toBitVec = BitVec.allOnes 32 := rfl
 rw [this, BitVec.getElem_allOnes]
 simp
@[go_sem] theorem not32 (x : UInt32) : bits .xor .u32 (if IntKind.u32.signed = true then -1 else IntKind.u32.max) (x.toNat : Int) = ((n32 x).toNat : Int) := by
 rw [← n32_eq, ← bxor32]; rfl
set_option maxRecDepth 100000 in
set_option maxHeartbeats 4000000 in
theorem RefStep_gen (s : St) (b : List UInt8) (W : List UInt32) (R : Nat → St) (gs : Nat) (w : World) (hb : b.length = 64) (hW : W.length = 64) (hWV : wordsN b 64 = W) (hR0 : R 0 = s) (hRS : ∀ n, n < 64 → R (n + 1) = rnd (R n) (kT.getD n 0) (W.getD n 0)) (hg : w.heap[gs]? = some (.cells s.v 46)) :
  Calls Tryz.prog 158 #[.slice (some ⟨gs, 0, none⟩) 8 8, .string (bs b)] w fun e w' => ∃ g, e = .returned (.slice (some ⟨g, 0, none⟩) 8 8) ∧ w'.heap[g]? = some (.cells (addSt s (R 64)).v 46) ∧ Ext w w' := by
 have GW := Lib.hid (fun w => hWV ▸ RefWords_any b w hb)
 have GK := Lib.hid RefK_any
 have HWL := Lib.hid hW
 have HR0 := Lib.hid hR0; have HRS := Lib.hid hRS
 have HG := Lib.hid hg
 have T6 := Lib.hid (fun (x : UInt32) w => (RefThree_any x 6 11 25 (by omega) (by omega) (by omega) w).mono (R := fun e w' => e = .returned (.int .u32 (turnedS x [6, 11, 25]).toNat) ∧ w = w') (R' := fun e w' => e = .returned (.int .u32 (turnedS x [6, 11, 25]).toNat) ∧ Ext w w') (fun _ _ h => ⟨h.1, Ext.of_eq h.2⟩))
 have T2 := Lib.hid (fun (x : UInt32) w => (RefThree_any x 2 13 22 (by omega) (by omega) (by omega) w).mono (R := fun e w' => e = .returned (.int .u32 (turnedS x [2, 13, 22]).toNat) ∧ w = w') (R' := fun e w' => e = .returned (.int .u32 (turnedS x [2, 13, 22]).toNat) ∧ Ext w w') (fun _ _ h => ⟨h.1, Ext.of_eq h.2⟩))
 have hgl := blk_lt hg
 have c0 : ∀ wq, Ext w wq → wq.cell? ⟨gs, 0, none⟩ = some (.int .u32 s.a.toNat) := fun wq hq => hq.cell_of (cell_blk HG.out rfl)
 have c1 : ∀ wq, Ext w wq → wq.cell? ⟨gs, 1, none⟩ = some (.int .u32 s.b.toNat) := fun wq hq => hq.cell_of (cell_blk HG.out rfl)
 have c2 : ∀ wq, Ext w wq → wq.cell? ⟨gs, 2, none⟩ = some (.int .u32 s.c.toNat) := fun wq hq => hq.cell_of (cell_blk HG.out rfl)
 have c3 : ∀ wq, Ext w wq → wq.cell? ⟨gs, 3, none⟩ = some (.int .u32 s.d.toNat) := fun wq hq => hq.cell_of (cell_blk HG.out rfl)
 have c4 : ∀ wq, Ext w wq → wq.cell? ⟨gs, 4, none⟩ = some (.int .u32 s.e.toNat) := fun wq hq => hq.cell_of (cell_blk HG.out rfl)
 have c5 : ∀ wq, Ext w wq → wq.cell? ⟨gs, 5, none⟩ = some (.int .u32 s.f.toNat) := fun wq hq => hq.cell_of (cell_blk HG.out rfl)
 have c6 : ∀ wq, Ext w wq → wq.cell? ⟨gs, 6, none⟩ = some (.int .u32 s.g.toNat) := fun wq hq => hq.cell_of (cell_blk HG.out rfl)
 have c7 : ∀ wq, Ext w wq → wq.cell? ⟨gs, 7, none⟩ = some (.int .u32 s.h.toNat) := fun wq hq => hq.cell_of (cell_blk HG.out rfl)
 clear hb hW hWV hR0 hRS hg
 go_enter Tryz.func158, Tryz.ntmps158
 go_wp2_with (first
  | (go_at_call 163; with_reducible refine (GK.out _).mono ?_; rintro e w1 ⟨gk, rfl, hk1, hx1⟩; have HK1 := Lib.hid hk1; clear hk1)
  | (go_at_call 164; with_reducible refine (GW.out _).mono ?_; rintro e w2 ⟨vw, rfl, hrow, hx2⟩; obtain ⟨gw, cw, hvw⟩ := row_some hrow (by rw [List.length_map, HWL.out]; omega); rw [List.length_map, HWL.out] at hvw; subst hvw; have HW2 := Lib.hid hrow; clear hrow; have hx12 : Ext w w2 := hx1.trans hx2))
 go_quiet (fail)
 go_wp2
 go_quiet (fail)
 go_wp2
 go_loopw [7, 8, 9, 10, 11, 12, 13, 14, 15] (fun a b c d e f g h i wr => ∃ k : Nat, k ≤ 64 ∧ i = .int .i64 k ∧ a = .int .u32 (R k).a.toNat ∧ b = .int .u32 (R k).b.toNat ∧ c = .int .u32 (R k).c.toNat ∧ d = .int .u32 (R k).d.toNat ∧ e = .int .u32 (R k).e.toNat ∧ f = .int .u32 (R k).f.toNat ∧ g = .int .u32 (R k).g.toNat ∧ h = .int .u32 (R k).h.toNat ∧ Ext w2 wr) (fun _ _ _ _ _ _ _ _ i _ => 64 - (intOf i).toNat)
 case atStart => exact ⟨0, by omega, rfl, by rw [HR0.out], by rw [HR0.out], by rw [HR0.out], by rw [HR0.out], by rw [HR0.out], by rw [HR0.out], by rw [HR0.out], by rw [HR0.out], (by repeat (first | exact Ext.refl _ | assumption | (with_reducible refine Ext.drew ?_) | (with_reducible refine Ext.drewN ?_ _) | (with_reducible refine Ext.alloc ?_ _) | (refine Ext.trans ?_ (by assumption))))⟩
 case round =>
  obtain ⟨k, hk, rfl, rfl, rfl, rfl, rfl, rfl, rfl, rfl, rfl, hx⟩ := hrel
  by_cases hlt : k < 64
  ·have HRK := Lib.hid (HRS.out k hlt)
   generalize R k = r at HRK
   have hkl : (k : Int) < 64 := by omega
   have cw_ : ∀ wq, Ext wr wq → wq.cell? ⟨gw, k, none⟩ = some (.int .u32 ((W.getD k 0).toNat : Int)) := by
    intro wq hq
    have hWk := HWL.out
    have := ((HW2.out.ext hx).ext hq).cellAt k (by rw [List.length_map, hWk]; exact hlt)
    rw [this, List.getElem_map, List.getD_eq_getElem?_getD, List.getElem?_eq_getElem (by omega)]; rfl
   have ck : ∀ wq, Ext wr wq → wq.cell? ⟨gk, k, none⟩ = some (.int .u32 ((kT.getD k 0).toNat : Int)) := by
    intro wq hq
    have hkT : k < kT.length := by rw [kT_length]; exact hlt
    refine ((hx2.trans hx).trans hq).cell_of (cell_blk HK1.out ?_)
    rw [kV, wcells_at kT k hkT, List.getD_eq_getElem?_getD, List.getElem?_eq_getElem hkT]; rfl
   generalize W.getD k 0 = wk at cw_ HRK
   generalize kT.getD k 0 = kk at ck HRK
   go_wp2
   refine Loud.wp_region_fork (fun i => decide (i=2)) 24 (fun w' => Ext wr w') (by kernel_rfl) (by decide) (by show Ext _ _; repeat (first | exact Ext.refl _ | assumption | (with_reducible refine Ext.drew ?_) | (with_reducible refine Ext.drewN ?_ _) | (with_reducible refine Ext.alloc ?_ _) | (refine Ext.trans ?_ (by assumption)))) ?_
   refine Loud.wf_q 0 rfl (by kernel_rfl) rfl rfl ?_; apply Exists.intro; refine ⟨fun wq hq => ?_, Loud.wf_norm fun K hK => ?_⟩; (go_simp; try rfl); go_simp; refine hK _ ?_; clear hK K
   refine Loud.wf_q 1 rfl (by kernel_rfl) rfl rfl ?_; apply Exists.intro; refine ⟨fun wq hq => ?_, Loud.wf_norm fun K hK => ?_⟩; (go_simp; try rfl); go_simp; refine hK _ ?_; clear hK K
   refine Loud.wf_l 2 rfl (by kernel_rfl) rfl rfl (fun K hK => ?_); go_simp; refine (T6.out r.e _).mono ?_; rintro e w5 ⟨rfl, hw5⟩; refine ⟨_, rfl, ?_⟩; go_simp; refine hK _ _ (by show Ext _ _; repeat (first | exact Ext.refl _ | assumption | (with_reducible refine Ext.drew ?_) | (with_reducible refine Ext.drewN ?_ _) | (with_reducible refine Ext.alloc ?_ _) | (refine Ext.trans ?_ (by assumption)))) ?_; clear hK K
   refine Loud.wf_q 3 rfl (by kernel_rfl) rfl rfl ?_; apply Exists.intro; refine ⟨fun wq hq => ?_, Loud.wf_norm fun K hK => ?_⟩; (go_simp; try rfl); go_simp; refine hK _ ?_; clear hK K
   refine Loud.wf_q 4 rfl (by kernel_rfl) rfl rfl ?_; apply Exists.intro; refine ⟨fun wq hq => ?_, Loud.wf_norm fun K hK => ?_⟩; (go_simp; try rfl); go_simp; refine hK _ ?_; clear hK K
   refine Loud.wf_q 5 rfl (by kernel_rfl) rfl rfl ?_; apply Exists.intro; refine ⟨fun wq hq => ?_, Loud.wf_norm fun K hK => ?_⟩; (go_simp; try rfl); go_simp; refine hK _ ?_; clear hK K
   refine Loud.wf_q 6 rfl (by kernel_rfl) rfl rfl ?_; apply Exists.intro; refine ⟨fun wq hq => ?_, Loud.wf_norm fun K hK => ?_⟩; (go_simp; try rfl); go_simp; refine hK _ ?_; clear hK K
   refine Loud.wf_q 7 rfl (by kernel_rfl) rfl rfl ?_; apply Exists.intro; refine ⟨fun wq hq => ?_, Loud.wf_norm fun K hK => ?_⟩; (go_simp; try rfl); go_simp; refine hK _ ?_; clear hK K
   refine Loud.wf_q 8 rfl (by kernel_rfl) rfl rfl ?_; apply Exists.intro; refine ⟨fun wq hq => ?_, Loud.wf_norm fun K hK => ?_⟩; (go_simp; try rfl); go_simp; refine hK _ ?_; clear hK K
   refine Loud.wf_q 9 rfl (by kernel_rfl) rfl rfl ?_; apply Exists.intro; refine ⟨fun wq hq => ?_, Loud.wf_norm fun K hK => ?_⟩; (go_simp; try rfl); go_simp; refine hK _ ?_; clear hK K
   refine Loud.wf_q 10 rfl (by kernel_rfl) rfl rfl ?_; apply Exists.intro; refine ⟨fun wq hq => ?_, Loud.wf_norm fun K hK => ?_⟩; (go_simp; try rfl); go_simp; refine hK _ ?_; clear hK K
   refine Loud.wf_q 11 rfl (by kernel_rfl) rfl rfl ?_; apply Exists.intro; refine ⟨fun wq hq => ?_, Loud.wf_norm fun K hK => ?_⟩; (go_simp; try rfl); go_simp; refine hK _ ?_; clear hK K
   refine Loud.wf_q 12 rfl (by kernel_rfl) rfl rfl ?_; apply Exists.intro; refine ⟨fun wq hq => ?_, Loud.wf_norm fun K hK => ?_⟩; (go_simp; try rfl); go_simp; refine hK _ ?_; clear hK K
   refine Loud.wf_q 13 rfl (by kernel_rfl) rfl rfl ?_; apply Exists.intro; refine ⟨fun wq hq => ?_, Loud.wf_norm fun K hK => ?_⟩; (go_simp; try rfl); go_simp; refine hK _ ?_; clear hK K
   refine Loud.wf_q 14 rfl (by kernel_rfl) rfl rfl ?_; apply Exists.intro; refine ⟨fun wq hq => ?_, Loud.wf_norm fun K hK => ?_⟩; (go_simp; try rfl); go_simp; refine hK _ ?_; clear hK K
   refine Loud.wf_q 15 rfl (by kernel_rfl) rfl rfl ?_; apply Exists.intro; refine ⟨fun wq hq => ?_, Loud.wf_norm fun K hK => ?_⟩; (go_simp; try rfl); go_simp; refine hK _ ?_; clear hK K
   refine Loud.wf_q 16 rfl (by kernel_rfl) rfl rfl ?_; apply Exists.intro; refine ⟨fun wq hq => ?_, Loud.wf_norm fun K hK => ?_⟩; (go_simp; try rfl); go_simp; refine hK _ ?_; clear hK K
   refine Loud.wf_q 17 rfl (by kernel_rfl) rfl rfl ?_; apply Exists.intro; refine ⟨fun wq hq => ?_, Loud.wf_norm fun K hK => ?_⟩; (go_simp; try rfl); go_simp; refine hK _ ?_; clear hK K
   refine Loud.wf_q 18 rfl (by kernel_rfl) rfl rfl ?_; apply Exists.intro; refine ⟨fun wq hq => ?_, Loud.wf_norm fun K hK => ?_⟩; (go_simp; try rfl); go_simp; refine hK _ ?_; clear hK K
   refine Loud.wf_q 19 rfl (by kernel_rfl) rfl rfl ?_; apply Exists.intro; refine ⟨fun wq hq => ?_, Loud.wf_norm fun K hK => ?_⟩; (go_simp; try rfl); go_simp; refine hK _ ?_; clear hK K
   refine Loud.wf_q 20 rfl (by kernel_rfl) rfl rfl ?_; apply Exists.intro; refine ⟨fun wq hq => ?_, Loud.wf_norm fun K hK => ?_⟩; (go_simp; try rfl); go_simp; refine hK _ ?_; clear hK K
   refine Loud.wf_q 21 rfl (by kernel_rfl) rfl rfl ?_; apply Exists.intro; refine ⟨fun wq hq => ?_, Loud.wf_norm fun K hK => ?_⟩; (go_simp; try rfl); go_simp; refine hK _ ?_; clear hK K
   refine Loud.wf_q 22 rfl (by kernel_rfl) rfl rfl ?_; apply Exists.intro; refine ⟨fun wq hq => ?_, Loud.wf_norm fun K hK => ?_⟩; (go_simp; try rfl); go_simp; refine hK _ ?_; clear hK K
   refine Loud.wf_q 23 rfl (by kernel_rfl) rfl rfl ?_; apply Exists.intro; refine ⟨fun wq hq => ?_, Loud.wf_norm fun K hK => ?_⟩; (go_simp; try rfl); go_simp; refine hK _ ?_; clear hK K
   refine Loud.wf_nil (by kernel_rfl) ?_
   simp only [List.drop_succ_cons, List.drop_zero]
   have x5 : Ext wr w5 := (by repeat (first | exact Ext.refl _ | assumption | (with_reducible refine Ext.drew ?_) | (with_reducible refine Ext.drewN ?_ _) | (with_reducible refine Ext.alloc ?_ _) | (refine Ext.trans ?_ (by assumption))))
   have hX := rndX_ref r kk wk
   have hY := rndY_ref r
   have HX := Lib.hid hX; have HY := Lib.hid hY
   clear hX hY
   go_wp2_with (go_at_call 165; refine (T2.out r.a _).mono ?_; rintro e w6 ⟨rfl, hx6⟩)
   go_roundw
   case measure => simp [intOf]; omega
   case rel =>
    refine ⟨k + 1, by omega, by go_num, ?_, ?_, ?_, ?_, ?_, ?_, ?_, ?_, hx.trans (by have a6 := hx6; exact Ext.trans x5 a6)⟩
    all_goals rw [HRK.out]
    all_goals first
     | rfl
     | (simp only [rnd]; rw [← HX.out, ← HY.out]; done)
     | (simp only [rnd]; rw [← HX.out]; done)
     | (simp only [rnd]; rw [← HX.out, ← HY.out]; rfl)
     | (simp only [rnd]; rw [← HX.out]; rfl)
  ·obtain rfl : k = 64 := by omega
   generalize hRt : R 64 = t
   have HRT := Lib.hid hRt
   clear hRt
   go_wp2
   have e0 : ∀ wq, Ext wr wq → wq.cell? ⟨gs, 0, none⟩ = some (.int .u32 s.a.toNat) := fun wq hq => c0 wq ((hx12.trans hx).trans hq)
   have e1 : ∀ wq, Ext wr wq → wq.cell? ⟨gs, 1, none⟩ = some (.int .u32 s.b.toNat) := fun wq hq => c1 wq ((hx12.trans hx).trans hq)
   have e2 : ∀ wq, Ext wr wq → wq.cell? ⟨gs, 2, none⟩ = some (.int .u32 s.c.toNat) := fun wq hq => c2 wq ((hx12.trans hx).trans hq)
   have e3 : ∀ wq, Ext wr wq → wq.cell? ⟨gs, 3, none⟩ = some (.int .u32 s.d.toNat) := fun wq hq => c3 wq ((hx12.trans hx).trans hq)
   have e4 : ∀ wq, Ext wr wq → wq.cell? ⟨gs, 4, none⟩ = some (.int .u32 s.e.toNat) := fun wq hq => c4 wq ((hx12.trans hx).trans hq)
   have e5 : ∀ wq, Ext wr wq → wq.cell? ⟨gs, 5, none⟩ = some (.int .u32 s.f.toNat) := fun wq hq => c5 wq ((hx12.trans hx).trans hq)
   have e6 : ∀ wq, Ext wr wq → wq.cell? ⟨gs, 6, none⟩ = some (.int .u32 s.g.toNat) := fun wq hq => c6 wq ((hx12.trans hx).trans hq)
   have e7 : ∀ wq, Ext wr wq → wq.cell? ⟨gs, 7, none⟩ = some (.int .u32 s.h.toNat) := fun wq hq => c7 wq ((hx12.trans hx).trans hq)
   refine Loud.wp_region_fork (fun i => decide (i=40)) 42 (fun w' => Ext wr w') (by kernel_rfl) (by decide) (by show Ext _ _; repeat (first | exact Ext.refl _ | assumption | (with_reducible refine Ext.drew ?_) | (with_reducible refine Ext.drewN ?_ _) | (with_reducible refine Ext.alloc ?_ _) | (refine Ext.trans ?_ (by assumption)))) ?_
   refine Loud.wf_q 0 rfl (by kernel_rfl) rfl rfl ?_; apply Exists.intro; refine ⟨fun wq hq => ?_, Loud.wf_norm fun K hK => ?_⟩; (go_simp; try rfl); go_simp; refine hK _ ?_; clear hK K
   refine Loud.wf_q 1 rfl (by kernel_rfl) rfl rfl ?_; apply Exists.intro; refine ⟨fun wq hq => ?_, Loud.wf_norm fun K hK => ?_⟩; (go_simp; try rfl); go_simp; refine hK _ ?_; clear hK K
   refine Loud.wf_q 2 rfl (by kernel_rfl) rfl rfl ?_; apply Exists.intro; refine ⟨fun wq hq => ?_, Loud.wf_norm fun K hK => ?_⟩; (go_simp; try rfl); go_simp; refine hK _ ?_; clear hK K
   refine Loud.wf_q 3 rfl (by kernel_rfl) rfl rfl ?_; apply Exists.intro; refine ⟨fun wq hq => ?_, Loud.wf_norm fun K hK => ?_⟩; (go_simp; try rfl); go_simp; refine hK _ ?_; clear hK K
   refine Loud.wf_q 4 rfl (by kernel_rfl) rfl rfl ?_; apply Exists.intro; refine ⟨fun wq hq => ?_, Loud.wf_norm fun K hK => ?_⟩; (go_simp; try rfl); go_simp; refine hK _ ?_; clear hK K
   refine Loud.wf_q 5 rfl (by kernel_rfl) rfl rfl ?_; apply Exists.intro; refine ⟨fun wq hq => ?_, Loud.wf_norm fun K hK => ?_⟩; (go_simp; try rfl); go_simp; refine hK _ ?_; clear hK K
   refine Loud.wf_q 6 rfl (by kernel_rfl) rfl rfl ?_; apply Exists.intro; refine ⟨fun wq hq => ?_, Loud.wf_norm fun K hK => ?_⟩; (go_simp; try rfl); go_simp; refine hK _ ?_; clear hK K
   refine Loud.wf_q 7 rfl (by kernel_rfl) rfl rfl ?_; apply Exists.intro; refine ⟨fun wq hq => ?_, Loud.wf_norm fun K hK => ?_⟩; (go_simp; try rfl); go_simp; refine hK _ ?_; clear hK K
   refine Loud.wf_q 8 rfl (by kernel_rfl) rfl rfl ?_; apply Exists.intro; refine ⟨fun wq hq => ?_, Loud.wf_norm fun K hK => ?_⟩; (go_simp; try rfl); go_simp; refine hK _ ?_; clear hK K
   refine Loud.wf_q 9 rfl (by kernel_rfl) rfl rfl ?_; apply Exists.intro; refine ⟨fun wq hq => ?_, Loud.wf_norm fun K hK => ?_⟩; (go_simp; try rfl); go_simp; refine hK _ ?_; clear hK K
   refine Loud.wf_q 10 rfl (by kernel_rfl) rfl rfl ?_; apply Exists.intro; refine ⟨fun wq hq => ?_, Loud.wf_norm fun K hK => ?_⟩; (go_simp; try rfl); go_simp; refine hK _ ?_; clear hK K
   refine Loud.wf_q 11 rfl (by kernel_rfl) rfl rfl ?_; apply Exists.intro; refine ⟨fun wq hq => ?_, Loud.wf_norm fun K hK => ?_⟩; (go_simp; try rfl); go_simp; refine hK _ ?_; clear hK K
   refine Loud.wf_q 12 rfl (by kernel_rfl) rfl rfl ?_; apply Exists.intro; refine ⟨fun wq hq => ?_, Loud.wf_norm fun K hK => ?_⟩; (go_simp; try rfl); go_simp; refine hK _ ?_; clear hK K
   refine Loud.wf_q 13 rfl (by kernel_rfl) rfl rfl ?_; apply Exists.intro; refine ⟨fun wq hq => ?_, Loud.wf_norm fun K hK => ?_⟩; (go_simp; try rfl); go_simp; refine hK _ ?_; clear hK K
   refine Loud.wf_q 14 rfl (by kernel_rfl) rfl rfl ?_; apply Exists.intro; refine ⟨fun wq hq => ?_, Loud.wf_norm fun K hK => ?_⟩; (go_simp; try rfl); go_simp; refine hK _ ?_; clear hK K
   refine Loud.wf_q 15 rfl (by kernel_rfl) rfl rfl ?_; apply Exists.intro; refine ⟨fun wq hq => ?_, Loud.wf_norm fun K hK => ?_⟩; (go_simp; try rfl); go_simp; refine hK _ ?_; clear hK K
   refine Loud.wf_q 16 rfl (by kernel_rfl) rfl rfl ?_; apply Exists.intro; refine ⟨fun wq hq => ?_, Loud.wf_norm fun K hK => ?_⟩; (go_simp; try rfl); go_simp; refine hK _ ?_; clear hK K
   refine Loud.wf_q 17 rfl (by kernel_rfl) rfl rfl ?_; apply Exists.intro; refine ⟨fun wq hq => ?_, Loud.wf_norm fun K hK => ?_⟩; (go_simp; try rfl); go_simp; refine hK _ ?_; clear hK K
   refine Loud.wf_q 18 rfl (by kernel_rfl) rfl rfl ?_; apply Exists.intro; refine ⟨fun wq hq => ?_, Loud.wf_norm fun K hK => ?_⟩; (go_simp; try rfl); go_simp; refine hK _ ?_; clear hK K
   refine Loud.wf_q 19 rfl (by kernel_rfl) rfl rfl ?_; apply Exists.intro; refine ⟨fun wq hq => ?_, Loud.wf_norm fun K hK => ?_⟩; (go_simp; try rfl); go_simp; refine hK _ ?_; clear hK K
   refine Loud.wf_q 20 rfl (by kernel_rfl) rfl rfl ?_; apply Exists.intro; refine ⟨fun wq hq => ?_, Loud.wf_norm fun K hK => ?_⟩; (go_simp; try rfl); go_simp; refine hK _ ?_; clear hK K
   refine Loud.wf_q 21 rfl (by kernel_rfl) rfl rfl ?_; apply Exists.intro; refine ⟨fun wq hq => ?_, Loud.wf_norm fun K hK => ?_⟩; (go_simp; try rfl); go_simp; refine hK _ ?_; clear hK K
   refine Loud.wf_q 22 rfl (by kernel_rfl) rfl rfl ?_; apply Exists.intro; refine ⟨fun wq hq => ?_, Loud.wf_norm fun K hK => ?_⟩; (go_simp; try rfl); go_simp; refine hK _ ?_; clear hK K
   refine Loud.wf_q 23 rfl (by kernel_rfl) rfl rfl ?_; apply Exists.intro; refine ⟨fun wq hq => ?_, Loud.wf_norm fun K hK => ?_⟩; (go_simp; try rfl); go_simp; refine hK _ ?_; clear hK K
   refine Loud.wf_q 24 rfl (by kernel_rfl) rfl rfl ?_; apply Exists.intro; refine ⟨fun wq hq => ?_, Loud.wf_norm fun K hK => ?_⟩; (go_simp; try rfl); go_simp; refine hK _ ?_; clear hK K
   refine Loud.wf_q 25 rfl (by kernel_rfl) rfl rfl ?_; apply Exists.intro; refine ⟨fun wq hq => ?_, Loud.wf_norm fun K hK => ?_⟩; (go_simp; try rfl); go_simp; refine hK _ ?_; clear hK K
   refine Loud.wf_q 26 rfl (by kernel_rfl) rfl rfl ?_; apply Exists.intro; refine ⟨fun wq hq => ?_, Loud.wf_norm fun K hK => ?_⟩; (go_simp; try rfl); go_simp; refine hK _ ?_; clear hK K
   refine Loud.wf_q 27 rfl (by kernel_rfl) rfl rfl ?_; apply Exists.intro; refine ⟨fun wq hq => ?_, Loud.wf_norm fun K hK => ?_⟩; (go_simp; try rfl); go_simp; refine hK _ ?_; clear hK K
   refine Loud.wf_q 28 rfl (by kernel_rfl) rfl rfl ?_; apply Exists.intro; refine ⟨fun wq hq => ?_, Loud.wf_norm fun K hK => ?_⟩; (go_simp; try rfl); go_simp; refine hK _ ?_; clear hK K
   refine Loud.wf_q 29 rfl (by kernel_rfl) rfl rfl ?_; apply Exists.intro; refine ⟨fun wq hq => ?_, Loud.wf_norm fun K hK => ?_⟩; (go_simp; try rfl); go_simp; refine hK _ ?_; clear hK K
   refine Loud.wf_q 30 rfl (by kernel_rfl) rfl rfl ?_; apply Exists.intro; refine ⟨fun wq hq => ?_, Loud.wf_norm fun K hK => ?_⟩; (go_simp; try rfl); go_simp; refine hK _ ?_; clear hK K
   refine Loud.wf_q 31 rfl (by kernel_rfl) rfl rfl ?_; apply Exists.intro; refine ⟨fun wq hq => ?_, Loud.wf_norm fun K hK => ?_⟩; (go_simp; try rfl); go_simp; refine hK _ ?_; clear hK K
   refine Loud.wf_q 32 rfl (by kernel_rfl) rfl rfl ?_; apply Exists.intro; refine ⟨fun wq hq => ?_, Loud.wf_norm fun K hK => ?_⟩; (go_simp; try rfl); go_simp; refine hK _ ?_; clear hK K
   refine Loud.wf_q 33 rfl (by kernel_rfl) rfl rfl ?_; apply Exists.intro; refine ⟨fun wq hq => ?_, Loud.wf_norm fun K hK => ?_⟩; (go_simp; try rfl); go_simp; refine hK _ ?_; clear hK K
   refine Loud.wf_q 34 rfl (by kernel_rfl) rfl rfl ?_; apply Exists.intro; refine ⟨fun wq hq => ?_, Loud.wf_norm fun K hK => ?_⟩; (go_simp; try rfl); go_simp; refine hK _ ?_; clear hK K
   refine Loud.wf_q 35 rfl (by kernel_rfl) rfl rfl ?_; apply Exists.intro; refine ⟨fun wq hq => ?_, Loud.wf_norm fun K hK => ?_⟩; (go_simp; try rfl); go_simp; refine hK _ ?_; clear hK K
   refine Loud.wf_q 36 rfl (by kernel_rfl) rfl rfl ?_; apply Exists.intro; refine ⟨fun wq hq => ?_, Loud.wf_norm fun K hK => ?_⟩; (go_simp; try rfl); go_simp; refine hK _ ?_; clear hK K
   refine Loud.wf_q 37 rfl (by kernel_rfl) rfl rfl ?_; apply Exists.intro; refine ⟨fun wq hq => ?_, Loud.wf_norm fun K hK => ?_⟩; (go_simp; try rfl); go_simp; refine hK _ ?_; clear hK K
   refine Loud.wf_q 38 rfl (by kernel_rfl) rfl rfl ?_; apply Exists.intro; refine ⟨fun wq hq => ?_, Loud.wf_norm fun K hK => ?_⟩; (go_simp; try rfl); go_simp; refine hK _ ?_; clear hK K
   refine Loud.wf_q 39 rfl (by kernel_rfl) rfl rfl ?_; apply Exists.intro; refine ⟨fun wq hq => ?_, Loud.wf_norm fun K hK => ?_⟩; (go_simp; try rfl); go_simp; refine hK _ ?_; clear hK K
   refine Loud.wf_l 40 rfl (by kernel_rfl) rfl rfl (fun K hK => ?_); go_simp; refine hK _ _ (by show Ext _ _; repeat (first | exact Ext.refl _ | assumption | (with_reducible refine Ext.drew ?_) | (with_reducible refine Ext.drewN ?_ _) | (with_reducible refine Ext.alloc ?_ _) | (refine Ext.trans ?_ (by assumption)))) ?_; clear hK K
   refine Loud.wf_q 41 rfl (by kernel_rfl) rfl rfl ?_; apply Exists.intro; refine ⟨fun wq hq => ?_, Loud.wf_norm fun K hK => ?_⟩; (go_simp; try rfl); go_simp; refine hK _ ?_; clear hK K
   refine Loud.wf_nil (by kernel_rfl) ?_
   simp only [List.drop_succ_cons, List.drop_zero]
   go_wp2
   go_returns
   refine ⟨wr.heap.size, rfl, ?_, (hx12.trans hx).trans (by repeat (first | exact Ext.refl _ | assumption | (with_reducible refine Ext.drew ?_) | (with_reducible refine Ext.drewN ?_ _) | (with_reducible refine Ext.alloc ?_ _) | (refine Ext.trans ?_ (by assumption))))⟩
   rw [HRT.out]
   exact heap_alloc_new wr _
theorem RefStep_any (s : St) (b : List UInt8) (gs : Nat) (w : World) (hb : b.length = 64) (hg : w.heap[gs]? = some (.cells s.v 46)) :
  Calls Tryz.prog 158 #[.slice (some ⟨gs, 0, none⟩) 8 8, .string (bs b)] w fun e w' => ∃ g, e = .returned (.slice (some ⟨g, 0, none⟩) 8 8) ∧ w'.heap[g]? = some (.cells (behindS s b).v 46) ∧ Ext w w' :=
 RefStep_gen s b (words b) (roundsN s (words b)) gs w hb (words_length b) rfl rfl (fun _ _ => rfl) hg
end Go.Proofs.YtclekllaikcglaaGreat
