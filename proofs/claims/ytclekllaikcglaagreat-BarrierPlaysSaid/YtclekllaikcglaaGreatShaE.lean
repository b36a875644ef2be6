import Derived.Test.YtclekllaikcglaaGreatShaC

/- Contracts: layer 2, the program's sum. -/
namespace Go.Proofs.YtclekllaikcglaaGreat
open Go Go.RowKit
def padS (rest : List UInt8) (len : Nat) : List UInt8 := [128] ++ List.replicate ((119 - rest.length) % 64) 0 ++ putB 8 (len * 8)
def digest (l : List UInt32) : List UInt8 := l.flatMap fun x => putB 4 x.toNat
theorem digest_take (l : List UInt32) (k : Nat) (x : UInt32) (h : l[k]? = some x) : digest (l.take (k + 1)) = digest (l.take k) ++ putB 4 x.toNat := by
 have hk : k < l.length := (List.getElem?_eq_some_iff.1 h).1
 rw [List.getElem?_eq_getElem hk] at h
 cases h
 rw [List.take_succ_eq_append_getElem hk, digest, List.flatMap_append]; simp [digest]
theorem digest_length (l : List UInt32) : (digest l).length = l.length * 4 := by
 induction l with
 | nil => rfl
 | cons x l ih =>
  have : digest (x :: l) = putB 4 x.toNat ++ digest l := rfl
  rw [this, List.length_append, putB_length, ih, List.length_cons]; omega
theorem k_put {K : Act → World → Prop} {a : Act} {dst : Option Tmp} {v v' : Value} {w : World} (h : v = v') (hk : K (a.put dst v') w) : K (a.put dst v) w := h ▸ hk
def sumS (s : St) (rest : List UInt8) (len : Nat) : List UInt8 := digest (soak s (rest ++ padS rest len)).1.list
set_option maxRecDepth 100000 in
set_option maxHeartbeats 4000000 in
theorem HSum_any (w : World) (bh : Nat) (s : St) (rest : List UInt8) (len : Nat) (hr : rest.length < 64) (hlen : len ≤ 1152921504606846976) (h : PH w bh s rest len) :
  Calls Tryz.prog 115 #[.pointer (some ⟨bh, 0, none⟩)] w fun e w' => e = .returned (.string (bs (sumS s rest len))) ∧ Ext w w' := by
 have H := Lib.hid h
 have c0 : w.cell? ⟨bh, 0, none⟩ = some (.int .u32 s.a.toNat) := cell_blk h rfl
 have c1 : w.cell? ⟨bh, 1, none⟩ = some (.int .u32 s.b.toNat) := cell_blk h rfl
 have c2 : w.cell? ⟨bh, 2, none⟩ = some (.int .u32 s.c.toNat) := cell_blk h rfl
 have c3 : w.cell? ⟨bh, 3, none⟩ = some (.int .u32 s.d.toNat) := cell_blk h rfl
 have c4 : w.cell? ⟨bh, 4, none⟩ = some (.int .u32 s.e.toNat) := cell_blk h rfl
 have c5 : w.cell? ⟨bh, 5, none⟩ = some (.int .u32 s.f.toNat) := cell_blk h rfl
 have c6 : w.cell? ⟨bh, 6, none⟩ = some (.int .u32 s.g.toNat) := cell_blk h rfl
 have c7 : w.cell? ⟨bh, 7, none⟩ = some (.int .u32 s.h.toNat) := cell_blk h rfl
 have c8 : w.cell? ⟨bh, 8, none⟩ = some (.string (bs rest)) := cell_blk h rfl
 have c9 : w.cell? ⟨bh, 9, none⟩ = some (.int .u64 len) := cell_blk h rfl
 have c10 : w.cell? ⟨bh, 10, none⟩ = some (.bool true) := cell_blk h rfl
 have hl := blk_lt h
 obtain ⟨n0, hn0⟩ : ∃ n, n = (119 - rest.length) % 64 := ⟨_, rfl⟩
 have hrem : (IntKind.i64.wrap (119 - (rest.length : Int))).tmod 64 = (n0 : Int) := by
  rw [show IntKind.i64.wrap (119 - (rest.length : Int)) = 119 - (rest.length : Int) by rw [IntKind.wrap_i64]; omega, Int.tmod_eq_emod_of_nonneg (by omega)]; omega
 have hshl : IntKind.u64.wrap ((len : Int) * 8) = ((len * 8 : Nat) : Int) := by rw [IntKind.wrap_u64]; omega
 have hn64 : n0 < 64 := by omega
 have hpd : padS rest len = [128] ++ List.replicate n0 0 ++ putB 8 (len * 8) := by rw [padS, hn0]
 have HPD := Lib.hid hpd
 have hmk := fun w => mk_bytes n0 (by omega) w
 have GP := Lib.hid (fun w => Put64_any (len * 8) w (by unfold U64; omega))
 have HLN := Lib.hid hlen
 have G4 := Lib.hid (fun (x : UInt32) w => Put32_any x.toNat w (by unfold U32; have := x.toNat_lt; omega))
 clear h hpd hn0
 go_enter Tryz.func115, Tryz.ntmps115
 go_upto_region 4 with fail
 have hp0 : PH (w.alloc (.cells (hcells s rest len) 177)) w.heap.size s rest len := heap_alloc_new _ _
 have hx0 : Ext w (w.alloc (.cells (hcells s rest len) 177)) := (Ext.refl w).alloc _
 change Code.wp _ _ _ _ (w.alloc (.cells (hcells s rest len) 177))
 have hsz0 : (w.alloc (.cells (hcells s rest len) 177)).heap.size = w.heap.size + 1 := by simp
 generalize w.alloc (.cells (hcells s rest len) 177) = w1 at hp0 hx0 hsz0
 have HP0 := Lib.hid hp0
 have HZ := Lib.hid hsz0
 have q8 : ∀ wq, Ext w1 wq → wq.cell? ⟨bh, 8, none⟩ = some (.string (bs rest)) := fun wq hq => (hx0.trans hq).cell_of c8
 have q9 : ∀ wq, Ext w1 wq → wq.cell? ⟨bh, 9, none⟩ = some (.int .u64 len) := fun wq hq => (hx0.trans hq).cell_of c9
 clear hp0 hsz0
 have G5 := Lib.hid (fun (W : World) (hp : PH W w.heap.size s rest len) => HAdd_any W w.heap.size s rest len (padS rest len) (by rw [HPD.out]; simp [putB_length]; omega) hr (by rw [HPD.out]; simp [putB_length]; omega) hp)
 obtain ⟨pad, hpad⟩ : ∃ p, p = padS rest len := ⟨_, rfl⟩
 have hpad' : pad = 128 :: (List.replicate n0 0 ++ putB 8 (len * 8)) := by rw [hpad, HPD.out]; rfl
 have HPA := Lib.hid hpad; have HPB := Lib.hid hpad'
 clear hpad hpad'
 have s5 : ¬ 9223372036854775807 < 1 + n0 := by omega
 have h128 : ({ data := #[128] } : ByteArray) ++ bs (List.replicate n0 0) = bs (128 :: List.replicate n0 0) := by rw [show ({ data := #[128] } : ByteArray) = bs [128] from rfl, bs_append]; rfl
 have s7 : ¬ 9223372036854775807 < n0 + 1 + 8 := by omega
 have s6 : ¬ 9223372036854775807 < n0 + 1 + (putB 8 (len * 8)).length := by rw [putB_length]; omega
 go_cut [3] from 18 to 35 (fun p wc => p = .pointer (some ⟨w.heap.size, 0, none⟩) ∧ PH wc w.heap.size (soak s (rest ++ padS rest len)).1 (soak s (rest ++ padS rest len)).2 (len + (padS rest len).length) ∧ Ext w wc)
 case first =>
  refine Loud.wp_region_fork (fun i => decide (i=7∨i=8∨i=15)) 17 (fun w' => Ext w1 w') (by kernel_rfl) (by decide) (by show Ext _ _; repeat (first | exact Ext.refl _ | assumption | (with_reducible refine Ext.drew ?_) | (with_reducible refine Ext.drewN ?_ _) | (with_reducible refine Ext.alloc ?_ _) | (refine Ext.trans ?_ (by assumption)))) ?_
  refine Loud.wf_q 0 rfl (by kernel_rfl) rfl rfl ?_; apply Exists.intro; refine ⟨fun wq hq => ?_, Loud.wf_norm fun K hK => ?_⟩; (go_simp; try rfl); go_simp; refine hK _ ?_; clear hK K
  refine Loud.wf_q 1 rfl (by kernel_rfl) rfl rfl ?_; apply Exists.intro; refine ⟨fun wq hq => ?_, Loud.wf_norm fun K hK => ?_⟩; (go_simp; try rfl); go_simp; refine hK _ ?_; clear hK K
  refine Loud.wf_q 2 rfl (by kernel_rfl) rfl rfl ?_; apply Exists.intro; refine ⟨fun wq hq => ?_, Loud.wf_norm fun K hK => ?_⟩; (go_simp; try rfl); go_simp; refine hK _ ?_; clear hK K
  refine Loud.wf_q 3 rfl (by kernel_rfl) rfl rfl ?_; apply Exists.intro; refine ⟨fun wq hq => ?_, Loud.wf_norm fun K hK => ?_⟩; (go_simp; try rfl); go_simp; refine hK _ ?_; clear hK K
  refine Loud.wf_q 4 rfl (by kernel_rfl) rfl rfl ?_; apply Exists.intro; refine ⟨fun wq hq => ?_, Loud.wf_norm fun K hK => ?_⟩; (go_simp; try rfl); go_simp; refine hK _ ?_; clear hK K
  refine Loud.wf_q 5 rfl (by kernel_rfl) rfl rfl ?_; apply Exists.intro; refine ⟨fun wq hq => ?_, Loud.wf_norm fun K hK => ?_⟩; (go_simp; try rfl); go_simp; refine hK _ ?_; clear hK K
  refine Loud.wf_q 6 rfl (by kernel_rfl) rfl rfl ?_; apply Exists.intro; refine ⟨fun wq hq => ?_, Loud.wf_norm fun K hK => ?_⟩; (go_simp; try rfl); go_simp; refine hK _ ?_; clear hK K
  refine Loud.wf_q 10 rfl (by kernel_rfl) rfl rfl ?_; apply Exists.intro; refine ⟨fun wq hq => ?_, Loud.wf_norm fun K hK => ?_⟩; (go_simp; try rfl); go_simp; refine hK _ ?_; clear hK K
  refine Loud.wf_q 11 rfl (by kernel_rfl) rfl rfl ?_; apply Exists.intro; refine ⟨fun wq hq => ?_, Loud.wf_norm fun K hK => ?_⟩; (go_simp; try rfl); go_simp; refine hK _ ?_; clear hK K
  refine Loud.wf_q 12 rfl (by kernel_rfl) rfl rfl ?_; apply Exists.intro; refine ⟨fun wq hq => ?_, Loud.wf_norm fun K hK => ?_⟩; (go_simp; try rfl); go_simp; refine hK _ ?_; clear hK K
  refine Loud.wf_q 13 rfl (by kernel_rfl) rfl rfl ?_; apply Exists.intro; refine ⟨fun wq hq => ?_, Loud.wf_norm fun K hK => ?_⟩; (go_simp; try rfl); go_simp; refine hK _ ?_; clear hK K
  refine Loud.wf_q 14 rfl (by kernel_rfl) rfl rfl ?_; apply Exists.intro; refine ⟨fun wq hq => ?_, Loud.wf_norm fun K hK => ?_⟩; (go_simp; try rfl); go_simp; refine hK _ ?_; clear hK K
  refine Loud.wf_fork 7 15 rfl rfl (by kernel_rfl) rfl rfl rfl rfl (fun K hK => ?_) (fun K hK => ?_)
  ·go_simp; refine hK _ _ (by show Ext _ _; repeat (first | exact Ext.refl _ | assumption | (with_reducible refine Ext.drew ?_) | (with_reducible refine Ext.drewN ?_ _) | (with_reducible refine Ext.alloc ?_ _) | (refine Ext.trans ?_ (by assumption)))) ?_; clear hK K
   refine Loud.wf_fork 8 15 rfl rfl (by kernel_rfl) rfl rfl rfl rfl (fun K hK => ?_) (fun K hK => ?_)
   ·have kc := fun c => to_str_of (c := c) (w := (w1.alloc (.cells (bcells (List.replicate n0 0)) 5)).drew) (heap_alloc_new w1 (.cells (bcells (List.replicate n0 0)) 5)) (by simp : (List.replicate n0 (0 : UInt8)).length = n0)
    go_simp; refine hK _ _ (by show Ext _ _; repeat (first | exact Ext.refl _ | assumption | (with_reducible refine Ext.drew ?_) | (with_reducible refine Ext.drewN ?_ _) | (with_reducible refine Ext.alloc ?_ _) | (refine Ext.trans ?_ (by assumption)))) ?_; clear hK K
    refine Loud.wf_l 15 rfl (by kernel_rfl) rfl rfl (fun K hK => ?_); go_simp; refine (GP.out _).mono ?_; rintro e w4 ⟨rfl, hw4⟩; refine ⟨_, rfl, ?_⟩; go_simp; refine hK _ _ (by show Ext _ _; repeat (first | exact Ext.refl _ | assumption | (with_reducible refine Ext.drew ?_) | (with_reducible refine Ext.drewN ?_ _) | (with_reducible refine Ext.alloc ?_ _) | (refine Ext.trans ?_ (by assumption)))) ?_; clear hK K
    refine Loud.wf_q 9 rfl (by kernel_rfl) rfl rfl ?_; apply Exists.intro; refine ⟨fun wq hq => ?_, Loud.wf_norm fun K hK => ?_⟩; (go_simp; try rfl); go_simp; refine hK _ ?_; clear hK K
    refine Loud.wf_q 16 rfl (by kernel_rfl) rfl rfl ?_; apply Exists.intro; refine ⟨fun wq hq => ?_, Loud.wf_norm fun K hK => ?_⟩; (go_simp; try rfl); go_simp; refine hK _ ?_; clear hK K
    refine Loud.wf_nil (by kernel_rfl) ?_
    simp only [List.drop_succ_cons, List.drop_zero]
    have xf : Ext w1 w4 := (by repeat (first | exact Ext.refl _ | assumption | (with_reducible refine Ext.drew ?_) | (with_reducible refine Ext.drewN ?_ _) | (with_reducible refine Ext.alloc ?_ _) | (refine Ext.trans ?_ (by assumption))))
    go_wp2_with (go_at_call 114; rewrite [← HPB.out, HPA.out]; refine (G5.out w4 (xf.keep HP0.out)).mono ?_; rintro e w8 ⟨rfl, hp8, hb8⟩; have HP8 := Lib.hid hp8; have HX8 : Ext w w8 := But.ext (hx0.trans xf) hb8 (by simp); clear hp8 hb8)
    go_meet
    case rel => exact ⟨rfl, HP8.out, HX8⟩
   ·go_simp; refine (GP.out _).mono ?_; rintro e w4 ⟨rfl, hw4⟩; refine ⟨_, rfl, ?_⟩; go_simp; refine hK _ _ (by show Ext _ _; repeat (first | exact Ext.refl _ | assumption | (with_reducible refine Ext.drew ?_) | (with_reducible refine Ext.drewN ?_ _) | (with_reducible refine Ext.alloc ?_ _) | (refine Ext.trans ?_ (by assumption)))) ?_; clear hK K
    have hb4 : w4.heap[w1.heap.size]? = some (.cells (bcells (List.replicate n0 0)) 5) := hw4.keep (heap_alloc_new w1 _)
    have kc := fun c => to_str_of (c := c) hb4 (by simp : (List.replicate n0 (0 : UInt8)).length = n0)
    refine Loud.wf_l 8 rfl (by kernel_rfl) rfl rfl (fun K hK => ?_); go_simp; refine hK _ _ (by show Ext _ _; repeat (first | exact Ext.refl _ | assumption | (with_reducible refine Ext.drew ?_) | (with_reducible refine Ext.drewN ?_ _) | (with_reducible refine Ext.alloc ?_ _) | (refine Ext.trans ?_ (by assumption)))) ?_; clear hK K
    refine Loud.wf_q 9 rfl (by kernel_rfl) rfl rfl ?_; apply Exists.intro; refine ⟨fun wq hq => ?_, Loud.wf_norm fun K hK => ?_⟩; (go_simp; try rfl); go_simp; refine hK _ ?_; clear hK K
    refine Loud.wf_q 16 rfl (by kernel_rfl) rfl rfl ?_; apply Exists.intro; refine ⟨fun wq hq => ?_, Loud.wf_norm fun K hK => ?_⟩; (go_simp; try rfl); go_simp; refine hK _ ?_; clear hK K
    refine Loud.wf_nil (by kernel_rfl) ?_
    simp only [List.drop_succ_cons, List.drop_zero]
    have xf : Ext w1 w4 := (by repeat (first | exact Ext.refl _ | assumption | (with_reducible refine Ext.drew ?_) | (with_reducible refine Ext.drewN ?_ _) | (with_reducible refine Ext.alloc ?_ _) | (refine Ext.trans ?_ (by assumption))))
    go_wp2_with (go_at_call 114; rewrite [← HPB.out, HPA.out]; refine (G5.out w4 (xf.keep HP0.out)).mono ?_; rintro e w8 ⟨rfl, hp8, hb8⟩; have HP8 := Lib.hid hp8; have HX8 : Ext w w8 := But.ext (hx0.trans xf) hb8 (by simp); clear hp8 hb8)
    go_meet
    case rel => exact ⟨rfl, HP8.out, HX8⟩
  ·go_simp; refine (GP.out _).mono ?_; rintro e w4 ⟨rfl, hw4⟩; refine ⟨_, rfl, ?_⟩; go_simp; refine hK _ _ (by show Ext _ _; repeat (first | exact Ext.refl _ | assumption | (with_reducible refine Ext.drew ?_) | (with_reducible refine Ext.drewN ?_ _) | (with_reducible refine Ext.alloc ?_ _) | (refine Ext.trans ?_ (by assumption)))) ?_; clear hK K
   refine Loud.wf_l 7 rfl (by kernel_rfl) rfl rfl (fun K hK => ?_); go_simp; refine hK _ _ (by show Ext _ _; repeat (first | exact Ext.refl _ | assumption | (with_reducible refine Ext.drew ?_) | (with_reducible refine Ext.drewN ?_ _) | (with_reducible refine Ext.alloc ?_ _) | (refine Ext.trans ?_ (by assumption)))) ?_; clear hK K
   have kc := fun c => to_str_of (c := c) (heap_alloc_new w4 (.cells (bcells (List.replicate n0 0)) 5)) (by simp : (List.replicate n0 (0 : UInt8)).length = n0)
   refine Loud.wf_l 8 rfl (by kernel_rfl) rfl rfl (fun K hK => ?_); go_simp; refine hK _ _ (by show Ext _ _; repeat (first | exact Ext.refl _ | assumption | (with_reducible refine Ext.drew ?_) | (with_reducible refine Ext.drewN ?_ _) | (with_reducible refine Ext.alloc ?_ _) | (refine Ext.trans ?_ (by assumption)))) ?_; clear hK K
   refine Loud.wf_q 9 rfl (by kernel_rfl) rfl rfl ?_; apply Exists.intro; refine ⟨fun wq hq => ?_, Loud.wf_norm fun K hK => ?_⟩; (go_simp; try rfl); go_simp; refine hK _ ?_; clear hK K
   refine Loud.wf_q 16 rfl (by kernel_rfl) rfl rfl ?_; apply Exists.intro; refine ⟨fun wq hq => ?_, Loud.wf_norm fun K hK => ?_⟩; (go_simp; try rfl); go_simp; refine hK _ ?_; clear hK K
   refine Loud.wf_nil (by kernel_rfl) ?_
   simp only [List.drop_succ_cons, List.drop_zero]
   have xf : Ext w1 (w4.alloc (.cells (bcells (List.replicate n0 0)) 5)) := (by repeat (first | exact Ext.refl _ | assumption | (with_reducible refine Ext.drew ?_) | (with_reducible refine Ext.drewN ?_ _) | (with_reducible refine Ext.alloc ?_ _) | (refine Ext.trans ?_ (by assumption))))
   go_wp2_with (go_at_call 114; rewrite [← HPB.out, HPA.out]; refine (G5.out (w4.alloc (.cells (bcells (List.replicate n0 0)) 5)) (xf.keep HP0.out)).mono ?_; rintro e w8 ⟨rfl, hp8, hb8⟩; have HP8 := Lib.hid hp8; have HX8 : Ext w w8 := But.ext (hx0.trans xf) hb8 (by simp); clear hp8 hb8)
   go_meet
   case rel => exact ⟨rfl, HP8.out, HX8⟩
 case rest =>
  obtain ⟨rfl, hp, hxc⟩ := hcut
  have hsum : sumS s rest len = digest (soak s (rest ++ padS rest len)).1.list := rfl
  generalize (soak s (rest ++ padS rest len)).1 = st at hp hsum
  generalize (soak s (rest ++ padS rest len)).2 = rs at hp
  have HSUM := Lib.hid hsum
  have d0 : wc.cell? ⟨w.heap.size, 0, none⟩ = some (.int .u32 st.a.toNat) := cell_blk hp rfl
  have d1 : wc.cell? ⟨w.heap.size, 1, none⟩ = some (.int .u32 st.b.toNat) := cell_blk hp rfl
  have d2 : wc.cell? ⟨w.heap.size, 2, none⟩ = some (.int .u32 st.c.toNat) := cell_blk hp rfl
  have d3 : wc.cell? ⟨w.heap.size, 3, none⟩ = some (.int .u32 st.d.toNat) := cell_blk hp rfl
  have d4 : wc.cell? ⟨w.heap.size, 4, none⟩ = some (.int .u32 st.e.toNat) := cell_blk hp rfl
  have d5 : wc.cell? ⟨w.heap.size, 5, none⟩ = some (.int .u32 st.f.toNat) := cell_blk hp rfl
  have d6 : wc.cell? ⟨w.heap.size, 6, none⟩ = some (.int .u32 st.g.toNat) := cell_blk hp rfl
  have d7 : wc.cell? ⟨w.heap.size, 7, none⟩ = some (.int .u32 st.h.toNat) := cell_blk hp rfl
  clear hp hsum c0 c1 c2 c3 c4 c5 c6 c7 c8 c9 c10 s5 s6 s7 q8 q9 h128 hshl hrem hmk
  go_wp2
  go_loopw [2, 38] (fun o i wr => ∃ k : Nat, k ≤ 8 ∧ i = .int .i64 k ∧ o = .string (bs (digest (st.list.take k))) ∧ Ext wc wr) (fun _ i _ => 8 - (intOf i).toNat)
  case atStart => exact ⟨0, by omega, rfl, rfl, Ext.refl _⟩
  case round =>
   obtain ⟨k, hk, rfl, rfl, hx⟩ := hrel
   have hdl : (digest (st.list.take k)).length ≤ 32 := by rw [digest_length, List.length_take]; have : st.list.length = 8 := rfl; omega
   have hpl : ∀ n, (putB 4 n).length = 4 := fun n => putB_length 4 n
   rcases (by omega : k = 0 ∨ k = 1 ∨ k = 2 ∨ k = 3 ∨ k = 4 ∨ k = 5 ∨ k = 6 ∨ k = 7 ∨ k = 8) with rfl | rfl | rfl | rfl | rfl | rfl | rfl | rfl | rfl
   ·have HST := Lib.hid (digest_take st.list 0 st.a rfl)
    go_wp2
    refine k_put (v' := .int .u32 st.a.toNat) (by kernel_rfl) ?_
    go_wp2_with (go_at_call 67; refine (G4.out st.a _).mono ?_; rintro e w5 ⟨rfl, hx5⟩)
    go_roundw
    case measure => simp [intOf]
    case rel => exact ⟨1, by omega, rfl, by first | (rw [HST.out]; done) | (rw [HST.out]; rfl), hx.trans hx5⟩
   ·have HST := Lib.hid (digest_take st.list 1 st.b rfl)
    go_wp2
    refine k_put (v' := .int .u32 st.b.toNat) (by kernel_rfl) ?_
    go_wp2_with (go_at_call 67; refine (G4.out st.b _).mono ?_; rintro e w5 ⟨rfl, hx5⟩)
    go_roundw
    case measure => simp [intOf]
    case rel => exact ⟨2, by omega, rfl, by first | (rw [HST.out]; done) | (rw [HST.out]; rfl), hx.trans hx5⟩
   ·have HST := Lib.hid (digest_take st.list 2 st.c rfl)
    go_wp2
    refine k_put (v' := .int .u32 st.c.toNat) (by kernel_rfl) ?_
    go_wp2_with (go_at_call 67; refine (G4.out st.c _).mono ?_; rintro e w5 ⟨rfl, hx5⟩)
    go_roundw
    case measure => simp [intOf]
    case rel => exact ⟨3, by omega, rfl, by first | (rw [HST.out]; done) | (rw [HST.out]; rfl), hx.trans hx5⟩
   ·have HST := Lib.hid (digest_take st.list 3 st.d rfl)
    go_wp2
    refine k_put (v' := .int .u32 st.d.toNat) (by kernel_rfl) ?_
    go_wp2_with (go_at_call 67; refine (G4.out st.d _).mono ?_; rintro e w5 ⟨rfl, hx5⟩)
    go_roundw
    case measure => simp [intOf]
    case rel => exact ⟨4, by omega, rfl, by first | (rw [HST.out]; done) | (rw [HST.out]; rfl), hx.trans hx5⟩
   ·have HST := Lib.hid (digest_take st.list 4 st.e rfl)
    go_wp2
    refine k_put (v' := .int .u32 st.e.toNat) (by kernel_rfl) ?_
    go_wp2_with (go_at_call 67; refine (G4.out st.e _).mono ?_; rintro e w5 ⟨rfl, hx5⟩)
    go_roundw
    case measure => simp [intOf]
    case rel => exact ⟨5, by omega, rfl, by first | (rw [HST.out]; done) | (rw [HST.out]; rfl), hx.trans hx5⟩
   ·have HST := Lib.hid (digest_take st.list 5 st.f rfl)
    go_wp2
    refine k_put (v' := .int .u32 st.f.toNat) (by kernel_rfl) ?_
    go_wp2_with (go_at_call 67; refine (G4.out st.f _).mono ?_; rintro e w5 ⟨rfl, hx5⟩)
    go_roundw
    case measure => simp [intOf]
    case rel => exact ⟨6, by omega, rfl, by first | (rw [HST.out]; done) | (rw [HST.out]; rfl), hx.trans hx5⟩
   ·have HST := Lib.hid (digest_take st.list 6 st.g rfl)
    go_wp2
    refine k_put (v' := .int .u32 st.g.toNat) (by kernel_rfl) ?_
    go_wp2_with (go_at_call 67; refine (G4.out st.g _).mono ?_; rintro e w5 ⟨rfl, hx5⟩)
    go_roundw
    case measure => simp [intOf]
    case rel => exact ⟨7, by omega, rfl, by first | (rw [HST.out]; done) | (rw [HST.out]; rfl), hx.trans hx5⟩
   ·have HST := Lib.hid (digest_take st.list 7 st.h rfl)
    go_wp2
    refine k_put (v' := .int .u32 st.h.toNat) (by kernel_rfl) ?_
    go_wp2_with (go_at_call 67; refine (G4.out st.h _).mono ?_; rintro e w5 ⟨rfl, hx5⟩)
    go_roundw
    case measure => simp [intOf]
    case rel => exact ⟨8, by omega, rfl, by first | (rw [HST.out]; done) | (rw [HST.out]; rfl), hx.trans hx5⟩
   ·go_wp2
    go_returns
    exact ⟨by rw [HSUM.out]; rfl, hxc.trans hx⟩
end Go.Proofs.YtclekllaikcglaaGreat

/- Contracts: layer 2, the program's sum of texts. -/
namespace Go.Proofs.YtclekllaikcglaaGreat
open Go Go.RowKit
def shaS (t : List UInt8) : List UInt8 := sumS (soak iv t).1 (soak iv t).2 t.length
theorem soak_step (t x : List UInt8) : soak (soak iv t).1 ((soak iv t).2 ++ x) = soak iv (t ++ x) := (soak_append t.length iv t x (Nat.le_refl _)).symm
def HT (w : World) (bh : Nat) (t : List UInt8) : Prop := PH w bh (soak iv t).1 (soak iv t).2 t.length
theorem HT_add (w : World) (bh : Nat) (t x : List UInt8) (hx : t.length + x.length ≤ 1099511627776) (h : HT w bh t) :
  Calls Tryz.prog 114 #[.pointer (some ⟨bh, 0, none⟩), .string (bs x)] w fun e w' => e = .returned (.tuple #[]) ∧ HT w' bh (t ++ x) ∧ But [bh] w w' := by
 have := HAdd_any w bh _ _ t.length x (by omega) (soak_rest t.length iv t (Nat.le_refl _)) (by omega) h
 rw [soak_step] at this
 unfold HT
 rw [List.length_append]
 exact this
theorem HT_sum (w : World) (bh : Nat) (t : List UInt8) (hx : t.length ≤ 1099511627776) (h : HT w bh t) :
  Calls Tryz.prog 115 #[.pointer (some ⟨bh, 0, none⟩)] w fun e w' => e = .returned (.string (bs (shaS t))) ∧ Ext w w' :=
 HSum_any w bh _ _ t.length (soak_rest t.length iv t (Nat.le_refl _)) (by omega) h
theorem HT_new (w : World) :
  Calls Tryz.prog 113 #[] w fun e w' => ∃ bh, e = .returned (.pointer (some ⟨bh, 0, none⟩)) ∧ w.heap.size ≤ bh ∧ HT w' bh [] ∧ Ext w w' := by
 refine (HNew_any w).mono ?_
 rintro e w' ⟨bh, rfl, h1, h2, h3⟩
 exact ⟨bh, rfl, h1, by unfold HT; rw [soak_less iv [] (by simp)]; exact h2, h3⟩
theorem flat_take (l : List (List UInt8)) (k : Nat) (h : k < l.length) : (l.take (k + 1)).flatten = (l.take k).flatten ++ l[k] := by
 rw [List.take_succ_eq_append_getElem h, List.flatten_append, List.flatten_cons, List.flatten_nil, List.append_nil]
theorem flat_le (l : List (List UInt8)) (k : Nat) : (l.take k).flatten.length ≤ l.flatten.length := by
 have : l.flatten = (l.take k).flatten ++ (l.drop k).flatten := by rw [← List.flatten_append, List.take_append_drop]
 rw [this, List.length_append]; omega
set_option maxRecDepth 100000 in
set_option maxHeartbeats 1000000 in
theorem Of_any (w : World) (l : List (List UInt8)) (ad : Option Addr) (cap : Nat) (hl : l.length ≤ 1048576) (hs : l.flatten.length ≤ 1099511627776) (hv : Sl w (.slice ad l.length cap) (l.map strV)) :
  Calls Tryz.prog 92 #[.slice ad l.length cap] w fun e w' => e = .returned (.string (bs (shaS l.flatten))) ∧ Ext w w' := by
 have GN := Lib.hid HT_new
 have V := Lib.hid hv
 have HS := Lib.hid hs
 clear hv hs
 go_enter Tryz.func92, Tryz.ntmps92
 go_wp2_with (go_at_call 113; with_reducible refine (GN.out _).mono ?_; rintro e w2 ⟨bh, rfl, hb1, ht2, hx2⟩; have H2 := Lib.hid ht2; clear ht2)
 go_loopw [9] (fun i wr => ∃ k : Nat, k ≤ l.length ∧ i = .int .i64 k ∧ HT wr bh (l.take k).flatten ∧ Ext w wr) (fun i _ => l.length - (intOf i).toNat)
 case atStart => exact ⟨0, by omega, rfl, H2.out, hx2⟩
 case round =>
  obtain ⟨k, hk, rfl, ht, hx⟩ := hrel
  have HTT := Lib.hid ht
  clear ht
  by_cases hlt : k < l.length
  ·obtain ⟨b, off, ha, hbl, hcell⟩ := (V.out.ext hx).str k hlt
   subst ha
   have hst := flat_take l k hlt
   have hle : (l.take k).flatten.length + l[k].length ≤ 1099511627776 := by
    have h1 := flat_le l (k + 1); rw [hst, List.length_append] at h1
    have := HS.out; omega
   have HST := Lib.hid hst
   have GA := Lib.hid (fun w h => HT_add w bh (l.take k).flatten l[k] hle h)
   clear hst hle
   go_wp2_with (go_at_call 114; with_reducible refine (GA.out wr HTT.out).mono ?_; rintro e w3 ⟨rfl, ht3, hb3⟩; have H3 := Lib.hid ht3; have hx3 : Ext w w3 := But.ext hx hb3 (by simp; omega); clear ht3 hb3)
   go_roundw
   case measure => simp [intOf]; omega
   case rel => exact ⟨k + 1, by omega, by go_num, by rw [HST.out]; exact H3.out, hx3⟩
  ·obtain rfl : k = l.length := by omega
   rw [List.take_length] at HTT
   have GS := Lib.hid (fun w h => HT_sum w bh l.flatten HS.out h)
   go_wp2_with (go_at_call 115; with_reducible refine (GS.out wr HTT.out).mono ?_; rintro e w3 ⟨rfl, hx3⟩)
   go_returns
   exact ⟨rfl, hx.trans hx3⟩
end Go.Proofs.YtclekllaikcglaaGreat
