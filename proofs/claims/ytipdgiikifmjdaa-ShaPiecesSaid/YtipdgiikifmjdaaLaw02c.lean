/- The statements of layer 2: the walk of ShaNear. -/
import Derived.Test.YtipdgiikifmjdaaLaw02
import Derived.Test.YtipdgiikifmjdaaFork2
namespace Go.Proofs.Ytipdgiikifmjdaa
open Go Go.RowKit

theorem Of_one (q : List UInt8) (b : Nat) (w : World) (hq : q.length ≤ 1099511627776) {T : TypeId} (h : w.heap[b]? = some (.cells #[.string (bs q)] T)) :
    Calls Try.prog 12 #[.slice (some ⟨b, 0, none⟩) 1 1] w fun e w' => e = .returned (.string (bs (shaS q))) ∧ Ext w w' := by
  have hsl : Sl w (.slice (some ⟨b, 0, none⟩) [q].length 1) ([q].map strV) :=
    ⟨_, _, rfl, fun i hi => ⟨b, 0, rfl, blk_lt h, by obtain rfl : i = 0 := by simpa using hi
                                                     exact cell_blk h rfl⟩⟩
  have h := Of_any w [q] _ _ (by simp) (by simpa using hq) hsl
  rw [show [q].flatten = q by simp] at h
  exact h
theorem byte_ex (z : Int) : ∃ x : UInt8, z % 256 = (x.toNat : Int) := by
  refine ⟨UInt8.ofNat (z % 256).toNat, ?_⟩
  rw [UInt8.toNat_ofNat_of_lt' (by show _ < 256; omega)]; omega
set_option maxRecDepth 100000 in
set_option maxHeartbeats 1000000 in
theorem near_neg (w : World) (b many : UInt8) (more : Int) (hm : -128 ≤ more ∧ more ≤ 127) (h : 64 * ((many.toNat : Int) % 5) + more < 0) :
    Calls Try.prog 6 #[.int .u8 b.toNat, .int .u8 many.toNat, .int .i8 more] w fun e w' => e = .returned (.bool true) ∧ Ext w w' := by
  have G0 := Lib.hid works02
  have hm1 := hm.1; have hm2 := hm.2
  have hl := many.toNat_lt
  go_enter Try.func6, Try.ntmps6
  go_wp2_with (first
    | (go_at_call 11; with_reducible refine (G0.out _).mono ?_; rintro e w9 ⟨rfl, hw9⟩))
  go_returns
  exact ⟨rfl, hw9⟩
set_option maxRecDepth 100000 in
set_option maxHeartbeats 2000000 in
theorem near_main (w : World) (b many : UInt8) (more : Int) (hm : -128 ≤ more ∧ more ≤ 127) (N : Nat) (hN : (N : Int) = 64 * ((many.toNat : Int) % 5) + more) (hN4 : N ≤ 1000) :
    Calls Try.prog 6 #[.int .u8 b.toNat, .int .u8 many.toNat, .int .i8 more] w fun e w' => e = .returned (.bool true) ∧ Ext w w' := by
  have G0 := Lib.hid works02
  have GN := Lib.hid HT_new
  have hm1 := hm.1; have hm2 := hm.2
  have hl := many.toNat_lt
  have hmk := mk_bytes N (by omega)
  have hNN : 64 * ((many.toNat : Int) % 5) + more = (N : Int) := hN.symm
  have hN0 : (0 : Int) ≤ (N : Int) := by omega
  clear hN hm
  go_enter Try.func6, Try.ntmps6
  go_wp2
  obtain ⟨g, hg⟩ : ∃ g, g = w.heap.size := ⟨_, rfl⟩
  rw [← hg]
  have hgw : w.heap.size ≤ g := by omega
  have hst0 : (w.alloc (.cells (bcells (List.replicate N 0)) 5)).heap[g]? = some (.cells (bcells (List.replicate N 0)) 5) := by rw [hg]; exact heap_alloc_new _ _
  have HS0 := Lib.hid hst0
  clear hg hst0
  go_loopw [9] (fun i wr => ∃ (k : Nat) (q : List UInt8), k ≤ N ∧ i = .int .i64 k ∧ q.length = N ∧ wr.heap[g]? = some (.cells (bcells q) 5) ∧ Ext w wr) (fun i _ => N - (intOf i).toNat)
  case atStart => exact ⟨0, _, by omega, rfl, by simp, HS0.out, (Ext.refl w).alloc _⟩
  case round =>
    obtain ⟨k, q, hk, rfl, hql, hh, hx⟩ := hrel
    have HH := Lib.hid hh
    have HQ := Lib.hid hql
    have hgl := blk_lt hh
    have hfz : wr.frozen? ⟨g, k, none⟩ = false := frozen_blk hh
    by_cases hlt : k < N
    · obtain ⟨c, hcell⟩ : ∃ c : Int, wr.cell? ⟨g, k, none⟩ = some (.int .u8 c) := ⟨_, cell_blk hh (bcells_at q k (by omega))⟩
      clear hh hql
      go_wp2
      go_roundw
      case measure => simp [intOf]; omega
      case rel =>
        obtain ⟨x, hxv⟩ := byte_ex ((b.toNat : Int) + (k : Int) % 7)
        refine ⟨k + 1, q.set k x, by omega, by go_num, by rw [List.length_set]; exact HQ.out, ?_, hx.setCell hgw _⟩
        rw [heap_setCell_same _ HH.out, hxv, bcells_set]
    · obtain rfl : k = N := by omega
      have kc : ∀ wq, Ext wr wq → ∀ c, (convert 31 9 (.slice (some ⟨g, 0, none⟩) k c)).run Try.prog wq = .ok (.string (bs q)) wq := fun wq hq c => to_str_of (c := c) (hq.keep HH.out) HQ.out
      have KC := Lib.hid kc
      have hql2 : q.length = k := HQ.out
      have GA := Lib.hid (fun W bh (h : HT W bh []) => HT_add W bh [] q (by simp; omega) h)
      have GS := Lib.hid (fun W bh (h : HT W bh q) => HT_sum W bh q (by omega) h)
      have GL : Hid (∀ W bh, HT W bh q → Calls Try.prog 18 #[.pointer (some ⟨bh, 0, none⟩)] W fun e w' => e = .returned (.int .u64 k) ∧ Ext W w') := Lib.hid (fun W bh h => by
        have h := HLen_any W bh _ _ _ h
        rw [hql2] at h
        exact h.mono (fun _ _ h => ⟨h.1, Ext.of_eq h.2⟩))
      have GO := Lib.hid (fun (b : Nat) (W : World) (h : W.heap[b]? = some (.cells #[.string (bs q)] 9)) => Of_one q b W (by omega) h)
      have GR := Lib.hid (fun W => RefOf_any q W (by omega))
      generalize hz : shaS q = z at GS GO GR
      have w64 : IntKind.u64.wrap (k : Int) = (k : Int) := by rw [IntKind.wrap_u64]; omega
      clear hz hh hql hql2 kc
      go_wp2_with (go_at_call 16; with_reducible refine (GN.out _).mono ?_; rintro e w2 ⟨bh, rfl, hb1, ht2, hx2⟩; have H2 := Lib.hid ht2; have kc2 := KC.out w2 hx2; clear ht2)
      go_wp2_with (go_at_call 17; refine (GA.out w2 bh H2.out).mono ?_; rintro e w3 ⟨rfl, ht3, hb3⟩)
      have H3 := Lib.hid (show HT w3 bh q from ht3)
      have hx3 : Ext wr w3 := But.ext hx2 hb3 (by simp; omega)
      clear ht3 hb3 kc2
      have kq : ∀ wq, Ext w3 wq → ∀ c, (convert 31 9 (.slice (some ⟨g, 0, none⟩) k c)).run Try.prog wq = .ok (.string (bs q)) wq := fun wq hq c => KC.out wq (hx3.trans hq) c
      refine Loud.wp_region_fork (fun i => decide (i=2∨i=3∨i=6∨i=10∨i=13∨i=18∨i=24)) 27 (fun w' => Ext w3 w') (by kernel_rfl) (by decide) (by show Ext _ _; repeat (first | exact Ext.refl _ | assumption | (with_reducible refine Ext.drew ?_) | (with_reducible refine Ext.drewN ?_ _) | (with_reducible refine Ext.alloc ?_ _) | (refine Ext.trans ?_ (by assumption)))) ?_
      refine Loud.wf_q 0 rfl (by kernel_rfl) rfl rfl ?_; apply Exists.intro; refine ⟨fun wq hq => ?_, Loud.wf_norm fun K hK => ?_⟩; (go_simp; try rfl); go_simp; refine hK _ ?_; clear hK K
      refine Loud.wf_q 1 rfl (by kernel_rfl) rfl rfl ?_; apply Exists.intro; refine ⟨fun wq hq => ?_, Loud.wf_norm fun K hK => ?_⟩; (go_simp; try rfl); go_simp; refine hK _ ?_; clear hK K
      refine Loud.wf_l 2 rfl (by kernel_rfl) rfl rfl (fun K hK => ?_); go_simp; refine hK _ _ (by show Ext _ _; repeat (first | exact Ext.refl _ | assumption | (with_reducible refine Ext.drew ?_) | (with_reducible refine Ext.drewN ?_ _) | (with_reducible refine Ext.alloc ?_ _) | (refine Ext.trans ?_ (by assumption)))) ?_; clear hK K
      refine Loud.wf_l 3 rfl (by kernel_rfl) rfl rfl (fun K hK => ?_); go_simp; refine (GO.out w3.heap.size ((w3.alloc (.cells #[.string (bs q)] 9)).drew) (heap_alloc_new w3 _)).mono ?_; rintro e w4 ⟨rfl, hw4⟩; refine ⟨_, rfl, ?_⟩; go_simp; refine hK _ _ (by show Ext _ _; repeat (first | exact Ext.refl _ | assumption | (with_reducible refine Ext.drew ?_) | (with_reducible refine Ext.drewN ?_ _) | (with_reducible refine Ext.alloc ?_ _) | (refine Ext.trans ?_ (by assumption)))) ?_; clear hK K
      refine Loud.wf_q 4 rfl (by kernel_rfl) rfl rfl ?_; apply Exists.intro; refine ⟨fun wq hq => ?_, Loud.wf_norm fun K hK => ?_⟩; (go_simp; try rfl); go_simp; refine hK _ ?_; clear hK K
      refine Loud.wf_q 5 rfl (by kernel_rfl) rfl rfl ?_; apply Exists.intro; refine ⟨fun wq hq => ?_, Loud.wf_norm fun K hK => ?_⟩; (go_simp; try rfl); go_simp; refine hK _ ?_; clear hK K
      refine Loud.wf_l 6 rfl (by kernel_rfl) rfl rfl (fun K hK => ?_); go_simp; refine (GR.out _).mono ?_; rintro e w5 ⟨rfl, hw5⟩; refine ⟨_, rfl, ?_⟩; go_simp; refine hK _ _ (by show Ext _ _; repeat (first | exact Ext.refl _ | assumption | (with_reducible refine Ext.drew ?_) | (with_reducible refine Ext.drewN ?_ _) | (with_reducible refine Ext.alloc ?_ _) | (refine Ext.trans ?_ (by assumption)))) ?_; clear hK K
      refine Loud.wf_q 7 rfl (by kernel_rfl) rfl rfl ?_; apply Exists.intro; refine ⟨fun wq hq => ?_, Loud.wf_norm fun K hK => ?_⟩; (go_simp; try rfl); go_simp; refine hK _ ?_; clear hK K
      refine Loud.wf_q 8 rfl (by kernel_rfl) rfl rfl ?_; apply Exists.intro; refine ⟨fun wq hq => ?_, Loud.wf_norm fun K hK => ?_⟩; (go_simp; try rfl); go_simp; refine hK _ ?_; clear hK K
      refine Loud.wf_gq 9 rfl (by kernel_rfl) rfl rfl ?_; apply Exists.intro; refine ⟨fun wq hq => ?_, Loud.wf_norm fun K hK => ?_⟩; (go_simp; try rfl); go_simp; refine hK _ ?_; clear hK K
      refine Loud.wf_l 10 rfl (by kernel_rfl) rfl rfl (fun K hK => ?_); go_simp; refine (GS.out _ bh (H3.out.ext (by repeat (first | exact Ext.refl _ | assumption | (with_reducible refine Ext.drew ?_) | (with_reducible refine Ext.drewN ?_ _) | (with_reducible refine Ext.alloc ?_ _) | (refine Ext.trans ?_ (by assumption)))))).mono ?_; rintro e w6 ⟨rfl, hw6⟩; refine ⟨_, rfl, ?_⟩; go_simp; refine hK _ _ (by show Ext _ _; repeat (first | exact Ext.refl _ | assumption | (with_reducible refine Ext.drew ?_) | (with_reducible refine Ext.drewN ?_ _) | (with_reducible refine Ext.alloc ?_ _) | (refine Ext.trans ?_ (by assumption)))) ?_; clear hK K
      refine Loud.wf_gq 11 rfl (by kernel_rfl) rfl rfl ?_; apply Exists.intro; refine ⟨fun wq hq => ?_, Loud.wf_norm fun K hK => ?_⟩; (go_simp; try rfl); go_simp; refine hK _ ?_; clear hK K
      refine Loud.wf_gq 12 rfl (by kernel_rfl) rfl rfl ?_; apply Exists.intro; refine ⟨fun wq hq => ?_, Loud.wf_norm fun K hK => ?_⟩; (go_simp; try rfl); go_simp; refine hK _ ?_; clear hK K
      refine Loud.wf_l 13 rfl (by kernel_rfl) rfl rfl (fun K hK => ?_); go_simp; refine (GR.out _).mono ?_; rintro e w7 ⟨rfl, hw7⟩; refine ⟨_, rfl, ?_⟩; go_simp; refine hK _ _ (by show Ext _ _; repeat (first | exact Ext.refl _ | assumption | (with_reducible refine Ext.drew ?_) | (with_reducible refine Ext.drewN ?_ _) | (with_reducible refine Ext.alloc ?_ _) | (refine Ext.trans ?_ (by assumption)))) ?_; clear hK K
      refine Loud.wf_gq 14 rfl (by kernel_rfl) rfl rfl ?_; apply Exists.intro; refine ⟨fun wq hq => ?_, Loud.wf_norm fun K hK => ?_⟩; (go_simp; try rfl); go_simp; refine hK _ ?_; clear hK K
      refine Loud.wf_q 15 rfl (by kernel_rfl) rfl rfl ?_; apply Exists.intro; refine ⟨fun wq hq => ?_, Loud.wf_norm fun K hK => ?_⟩; (go_simp; try rfl); go_simp; refine hK _ ?_; clear hK K
      refine Loud.wf_q 16 rfl (by kernel_rfl) rfl rfl ?_; apply Exists.intro; refine ⟨fun wq hq => ?_, Loud.wf_norm fun K hK => ?_⟩; (go_simp; try rfl); go_simp; refine hK _ ?_; clear hK K
      refine Loud.wf_gq 17 rfl (by kernel_rfl) rfl rfl ?_; apply Exists.intro; refine ⟨fun wq hq => ?_, Loud.wf_norm fun K hK => ?_⟩; (go_simp; try rfl); go_simp; refine hK _ ?_; clear hK K
      refine Loud.wf_l 18 rfl (by kernel_rfl) rfl rfl (fun K hK => ?_); go_simp; refine (GL.out _ bh (H3.out.ext (by repeat (first | exact Ext.refl _ | assumption | (with_reducible refine Ext.drew ?_) | (with_reducible refine Ext.drewN ?_ _) | (with_reducible refine Ext.alloc ?_ _) | (refine Ext.trans ?_ (by assumption)))))).mono ?_; rintro e w8 ⟨rfl, hw8⟩; refine ⟨_, rfl, ?_⟩; go_simp; refine hK _ _ (by show Ext _ _; repeat (first | exact Ext.refl _ | assumption | (with_reducible refine Ext.drew ?_) | (with_reducible refine Ext.drewN ?_ _) | (with_reducible refine Ext.alloc ?_ _) | (refine Ext.trans ?_ (by assumption)))) ?_; clear hK K
      refine Loud.wf_gq 19 rfl (by kernel_rfl) rfl rfl ?_; apply Exists.intro; refine ⟨fun wq hq => ?_, Loud.wf_norm fun K hK => ?_⟩; (go_simp; try rfl); go_simp; refine hK _ ?_; clear hK K
      refine Loud.wf_gq 20 rfl (by kernel_rfl) rfl rfl ?_; apply Exists.intro; refine ⟨fun wq hq => ?_, Loud.wf_norm fun K hK => ?_⟩; (go_simp; try rfl); go_simp; refine hK _ ?_; clear hK K
      refine Loud.wf_gq 21 rfl (by kernel_rfl) rfl rfl ?_; apply Exists.intro; refine ⟨fun wq hq => ?_, Loud.wf_norm fun K hK => ?_⟩; (go_simp; try rfl); go_simp; refine hK _ ?_; clear hK K
      refine Loud.wf_q 22 rfl (by kernel_rfl) rfl rfl ?_; apply Exists.intro; refine ⟨fun wq hq => ?_, Loud.wf_norm fun K hK => ?_⟩; (go_simp; try rfl); go_simp; refine hK _ ?_; clear hK K
      refine Loud.wf_q 23 rfl (by kernel_rfl) rfl rfl ?_; apply Exists.intro; refine ⟨fun wq hq => ?_, Loud.wf_norm fun K hK => ?_⟩; (go_simp; try rfl); go_simp; refine hK _ ?_; clear hK K
      refine Loud.wf_l 24 rfl (by kernel_rfl) rfl rfl (fun K hK => ?_); go_simp; refine (G0.out _).mono ?_; rintro e w9 ⟨rfl, hw9⟩; refine ⟨_, rfl, ?_⟩; go_simp; refine hK _ _ (by show Ext _ _; repeat (first | exact Ext.refl _ | assumption | (with_reducible refine Ext.drew ?_) | (with_reducible refine Ext.drewN ?_ _) | (with_reducible refine Ext.alloc ?_ _) | (refine Ext.trans ?_ (by assumption)))) ?_; clear hK K
      refine Loud.wf_q 25 rfl (by kernel_rfl) rfl rfl ?_; apply Exists.intro; refine ⟨fun wq hq => ?_, Loud.wf_norm fun K hK => ?_⟩; (go_simp; try rfl); go_simp; refine hK _ ?_; clear hK K
      refine Loud.wf_q 26 rfl (by kernel_rfl) rfl rfl ?_; apply Exists.intro; refine ⟨fun wq hq => ?_, Loud.wf_norm fun K hK => ?_⟩; (go_simp; try rfl); go_simp; refine hK _ ?_; clear hK K
      refine Loud.wf_nil (by kernel_rfl) ?_
      simp only [List.drop_succ_cons, List.drop_zero]
      have x9 : Ext w3 w9 := (by repeat (first | exact Ext.refl _ | assumption | (with_reducible refine Ext.drew ?_) | (with_reducible refine Ext.drewN ?_ _) | (with_reducible refine Ext.alloc ?_ _) | (refine Ext.trans ?_ (by assumption))))
      go_wp2
      go_returns
      exact ⟨rfl, hx.trans (hx3.trans x9)⟩
theorem law_ShaNear (w : World) (b many : UInt8) (more : Int) (hm : -128 ≤ more ∧ more ≤ 127) :
    Calls Try.prog 6 #[.int .u8 b.toNat, .int .u8 many.toNat, .int .i8 more] w fun e w' => e = .returned (.bool true) ∧ Ext w w' := by
  by_cases h : 64 * ((many.toNat : Int) % 5) + more < 0
  · exact near_neg w b many more hm h
  · exact near_main w b many more hm (64 * ((many.toNat : Int) % 5) + more).toNat (by omega) (by omega)
end Go.Proofs.Ytipdgiikifmjdaa
