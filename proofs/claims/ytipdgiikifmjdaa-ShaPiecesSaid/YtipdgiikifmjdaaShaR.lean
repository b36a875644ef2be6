/- Contracts: layer 2, the document's sum. -/
import Derived.Test.YtipdgiikifmjdaaShaB
namespace Go.Proofs.Ytipdgiikifmjdaa
open Go Go.RowKit

def nextR (w : List UInt32) : UInt32 :=
  let t := w.length
  p32 (p32 (p32 (x32 (x32 (rotr (w.getD (t - 2) 0) 17) (rotr (w.getD (t - 2) 0) 19)) (shr32 (w.getD (t - 2) 0) 10)) (w.getD (t - 7) 0)) (x32 (x32 (rotr (w.getD (t - 15) 0) 7) (rotr (w.getD (t - 15) 0) 18)) (shr32 (w.getD (t - 15) 0) 3))) (w.getD (t - 16) 0)
theorem x32_zero (x : UInt32) : x32 0 x = x := by simp [x32]
theorem turnedS2 (x : UInt32) (a b : Int) : turnedS x [a, b] = x32 (rotr x a) (rotr x b) := by simp [turnedS, x32_zero]
theorem turnedS3 (x : UInt32) (a b c : Int) : turnedS x [a, b, c] = x32 (x32 (rotr x a) (rotr x b)) (rotr x c) := by simp [turnedS, x32_zero]
theorem nextR_eq (w : List UInt32) : nextR w = nextW w := by
  simp only [nextR, nextW, turnedS2, p32]
  generalize x32 (x32 (rotr (w.getD (w.length - 2) 0) 17) (rotr (w.getD (w.length - 2) 0) 19)) (shr32 (w.getD (w.length - 2) 0) 10) = a
  generalize x32 (x32 (rotr (w.getD (w.length - 15) 0) 7) (rotr (w.getD (w.length - 15) 0) 18)) (shr32 (w.getD (w.length - 15) 0) 3) = b
  generalize w.getD (w.length - 7) 0 = c
  generalize w.getD (w.length - 16) 0 = d
  rw [UInt32.add_comm (a + c + b) d, UInt32.add_comm (a + c) b, ← UInt32.add_assoc, UInt32.add_comm a c, ← UInt32.add_assoc]
theorem row_some {w : World} {B : Nat} {e : TypeId} {v : Value} {xs : List Value} (h : Row w B e v xs) (hn : 0 < xs.length) : ∃ g cap, v = .slice (some ⟨g, 0, none⟩) xs.length cap := by
  rcases h.look with ⟨_, h0⟩ | ⟨g, cap, cur, hv, _⟩
  · rw [h0] at hn; simp at hn
  · exact ⟨g, cap, hv⟩
set_option maxRecDepth 100000 in
set_option maxHeartbeats 2000000 in
theorem RefWords_any (b : List UInt8) (w : World) (h : b.length = 64) :
    Calls Try.prog 15 #[.string (bs b)] w fun e w' => ∃ v, e = .returned v ∧ Row w' w.heap.size 29 v ((wordsN b 64).map u32V) ∧ Ext w w' := by
  have hl : b.length ≤ 1099511627776 := by omega
  have G1 := Lib.hid (fun p w => RefGet4_any b p w hl)
  have T17 := Lib.hid (fun (x : UInt32) w => RefTurn_any x 17 w (by omega) (by omega))
  have T19 := Lib.hid (fun (x : UInt32) w => RefTurn_any x 19 w (by omega) (by omega))
  have T7 := Lib.hid (fun (x : UInt32) w => RefTurn_any x 7 w (by omega) (by omega))
  have T18 := Lib.hid (fun (x : UInt32) w => RefTurn_any x 18 w (by omega) (by omega))
  clear h
  go_enter Try.func15, Try.ntmps15
  go_wp2
  go_loopw [3, 4] (fun o i wr => ∃ k : Nat, k ≤ 16 ∧ i = .int .i64 k ∧ Row wr w.heap.size 29 o ((wordsN b k).map u32V) ∧ Ext w wr) (fun _ i _ => 16 - (intOf i).toNat)
  case atStart => exact ⟨0, by omega, rfl, Row.nil _ _ _, Ext.refl _⟩
  case round =>
    obtain ⟨k, hk, rfl, hrow, hx⟩ := hrel
    by_cases hlt : k < 16
    · have hcv : ((Get32 b (4 * (k : Int))).1 : Int) % 4294967296 = ((UInt32.ofNat (Get32 b (4 * (k : Int))).1).toNat : Int) := by
        rw [← Get32_u32]; have := Get32_lt b (4 * (k : Int)); omega
      have hst : wordsN b (k + 1) = wordsN b k ++ [UInt32.ofNat (Get32 b (4 * (k : Int))).1] := by
        rw [wordsN, if_pos hlt]
      have hln : ((wordsN b k).map u32V).length = k := by rw [List.length_map, wordsN_length]
      have HST := Lib.hid hst; have HLN := Lib.hid hln
      have hsz := hx.size
      clear hst hln
      generalize UInt32.ofNat (Get32 b (4 * (k : Int))).1 = z at hcv HST
      go_wp2_with (first
        | (go_at_call 34; refine (G1.out _ _).mono ?_; rintro e w' ⟨rfl, rfl⟩)
        | (at_builtin; refine wpl_append rfl _ _ 27 rfl und_u32s info_u32 rfl (by omega) w.heap.size (by simp; omega) _ ((wordsN b k).map u32V) rfl (hrow.ext ((Ext.refl wr).alloc _)) ⟨wr.heap.size, 0, none⟩ 1 1 [u32V z] rfl rfl (cells_one_new _ _ _) (by simp [u32V, Value.oneCell']) (by rw [HLN.out]; omega) ?_; intro v' w3 hrow3 hb3 _))
      go_roundw
      case measure => simp [intOf]; omega
      case rel => exact ⟨k + 1, by omega, by go_num, by rw [HST.out, List.map_append]; exact hrow3, ((hx.alloc _)).trans_below hb3⟩
    · obtain rfl : k = 16 := by omega
      clear hlt hk
      go_wp2
      obtain ⟨wo, rfl⟩ : ∃ x, x = wr := ⟨_, rfl⟩
      go_loopw [3, 7] (fun o i wr => ∃ k g cp : Nat, 16 ≤ k ∧ k ≤ 64 ∧ i = .int .i64 k ∧ o = .slice (some ⟨g, 0, none⟩) k cp ∧ Row wr w.heap.size 29 (.slice (some ⟨g, 0, none⟩) k cp) ((wordsN b k).map u32V) ∧ Ext w wr) (fun _ i _ => 64 - (intOf i).toNat)
      case atStart =>
        obtain ⟨g, cp, hv⟩ := row_some hrow (by rw [List.length_map, wordsN_length]; omega)
        rw [List.length_map, wordsN_length] at hv
        subst hv
        exact ⟨16, g, cp, by omega, by omega, rfl, rfl, hrow, hx⟩
      case round =>
        obtain ⟨k, g, cp, hk16, hk, rfl, rfl, hrow, hx⟩ := hrel
        have hsz := hx.size
        have hgl := (hrow.lt g rfl).2
        have RW := Lib.hid hrow
        by_cases hlt : k < 64
        · have hln : ((wordsN b k).map u32V).length = k := by rw [List.length_map, wordsN_length]
          have hst : wordsN b (k + 1) = wordsN b k ++ [nextR (wordsN b k)] := by rw [wordsN, if_neg (by omega), nextR_eq]
          have HLN := Lib.hid hln; have HST := Lib.hid hst
          have rd : ∀ j (hj : j < k), ∀ wq, Ext wr wq → wq.cell? ⟨g, j, none⟩ = some (.int .u32 (((wordsN b k).getD j 0).toNat : Int)) := by
            intro j hj wq hq
            have := (RW.out.ext hq).cellAt j (by rw [HLN.out]; exact hj)
            rw [this, List.getElem_map, List.getD_eq_getElem?_getD, List.getElem?_eq_getElem (by rw [wordsN_length]; exact hj)]; rfl
          have w16 : IntKind.i64.wrap ((k : Int) - 16) = ((k - 16 : Nat) : Int) := by rw [IntKind.wrap_i64]; omega
          have w7 : IntKind.i64.wrap ((k : Int) - 7) = ((k - 7 : Nat) : Int) := by rw [IntKind.wrap_i64]; omega
          have l16 : ((k - 16 : Nat) : Int) < (k : Int) := by omega
          have l7 : ((k - 7 : Nat) : Int) < (k : Int) := by omega
          have r15 := rd (k - 15) (by omega); have r2 := rd (k - 2) (by omega); have r7 := rd (k - 7) (by omega); have r16 := rd (k - 16) (by omega)
          have q15 := r15 wr (Ext.refl _); have q2 := r2 wr (Ext.refl _)
          clear hln hst hrow
          go_wp2
          go_quiet (fail)
          go_wp2_with (first
            | (go_at_call 35; with_reducible refine (T17.out _ _).mono ?_; rintro e w' ⟨rfl, rfl⟩)
            | (go_at_call 35; with_reducible refine (T19.out _ _).mono ?_; rintro e w' ⟨rfl, rfl⟩)
            | (go_at_call 35; with_reducible refine (T7.out _ _).mono ?_; rintro e w' ⟨rfl, rfl⟩)
            | (go_at_call 35; with_reducible refine (T18.out _ _).mono ?_; rintro e w' ⟨rfl, rfl⟩))
          refine Loud.wp_region_fork (fun i => decide (i=16)) 17 (fun w' => Ext wr w') (by kernel_rfl) (by decide) (by show Ext _ _; repeat (first | exact Ext.refl _ | assumption | (with_reducible refine Ext.drew ?_) | (with_reducible refine Ext.drewN ?_ _) | (with_reducible refine Ext.alloc ?_ _) | (refine Ext.trans ?_ (by assumption)))) ?_
          refine Loud.wf_q 0 rfl (by kernel_rfl) rfl rfl ?_; apply Exists.intro; refine ⟨fun wq hq => ?_, Loud.wf_norm fun K hK => ?_⟩; (go_simp; try rfl); go_simp; refine hK _ ?_; clear hK K
          refine Loud.wf_q 1 rfl (by kernel_rfl) rfl rfl ?_; apply Exists.intro; refine ⟨fun wq hq => ?_, Loud.wf_norm fun K hK => ?_⟩; (go_simp; try rfl); go_simp; refine hK _ ?_; clear hK K
          refine Loud.wf_q 2 rfl (by kernel_rfl) rfl rfl ?_; apply Exists.intro; refine ⟨fun wq hq => ?_, Loud.wf_norm fun K hK => ?_⟩; (go_simp; try rfl); go_simp; refine hK _ ?_; clear hK K
          refine Loud.wf_q 3 rfl (by kernel_rfl) rfl rfl ?_; apply Exists.intro; refine ⟨fun wq hq => ?_, Loud.wf_norm fun K hK => ?_⟩; (go_simp; try rfl); go_simp; refine hK _ ?_; clear hK K
          refine Loud.wf_q 4 rfl (by kernel_rfl) rfl rfl ?_; apply Exists.intro; refine ⟨fun wq hq => ?_, Loud.wf_norm fun K hK => ?_⟩; (go_simp; try rfl); go_simp; refine hK _ ?_; clear hK K
          refine Loud.wf_q 5 rfl (by kernel_rfl) rfl rfl ?_; apply Exists.intro; refine ⟨fun wq hq => ?_, Loud.wf_norm fun K hK => ?_⟩; (go_simp; try rfl); go_simp; refine hK _ ?_; clear hK K
          refine Loud.wf_q 6 rfl (by kernel_rfl) rfl rfl ?_; apply Exists.intro; refine ⟨fun wq hq => ?_, Loud.wf_norm fun K hK => ?_⟩; (go_simp; try rfl); go_simp; refine hK _ ?_; clear hK K
          refine Loud.wf_q 7 rfl (by kernel_rfl) rfl rfl ?_; apply Exists.intro; refine ⟨fun wq hq => ?_, Loud.wf_norm fun K hK => ?_⟩; (go_simp; try rfl); go_simp; refine hK _ ?_; clear hK K
          refine Loud.wf_q 8 rfl (by kernel_rfl) rfl rfl ?_; apply Exists.intro; refine ⟨fun wq hq => ?_, Loud.wf_norm fun K hK => ?_⟩; (go_simp; try rfl); go_simp; refine hK _ ?_; clear hK K
          refine Loud.wf_q 9 rfl (by kernel_rfl) rfl rfl ?_; apply Exists.intro; refine ⟨fun wq hq => ?_, Loud.wf_norm fun K hK => ?_⟩; (go_simp; try rfl); go_simp; refine hK _ ?_; clear hK K
          refine Loud.wf_q 10 rfl (by kernel_rfl) rfl rfl ?_; apply Exists.intro; refine ⟨fun wq hq => ?_, Loud.wf_norm fun K hK => ?_⟩; (go_simp; try rfl); go_simp; refine hK _ ?_; clear hK K
          refine Loud.wf_q 11 rfl (by kernel_rfl) rfl rfl ?_; apply Exists.intro; refine ⟨fun wq hq => ?_, Loud.wf_norm fun K hK => ?_⟩; (go_simp; try rfl); go_simp; refine hK _ ?_; clear hK K
          refine Loud.wf_q 12 rfl (by kernel_rfl) rfl rfl ?_; apply Exists.intro; refine ⟨fun wq hq => ?_, Loud.wf_norm fun K hK => ?_⟩; (go_simp; try rfl); go_simp; refine hK _ ?_; clear hK K
          refine Loud.wf_q 13 rfl (by kernel_rfl) rfl rfl ?_; apply Exists.intro; refine ⟨fun wq hq => ?_, Loud.wf_norm fun K hK => ?_⟩; (go_simp; try rfl); go_simp; refine hK _ ?_; clear hK K
          refine Loud.wf_q 14 rfl (by kernel_rfl) rfl rfl ?_; apply Exists.intro; refine ⟨fun wq hq => ?_, Loud.wf_norm fun K hK => ?_⟩; (go_simp; try rfl); go_simp; refine hK _ ?_; clear hK K
          refine Loud.wf_q 15 rfl (by kernel_rfl) rfl rfl ?_; apply Exists.intro; refine ⟨fun wq hq => ?_, Loud.wf_norm fun K hK => ?_⟩; (go_simp; try rfl); go_simp; refine hK _ ?_; clear hK K
          refine Loud.wf_l 16 rfl (by kernel_rfl) rfl rfl (fun K hK => ?_); go_simp; refine hK _ _ (by show Ext _ _; repeat (first | exact Ext.refl _ | assumption | (with_reducible refine Ext.drew ?_) | (with_reducible refine Ext.drewN ?_ _) | (with_reducible refine Ext.alloc ?_ _) | (refine Ext.trans ?_ (by assumption)))) ?_; clear hK K
          refine Loud.wf_nil (by kernel_rfl) ?_
          simp only [List.drop_succ_cons, List.drop_zero]
          go_wp2_with (at_builtin; refine wpl_append rfl _ _ 27 rfl und_u32s info_u32 rfl (by omega) w.heap.size (by simp; omega) _ ((wordsN b k).map u32V) rfl (RW.out.ext (by repeat (first | exact Ext.refl _ | assumption | (with_reducible refine Ext.drew ?_) | (with_reducible refine Ext.drewN ?_ _) | (with_reducible refine Ext.alloc ?_ _) | (refine Ext.trans ?_ (by assumption))))) ⟨wr.heap.size, 0, none⟩ 1 1 [u32V _] rfl rfl (fun j x h => cells_one_new wr _ _ j x h) (by simp [u32V, Value.oneCell']) (by rw [HLN.out]; omega) ?_; intro v' w3 hrow3 hb3 _; obtain ⟨g', cp', hv'⟩ := row_some hrow3 (by simp); rw [List.length_append, HLN.out, List.length_cons, List.length_nil] at hv'; subst hv'; have RW3 := Lib.hid hrow3; clear hrow3)
          go_roundw
          case measure => simp [intOf]; omega
          case rel =>
            repeat apply Exists.intro
            refine ⟨?_, rfl⟩
            refine ⟨k + 1, g', cp', by omega, by omega, by go_num, rfl, ?_, (hx.trans (by repeat (first | exact Ext.refl _ | assumption | (with_reducible refine Ext.drew ?_) | (with_reducible refine Ext.drewN ?_ _) | (with_reducible refine Ext.alloc ?_ _) | (refine Ext.trans ?_ (by assumption))))).trans_below hb3⟩
            have h := RW3.out
            rw [HST.out, List.map_append]
            simpa [nextR, wordsN_length, u32V] using h
        · obtain rfl : k = 64 := by omega
          go_wp2
          go_returns
          exact ⟨_, rfl, RW.out, hx⟩
end Go.Proofs.Ytipdgiikifmjdaa
