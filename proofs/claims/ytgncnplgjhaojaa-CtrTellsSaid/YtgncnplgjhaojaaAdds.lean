/- Contracts: layer 4, either or a round's key; a column mixed. -/
import Derived.Test.YtgncnplgjhaojaaCip
namespace Go.Proofs.Ytgncnplgjhaojaa
open Go Go.RowKit

def rkey (K : List UInt8) (r : Nat) : List UInt8 := (K.drop (16 * r)).take 16
theorem rkey_length (K : List UInt8) (hK : K.length = 176) (r : Nat) (hr : r ≤ 10) : (rkey K r).length = 16 := by
  unfold rkey; rw [List.length_take, List.length_drop]; omega
theorem rkey_at (K : List UInt8) (hK : K.length = 176) (r : Nat) (hr : r ≤ 10) (k : Nat) (hk : k < 16) : (rkey K r)[k]'(by rw [rkey_length K hK r hr]; exact hk) = K[16 * r + k]'(by omega) := by
  unfold rkey
  rw [List.getElem_take, List.getElem_drop]
set_option maxRecDepth 100000 in
set_option maxHeartbeats 2000000 in
theorem adds_any (c : Nat) (K : List UInt8) (g : Nat) (s : List UInt8) (r : Nat) (w : World) (hci : CI w c K) (hcg : c < g) (hs : s.length = 16) (hr : r ≤ 10) (hg : w.heap[g]? = some (.cells (bcells s) 56 (0, 0))) :
    Calls Try.prog 41 #[.pointer (some ⟨c, 0, none⟩), .pointer (some ⟨g, 0, none⟩), .int .i64 (r : Int)] w fun e w' => e = .returned (.tuple #[]) ∧ w'.heap[g]? = some (.cells (bcells (xorL s (rkey K r))) 56 (0, 0)) ∧ Below g w w' := by
  have HC := Lib.hid hci
  have hK := hci.1
  have hrl := rkey_length K hK r hr
  have hsr : s.length = (rkey K r).length := by rw [hs, hrl]
  have HG := Lib.hid hg
  have HSR := Lib.hid hsr
  clear hci hg hsr
  go_enter Try.func41, Try.ntmps41
  go_wp2
  go_loopw [7] (fun i wr => ∃ k : Nat, k ≤ 16 ∧ i = .int .i64 k ∧ wr.heap[g]? = some (.cells (bcells (xorK s (rkey K r) k)) 56 (0, 0)) ∧ Below g w wr) (fun i _ => 16 - (intOf i).toNat)
  case atStart => exact ⟨0, by omega, rfl, by rw [show xorK s (rkey K r) 0 = s by simp [xorK]]; exact HG.out, Below.refl _ _⟩
  case round =>
    obtain ⟨k, hk, rfl, hb, hx⟩ := hrel
    have HB := Lib.hid hb
    have hxl := xorK_length s (rkey K r) HSR.out k (by omega)
    by_cases hlt : k < 16
    · have hck : wr.cell? ⟨c, 16 * r + k, none⟩ = some (.int .u8 ((K[16 * r + k]'(by omega)).toNat : Int)) := (World.cell?_of_block (hx.block c hcg)).trans (HC.out.key (16 * r + k) (by omega))
      have hgk : wr.cell? ⟨g, k, none⟩ = some (.int .u8 ((s[k]'(by omega)).toNat : Int)) := by
        refine cell_blk hb ?_
        rw [bcells_at _ k (by rw [hxl]; omega), xorK_at s (rkey K r) HSR.out k (by omega)]
      have hfz : wr.frozen? ⟨g, k, none⟩ = false := frozen_blk hb
      have hst := xorK_step s (rkey K r) HSR.out k (by omega)
      rw [rkey_at K hK r hr k hlt] at hst
      have HST := Lib.hid hst
      clear hb hst hxl
      have hri : (r : Int) < 11 := by omega
      have hki : (k : Int) < 16 := by omega
      generalize s[k]'(by omega) = a at *
      generalize K[16 * r + k]'(by omega) = b at *
      rw [show 16 * r + k = r * 16 + k by omega] at hck
      go_wp2
      refine Loud.wp_region_weave 16 wr (Loud.sps [.val (.pointer (some ⟨g, 0, none⟩)), .val (.int .i64 (k : Int)), .val (.pointer (some ⟨g, 0, none⟩)), .val (.pointer (some ⟨g, k, none⟩)), .val (.int .u8 (a.toNat : Int)), .val (.pointer (some ⟨c, 0, none⟩)), .val (.int .i64 (r : Int)), .val (.int .i64 (k : Int)), .val (.pointer (some ⟨c, 0, none⟩)), .val (.pointer (some ⟨c, 0, none⟩)), .val (.pointer (some ⟨c, r * 16, none⟩)), .val (.pointer (some ⟨c, r * 16 + k, none⟩)), .val (.int .u8 (b.toNat : Int)), .val (.int .u8 ((x8 a b).toNat : Int)), .val (.pointer (some ⟨g, 0, none⟩)), .val (.pointer (some ⟨g, k, none⟩))]) (by kernel_rfl) (by kernel_rfl) (by show Ext _ _; repeat (first | exact Ext.refl _ | assumption | (with_reducible refine Ext.drew ?_) | (with_reducible refine Ext.drewN ?_ _) | (with_reducible refine Ext.alloc ?_ _) | (refine Ext.trans ?_ (by assumption)))) (Loud.sps_st _) ?wAx1 ?whAx1 ?whSx1 ?whFx1
      case whAx1 => intro u K hK; simp only [List.take_succ_cons, List.take_zero, Loud.puts]; go_simp; exact hK
      case whSx1 =>
        simp only [List.take_succ_cons, List.take_zero, Loud.stepsW]
        refine ⟨?wsx1_0, ?wsx1_1, ?wsx1_2, ?wsx1_3, ?wsx1_4, ?wsx1_5, ?wsx1_6, ?wsx1_7, ?wsx1_8, ?wsx1_9, ?wsx1_10, ?wsx1_11, ?wsx1_12, ?wsx1_13, ?wsx1_14, ?wsx1_15, trivial⟩
        case wsx1_0 =>
          intro u β wq hq h
          repeat (obtain ⟨h1, h⟩ := h; first | (replace h1 := h1 rfl; simp only [go_sem] at h1; try (obtain ⟨h1, h1b⟩ := h1)) | (have hno := (h1 : Region.binds _ _ = true → _); clear hno h1))
          refine Or.inl ⟨rfl, fun K hK => ?_⟩
          go_simp
          exact hK _ 0 _ (Ext.refl _) rfl
        case wsx1_1 =>
          intro u β wq hq h
          repeat (obtain ⟨h1, h⟩ := h; first | (replace h1 := h1 rfl; simp only [go_sem] at h1; try (obtain ⟨h1, h1b⟩ := h1)) | (have hno := (h1 : Region.binds _ _ = true → _); clear hno h1))
          refine Or.inl ⟨rfl, fun K hK => ?_⟩
          go_simp
          exact hK _ 0 _ (Ext.refl _) rfl
        case wsx1_2 =>
          intro u β wq hq h
          repeat (obtain ⟨h1, h⟩ := h; first | (replace h1 := h1 rfl; simp only [go_sem] at h1; try (obtain ⟨h1, h1b⟩ := h1)) | (have hno := (h1 : Region.binds _ _ = true → _); clear hno h1))
          refine Or.inl ⟨rfl, fun K hK => ?_⟩
          go_simp
          exact hK _ 0 _ (Ext.refl _) rfl
        case wsx1_3 =>
          intro u β wq hq h
          repeat (obtain ⟨h1, h⟩ := h; first | (replace h1 := h1 rfl; simp only [go_sem] at h1; try (obtain ⟨h1, h1b⟩ := h1)) | (have hno := (h1 : Region.binds _ _ = true → _); clear hno h1))
          refine Or.inl ⟨rfl, fun K hK => ?_⟩
          go_simp
          exact hK _ 0 _ (Ext.refl _) rfl
        case wsx1_4 =>
          intro u β wq hq h
          repeat (obtain ⟨h1, h⟩ := h; first | (replace h1 := h1 rfl; simp only [go_sem] at h1; try (obtain ⟨h1, h1b⟩ := h1)) | (have hno := (h1 : Region.binds _ _ = true → _); clear hno h1))
          refine Or.inl ⟨rfl, fun K hK => ?_⟩
          have hqc := hq.cell_of hgk
          go_simp
          exact hK _ 0 _ (Ext.refl _) rfl
        case wsx1_5 =>
          intro u β wq hq h
          repeat (obtain ⟨h1, h⟩ := h; first | (replace h1 := h1 rfl; simp only [go_sem] at h1; try (obtain ⟨h1, h1b⟩ := h1)) | (have hno := (h1 : Region.binds _ _ = true → _); clear hno h1))
          refine Or.inl ⟨rfl, fun K hK => ?_⟩
          go_simp
          exact hK _ 0 _ (Ext.refl _) rfl
        case wsx1_6 =>
          intro u β wq hq h
          repeat (obtain ⟨h1, h⟩ := h; first | (replace h1 := h1 rfl; simp only [go_sem] at h1; try (obtain ⟨h1, h1b⟩ := h1)) | (have hno := (h1 : Region.binds _ _ = true → _); clear hno h1))
          refine Or.inl ⟨rfl, fun K hK => ?_⟩
          go_simp
          exact hK _ 0 _ (Ext.refl _) rfl
        case wsx1_7 =>
          intro u β wq hq h
          repeat (obtain ⟨h1, h⟩ := h; first | (replace h1 := h1 rfl; simp only [go_sem] at h1; try (obtain ⟨h1, h1b⟩ := h1)) | (have hno := (h1 : Region.binds _ _ = true → _); clear hno h1))
          refine Or.inl ⟨rfl, fun K hK => ?_⟩
          go_simp
          exact hK _ 0 _ (Ext.refl _) rfl
        case wsx1_8 =>
          intro u β wq hq h
          repeat (obtain ⟨h1, h⟩ := h; first | (replace h1 := h1 rfl; simp only [go_sem] at h1; try (obtain ⟨h1, h1b⟩ := h1)) | (have hno := (h1 : Region.binds _ _ = true → _); clear hno h1))
          refine Or.inl ⟨rfl, fun K hK => ?_⟩
          go_simp
          exact hK _ 0 _ (Ext.refl _) rfl
        case wsx1_9 =>
          intro u β wq hq h
          repeat (obtain ⟨h1, h⟩ := h; first | (replace h1 := h1 rfl; simp only [go_sem] at h1; try (obtain ⟨h1, h1b⟩ := h1)) | (have hno := (h1 : Region.binds _ _ = true → _); clear hno h1))
          refine Or.inl ⟨rfl, fun K hK => ?_⟩
          go_simp
          exact hK _ 0 _ (Ext.refl _) rfl
        case wsx1_10 =>
          intro u β wq hq h
          repeat (obtain ⟨h1, h⟩ := h; first | (replace h1 := h1 rfl; simp only [go_sem] at h1; try (obtain ⟨h1, h1b⟩ := h1)) | (have hno := (h1 : Region.binds _ _ = true → _); clear hno h1))
          refine Or.inl ⟨rfl, fun K hK => ?_⟩
          go_simp
          exact hK _ 0 _ (Ext.refl _) rfl
        case wsx1_11 =>
          intro u β wq hq h
          repeat (obtain ⟨h1, h⟩ := h; first | (replace h1 := h1 rfl; simp only [go_sem] at h1; try (obtain ⟨h1, h1b⟩ := h1)) | (have hno := (h1 : Region.binds _ _ = true → _); clear hno h1))
          refine Or.inl ⟨rfl, fun K hK => ?_⟩
          go_simp
          exact hK _ 0 _ (Ext.refl _) rfl
        case wsx1_12 =>
          intro u β wq hq h
          repeat (obtain ⟨h1, h⟩ := h; first | (replace h1 := h1 rfl; simp only [go_sem] at h1; try (obtain ⟨h1, h1b⟩ := h1)) | (have hno := (h1 : Region.binds _ _ = true → _); clear hno h1))
          refine Or.inl ⟨rfl, fun K hK => ?_⟩
          have hqc := hq.cell_of hck
          go_simp
          exact hK _ 0 _ (Ext.refl _) rfl
        case wsx1_13 =>
          intro u β wq hq h
          repeat (obtain ⟨h1, h⟩ := h; first | (replace h1 := h1 rfl; simp only [go_sem] at h1; try (obtain ⟨h1, h1b⟩ := h1)) | (have hno := (h1 : Region.binds _ _ = true → _); clear hno h1))
          refine Or.inl ⟨rfl, fun K hK => ?_⟩
          go_simp
          exact hK _ 0 _ (Ext.refl _) rfl
        case wsx1_14 =>
          intro u β wq hq h
          repeat (obtain ⟨h1, h⟩ := h; first | (replace h1 := h1 rfl; simp only [go_sem] at h1; try (obtain ⟨h1, h1b⟩ := h1)) | (have hno := (h1 : Region.binds _ _ = true → _); clear hno h1))
          refine Or.inl ⟨rfl, fun K hK => ?_⟩
          go_simp
          exact hK _ 0 _ (Ext.refl _) rfl
        case wsx1_15 =>
          intro u β wq hq h
          repeat (obtain ⟨h1, h⟩ := h; first | (replace h1 := h1 rfl; simp only [go_sem] at h1; try (obtain ⟨h1, h1b⟩ := h1)) | (have hno := (h1 : Region.binds _ _ = true → _); clear hno h1))
          refine Or.inl ⟨rfl, fun K hK => ?_⟩
          go_simp
          exact hK _ 0 _ (Ext.refl _) rfl
      intro u β w1 hq h
      have h0 := h 0 (by omega)
      have h1 := h 1 (by omega)
      have h2 := h 2 (by omega)
      have h3 := h 3 (by omega)
      have h4 := h 4 (by omega)
      have h5 := h 5 (by omega)
      have h6 := h 6 (by omega)
      have h7 := h 7 (by omega)
      have h8 := h 8 (by omega)
      have h9 := h 9 (by omega)
      have h10 := h 10 (by omega)
      have h11 := h 11 (by omega)
      have h12 := h 12 (by omega)
      have h13 := h 13 (by omega)
      have h14 := h 14 (by omega)
      have h15 := h 15 (by omega)
      clear h
      simp only [go_sem] at h0 h1 h2 h3 h4 h5 h6 h7 h8 h9 h10 h11 h12 h13 h14 h15
      simp only [List.drop_succ_cons, List.drop_zero]
      rw [h15]
      have hbq := Lib.hid (hq.keep HB.out)
      have hgk1 := hq.cell_of hgk
      have hfz1 : w1.frozen? ⟨g, k, none⟩ = false := frozen_blk hbq.out
      have hxq := hx.trans (Below.mono hq (Nat.le_of_lt (blk_lt HB.out)))
      try rw [h13]
      go_wp2
      go_roundw
      case measure => simp [intOf]; omega
      case rel =>
        refine ⟨k + 1, by omega, by go_num, ?_, hxq.setCell (Nat.le_refl _) _⟩
        rw [heap_setCell_same _ hbq.out, bcells_set, HST.out]
    · obtain rfl : k = 16 := by omega
      have hd : xorK s (rkey K r) 16 = xorL s (rkey K r) := by
        have := xorL_length s (rkey K r) HSR.out
        simp [xorK, List.take_of_length_le (show (xorL s (rkey K r)).length ≤ 16 by omega), List.drop_of_length_le (show s.length ≤ 16 by omega)]
      rw [hd] at HB
      clear hb hd hxl
      go_wp2
      go_returns
      exact ⟨rfl, HB.out, hx⟩
end Go.Proofs.Ytgncnplgjhaojaa
