/- Contracts: layer 4, products. -/
import Derived.Test.YtclekllaikcglaaGreatGf
import Derived.Test.YtclekllaikcglaaGreatWeave
import Derived.Test.YtclekllaikcglaaGreatUnhex
import Derived.Laws.Tables
import Derived.Laws.Rows
import Derived.Deep.DeepCutAuto
import Derived.Test.YtclekllaikcglaaGreatBase
namespace Go.Proofs.YtclekllaikcglaaGreat
open Go Go.RowKit

theorem bxor8n {x y : Int} (m n : Nat) (hx : x = m) (hy : y = n) (hm : m < 256) (hn : n < 256) : bits .xor .u8 x y = ((Nat.xor m n : Nat) : Int) := by
  have := bxor8 (b8 m) (b8 n)
  rw [b8_toNat m hm, b8_toNat n hn, x8_toNat, b8_toNat m hm, b8_toNat n hn] at this
  rw [hx, hy]; exact this
theorem bor8n {x y : Int} (m n : Nat) (hx : x = m) (hy : y = n) (hm : m < 256) (hn : n < 256) : bits .or .u8 x y = ((m ||| n : Nat) : Int) := by
  have := bor8 (b8 m) (b8 n)
  rw [b8_toNat m hm, b8_toNat n hn, show (o8 (b8 m) (b8 n)).toNat = (b8 m).toNat ||| (b8 n).toNat from UInt8.toNat_or _ _, b8_toNat m hm, b8_toNat n hn] at this
  rw [hx, hy]; exact this
theorem band8_1 (b : UInt8) : bits .and .u8 (b.toNat : Int) 1 = ((b.toNat % 2 : Nat) : Int) := by
  have := band8 b 1
  rw [show (a8 b 1).toNat = b.toNat % 2 by unfold a8; rw [UInt8.toNat_and, show (1 : UInt8).toNat = 1 from rfl, Nat.and_one_is_mod]] at this
  exact this
theorem b_mod256 (x : UInt8) : ((x.toNat : Int) % 256) = (x.toNat : Int) := by have := x.toNat_lt; omega
theorem bxor8_0 (c : UInt8) : bits .xor .u8 (c.toNat : Int) 0 = (c.toNat : Int) := by
  have := bxor8 c 0
  rw [x8_z'] at this; exact this
set_option maxRecDepth 100000 in
theorem twice_any (a : UInt8) (w : World) : Calls Tryz.prog 126 #[.int .u8 (a.toNat : Int)] w fun e w' => e = .returned (.int .u8 ((tw a).toNat : Int)) ∧ w = w' := by
  have hal := a.toNat_lt
  have h : bits .xor .u8 ((a.toNat : Int) * 2 % 256) ((a.toNat : Int) / 128 * 27) = ((tw a).toNat : Int) := by
    rw [tw_toNat]
    exact bxor8n (a.toNat * 2 % 256) (a.toNat / 128 * 27) (by omega) (by omega) (by omega) (by omega)
  go_enter Tryz.func126, Tryz.ntmps126
  go_wp2
  go_returns
  exact ⟨rfl, rfl⟩
set_option maxRecDepth 100000 in
theorem turned_1 (a : UInt8) (w : World) : Calls Tryz.prog 145 #[.int .u8 (a.toNat : Int), .int .i64 1] w fun e w' => e = .returned (.int .u8 ((rot8 a 1).toNat : Int)) ∧ Ext w w' := by
  have hal := a.toNat_lt
  have h : bits .or .u8 ((a.toNat : Int) * 2 % 256) ((a.toNat : Int) / 128) = ((rot8 a 1).toNat : Int) := by
    have h1 := bor8n (x := (a.toNat : Int) * 2 % 256) (y := (a.toNat : Int) / 128) (a.toNat * 2 % 256) (a.toNat / 128) (by omega) (by omega) (by omega) (by omega)
    rw [h1]
    unfold rot8
    rw [b8_toNat _ (Nat.or_lt_two_pow (n := 8) (by omega) (by omega))]
  go_enter Tryz.func145, Tryz.ntmps145
  go_wp2
  refine Loud.wp_region_weave 8 w (Loud.sps [.val (.int .u8 (a.toNat : Int)), .val (.int .i64 1), .val (.int .u8 ((a.toNat : Int) * 2 % 256)), .val (.int .u8 (a.toNat : Int)), .val (.int .i64 1), .val (.int .i64 7), .val (.int .u8 ((a.toNat : Int) / 128)), .val (.int .u8 ((rot8 a 1).toNat : Int))]) (by kernel_rfl) (by kernel_rfl) (by show Ext _ _; repeat (first | exact Ext.refl _ | assumption | (with_reducible refine Ext.drew ?_) | (with_reducible refine Ext.drewN ?_ _) | (with_reducible refine Ext.alloc ?_ _) | (refine Ext.trans ?_ (by assumption)))) (Loud.sps_st _) ?wAx1 ?whAx1 ?whSx1 ?whFx1
  case whAx1 => intro u K hK; simp only [List.take_succ_cons, List.take_zero, Loud.puts]; go_simp; exact hK
  case whSx1 =>
    simp only [List.take_succ_cons, List.take_zero, Loud.stepsW]
    refine ⟨?wsx1_0, ?wsx1_1, ?wsx1_2, ?wsx1_3, ?wsx1_4, ?wsx1_5, ?wsx1_6, ?wsx1_7, trivial⟩
    case wsx1_0 =>
      intro u β wq hq h
      repeat (obtain ⟨h1, h⟩ := h; first | (replace h1 := h1 rfl; simp only [go_sem] at h1; try (obtain ⟨h1, h1b⟩ := h1)) | (have hno := (h1 : Region.binds _ _ = true → _); clear hno h1))
      refine Or.inl ⟨rfl, fun K hK => ?_⟩
      go_simp
      exact hK _ 0 _ (Ext.refl _) rfl
    case wsx1_1 =>
      intro u β wq hq h
      repeat (obtain ⟨h1, h⟩ := h; first | (replace h1 := h1 rfl; simp only [go_sem] at h1; try (obtain ⟨h1, h1b⟩ := h1)) | (have hno := (h1 : Region.binds _ _ = true → _); clear hno h1))
      refine Or.inl ⟨rfl, fun K hK => ?_⟩
      go_simp
      exact hK _ 0 _ (Ext.refl _) rfl
    case wsx1_2 =>
      intro u β wq hq h
      repeat (obtain ⟨h1, h⟩ := h; first | (replace h1 := h1 rfl; simp only [go_sem] at h1; try (obtain ⟨h1, h1b⟩ := h1)) | (have hno := (h1 : Region.binds _ _ = true → _); clear hno h1))
      refine Or.inl ⟨rfl, fun K hK => ?_⟩
      go_simp
      exact hK _ 0 _ (Ext.refl _) rfl
    case wsx1_3 =>
      intro u β wq hq h
      repeat (obtain ⟨h1, h⟩ := h; first | (replace h1 := h1 rfl; simp only [go_sem] at h1; try (obtain ⟨h1, h1b⟩ := h1)) | (have hno := (h1 : Region.binds _ _ = true → _); clear hno h1))
      refine Or.inl ⟨rfl, fun K hK => ?_⟩
      go_simp
      exact hK _ 0 _ (Ext.refl _) rfl
    case wsx1_4 =>
      intro u β wq hq h
      repeat (obtain ⟨h1, h⟩ := h; first | (replace h1 := h1 rfl; simp only [go_sem] at h1; try (obtain ⟨h1, h1b⟩ := h1)) | (have hno := (h1 : Region.binds _ _ = true → _); clear hno h1))
      refine Or.inl ⟨rfl, fun K hK => ?_⟩
      go_simp
      exact hK _ 0 _ (Ext.refl _) rfl
    case wsx1_5 =>
      intro u β wq hq h
      repeat (obtain ⟨h1, h⟩ := h; first | (replace h1 := h1 rfl; simp only [go_sem] at h1; try (obtain ⟨h1, h1b⟩ := h1)) | (have hno := (h1 : Region.binds _ _ = true → _); clear hno h1))
      refine Or.inl ⟨rfl, fun K hK => ?_⟩
      go_simp
      exact hK _ 0 _ (Ext.refl _) rfl
    case wsx1_6 =>
      intro u β wq hq h
      repeat (obtain ⟨h1, h⟩ := h; first | (replace h1 := h1 rfl; simp only [go_sem] at h1; try (obtain ⟨h1, h1b⟩ := h1)) | (have hno := (h1 : Region.binds _ _ = true → _); clear hno h1))
      refine Or.inl ⟨rfl, fun K hK => ?_⟩
      go_simp
      exact hK _ 0 _ (Ext.refl _) rfl
    case wsx1_7 =>
      intro u β wq hq h
      repeat (obtain ⟨h1, h⟩ := h; first | (replace h1 := h1 rfl; simp only [go_sem] at h1; try (obtain ⟨h1, h1b⟩ := h1)) | (have hno := (h1 : Region.binds _ _ = true → _); clear hno h1))
      refine Or.inl ⟨rfl, fun K hK => ?_⟩
      go_simp
      exact hK _ 0 _ (Ext.refl _) rfl
  intro u β w1 hq h
  have h0 := h 0 (by omega)
  have h1 := h 1 (by omega)
  have h2 := h 2 (by omega)
  have h3 := h 3 (by omega)
  have h4 := h 4 (by omega)
  have h5 := h 5 (by omega)
  have h6 := h 6 (by omega)
  have h7 := h 7 (by omega)
  clear h
  simp only [go_sem] at h0 h1 h2 h3 h4 h5 h6 h7
  simp only [List.drop_succ_cons, List.drop_zero]
  rw [h7]
  go_wp2
  go_returns
  exact ⟨rfl, hq⟩
set_option maxRecDepth 100000 in
theorem turned_2 (a : UInt8) (w : World) : Calls Tryz.prog 145 #[.int .u8 (a.toNat : Int), .int .i64 2] w fun e w' => e = .returned (.int .u8 ((rot8 a 2).toNat : Int)) ∧ Ext w w' := by
  have hal := a.toNat_lt
  have h : bits .or .u8 ((a.toNat : Int) * 4 % 256) ((a.toNat : Int) / 64) = ((rot8 a 2).toNat : Int) := by
    have h1 := bor8n (x := (a.toNat : Int) * 4 % 256) (y := (a.toNat : Int) / 64) (a.toNat * 4 % 256) (a.toNat / 64) (by omega) (by omega) (by omega) (by omega)
    rw [h1]
    unfold rot8
    rw [b8_toNat _ (Nat.or_lt_two_pow (n := 8) (by omega) (by omega))]
  go_enter Tryz.func145, Tryz.ntmps145
  go_wp2
  refine Loud.wp_region_weave 8 w (Loud.sps [.val (.int .u8 (a.toNat : Int)), .val (.int .i64 2), .val (.int .u8 ((a.toNat : Int) * 4 % 256)), .val (.int .u8 (a.toNat : Int)), .val (.int .i64 2), .val (.int .i64 6), .val (.int .u8 ((a.toNat : Int) / 64)), .val (.int .u8 ((rot8 a 2).toNat : Int))]) (by kernel_rfl) (by kernel_rfl) (by show Ext _ _; repeat (first | exact Ext.refl _ | assumption | (with_reducible refine Ext.drew ?_) | (with_reducible refine Ext.drewN ?_ _) | (with_reducible refine Ext.alloc ?_ _) | (refine Ext.trans ?_ (by assumption)))) (Loud.sps_st _) ?wAx2 ?whAx2 ?whSx2 ?whFx2
  case whAx2 => intro u K hK; simp only [List.take_succ_cons, List.take_zero, Loud.puts]; go_simp; exact hK
  case whSx2 =>
    simp only [List.take_succ_cons, List.take_zero, Loud.stepsW]
    refine ⟨?wsx2_0, ?wsx2_1, ?wsx2_2, ?wsx2_3, ?wsx2_4, ?wsx2_5, ?wsx2_6, ?wsx2_7, trivial⟩
    case wsx2_0 =>
      intro u β wq hq h
      repeat (obtain ⟨h1, h⟩ := h; first | (replace h1 := h1 rfl; simp only [go_sem] at h1; try (obtain ⟨h1, h1b⟩ := h1)) | (have hno := (h1 : Region.binds _ _ = true → _); clear hno h1))
      refine Or.inl ⟨rfl, fun K hK => ?_⟩
      go_simp
      exact hK _ 0 _ (Ext.refl _) rfl
    case wsx2_1 =>
      intro u β wq hq h
      repeat (obtain ⟨h1, h⟩ := h; first | (replace h1 := h1 rfl; simp only [go_sem] at h1; try (obtain ⟨h1, h1b⟩ := h1)) | (have hno := (h1 : Region.binds _ _ = true → _); clear hno h1))
      refine Or.inl ⟨rfl, fun K hK => ?_⟩
      go_simp
      exact hK _ 0 _ (Ext.refl _) rfl
    case wsx2_2 =>
      intro u β wq hq h
      repeat (obtain ⟨h1, h⟩ := h; first | (replace h1 := h1 rfl; simp only [go_sem] at h1; try (obtain ⟨h1, h1b⟩ := h1)) | (have hno := (h1 : Region.binds _ _ = true → _); clear hno h1))
      refine Or.inl ⟨rfl, fun K hK => ?_⟩
      go_simp
      exact hK _ 0 _ (Ext.refl _) rfl
    case wsx2_3 =>
      intro u β wq hq h
      repeat (obtain ⟨h1, h⟩ := h; first | (replace h1 := h1 rfl; simp only [go_sem] at h1; try (obtain ⟨h1, h1b⟩ := h1)) | (have hno := (h1 : Region.binds _ _ = true → _); clear hno h1))
      refine Or.inl ⟨rfl, fun K hK => ?_⟩
      go_simp
      exact hK _ 0 _ (Ext.refl _) rfl
    case wsx2_4 =>
      intro u β wq hq h
      repeat (obtain ⟨h1, h⟩ := h; first | (replace h1 := h1 rfl; simp only [go_sem] at h1; try (obtain ⟨h1, h1b⟩ := h1)) | (have hno := (h1 : Region.binds _ _ = true → _); clear hno h1))
      refine Or.inl ⟨rfl, fun K hK => ?_⟩
      go_simp
      exact hK _ 0 _ (Ext.refl _) rfl
    case wsx2_5 =>
      intro u β wq hq h
      repeat (obtain ⟨h1, h⟩ := h; first | (replace h1 := h1 rfl; simp only [go_sem] at h1; try (obtain ⟨h1, h1b⟩ := h1)) | (have hno := (h1 : Region.binds _ _ = true → _); clear hno h1))
      refine Or.inl ⟨rfl, fun K hK => ?_⟩
      go_simp
      exact hK _ 0 _ (Ext.refl _) rfl
    case wsx2_6 =>
      intro u β wq hq h
      repeat (obtain ⟨h1, h⟩ := h; first | (replace h1 := h1 rfl; simp only [go_sem] at h1; try (obtain ⟨h1, h1b⟩ := h1)) | (have hno := (h1 : Region.binds _ _ = true → _); clear hno h1))
      refine Or.inl ⟨rfl, fun K hK => ?_⟩
      go_simp
      exact hK _ 0 _ (Ext.refl _) rfl
    case wsx2_7 =>
      intro u β wq hq h
      repeat (obtain ⟨h1, h⟩ := h; first | (replace h1 := h1 rfl; simp only [go_sem] at h1; try (obtain ⟨h1, h1b⟩ := h1)) | (have hno := (h1 : Region.binds _ _ = true → _); clear hno h1))
      refine Or.inl ⟨rfl, fun K hK => ?_⟩
      go_simp
      exact hK _ 0 _ (Ext.refl _) rfl
  intro u β w1 hq h
  have h0 := h 0 (by omega)
  have h1 := h 1 (by omega)
  have h2 := h 2 (by omega)
  have h3 := h 3 (by omega)
  have h4 := h 4 (by omega)
  have h5 := h 5 (by omega)
  have h6 := h 6 (by omega)
  have h7 := h 7 (by omega)
  clear h
  simp only [go_sem] at h0 h1 h2 h3 h4 h5 h6 h7
  simp only [List.drop_succ_cons, List.drop_zero]
  rw [h7]
  go_wp2
  go_returns
  exact ⟨rfl, hq⟩
set_option maxRecDepth 100000 in
theorem turned_3 (a : UInt8) (w : World) : Calls Tryz.prog 145 #[.int .u8 (a.toNat : Int), .int .i64 3] w fun e w' => e = .returned (.int .u8 ((rot8 a 3).toNat : Int)) ∧ Ext w w' := by
  have hal := a.toNat_lt
  have h : bits .or .u8 ((a.toNat : Int) * 8 % 256) ((a.toNat : Int) / 32) = ((rot8 a 3).toNat : Int) := by
    have h1 := bor8n (x := (a.toNat : Int) * 8 % 256) (y := (a.toNat : Int) / 32) (a.toNat * 8 % 256) (a.toNat / 32) (by omega) (by omega) (by omega) (by omega)
    rw [h1]
    unfold rot8
    rw [b8_toNat _ (Nat.or_lt_two_pow (n := 8) (by omega) (by omega))]
  go_enter Tryz.func145, Tryz.ntmps145
  go_wp2
  refine Loud.wp_region_weave 8 w (Loud.sps [.val (.int .u8 (a.toNat : Int)), .val (.int .i64 3), .val (.int .u8 ((a.toNat : Int) * 8 % 256)), .val (.int .u8 (a.toNat : Int)), .val (.int .i64 3), .val (.int .i64 5), .val (.int .u8 ((a.toNat : Int) / 32)), .val (.int .u8 ((rot8 a 3).toNat : Int))]) (by kernel_rfl) (by kernel_rfl) (by show Ext _ _; repeat (first | exact Ext.refl _ | assumption | (with_reducible refine Ext.drew ?_) | (with_reducible refine Ext.drewN ?_ _) | (with_reducible refine Ext.alloc ?_ _) | (refine Ext.trans ?_ (by assumption)))) (Loud.sps_st _) ?wAx3 ?whAx3 ?whSx3 ?whFx3
  case whAx3 => intro u K hK; simp only [List.take_succ_cons, List.take_zero, Loud.puts]; go_simp; exact hK
  case whSx3 =>
    simp only [List.take_succ_cons, List.take_zero, Loud.stepsW]
    refine ⟨?wsx3_0, ?wsx3_1, ?wsx3_2, ?wsx3_3, ?wsx3_4, ?wsx3_5, ?wsx3_6, ?wsx3_7, trivial⟩
    case wsx3_0 =>
      intro u β wq hq h
      repeat (obtain ⟨h1, h⟩ := h; first | (replace h1 := h1 rfl; simp only [go_sem] at h1; try (obtain ⟨h1, h1b⟩ := h1)) | (have hno := (h1 : Region.binds _ _ = true → _); clear hno h1))
      refine Or.inl ⟨rfl, fun K hK => ?_⟩
      go_simp
      exact hK _ 0 _ (Ext.refl _) rfl
    case wsx3_1 =>
      intro u β wq hq h
      repeat (obtain ⟨h1, h⟩ := h; first | (replace h1 := h1 rfl; simp only [go_sem] at h1; try (obtain ⟨h1, h1b⟩ := h1)) | (have hno := (h1 : Region.binds _ _ = true → _); clear hno h1))
      refine Or.inl ⟨rfl, fun K hK => ?_⟩
      go_simp
      exact hK _ 0 _ (Ext.refl _) rfl
    case wsx3_2 =>
      intro u β wq hq h
      repeat (obtain ⟨h1, h⟩ := h; first | (replace h1 := h1 rfl; simp only [go_sem] at h1; try (obtain ⟨h1, h1b⟩ := h1)) | (have hno := (h1 : Region.binds _ _ = true → _); clear hno h1))
      refine Or.inl ⟨rfl, fun K hK => ?_⟩
      go_simp
      exact hK _ 0 _ (Ext.refl _) rfl
    case wsx3_3 =>
      intro u β wq hq h
      repeat (obtain ⟨h1, h⟩ := h; first | (replace h1 := h1 rfl; simp only [go_sem] at h1; try (obtain ⟨h1, h1b⟩ := h1)) | (have hno := (h1 : Region.binds _ _ = true → _); clear hno h1))
      refine Or.inl ⟨rfl, fun K hK => ?_⟩
      go_simp
      exact hK _ 0 _ (Ext.refl _) rfl
    case wsx3_4 =>
      intro u β wq hq h
      repeat (obtain ⟨h1, h⟩ := h; first | (replace h1 := h1 rfl; simp only [go_sem] at h1; try (obtain ⟨h1, h1b⟩ := h1)) | (have hno := (h1 : Region.binds _ _ = true → _); clear hno h1))
      refine Or.inl ⟨rfl, fun K hK => ?_⟩
      go_simp
      exact hK _ 0 _ (Ext.refl _) rfl
    case wsx3_5 =>
      intro u β wq hq h
      repeat (obtain ⟨h1, h⟩ := h; first | (replace h1 := h1 rfl; simp only [go_sem] at h1; try (obtain ⟨h1, h1b⟩ := h1)) | (have hno := (h1 : Region.binds _ _ = true → _); clear hno h1))
      refine Or.inl ⟨rfl, fun K hK => ?_⟩
      go_simp
      exact hK _ 0 _ (Ext.refl _) rfl
    case wsx3_6 =>
      intro u β wq hq h
      repeat (obtain ⟨h1, h⟩ := h; first | (replace h1 := h1 rfl; simp only [go_sem] at h1; try (obtain ⟨h1, h1b⟩ := h1)) | (have hno := (h1 : Region.binds _ _ = true → _); clear hno h1))
      refine Or.inl ⟨rfl, fun K hK => ?_⟩
      go_simp
      exact hK _ 0 _ (Ext.refl _) rfl
    case wsx3_7 =>
      intro u β wq hq h
      repeat (obtain ⟨h1, h⟩ := h; first | (replace h1 := h1 rfl; simp only [go_sem] at h1; try (obtain ⟨h1, h1b⟩ := h1)) | (have hno := (h1 : Region.binds _ _ = true → _); clear hno h1))
      refine Or.inl ⟨rfl, fun K hK => ?_⟩
      go_simp
      exact hK _ 0 _ (Ext.refl _) rfl
  intro u β w1 hq h
  have h0 := h 0 (by omega)
  have h1 := h 1 (by omega)
  have h2 := h 2 (by omega)
  have h3 := h 3 (by omega)
  have h4 := h 4 (by omega)
  have h5 := h 5 (by omega)
  have h6 := h 6 (by omega)
  have h7 := h 7 (by omega)
  clear h
  simp only [go_sem] at h0 h1 h2 h3 h4 h5 h6 h7
  simp only [List.drop_succ_cons, List.drop_zero]
  rw [h7]
  go_wp2
  go_returns
  exact ⟨rfl, hq⟩
set_option maxRecDepth 100000 in
theorem turned_4 (a : UInt8) (w : World) : Calls Tryz.prog 145 #[.int .u8 (a.toNat : Int), .int .i64 4] w fun e w' => e = .returned (.int .u8 ((rot8 a 4).toNat : Int)) ∧ Ext w w' := by
  have hal := a.toNat_lt
  have h : bits .or .u8 ((a.toNat : Int) * 16 % 256) ((a.toNat : Int) / 16) = ((rot8 a 4).toNat : Int) := by
    have h1 := bor8n (x := (a.toNat : Int) * 16 % 256) (y := (a.toNat : Int) / 16) (a.toNat * 16 % 256) (a.toNat / 16) (by omega) (by omega) (by omega) (by omega)
    rw [h1]
    unfold rot8
    rw [b8_toNat _ (Nat.or_lt_two_pow (n := 8) (by omega) (by omega))]
  go_enter Tryz.func145, Tryz.ntmps145
  go_wp2
  refine Loud.wp_region_weave 8 w (Loud.sps [.val (.int .u8 (a.toNat : Int)), .val (.int .i64 4), .val (.int .u8 ((a.toNat : Int) * 16 % 256)), .val (.int .u8 (a.toNat : Int)), .val (.int .i64 4), .val (.int .i64 4), .val (.int .u8 ((a.toNat : Int) / 16)), .val (.int .u8 ((rot8 a 4).toNat : Int))]) (by kernel_rfl) (by kernel_rfl) (by show Ext _ _; repeat (first | exact Ext.refl _ | assumption | (with_reducible refine Ext.drew ?_) | (with_reducible refine Ext.drewN ?_ _) | (with_reducible refine Ext.alloc ?_ _) | (refine Ext.trans ?_ (by assumption)))) (Loud.sps_st _) ?wAx4 ?whAx4 ?whSx4 ?whFx4
  case whAx4 => intro u K hK; simp only [List.take_succ_cons, List.take_zero, Loud.puts]; go_simp; exact hK
  case whSx4 =>
    simp only [List.take_succ_cons, List.take_zero, Loud.stepsW]
    refine ⟨?wsx4_0, ?wsx4_1, ?wsx4_2, ?wsx4_3, ?wsx4_4, ?wsx4_5, ?wsx4_6, ?wsx4_7, trivial⟩
    case wsx4_0 =>
      intro u β wq hq h
      repeat (obtain ⟨h1, h⟩ := h; first | (replace h1 := h1 rfl; simp only [go_sem] at h1; try (obtain ⟨h1, h1b⟩ := h1)) | (have hno := (h1 : Region.binds _ _ = true → _); clear hno h1))
      refine Or.inl ⟨rfl, fun K hK => ?_⟩
      go_simp
      exact hK _ 0 _ (Ext.refl _) rfl
    case wsx4_1 =>
      intro u β wq hq h
      repeat (obtain ⟨h1, h⟩ := h; first | (replace h1 := h1 rfl; simp only [go_sem] at h1; try (obtain ⟨h1, h1b⟩ := h1)) | (have hno := (h1 : Region.binds _ _ = true → _); clear hno h1))
      refine Or.inl ⟨rfl, fun K hK => ?_⟩
      go_simp
      exact hK _ 0 _ (Ext.refl _) rfl
    case wsx4_2 =>
      intro u β wq hq h
      repeat (obtain ⟨h1, h⟩ := h; first | (replace h1 := h1 rfl; simp only [go_sem] at h1; try (obtain ⟨h1, h1b⟩ := h1)) | (have hno := (h1 : Region.binds _ _ = true → _); clear hno h1))
      refine Or.inl ⟨rfl, fun K hK => ?_⟩
      go_simp
      exact hK _ 0 _ (Ext.refl _) rfl
    case wsx4_3 =>
      intro u β wq hq h
      repeat (obtain ⟨h1, h⟩ := h; first | (replace h1 := h1 rfl; simp only [go_sem] at h1; try (obtain ⟨h1, h1b⟩ := h1)) | (have hno := (h1 : Region.binds _ _ = true → _); clear hno h1))
      refine Or.inl ⟨rfl, fun K hK => ?_⟩
      go_simp
      exact hK _ 0 _ (Ext.refl _) rfl
    case wsx4_4 =>
      intro u β wq hq h
      repeat (obtain ⟨h1, h⟩ := h; first | (replace h1 := h1 rfl; simp only [go_sem] at h1; try (obtain ⟨h1, h1b⟩ := h1)) | (have hno := (h1 : Region.binds _ _ = true → _); clear hno h1))
      refine Or.inl ⟨rfl, fun K hK => ?_⟩
      go_simp
      exact hK _ 0 _ (Ext.refl _) rfl
    case wsx4_5 =>
      intro u β wq hq h
      repeat (obtain ⟨h1, h⟩ := h; first | (replace h1 := h1 rfl; simp only [go_sem] at h1; try (obtain ⟨h1, h1b⟩ := h1)) | (have hno := (h1 : Region.binds _ _ = true → _); clear hno h1))
      refine Or.inl ⟨rfl, fun K hK => ?_⟩
      go_simp
      exact hK _ 0 _ (Ext.refl _) rfl
    case wsx4_6 =>
      intro u β wq hq h
      repeat (obtain ⟨h1, h⟩ := h; first | (replace h1 := h1 rfl; simp only [go_sem] at h1; try (obtain ⟨h1, h1b⟩ := h1)) | (have hno := (h1 : Region.binds _ _ = true → _); clear hno h1))
      refine Or.inl ⟨rfl, fun K hK => ?_⟩
      go_simp
      exact hK _ 0 _ (Ext.refl _) rfl
    case wsx4_7 =>
      intro u β wq hq h
      repeat (obtain ⟨h1, h⟩ := h; first | (replace h1 := h1 rfl; simp only [go_sem] at h1; try (obtain ⟨h1, h1b⟩ := h1)) | (have hno := (h1 : Region.binds _ _ = true → _); clear hno h1))
      refine Or.inl ⟨rfl, fun K hK => ?_⟩
      go_simp
      exact hK _ 0 _ (Ext.refl _) rfl
  intro u β w1 hq h
  have h0 := h 0 (by omega)
  have h1 := h 1 (by omega)
  have h2 := h 2 (by omega)
  have h3 := h 3 (by omega)
  have h4 := h 4 (by omega)
  have h5 := h 5 (by omega)
  have h6 := h 6 (by omega)
  have h7 := h 7 (by omega)
  clear h
  simp only [go_sem] at h0 h1 h2 h3 h4 h5 h6 h7
  simp only [List.drop_succ_cons, List.drop_zero]
  rw [h7]
  go_wp2
  go_returns
  exact ⟨rfl, hq⟩
set_option maxRecDepth 100000 in
set_option maxHeartbeats 1000000 in
theorem times_any (a b : UInt8) (w : World) : Calls Tryz.prog 146 #[.int .u8 (a.toNat : Int), .int .u8 (b.toNat : Int)] w fun e w' => e = .returned (.int .u8 ((gm a b).toNat : Int)) ∧ w = w' := by
  have GT := Lib.hid twice_any
  go_enter Tryz.func146, Tryz.ntmps146
  go_wp2
  go_loopw [0, 1, 4] (fun x y c wr => ∃ (a' b' c' : UInt8), x = .int .u8 (a'.toNat : Int) ∧ y = .int .u8 (b'.toNat : Int) ∧ c = .int .u8 (c'.toNat : Int) ∧ x8 c' (gm a' b') = gm a b ∧ w = wr) (fun _ y _ _ => (intOf y).toNat)
  case atStart => exact ⟨a, b, 0, rfl, rfl, rfl, x8_z _, rfl⟩
  case round =>
    obtain ⟨a', b', c', rfl, rfl, rfl, hg, rfl⟩ := hrel
    have HG := Lib.hid hg
    clear hg
    have hal := b_mod256 a'
    have hx0 := bxor8_0 c'
    have hbl := b'.toNat_lt
    have hb2 : (b8 (b'.toNat / 2)).toNat = b'.toNat / 2 := b8_toNat _ (by omega)
    have HB : Hid ((b'.toNat : Int) / 2 = ((b8 (b'.toNat / 2)).toNat : Int)) := Lib.hid (by rw [hb2]; omega)
    have HS : Hid (gm a' b' = x8 (if b'.toNat % 2 = 1 then a' else 0) (gm (tw a') (b8 (b'.toNat / 2)))) := Lib.hid (by rw [gm_step, gm, hb2])
    clear hb2
    by_cases hlt : 0 < b'.toNat
    · rcases Nat.mod_two_eq_zero_or_one b'.toNat with hp | hp
      · have hb1 : bits .and .u8 (b'.toNat : Int) 1 = 0 := by rw [band8_1, hp]; rfl
        have HP := Lib.hid hp
        clear hp
        go_wp2_with (go_at_call 126; with_reducible refine (GT.out _ _).mono ?_; rintro e w' ⟨rfl, rfl⟩)
        go_roundw
        case measure => simp [intOf]; omega
        case rel => exact ⟨tw a', b8 (b'.toNat / 2), c', rfl, by rw [HB.out], rfl, by rw [← HG.out, HS.out, HP.out, if_neg (by decide), x8_z], trivial⟩
      · have hb1 : bits .and .u8 (b'.toNat : Int) 1 = 1 := by rw [band8_1, hp]; rfl
        have HP := Lib.hid hp
        clear hp
        go_wp2_with (go_at_call 126; with_reducible refine (GT.out _ _).mono ?_; rintro e w' ⟨rfl, rfl⟩)
        go_roundw
        case measure => simp [intOf]; omega
        case rel => exact ⟨tw a', b8 (b'.toNat / 2), x8 c' a', rfl, by rw [HB.out], rfl, by rw [← HG.out, HS.out, HP.out, if_pos rfl, x8_assoc], trivial⟩
    · have hz : b' = 0 := by
        apply UInt8.toNat_inj.1
        show b'.toNat = 0
        omega
      have hc : c' = gm a b := by rw [← HG.out, hz, gm_zero, x8_z']
      have HC := Lib.hid hc
      clear hc hz
      go_wp2
      go_returns
      exact ⟨by rw [← HC.out]; rfl, rfl⟩
end Go.Proofs.YtclekllaikcglaaGreat
namespace Go.Proofs.YtclekllaikcglaaGreat
open Go Go.RowKit

theorem info_b256 : (Tryz.prog.info? 164).map (·.size) = some 256 := by kernel_rfl
theorem und_b256 : Tryz.prog.underlying 164 = some (.array 256 5) := by kernel_rfl
def z256 : Array Value := bcells (List.replicate 256 0)
theorem zero_b256 (w : World) : Sem.run Tryz.prog (zeroValue 164) w = .ok (.agg z256) w := by kernel_rfl
theorem heap_alloc2b (w : World) (o1 o2 : Obj) : ((w.alloc o1).alloc o2).heap[w.heap.size + 1]? = some o2 := by
  have := heap_alloc_new (w.alloc o1) o2
  rwa [World.size_alloc] at this
theorem does_load_row {P : Program} {o : Oper} {a : Act} {w : World} {K : Value → World → Prop} {ty : TypeId} {x : Operand} (ho : o.op = .load ty x)
    {g : Nat} (hx : a.eval x = .pointer (some ⟨g, 0, none⟩)) {t : TypeId} {cs : Array Value} {fr : Nat × Nat} {d : TypeDesc} (hg : w.heap[g]? = some (.cells cs t fr))
    (hu : P.underlying ty = some d) (hd : (match d with | .struct _ | .array _ _ => true | _ => false) = true) (hi : (P.info? ty).map (·.size) = some cs.size) (h : K (.agg cs) w) : Loud.does P o a w K := by
  unfold Loud.does execOp
  simp only [ho, hx, Instr.loadAt, Instr.sureAddr, Sem.run_bind, Sem.run_pure, Result.andThen_ok, run_loadVar_row w g t ty cs fr d hg hu hd hi]
  exact h
theorem setRow_same (w : World) (g : Nat) (cs : Array Value) (t : TypeId) (hg : w.heap[g]? = some (.cells cs t (0, 0))) : w.setRow g cs = w := by
  have hh : (w.setRow g cs).heap = w.heap := by
    apply Array.ext_getElem?
    intro k
    by_cases hk : k = g
    · subst hk
      rw [setRow_heap w k cs cs t _ hg, hg]
    · exact setRow_other w g k cs hk
  cases w
  simp only [World.setRow] at hh ⊢
  rw [hh]
theorem does_store_row_same {P : Program} {o : Oper} {a : Act} {w : World} {K : Value → World → Prop} {ty : TypeId} {x y : Operand} (ho : o.op = .store ty x y)
    {g : Nat} (hx : a.eval x = .pointer (some ⟨g, 0, none⟩)) {cs : Array Value} (hy : a.eval y = .agg cs) {t : TypeId} (hg : w.heap[g]? = some (.cells cs t (0, 0)))
    (hi : (P.info? ty).map (·.size) = some cs.size) (h1 : cs.all (·.oneCell') = true) (h : K undef w) : Loud.does P o a w K := by
  have hr := run_storeVar_row (P := P) w g t ty cs cs hg hi rfl h1
  rw [setRow_same w g cs t hg] at hr
  unfold Loud.does execOp
  simp only [ho, hx, hy, Instr.storeAt, Instr.sureAddr, Sem.run_bind, Sem.run_pure, Result.andThen_ok, hr]
  exact h
theorem results_two_rows {P : Program} {fn : Func} {p q : Tmp} {ty : TypeId} (h : fn.results = #[.cell p ty, .cell q ty]) (tmps : Array Value) (w : World) (g1 g2 : Nat) (t1 t2 : TypeId) (cs1 cs2 : Array Value) (f1 f2 : Nat × Nat) (d : TypeDesc)
    (hp : tmps.getD p undef = .pointer (some ⟨g1, 0, none⟩)) (hq : tmps.getD q undef = .pointer (some ⟨g2, 0, none⟩)) (hg1 : w.heap[g1]? = some (.cells cs1 t1 f1)) (hg2 : w.heap[g2]? = some (.cells cs2 t2 f2))
    (hu : P.underlying ty = some d) (hd : (match d with | .struct _ | .array _ _ => true | _ => false) = true) (hi1 : (P.info? ty).map (·.size) = some cs1.size) (hi2 : (P.info? ty).map (·.size) = some cs2.size) :
    (results fn tmps).run P w = .ok (.tuple #[.agg cs1, .agg cs2]) w := by
  have hp' : tmps[p]?.getD undef = .pointer (some ⟨g1, 0, none⟩) := by simpa using hp
  have hq' : tmps[q]?.getD undef = .pointer (some ⟨g2, 0, none⟩) := by simpa using hq
  simp [results, h, hp', hq', asAddr, run_loadVar_row w g1 t1 ty cs1 f1 d hg1 hu hd hi1, run_loadVar_row w g2 t2 ty cs2 f2 d hg2 hu hd hi2]
theorem bcells_all (l : List UInt8) : (bcells l).all (·.oneCell') = true := by
  rw [Array.all_eq_true_iff_forall_mem]
  intro v hv
  rw [bcells_toList] at hv
  obtain ⟨b, _, rfl⟩ := List.mem_map.1 (by simpa using hv)
  rfl
theorem run_index_one {P : Program} {t e n : Nat} {d : TypeDesc} (ht : P.underlying t = some (.array n e)) (he : P.underlying e = some d) (hd : (match d with | .struct _ | .array _ _ => true | _ => false) = false) (hi : (P.info? e).map (·.size) = some 1) (cs : Array Value) (v : Value) (k : Nat) (hk : k < n) (hc : cs[k]? = some v) (w : World) :
    (Instr.index t (.agg cs) (.int .i64 (k : Int))).run P w = .ok v w := by
  obtain ⟨i0, hi0, hs⟩ : ∃ i0, P.info? e = some i0 ∧ i0.size = 1 := by
    cases hq : P.info? e with
    | none => simp [hq] at hi
    | some i => exact ⟨i, rfl, by simpa [hq] using hi⟩
  have hagg : (isAgg e).run P w = .ok false w := by
    unfold isAgg
    rw [Sem.run_bind, run_underlying he w]
    cases d <;> simp_all
  simp [Instr.index, asIntOf, run_underlying ht, hk, sizeOf, typeInfo, hi0, hs, part, hagg, hc]
set_option maxRecDepth 100000 in
set_option maxHeartbeats 4000000 in
theorem boxes_any (w : World) : Calls Tryz.prog 123 #[] w fun e w' => e = .returned (.tuple #[.agg (bcells boxT), .agg (bcells unT)]) ∧ Ext w w' := by
  have hz := zero_b256
  have h99 : ∀ y : UInt8, bits .xor .u8 (y.toNat : Int) 99 = ((x8 y 99).toNat : Int) := fun y => bxor8 y 99
  have G1 := Lib.hid turned_1; have G2 := Lib.hid turned_2; have G3 := Lib.hid turned_3; have G4 := Lib.hid turned_4
  have T3 : Hid (∀ (p : UInt8) (W : World), Calls Tryz.prog 146 #[.int .u8 (p.toNat : Int), .int .u8 3] W fun e w' => e = .returned (.int .u8 ((gm p 3).toNat : Int)) ∧ W = w') := Lib.hid fun p W => times_any p 3 W
  have T6 : Hid (∀ (p : UInt8) (W : World), Calls Tryz.prog 146 #[.int .u8 (p.toNat : Int), .int .u8 246] W fun e w' => e = .returned (.int .u8 ((gm p 246).toNat : Int)) ∧ W = w') := Lib.hid fun p W => times_any p 246 W
  go_enter Tryz.func123, Tryz.ntmps123
  go_upto_region 2 with fail
  obtain ⟨w0, hw0⟩ : ∃ w0, (w.alloc (Obj.cells z256 164)).alloc (Obj.cells z256 164) = w0 := ⟨_, rfl⟩
  have k0 : w0.heap[w.heap.size]? = some (.cells (bcells (boxK 0)) 164) := by rw [← hw0]; exact heap_alloc_old _ _ (heap_alloc_new _ _)
  have k1 : w0.heap[w.heap.size + 1]? = some (.cells (bcells (unK 0)) 164) := by rw [← hw0]; exact heap_alloc2b _ _ _
  have kx : Ext w w0 := by rw [← hw0]; exact ((Ext.refl w).alloc _).alloc _
  rw [hw0]
  clear hw0 hz
  go_wp2
  go_loopw [2, 3, 6] (fun p q i wr => ∃ k : Nat, k ≤ 255 ∧ p = .int .u8 ((pT.getD k 0).toNat : Int) ∧ q = .int .u8 ((qT.getD k 0).toNat : Int) ∧ i = .int .i64 k ∧ wr.heap[w.heap.size]? = some (.cells (bcells (boxK k)) 164) ∧ wr.heap[w.heap.size + 1]? = some (.cells (bcells (unK 0)) 164) ∧ Ext w wr) (fun _ _ i _ => 255 - (intOf i).toNat)
  case atStart => exact ⟨0, by omega, rfl, rfl, rfl, k0, k1, kx⟩
  case round =>
    clear k0 k1 kx
    obtain ⟨k, hk, rfl, rfl, rfl, hb, hu, hx⟩ := hrel
    have HB := Lib.hid hb; have HU := Lib.hid hu; clear hb hu
    by_cases hlt : k < 255
    · have hp := Lib.hid (pT_step ⟨k, hlt⟩)
      have hq := Lib.hid (qT_step ⟨k, hlt⟩)
      simp only at hp hq
      have hbl := boxK_length k
      have HK : Hid (boxK (k + 1) = (boxK k).set (pT.getD k 0).toNat (boxV (qT.getD k 0))) := Lib.hid rfl
      generalize pT.getD k 0 = p at *
      generalize qT.getD k 0 = q at *
      generalize boxK k = b at *
      have hpl := p.toNat_lt
      have hpb : p.toNat < b.length := by omega
      have HBL := Lib.hid hbl
      clear hbl
      go_wp2_with (first
        | (go_at_call 145; with_reducible refine (G1.out _ _).mono ?_; rintro e w1 ⟨rfl, hx1⟩)
        | (go_at_call 145; with_reducible refine (G2.out _ _).mono ?_; rintro e w2 ⟨rfl, hx2⟩)
        | (go_at_call 145; with_reducible refine (G3.out _ _).mono ?_; rintro e w3 ⟨rfl, hx3⟩)
        | (go_at_call 145; with_reducible refine (G4.out _ _).mono ?_; rintro e w4 ⟨rfl, hx4⟩; have hx' : Ext wr w4 := hx1.trans (hx2.trans (hx3.trans hx4)); have HB4 := Lib.hid (hx'.keep HB.out); have HU4 := Lib.hid (hx'.keep HU.out); have hc4 := cell_blk HB4.out (bcells_at b p.toNat hpb); have hf4 := frozen_blk (i := p.toNat) HB4.out)
        | (go_at_call 146; with_reducible refine (T3.out _ _).mono ?_; rintro e w' ⟨rfl, rfl⟩)
        | (go_at_call 146; with_reducible refine (T6.out _ _).mono ?_; rintro e w' ⟨rfl, rfl⟩))
      go_roundw
      case measure => simp [intOf]; omega
      case rel =>
        refine ⟨k + 1, by omega, by rw [hp.out], by rw [hq.out], by go_num, ?_, ?_, (hx.trans hx').setCell (Nat.le_refl _) _⟩
        · rw [heap_setCell_same _ HB4.out, bcells_set, HK.out]; rfl
        · rw [heap_setCell_other _ _ _ (by show w.heap.size + 1 ≠ w.heap.size; omega)]; exact HU4.out
    · obtain rfl : k = 255 := by omega
      have hbl := boxK_length 255
      have HBA := Lib.hid boxK_all
      generalize boxK 255 = b at *
      generalize pT.getD 255 0 = p at *
      generalize qT.getD 255 0 = q at *
      obtain ⟨c0, hc0⟩ : ∃ c0, wr.cell? ⟨w.heap.size, 0, none⟩ = some c0 := ⟨_, cell_blk HB.out (bcells_at b 0 (by omega))⟩
      have hf0 := frozen_blk (i := 0) HB.out
      have HBL := Lib.hid hbl
      clear hbl
      go_upto_region 8 with fail
      obtain ⟨w8, hw8⟩ : ∃ w8, wr.setCell ⟨w.heap.size, 0, none⟩ (.int .u8 99) = w8 := ⟨_, rfl⟩
      have hb8 : w8.heap[w.heap.size]? = some (.cells (bcells boxT) 164) := by
        rw [← hw8, heap_setCell_same _ HB.out, show (Value.int .u8 99) = Value.int .u8 ((99 : UInt8).toNat : Int) from rfl, bcells_set, HBA.out]
      have hu8 : w8.heap[w.heap.size + 1]? = some (.cells (bcells (unK 0)) 164) := by
        rw [← hw8, heap_setCell_other _ _ _ (by show w.heap.size + 1 ≠ w.heap.size; omega)]; exact HU.out
      have hx8 : Ext w w8 := by rw [← hw8]; exact hx.setCell (Nat.le_refl _) _
      rw [hw8]
      clear hw8 HB HU hx hc0 hf0
      have hsz : (Tryz.prog.info? 164).map (·.size) = some (bcells boxT).size := by rw [bcells_size, boxT_length]; exact info_b256
      have HI := Lib.hid hsz
      have HB8 := Lib.hid hb8
      clear hsz hb8
      go_wp2_with (refine wpList_load_row rfl _ _ rfl w.heap.size rfl _ _ _ _ HB8.out und_b256 rfl HI.out ?_)
      obtain ⟨bt, hbt⟩ : ∃ bt, bcells boxT = bt := ⟨_, rfl⟩
      rw [hbt]
      have HBT := Lib.hid hbt
      clear hbt
      go_loopw [31] (fun i wr => ∃ k : Nat, k ≤ 256 ∧ i = .int .i64 k ∧ wr.heap[w.heap.size]? = some (.cells (bcells boxT) 164) ∧ wr.heap[w.heap.size + 1]? = some (.cells (bcells (unK k)) 164) ∧ Ext w wr) (fun i _ => 256 - (intOf i).toNat)
      case atStart => exact ⟨0, by omega, rfl, HB8.out, hu8, hx8⟩
      case round =>
        clear hu8 hx8
        obtain ⟨k, hk, rfl, hb, hu, hx⟩ := hrel
        have HB := Lib.hid hb; have HU := Lib.hid hu; clear hb hu
        by_cases hlt : k < 256
        · have hbg : bt[k]? = some (.int .u8 ((boxT.getD k 0).toNat : Int)) := by
            rw [← HBT.out, bcells_get?]
            have : k < boxT.length := by rw [boxT_length]; exact hlt
            simp [List.getD, this]
          have hul := unK_length k
          have HK : Hid (unK (k + 1) = (unK k).set (boxT.getD k 0).toNat (b8 k)) := Lib.hid rfl
          generalize boxT.getD k 0 = p at *
          generalize unK k = u at *
          have hpl := p.toNat_lt
          have hpu : p.toNat < u.length := by omega
          obtain ⟨c0, hc0⟩ : ∃ c0, wr.cell? ⟨w.heap.size + 1, p.toNat, none⟩ = some c0 := ⟨_, cell_blk HU.out (bcells_at u p.toNat hpu)⟩
          have hf0 := frozen_blk (i := p.toNat) HU.out
          have hix : Sem.run Tryz.prog (Instr.index 164 (.agg bt) (.int .i64 (k : Int))) wr = .ok (.int .u8 (p.toNat : Int)) wr := run_index_one und_b256 und_u8 rfl (by kernel_rfl) bt _ k hlt hbg wr
          have hw8 : IntKind.u8.wrap (k : Int) = ((b8 k).toNat : Int) := by rw [b8_toNat _ (by omega), IntKind.wrap_u8]; omega
          clear hul
          go_wp2
          go_roundw
          case measure => simp [intOf]; omega
          case rel =>
            refine ⟨k + 1, by omega, by go_num, ?_, ?_, hx.setCell (by show w.heap.size ≤ w.heap.size + 1; omega) _⟩
            · rw [heap_setCell_other _ _ _ (by show w.heap.size ≠ w.heap.size + 1; omega)]; exact HB.out
            · rw [heap_setCell_same _ HU.out, bcells_set, HK.out]
        · obtain rfl : k = 256 := by omega
          rw [unK_all] at HU
          have hsu : (Tryz.prog.info? 164).map (·.size) = some (bcells unT).size := by rw [bcells_size, unT_length]; exact info_b256
          have HJ := Lib.hid hsu
          clear hsu
          go_upto_region 13 with fail
          refine Loud.wp_region_weave 4 wr (Loud.sps [.val (.agg (bcells boxT)), .val (.agg (bcells unT)), .any, .any]) (by kernel_rfl) (by kernel_rfl) (by show Ext _ _; repeat (first | exact Ext.refl _ | assumption | (with_reducible refine Ext.drew ?_) | (with_reducible refine Ext.drewN ?_ _) | (with_reducible refine Ext.alloc ?_ _) | (refine Ext.trans ?_ (by assumption)))) (Loud.sps_st _) ?wAx1 ?whAx1 ?whSx1 ?whFx1
          case whAx1 => intro u K hK; simp only [List.take_succ_cons, List.take_zero, Loud.puts]; go_simp; exact hK
          case whSx1 =>
            simp only [List.take_succ_cons, List.take_zero, Loud.stepsW]
            refine ⟨?wsx1_0, ?wsx1_1, ?wsx1_2, ?wsx1_3, trivial⟩
            case wsx1_0 =>
              intro u β wq hq h
              repeat (obtain ⟨h1, h⟩ := h; first | (replace h1 := h1 rfl; simp only [go_sem] at h1; try (obtain ⟨h1, h1b⟩ := h1)) | (have hno := (h1 : Region.binds _ _ = true → _); clear hno h1))
              refine Or.inl ⟨rfl, fun K hK => ?_⟩
              exact does_load_row rfl rfl (hq.keep HB.out) und_b256 rfl HI.out (hK _ 0 _ (Ext.refl _) rfl)
            case wsx1_1 =>
              intro u β wq hq h
              repeat (obtain ⟨h1, h⟩ := h; first | (replace h1 := h1 rfl; simp only [go_sem] at h1; try (obtain ⟨h1, h1b⟩ := h1)) | (have hno := (h1 : Region.binds _ _ = true → _); clear hno h1))
              refine Or.inl ⟨rfl, fun K hK => ?_⟩
              exact does_load_row rfl rfl (hq.keep HU.out) und_b256 rfl HJ.out (hK _ 0 _ (Ext.refl _) rfl)
            case wsx1_2 =>
              intro u β wq hq h
              repeat (obtain ⟨h1, h⟩ := h; first | (replace h1 := h1 rfl; simp only [go_sem] at h1; try (obtain ⟨h1, h1b⟩ := h1)) | (have hno := (h1 : Region.binds _ _ = true → _); clear hno h1))
              refine Or.inl ⟨rfl, fun K hK => ?_⟩
              exact does_store_row_same rfl rfl h1 (hq.keep HB.out) HI.out (bcells_all _) (hK _ 0 _ (Ext.refl _) trivial)
            case wsx1_3 =>
              intro u β wq hq h
              repeat (obtain ⟨h1, h⟩ := h; first | (replace h1 := h1 rfl; simp only [go_sem] at h1; try (obtain ⟨h1, h1b⟩ := h1)) | (have hno := (h1 : Region.binds _ _ = true → _); clear hno h1))
              refine Or.inl ⟨rfl, fun K hK => ?_⟩
              exact does_store_row_same rfl rfl h1 (hq.keep HU.out) HJ.out (bcells_all _) (hK _ 0 _ (Ext.refl _) trivial)
          intro u β w9 hq h
          have h0 := h 0 (by omega)
          have h1 := h 1 (by omega)
          have h2 := h 2 (by omega)
          have h3 := h 3 (by omega)
          clear h
          simp only [go_sem] at h0 h1 h2 h3
          simp only [List.drop_succ_cons, List.drop_zero]
          go_wp2
          refine bodyPost_ret (results_two_rows rfl _ _ w.heap.size (w.heap.size + 1) _ _ (bcells boxT) (bcells unT) _ _ _ rfl rfl (hq.keep HB.out) (hq.keep HU.out) und_b256 rfl HI.out HJ.out) rfl ?_
          exact ⟨rfl, hx.trans hq⟩
end Go.Proofs.YtclekllaikcglaaGreat
namespace Go.Proofs.YtclekllaikcglaaGreat
open Go Go.RowKit

theorem setRow_get {w : World} {g : Nat} {old cs : Array Value} {t : TypeId} (hg : w.heap[g]? = some (.cells old t (0, 0))) : (w.setRow g cs).heap[g]? = some (.cells cs t (0, 0)) := setRow_heap w g old cs t _ hg
end Go.Proofs.YtclekllaikcglaaGreat
namespace Go.Proofs.YtclekllaikcglaaGreat
open Go Go.RowKit

theorem bitN_le (n k : Nat) : bitN n k = 0 ∨ bitN n k = 1 := Nat.mod_two_eq_zero_or_one _
theorem and_bit8 (b : UInt8) (k : Nat) : bits .and .u8 ((b.toNat : Int) / 2 ^ k) 1 = (bitN b.toNat k : Int) := by
  have hl : b.toNat / 2 ^ k < 256 := Nat.lt_of_le_of_lt (Nat.div_le_self _ _) b.toNat_lt
  have h := band8_1 (b8 (b.toNat / 2 ^ k))
  rw [b8_toNat _ hl] at h
  rw [show ((b.toNat : Int) / 2 ^ k) = ((b.toNat / 2 ^ k : Nat) : Int) by simp]
  exact h
theorem i64_small (n : Int) (h0 : 0 ≤ n) (h1 : n < 2 ^ 62) : IntKind.i64.wrap n = n := by rw [IntKind.wrap_i64]; omega
theorem and_bit64 (n k : Nat) (hn : n < 32768) : bits .and .i64 ((n : Int) / 2 ^ k) 1 = (bitN n k : Int) := by
  have hl : n / 2 ^ k < 2 ^ 62 := Nat.lt_of_le_of_lt (Nat.div_le_self _ _) (by omega)
  have h := (bits_nat .i64 62 (by decide) i64_small (n / 2 ^ k) 1 hl (by decide)).1
  rw [Nat.and_one_is_mod] at h
  rw [show ((n : Int) / 2 ^ k) = ((n / 2 ^ k : Nat) : Int) by simp]
  exact h
theorem xor64 (n m : Nat) (hn : n < 32768) (hm : m < 32768) : bits .xor .i64 (n : Int) (m : Int) = ((Nat.xor n m : Nat) : Int) := by
  have h1 : ∀ x : Nat, x < 32768 → (BitVec.ofInt 64 (x : Int)).toNat = x := fun x hx => by
    rw [BitVec.toNat_ofInt]
    omega
  have h2 : Nat.xor n m < 2 ^ 15 := Nat.xor_lt_two_pow (n := 15) hn hm
  show IntKind.i64.wrap ((BitVec.ofInt 64 (n : Int) ^^^ BitVec.ofInt 64 (m : Int)).toNat : Int) = _
  rw [BitVec.toNat_xor, h1 n hn, h1 m hm]
  exact i64_small ((Nat.xor n m : Nat) : Int) (by omega) (by omega)
theorem shl_lt (a k : Nat) (ha : a < 256) (hk : k < 8) : a * 2 ^ k < 32768 := by
  have : 2 ^ k ≤ 2 ^ 7 := Nat.pow_le_pow_right (by omega) (by omega)
  calc a * 2 ^ k ≤ 255 * 2 ^ 7 := Nat.mul_le_mul (by omega) this
    _ < 32768 := by decide
theorem shm_lt (k : Nat) (hk : k ≤ 6) : 283 * 2 ^ k < 32768 := by
  have : 2 ^ k ≤ 2 ^ 6 := Nat.pow_le_pow_right (by omega) hk
  calc 283 * 2 ^ k ≤ 283 * 2 ^ 6 := Nat.mul_le_mul (by omega) this
    _ < 32768 := by decide
set_option maxRecDepth 100000 in
set_option maxHeartbeats 2000000 in
theorem refTimes_any (a b : UInt8) (w : World) : Calls Tryz.prog 167 #[.int .u8 (a.toNat : Int), .int .u8 (b.toNat : Int)] w fun e w' => e = .returned (.int .u8 ((gm a b).toNat : Int)) ∧ w = w' := by
  have hal := a.toNat_lt
  have hbl := b.toNat_lt
  go_enter Tryz.func167, Tryz.ntmps167
  go_wp2
  go_loopw [5, 6] (fun n i wr => ∃ k : Nat, k ≤ 8 ∧ n = .int .i64 (rf1 a.toNat b.toNat k : Int) ∧ i = .int .i64 k ∧ w = wr) (fun _ i _ => 8 - (intOf i).toNat)
  case atStart => exact ⟨0, by omega, rfl, rfl, rfl⟩
  case round =>
    obtain ⟨k, hk, rfl, rfl, rfl⟩ := hrel
    by_cases hlt : k < 8
    · have hn := rf1_lt a.toNat b.toNat hal k hk
      have HN : Hid (rf1 a.toNat b.toNat (k + 1) = Nat.xor (rf1 a.toNat b.toNat k) (bitN b.toNat k * (a.toNat * 2 ^ k))) := Lib.hid rfl
      have hbit := and_bit8 b k
      have hsl := shl_lt a.toNat k hal hlt
      have hx := xor64 (rf1 a.toNat b.toNat k) (a.toNat * 2 ^ k) hn hsl
      have hcast : ((a.toNat * 2 ^ k : Nat) : Int) = (a.toNat : Int) * 2 ^ k := by simp
      rw [hcast] at hx
      have hw : IntKind.i64.wrap ((a.toNat : Int) * 2 ^ k) = (a.toNat : Int) * 2 ^ k := by rw [← hcast]; exact i64_small _ (by omega) (by omega)
      clear hcast hsl
      generalize rf1 a.toNat b.toNat k = n at *
      rcases bitN_le b.toNat k with h0 | h1
      · rw [h0] at hbit HN
        have H0 : Hid (Nat.xor n (0 * (a.toNat * 2 ^ k)) = n) := Lib.hid (by rw [Nat.zero_mul]; exact Nat.xor_zero n)
        clear h0 hx hw
        go_wp2
        go_roundw
        case measure => simp [intOf]; omega
        case rel => exact ⟨k + 1, by omega, by rw [HN.out, H0.out], by go_num, by first | rfl | trivial⟩
      · rw [h1] at hbit HN
        have H1 : Hid (Nat.xor n (1 * (a.toNat * 2 ^ k)) = Nat.xor n (a.toNat * 2 ^ k)) := Lib.hid (by rw [Nat.one_mul])
        clear h1
        go_wp2
        go_roundw
        case measure => simp [intOf]; omega
        case rel => exact ⟨k + 1, by omega, by rw [HN.out, H1.out]; rfl, by go_num, by first | rfl | trivial⟩
    · obtain rfl : k = 8 := by omega
      have hn8 := rf1_lt a.toNat b.toNat hal 8 (by omega)
      have HG := Lib.hid (rf_gm a b)
      generalize rf1 a.toNat b.toNat 8 = N at *
      go_wp2
      go_loopw [5, 7] (fun n i wr => ∃ (k j : Nat), k ≤ 7 ∧ n = .int .i64 (rf2 N k : Int) ∧ i = .int .i64 ((j : Int) - 1) ∧ j + k = 15 ∧ w = wr) (fun _ i _ => (intOf i).toNat)
      case atStart => exact ⟨0, 15, by omega, rfl, rfl, rfl, rfl⟩
      case round =>
        obtain ⟨k, j, hk, rfl, rfl, hj, rfl⟩ := hrel
        have hn := rf2_lt N hn8 k hk
        by_cases hlt : k < 7
        · obtain ⟨i, hi⟩ : ∃ i : Nat, (j : Int) - 1 = (i : Int) := ⟨j - 1, by omega⟩
          obtain ⟨m, hm⟩ : ∃ m : Nat, (i : Int) - 8 = (m : Int) := ⟨i - 8, by omega⟩
          have hi8 : (8 : Int) ≤ (i : Int) := by omega
          have HN : Hid (rf2 N (k + 1) = Nat.xor (rf2 N k) (bitN (rf2 N k) i * (283 * 2 ^ m))) := Lib.hid (by
            rw [rf2, rfs, show 14 - k = i by omega, show 6 - k = m by omega])
          have hbit := and_bit64 (rf2 N k) i hn
          have hsl := shm_lt m (by omega)
          have hx := xor64 (rf2 N k) (283 * 2 ^ m) hn hsl
          have hcast : ((283 * 2 ^ m : Nat) : Int) = 283 * 2 ^ m := by simp
          rw [hcast] at hx
          have hw : IntKind.i64.wrap (283 * 2 ^ m : Int) = 283 * 2 ^ m := by rw [← hcast]; exact i64_small _ (by omega) (by omega)
          clear hcast hsl
          have hni : Hid ((j : Int) - 1 = (i : Int)) := Lib.hid hi
          generalize rf2 N k = n at *
          rcases bitN_le n i with h0 | h1
          · rw [h0] at hbit HN
            have H0 : Hid (Nat.xor n (0 * (283 * 2 ^ m)) = n) := Lib.hid (by rw [Nat.zero_mul]; exact Nat.xor_zero n)
            clear h0 hx hw
            go_wp2
            go_roundw
            case measure => simp [intOf]; omega
            case rel => exact ⟨k + 1, i, by omega, by rw [HN.out, H0.out], rfl, by omega, by first | rfl | trivial⟩
          · rw [h1] at hbit HN
            have H1 : Hid (Nat.xor n (1 * (283 * 2 ^ m)) = Nat.xor n (283 * 2 ^ m)) := Lib.hid (by rw [Nat.one_mul])
            clear h1
            go_wp2
            go_roundw
            case measure => simp [intOf]; omega
            case rel => exact ⟨k + 1, i, by omega, by rw [HN.out, H1.out]; rfl, rfl, by omega, by first | rfl | trivial⟩
        · obtain rfl : k = 7 := by omega
          obtain rfl : j = 8 := by omega
          rw [HG.out] at hn ⊢
          have hy := (gm a b).toNat_lt
          generalize hgy : gm a b = y at hn hy ⊢
          have HY := Lib.hid hgy
          clear hgy HG
          go_wp2
          go_returns
          exact ⟨by rw [HY.out]; rfl, rfl⟩
end Go.Proofs.YtclekllaikcglaaGreat
namespace Go.Proofs.YtclekllaikcglaaGreat
open Go Go.RowKit

def invS (b : UInt8) : Nat → Nat → UInt8
  | 0, _ => 0
  | f + 1, j => if gm b (b8 j) = 1 then b8 j else invS b f (j + 1)
def invO (b : UInt8) : UInt8 := invS b 255 1
set_option maxRecDepth 100000 in
set_option maxHeartbeats 1000000 in
theorem inverse_any (b : UInt8) (w : World) : Calls Tryz.prog 166 #[.int .u8 (b.toNat : Int)] w fun e w' => e = .returned (.int .u8 ((invO b).toNat : Int)) ∧ w = w' := by
  have GT := Lib.hid refTimes_any
  go_enter Tryz.func166, Tryz.ntmps166
  go_wp2
  go_loopw [3] (fun i wr => ∃ j : Nat, 1 ≤ j ∧ j ≤ 256 ∧ i = .int .i64 j ∧ invS b (256 - j) j = invO b ∧ w = wr) (fun i _ => 256 - (intOf i).toNat)
  case atStart => exact ⟨1, by omega, by omega, rfl, rfl, rfl⟩
  case round =>
    obtain ⟨j, hj1, hj2, rfl, hs, rfl⟩ := hrel
    have HS := Lib.hid hs
    clear hs
    by_cases hlt : j < 256
    · have hw8 : IntKind.u8.wrap (j : Int) = ((b8 j).toNat : Int) := by rw [b8_toNat _ hlt, IntKind.wrap_u8]; omega
      have HN : Hid (invS b (256 - j) j = if gm b (b8 j) = 1 then b8 j else invS b (256 - (j + 1)) (j + 1)) := Lib.hid (by
        rw [show 256 - j = (256 - (j + 1)) + 1 by omega]; rfl)
      by_cases h1 : gm b (b8 j) = 1
      · have hy : ((gm b (b8 j)).toNat : Int) = 1 := by rw [h1]; rfl
        have H1 := Lib.hid h1
        clear h1
        generalize hbj : b8 j = v at *
        go_wp2_with (go_at_call 167; with_reducible refine (GT.out _ _ _).mono ?_; rintro e w' ⟨rfl, rfl⟩)
        go_returns
        exact ⟨by rw [← HS.out, HN.out, if_pos H1.out]; rfl, rfl⟩
      · have hy : ¬ ((gm b (b8 j)).toNat : Int) = 1 := by
          intro h
          apply h1
          apply UInt8.toNat_inj.1
          show (gm b (b8 j)).toNat = 1
          omega
        have hyb : (((gm b (b8 j)).toNat : Int) == 1) = false := by simpa using hy
        have H1 := Lib.hid h1
        clear h1
        go_wp2_with (go_at_call 167; with_reducible refine (GT.out _ _ _).mono ?_; rintro e w' ⟨rfl, rfl⟩)
        go_roundw
        case measure => simp [intOf]; omega
        case rel => exact ⟨j + 1, by omega, by omega, by go_num, by rw [← HS.out, HN.out, if_neg H1.out], by first | rfl | trivial⟩
    · obtain rfl : j = 256 := by omega
      go_wp2
      go_returns
      exact ⟨by rw [← HS.out]; rfl, rfl⟩
def sh (c : UInt8) (k : Nat) : UInt8 := b8 (c.toNat / 2 ^ k)
theorem sh_toNat (c : UInt8) (k : Nat) : (c.toNat : Int) / 2 ^ k = ((sh c k).toNat : Int) := by
  unfold sh
  rw [b8_toNat _ (Nat.lt_of_le_of_lt (Nat.div_le_self _ _) c.toNat_lt)]
  simp
def nR (c : UInt8) (k : Nat) : UInt8 := x8 (x8 (x8 (x8 (x8 (sh c k) (sh c ((k + 4) % 8))) (sh c ((k + 5) % 8))) (sh c ((k + 6) % 8))) (sh c ((k + 7) % 8))) (sh 99 k)
def outR (c : UInt8) : Nat → UInt8
  | 0 => 0
  | k + 1 => o8 (outR c k) (b8 ((nR c k).toNat % 2 * 2 ^ k))
set_option maxRecDepth 100000 in
set_option maxHeartbeats 2000000 in
theorem refBox_any (b : UInt8) (w : World) : Calls Tryz.prog 159 #[.int .u8 (b.toNat : Int)] w fun e w' => e = .returned (.int .u8 ((outR (invO b) 8).toNat : Int)) ∧ w = w' := by
  have GI := Lib.hid inverse_any
  generalize hc : invO b = c
  have HC := Lib.hid hc
  clear hc
  go_enter Tryz.func159, Tryz.ntmps159
  go_wp2_with (go_at_call 166; with_reducible refine (GI.out _ _).mono ?_; rintro e w' ⟨rfl, rfl⟩; rw [HC.out])
  go_loopw [4, 5] (fun o i wr => ∃ k : Nat, k ≤ 8 ∧ o = .int .u8 ((outR c k).toNat : Int) ∧ i = .int .i64 k ∧ w = wr) (fun _ i _ => 8 - (intOf i).toNat)
  case atStart => exact ⟨0, by omega, rfl, rfl, rfl⟩
  case round =>
    obtain ⟨k, hk, rfl, rfl, rfl⟩ := hrel
    by_cases hlt : k < 8
    · have HO : Hid (outR c (k + 1) = o8 (outR c k) (b8 ((nR c k).toNat % 2 * 2 ^ k))) := Lib.hid rfl
      generalize outR c k = out at *
      have HNR : Hid (nR c k = x8 (x8 (x8 (x8 (x8 (sh c k) (sh c ((k + 4) % 8))) (sh c ((k + 5) % 8))) (sh c ((k + 6) % 8))) (sh c ((k + 7) % 8))) (sh 99 k)) := Lib.hid rfl
      obtain ⟨r4, h4⟩ : ∃ r : Nat, ((k : Int) + 4).tmod 8 = (r : Int) := ⟨(k + 4) % 8, by rw [Int.tmod_eq_emod_of_nonneg (by omega)]; omega⟩
      obtain ⟨r5, h5⟩ : ∃ r : Nat, ((k : Int) + 5).tmod 8 = (r : Int) := ⟨(k + 5) % 8, by rw [Int.tmod_eq_emod_of_nonneg (by omega)]; omega⟩
      obtain ⟨r6, h6⟩ : ∃ r : Nat, ((k : Int) + 6).tmod 8 = (r : Int) := ⟨(k + 6) % 8, by rw [Int.tmod_eq_emod_of_nonneg (by omega)]; omega⟩
      obtain ⟨r7, h7⟩ : ∃ r : Nat, ((k : Int) + 7).tmod 8 = (r : Int) := ⟨(k + 7) % 8, by rw [Int.tmod_eq_emod_of_nonneg (by omega)]; omega⟩
      have hsh := sh_toNat c
      have h99 : ∀ r : Nat, (99 : Int) / 2 ^ r = ((sh 99 r).toNat : Int) := fun r => sh_toNat 99 r
      have l4 : r4 < 8 := by have := Int.tmod_lt_of_pos ((k : Int) + 4) (b := 8) (by omega); omega
      have l5 : r5 < 8 := by have := Int.tmod_lt_of_pos ((k : Int) + 5) (b := 8) (by omega); omega
      have l6 : r6 < 8 := by have := Int.tmod_lt_of_pos ((k : Int) + 6) (b := 8) (by omega); omega
      have l7 : r7 < 8 := by have := Int.tmod_lt_of_pos ((k : Int) + 7) (b := 8) (by omega); omega
      have e4 : Hid (r4 = (k + 4) % 8) := Lib.hid (by rw [Int.tmod_eq_emod_of_nonneg (by omega)] at h4; omega)
      have e5 : Hid (r5 = (k + 5) % 8) := Lib.hid (by rw [Int.tmod_eq_emod_of_nonneg (by omega)] at h5; omega)
      have e6 : Hid (r6 = (k + 6) % 8) := Lib.hid (by rw [Int.tmod_eq_emod_of_nonneg (by omega)] at h6; omega)
      have e7 : Hid (r7 = (k + 7) % 8) := Lib.hid (by rw [Int.tmod_eq_emod_of_nonneg (by omega)] at h7; omega)
      have u4 : IntKind.u64.wrap (r4 : Int) = (r4 : Int) := by rw [IntKind.wrap_u64]; omega
      have u5 : IntKind.u64.wrap (r5 : Int) = (r5 : Int) := by rw [IntKind.wrap_u64]; omega
      have u6 : IntKind.u64.wrap (r6 : Int) = (r6 : Int) := by rw [IntKind.wrap_u64]; omega
      have u7 : IntKind.u64.wrap (r7 : Int) = (r7 : Int) := by rw [IntKind.wrap_u64]; omega
      have n4 : min r4 8 = r4 := by omega
      have n5 : min r5 8 = r5 := by omega
      have n6 : min r6 8 = r6 := by omega
      have n7 : min r7 8 = r7 := by omega
      have HR : Hid (bits .or .u8 (out.toNat : Int) (bits .and .u8 ((x8 (x8 (x8 (x8 (x8 (sh c k) (sh c r4)) (sh c r5)) (sh c r6)) (sh c r7)) (sh 99 k)).toNat : Int) 1 * 2 ^ k % 256) = ((outR c (k + 1)).toNat : Int)) := Lib.hid (by
        rw [e4.out, e5.out, e6.out, e7.out, ← HNR.out, HO.out, band8_1, ← bor8, b8_mod]
        congr 1)
      go_wp2
      go_roundw
      case measure => simp [intOf]; omega
      case rel => exact ⟨k + 1, by omega, by rw [HR.out], by go_num, by first | rfl | trivial⟩
    · obtain rfl : k = 8 := by omega
      go_wp2
      go_returns
      exact ⟨rfl, rfl⟩
end Go.Proofs.YtclekllaikcglaaGreat
namespace Go.Proofs.YtclekllaikcglaaGreat
open Go Go.RowKit

/-- The first j from there on with that product. -/
def invN (b : Nat) : Nat → Nat → Nat
  | 0, _ => 0
  | f + 1, j => if Nat.beq (tmN 8 b j) 1 then j else invN b f (j + 1)
theorem invS_N (b : UInt8) : ∀ (f j : Nat), j + f ≤ 256 → (invS b f j).toNat = invN b.toNat f j
  | 0, _, _ => rfl
  | f + 1, j, h => by
    have hg : (gm b (b8 j)).toNat = tmN 8 b.toNat j := by rw [gm, tmU_toNat, b8_toNat j (by omega)]
    unfold invS invN
    by_cases h1 : gm b (b8 j) = 1
    · have : tmN 8 b.toNat j = 1 := by rw [← hg, h1]; rfl
      rw [if_pos h1, this, if_pos (by decide), b8_toNat j (by omega)]
    · have : ¬ tmN 8 b.toNat j = 1 := fun h2 => h1 (UInt8.toNat_inj.1 (by rw [hg, h2]; rfl))
      rw [if_neg h1, if_neg (by rw [Nat.beq_eq]; exact this), invS_N b f (j + 1) (by omega)]
theorem inv_all : ((List.range 256).all fun b => Nat.beq (outR (b8 (invN b 255 1)) 8).toNat (boxT.getD b 0).toNat) = true := by decide +kernel
theorem refBox_is (b : UInt8) : outR (invO b) 8 = boxO b := by
  have h := List.all_eq_true.1 inv_all b.toNat (List.mem_range.2 b.toNat_lt)
  have h := Nat.eq_of_beq_eq_true h
  have hi : invO b = b8 (invN b.toNat 255 1) := by
    have := invS_N b 255 1 (by omega)
    apply UInt8.toNat_inj.1
    rw [show invO b = invS b 255 1 from rfl, this, b8_toNat]
    rw [← this]; exact (invS b 255 1).toNat_lt
  apply UInt8.toNat_inj.1
  rw [hi, h]; rfl
theorem refBox_yes (b : UInt8) (w : World) : Calls Tryz.prog 159 #[.int .u8 (b.toNat : Int)] w fun e w' => e = .returned (.int .u8 ((boxO b).toNat : Int)) ∧ w = w' := refBox_is b ▸ refBox_any b w
set_option maxRecDepth 100000 in
set_option maxHeartbeats 2000000 in
theorem Table_any (w : World) : Calls Tryz.prog 143 #[] w (RetRow w 5 (boxT.map byteV)) := by
  have GB := Lib.hid refBox_yes
  go_enter Tryz.func143, Tryz.ntmps143
  go_wp2
  go_loopw [1, 2] (fun o i wr => ∃ k : Nat, k ≤ 256 ∧ i = .int .i64 k ∧ Row wr w.heap.size 5 o ((boxT.take k).map byteV) ∧ Ext w wr) (fun _ i _ => 256 - (intOf i).toNat)
  case atStart => exact ⟨0, by omega, rfl, Row.nil _ _ _, Ext.refl _⟩
  case round =>
    obtain ⟨k, hk, rfl, hrow, hx⟩ := hrel
    have hsz := hx.size
    by_cases hlt : k < 256
    · have hw8 : IntKind.u8.wrap (k : Int) = ((b8 k).toNat : Int) := by rw [b8_toNat _ (by omega), IntKind.wrap_u8]; omega
      have hbo : boxO (b8 k) = boxT[k]'(by rw [boxT_length]; exact hlt) := by
        unfold boxO
        rw [b8_toNat _ (by omega)]
        simp [List.getD, show k < boxT.length by rw [boxT_length]; exact hlt]
      have HS : Hid ((boxT.take (k + 1)).map byteV = (boxT.take k).map byteV ++ [byteV (boxO (b8 k))]) := Lib.hid (by
        rw [List.take_succ_eq_append_getElem (by rw [boxT_length]; exact hlt), List.map_append, List.map_cons, List.map_nil, hbo])
      have HL : Hid (((boxT.take k).map byteV).length = k) := Lib.hid (by rw [List.length_map, List.length_take, boxT_length]; omega)
      clear hbo
      generalize boxT.take k = bk at *
      generalize b8 k = b at *
      go_wp2_with (first
        | (go_at_call 159; refine (GB.out b _).mono ?_; rintro e w' ⟨rfl, rfl⟩)
        | (at_builtin; refine wpl_append rfl _ _ 27 rfl und_bytes info_u8 rfl (by omega) w.heap.size (by simp; omega) _ (bk.map byteV) rfl (hrow.ext ((Ext.refl _).alloc _)) ⟨wr.heap.size, 0, none⟩ 1 1 [byteV (boxO b)] rfl rfl (cells_one_new _ _ _) (oneCells [boxO b] (fun _ => rfl)) (by rw [HL.out]; omega) ?_; intro v' w3 hrow3 hb3 _))
      go_roundw
      case measure => simp [intOf]; omega
      case rel => exact ⟨k + 1, by omega, by go_num, by rw [HS.out]; exact hrow3, (hx.alloc _).trans_below hb3⟩
    · obtain rfl : k = 256 := by omega
      rw [List.take_of_length_le (by rw [boxT_length]; omega)] at hrow
      go_wp2
      go_returns
      exact ⟨_, rfl, hrow, hx⟩
def unF (b : UInt8) : Nat → Nat → UInt8
  | 0, _ => 0
  | f + 1, j => if boxT.getD j 0 = b then b8 j else unF b f (j + 1)
set_option maxRecDepth 100000 in
theorem un_all : ∀ b : Fin 256, unF (b8 b.val) 256 0 = unT.getD b.val 0 := by decide +kernel
theorem unF_is (b : UInt8) : unF b 256 0 = unO b := by
  have h := un_all ⟨b.toNat, b.toNat_lt⟩
  have hb : b8 b.toNat = b := by unfold b8; simp
  simp only [hb] at h
  exact h
end Go.Proofs.YtclekllaikcglaaGreat
