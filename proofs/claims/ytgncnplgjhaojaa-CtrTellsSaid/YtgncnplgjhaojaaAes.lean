/- Contracts: layer 4, products. -/
import Derived.Test.YtgncnplgjhaojaaGf
import Derived.Test.YtgncnplgjhaojaaWeave
import Derived.Test.YtgncnplgjhaojaaUnhex
import Derived.Laws.Tables
namespace Go.Proofs.Ytgncnplgjhaojaa
open Go Go.RowKit

theorem bxor8n {x y : Int} (m n : Nat) (hx : x = m) (hy : y = n) (hm : m < 256) (hn : n < 256) : bits .xor .u8 x y = ((Nat.xor m n : Nat) : Int) := by
  have := bxor8 (b8 m) (b8 n)
  rw [b8_toNat m hm, b8_toNat n hn, x8_toNat, b8_toNat m hm, b8_toNat n hn] at this
  rw [hx, hy]; exact this
theorem bor8n {x y : Int} (m n : Nat) (hx : x = m) (hy : y = n) (hm : m < 256) (hn : n < 256) : bits .or .u8 x y = ((m ||| n : Nat) : Int) := by
  have := bor8 (b8 m) (b8 n)
  rw [b8_toNat m hm, b8_toNat n hn, show (o8 (b8 m) (b8 n)).toNat = (b8 m).toNat ||| (b8 n).toNat from UInt8.toNat_or _ _, b8_toNat m hm, b8_toNat n hn] at this
  rw [hx, hy]; exact this
theorem band8_1 (b : UInt8) : bits .and .u8 (b.toNat : Int) 1 = ((b.toNat % 2 : Nat) : Int) := by
  have := band8 b 1
  rw [show (a8 b 1).toNat = b.toNat % 2 by unfold a8; rw [UInt8.toNat_and, show (1 : UInt8).toNat = 1 from rfl, Nat.and_one_is_mod]] at this
  exact this
theorem b_mod256 (x : UInt8) : ((x.toNat : Int) % 256) = (x.toNat : Int) := by have := x.toNat_lt; omega
theorem bxor8_0 (c : UInt8) : bits .xor .u8 (c.toNat : Int) 0 = (c.toNat : Int) := by
  have := bxor8 c 0
  rw [x8_z'] at this; exact this
set_option maxRecDepth 100000 in
theorem twice_any (a : UInt8) (w : World) : Calls Try.prog 32 #[.int .u8 (a.toNat : Int)] w fun e w' => e = .returned (.int .u8 ((tw a).toNat : Int)) ∧ w = w' := by
  have hal := a.toNat_lt
  have h : bits .xor .u8 ((a.toNat : Int) * 2 % 256) ((a.toNat : Int) / 128 * 27) = ((tw a).toNat : Int) := by
    rw [tw_toNat]
    exact bxor8n (a.toNat * 2 % 256) (a.toNat / 128 * 27) (by omega) (by omega) (by omega) (by omega)
  go_enter Try.func32, Try.ntmps32
  go_wp2
  go_returns
  exact ⟨rfl, rfl⟩
set_option maxRecDepth 100000 in
theorem turned_1 (a : UInt8) (w : World) : Calls Try.prog 48 #[.int .u8 (a.toNat : Int), .int .i64 1] w fun e w' => e = .returned (.int .u8 ((rot8 a 1).toNat : Int)) ∧ Ext w w' := by
  have hal := a.toNat_lt
  have h : bits .or .u8 ((a.toNat : Int) * 2 % 256) ((a.toNat : Int) / 128) = ((rot8 a 1).toNat : Int) := by
    have h1 := bor8n (x := (a.toNat : Int) * 2 % 256) (y := (a.toNat : Int) / 128) (a.toNat * 2 % 256) (a.toNat / 128) (by omega) (by omega) (by omega) (by omega)
    rw [h1]
    unfold rot8
    rw [b8_toNat _ (Nat.or_lt_two_pow (n := 8) (by omega) (by omega))]
  go_enter Try.func48, Try.ntmps48
  go_wp2
  refine Loud.wp_region_weave 8 w (Loud.sps [.val (.int .u8 (a.toNat : Int)), .val (.int .i64 1), .val (.int .u8 ((a.toNat : Int) * 2 % 256)), .val (.int .u8 (a.toNat : Int)), .val (.int .i64 1), .val (.int .i64 7), .val (.int .u8 ((a.toNat : Int) / 128)), .val (.int .u8 ((rot8 a 1).toNat : Int))]) (by kernel_rfl) (by kernel_rfl) (by show Ext _ _; repeat (first | exact Ext.refl _ | assumption | (with_reducible refine Ext.drew ?_) | (with_reducible refine Ext.drewN ?_ _) | (with_reducible refine Ext.alloc ?_ _) | (refine Ext.trans ?_ (by assumption)))) (Loud.sps_st _) ?wAx1 ?whAx1 ?whSx1 ?whFx1
  case whAx1 => intro u K hK; simp only [List.take_succ_cons, List.take_zero, Loud.puts]; go_simp; exact hK
  case whSx1 =>
    simp only [List.take_succ_cons, List.take_zero, Loud.stepsW]
    refine ⟨?wsx1_0, ?wsx1_1, ?wsx1_2, ?wsx1_3, ?wsx1_4, ?wsx1_5, ?wsx1_6, ?wsx1_7, trivial⟩
    case wsx1_0 =>
      intro u β wq hq h
      repeat (obtain ⟨h1, h⟩ := h; first | (replace h1 := h1 rfl; simp only [go_sem] at h1; try (obtain ⟨h1, h1b⟩ := h1)) | (have hno := (h1 : Region.binds _ _ = true → _); clear hno h1))
      refine Or.inl ⟨rfl, fun K hK => ?_⟩
      go_simp
      exact hK _ 0 _ (Ext.refl _) rfl
    case wsx1_1 =>
      intro u β wq hq h
      repeat (obtain ⟨h1, h⟩ := h; first | (replace h1 := h1 rfl; simp only [go_sem] at h1; try (obtain ⟨h1, h1b⟩ := h1)) | (have hno := (h1 : Region.binds _ _ = true → _); clear hno h1))
      refine Or.inl ⟨rfl, fun K hK => ?_⟩
      go_simp
      exact hK _ 0 _ (Ext.refl _) rfl
    case wsx1_2 =>
      intro u β wq hq h
      repeat (obtain ⟨h1, h⟩ := h; first | (replace h1 := h1 rfl; simp only [go_sem] at h1; try (obtain ⟨h1, h1b⟩ := h1)) | (have hno := (h1 : Region.binds _ _ = true → _); clear hno h1))
      refine Or.inl ⟨rfl, fun K hK => ?_⟩
      go_simp
      exact hK _ 0 _ (Ext.refl _) rfl
    case wsx1_3 =>
      intro u β wq hq h
      repeat (obtain ⟨h1, h⟩ := h; first | (replace h1 := h1 rfl; simp only [go_sem] at h1; try (obtain ⟨h1, h1b⟩ := h1)) | (have hno := (h1 : Region.binds _ _ = true → _); clear hno h1))
      refine Or.inl ⟨rfl, fun K hK => ?_⟩
      go_simp
      exact hK _ 0 _ (Ext.refl _) rfl
    case wsx1_4 =>
      intro u β wq hq h
      repeat (obtain ⟨h1, h⟩ := h; first | (replace h1 := h1 rfl; simp only [go_sem] at h1; try (obtain ⟨h1, h1b⟩ := h1)) | (have hno := (h1 : Region.binds _ _ = true → _); clear hno h1))
      refine Or.inl ⟨rfl, fun K hK => ?_⟩
      go_simp
      exact hK _ 0 _ (Ext.refl _) rfl
    case wsx1_5 =>
      intro u β wq hq h
      repeat (obtain ⟨h1, h⟩ := h; first | (replace h1 := h1 rfl; simp only [go_sem] at h1; try (obtain ⟨h1, h1b⟩ := h1)) | (have hno := (h1 : Region.binds _ _ = true → _); clear hno h1))
      refine Or.inl ⟨rfl, fun K hK => ?_⟩
      go_simp
      exact hK _ 0 _ (Ext.refl _) rfl
    case wsx1_6 =>
      intro u β wq hq h
      repeat (obtain ⟨h1, h⟩ := h; first | (replace h1 := h1 rfl; simp only [go_sem] at h1; try (obtain ⟨h1, h1b⟩ := h1)) | (have hno := (h1 : Region.binds _ _ = true → _); clear hno h1))
      refine Or.inl ⟨rfl, fun K hK => ?_⟩
      go_simp
      exact hK _ 0 _ (Ext.refl _) rfl
    case wsx1_7 =>
      intro u β wq hq h
      repeat (obtain ⟨h1, h⟩ := h; first | (replace h1 := h1 rfl; simp only [go_sem] at h1; try (obtain ⟨h1, h1b⟩ := h1)) | (have hno := (h1 : Region.binds _ _ = true → _); clear hno h1))
      refine Or.inl ⟨rfl, fun K hK => ?_⟩
      go_simp
      exact hK _ 0 _ (Ext.refl _) rfl
  intro u β w1 hq h
  have h0 := h 0 (by omega)
  have h1 := h 1 (by omega)
  have h2 := h 2 (by omega)
  have h3 := h 3 (by omega)
  have h4 := h 4 (by omega)
  have h5 := h 5 (by omega)
  have h6 := h 6 (by omega)
  have h7 := h 7 (by omega)
  clear h
  simp only [go_sem] at h0 h1 h2 h3 h4 h5 h6 h7
  simp only [List.drop_succ_cons, List.drop_zero]
  rw [h7]
  go_wp2
  go_returns
  exact ⟨rfl, hq⟩
set_option maxRecDepth 100000 in
theorem turned_2 (a : UInt8) (w : World) : Calls Try.prog 48 #[.int .u8 (a.toNat : Int), .int .i64 2] w fun e w' => e = .returned (.int .u8 ((rot8 a 2).toNat : Int)) ∧ Ext w w' := by
  have hal := a.toNat_lt
  have h : bits .or .u8 ((a.toNat : Int) * 4 % 256) ((a.toNat : Int) / 64) = ((rot8 a 2).toNat : Int) := by
    have h1 := bor8n (x := (a.toNat : Int) * 4 % 256) (y := (a.toNat : Int) / 64) (a.toNat * 4 % 256) (a.toNat / 64) (by omega) (by omega) (by omega) (by omega)
    rw [h1]
    unfold rot8
    rw [b8_toNat _ (Nat.or_lt_two_pow (n := 8) (by omega) (by omega))]
  go_enter Try.func48, Try.ntmps48
  go_wp2
  refine Loud.wp_region_weave 8 w (Loud.sps [.val (.int .u8 (a.toNat : Int)), .val (.int .i64 2), .val (.int .u8 ((a.toNat : Int) * 4 % 256)), .val (.int .u8 (a.toNat : Int)), .val (.int .i64 2), .val (.int .i64 6), .val (.int .u8 ((a.toNat : Int) / 64)), .val (.int .u8 ((rot8 a 2).toNat : Int))]) (by kernel_rfl) (by kernel_rfl) (by show Ext _ _; repeat (first | exact Ext.refl _ | assumption | (with_reducible refine Ext.drew ?_) | (with_reducible refine Ext.drewN ?_ _) | (with_reducible refine Ext.alloc ?_ _) | (refine Ext.trans ?_ (by assumption)))) (Loud.sps_st _) ?wAx2 ?whAx2 ?whSx2 ?whFx2
  case whAx2 => intro u K hK; simp only [List.take_succ_cons, List.take_zero, Loud.puts]; go_simp; exact hK
  case whSx2 =>
    simp only [List.take_succ_cons, List.take_zero, Loud.stepsW]
    refine ⟨?wsx2_0, ?wsx2_1, ?wsx2_2, ?wsx2_3, ?wsx2_4, ?wsx2_5, ?wsx2_6, ?wsx2_7, trivial⟩
    case wsx2_0 =>
      intro u β wq hq h
      repeat (obtain ⟨h1, h⟩ := h; first | (replace h1 := h1 rfl; simp only [go_sem] at h1; try (obtain ⟨h1, h1b⟩ := h1)) | (have hno := (h1 : Region.binds _ _ = true → _); clear hno h1))
      refine Or.inl ⟨rfl, fun K hK => ?_⟩
      go_simp
      exact hK _ 0 _ (Ext.refl _) rfl
    case wsx2_1 =>
      intro u β wq hq h
      repeat (obtain ⟨h1, h⟩ := h; first | (replace h1 := h1 rfl; simp only [go_sem] at h1; try (obtain ⟨h1, h1b⟩ := h1)) | (have hno := (h1 : Region.binds _ _ = true → _); clear hno h1))
      refine Or.inl ⟨rfl, fun K hK => ?_⟩
      go_simp
      exact hK _ 0 _ (Ext.refl _) rfl
    case wsx2_2 =>
      intro u β wq hq h
      repeat (obtain ⟨h1, h⟩ := h; first | (replace h1 := h1 rfl; simp only [go_sem] at h1; try (obtain ⟨h1, h1b⟩ := h1)) | (have hno := (h1 : Region.binds _ _ = true → _); clear hno h1))
      refine Or.inl ⟨rfl, fun K hK => ?_⟩
      go_simp
      exact hK _ 0 _ (Ext.refl _) rfl
    case wsx2_3 =>
      intro u β wq hq h
      repeat (obtain ⟨h1, h⟩ := h; first | (replace h1 := h1 rfl; simp only [go_sem] at h1; try (obtain ⟨h1, h1b⟩ := h1)) | (have hno := (h1 : Region.binds _ _ = true → _); clear hno h1))
      refine Or.inl ⟨rfl, fun K hK => ?_⟩
      go_simp
      exact hK _ 0 _ (Ext.refl _) rfl
    case wsx2_4 =>
      intro u β wq hq h
      repeat (obtain ⟨h1, h⟩ := h; first | (replace h1 := h1 rfl; simp only [go_sem] at h1; try (obtain ⟨h1, h1b⟩ := h1)) | (have hno := (h1 : Region.binds _ _ = true → _); clear hno h1))
      refine Or.inl ⟨rfl, fun K hK => ?_⟩
      go_simp
      exact hK _ 0 _ (Ext.refl _) rfl
    case wsx2_5 =>
      intro u β wq hq h
      repeat (obtain ⟨h1, h⟩ := h; first | (replace h1 := h1 rfl; simp only [go_sem] at h1; try (obtain ⟨h1, h1b⟩ := h1)) | (have hno := (h1 : Region.binds _ _ = true → _); clear hno h1))
      refine Or.inl ⟨rfl, fun K hK => ?_⟩
      go_simp
      exact hK _ 0 _ (Ext.refl _) rfl
    case wsx2_6 =>
      intro u β wq hq h
      repeat (obtain ⟨h1, h⟩ := h; first | (replace h1 := h1 rfl; simp only [go_sem] at h1; try (obtain ⟨h1, h1b⟩ := h1)) | (have hno := (h1 : Region.binds _ _ = true → _); clear hno h1))
      refine Or.inl ⟨rfl, fun K hK => ?_⟩
      go_simp
      exact hK _ 0 _ (Ext.refl _) rfl
    case wsx2_7 =>
      intro u β wq hq h
      repeat (obtain ⟨h1, h⟩ := h; first | (replace h1 := h1 rfl; simp only [go_sem] at h1; try (obtain ⟨h1, h1b⟩ := h1)) | (have hno := (h1 : Region.binds _ _ = true → _); clear hno h1))
      refine Or.inl ⟨rfl, fun K hK => ?_⟩
      go_simp
      exact hK _ 0 _ (Ext.refl _) rfl
  intro u β w1 hq h
  have h0 := h 0 (by omega)
  have h1 := h 1 (by omega)
  have h2 := h 2 (by omega)
  have h3 := h 3 (by omega)
  have h4 := h 4 (by omega)
  have h5 := h 5 (by omega)
  have h6 := h 6 (by omega)
  have h7 := h 7 (by omega)
  clear h
  simp only [go_sem] at h0 h1 h2 h3 h4 h5 h6 h7
  simp only [List.drop_succ_cons, List.drop_zero]
  rw [h7]
  go_wp2
  go_returns
  exact ⟨rfl, hq⟩
set_option maxRecDepth 100000 in
theorem turned_3 (a : UInt8) (w : World) : Calls Try.prog 48 #[.int .u8 (a.toNat : Int), .int .i64 3] w fun e w' => e = .returned (.int .u8 ((rot8 a 3).toNat : Int)) ∧ Ext w w' := by
  have hal := a.toNat_lt
  have h : bits .or .u8 ((a.toNat : Int) * 8 % 256) ((a.toNat : Int) / 32) = ((rot8 a 3).toNat : Int) := by
    have h1 := bor8n (x := (a.toNat : Int) * 8 % 256) (y := (a.toNat : Int) / 32) (a.toNat * 8 % 256) (a.toNat / 32) (by omega) (by omega) (by omega) (by omega)
    rw [h1]
    unfold rot8
    rw [b8_toNat _ (Nat.or_lt_two_pow (n := 8) (by omega) (by omega))]
  go_enter Try.func48, Try.ntmps48
  go_wp2
  refine Loud.wp_region_weave 8 w (Loud.sps [.val (.int .u8 (a.toNat : Int)), .val (.int .i64 3), .val (.int .u8 ((a.toNat : Int) * 8 % 256)), .val (.int .u8 (a.toNat : Int)), .val (.int .i64 3), .val (.int .i64 5), .val (.int .u8 ((a.toNat : Int) / 32)), .val (.int .u8 ((rot8 a 3).toNat : Int))]) (by kernel_rfl) (by kernel_rfl) (by show Ext _ _; repeat (first | exact Ext.refl _ | assumption | (with_reducible refine Ext.drew ?_) | (with_reducible refine Ext.drewN ?_ _) | (with_reducible refine Ext.alloc ?_ _) | (refine Ext.trans ?_ (by assumption)))) (Loud.sps_st _) ?wAx3 ?whAx3 ?whSx3 ?whFx3
  case whAx3 => intro u K hK; simp only [List.take_succ_cons, List.take_zero, Loud.puts]; go_simp; exact hK
  case whSx3 =>
    simp only [List.take_succ_cons, List.take_zero, Loud.stepsW]
    refine ⟨?wsx3_0, ?wsx3_1, ?wsx3_2, ?wsx3_3, ?wsx3_4, ?wsx3_5, ?wsx3_6, ?wsx3_7, trivial⟩
    case wsx3_0 =>
      intro u β wq hq h
      repeat (obtain ⟨h1, h⟩ := h; first | (replace h1 := h1 rfl; simp only [go_sem] at h1; try (obtain ⟨h1, h1b⟩ := h1)) | (have hno := (h1 : Region.binds _ _ = true → _); clear hno h1))
      refine Or.inl ⟨rfl, fun K hK => ?_⟩
      go_simp
      exact hK _ 0 _ (Ext.refl _) rfl
    case wsx3_1 =>
      intro u β wq hq h
      repeat (obtain ⟨h1, h⟩ := h; first | (replace h1 := h1 rfl; simp only [go_sem] at h1; try (obtain ⟨h1, h1b⟩ := h1)) | (have hno := (h1 : Region.binds _ _ = true → _); clear hno h1))
      refine Or.inl ⟨rfl, fun K hK => ?_⟩
      go_simp
      exact hK _ 0 _ (Ext.refl _) rfl
    case wsx3_2 =>
      intro u β wq hq h
      repeat (obtain ⟨h1, h⟩ := h; first | (replace h1 := h1 rfl; simp only [go_sem] at h1; try (obtain ⟨h1, h1b⟩ := h1)) | (have hno := (h1 : Region.binds _ _ = true → _); clear hno h1))
      refine Or.inl ⟨rfl, fun K hK => ?_⟩
      go_simp
      exact hK _ 0 _ (Ext.refl _) rfl
    case wsx3_3 =>
      intro u β wq hq h
      repeat (obtain ⟨h1, h⟩ := h; first | (replace h1 := h1 rfl; simp only [go_sem] at h1; try (obtain ⟨h1, h1b⟩ := h1)) | (have hno := (h1 : Region.binds _ _ = true → _); clear hno h1))
      refine Or.inl ⟨rfl, fun K hK => ?_⟩
      go_simp
      exact hK _ 0 _ (Ext.refl _) rfl
    case wsx3_4 =>
      intro u β wq hq h
      repeat (obtain ⟨h1, h⟩ := h; first | (replace h1 := h1 rfl; simp only [go_sem] at h1; try (obtain ⟨h1, h1b⟩ := h1)) | (have hno := (h1 : Region.binds _ _ = true → _); clear hno h1))
      refine Or.inl ⟨rfl, fun K hK => ?_⟩
      go_simp
      exact hK _ 0 _ (Ext.refl _) rfl
    case wsx3_5 =>
      intro u β wq hq h
      repeat (obtain ⟨h1, h⟩ := h; first | (replace h1 := h1 rfl; simp only [go_sem] at h1; try (obtain ⟨h1, h1b⟩ := h1)) | (have hno := (h1 : Region.binds _ _ = true → _); clear hno h1))
      refine Or.inl ⟨rfl, fun K hK => ?_⟩
      go_simp
      exact hK _ 0 _ (Ext.refl _) rfl
    case wsx3_6 =>
      intro u β wq hq h
      repeat (obtain ⟨h1, h⟩ := h; first | (replace h1 := h1 rfl; simp only [go_sem] at h1; try (obtain ⟨h1, h1b⟩ := h1)) | (have hno := (h1 : Region.binds _ _ = true → _); clear hno h1))
      refine Or.inl ⟨rfl, fun K hK => ?_⟩
      go_simp
      exact hK _ 0 _ (Ext.refl _) rfl
    case wsx3_7 =>
      intro u β wq hq h
      repeat (obtain ⟨h1, h⟩ := h; first | (replace h1 := h1 rfl; simp only [go_sem] at h1; try (obtain ⟨h1, h1b⟩ := h1)) | (have hno := (h1 : Region.binds _ _ = true → _); clear hno h1))
      refine Or.inl ⟨rfl, fun K hK => ?_⟩
      go_simp
      exact hK _ 0 _ (Ext.refl _) rfl
  intro u β w1 hq h
  have h0 := h 0 (by omega)
  have h1 := h 1 (by omega)
  have h2 := h 2 (by omega)
  have h3 := h 3 (by omega)
  have h4 := h 4 (by omega)
  have h5 := h 5 (by omega)
  have h6 := h 6 (by omega)
  have h7 := h 7 (by omega)
  clear h
  simp only [go_sem] at h0 h1 h2 h3 h4 h5 h6 h7
  simp only [List.drop_succ_cons, List.drop_zero]
  rw [h7]
  go_wp2
  go_returns
  exact ⟨rfl, hq⟩
set_option maxRecDepth 100000 in
theorem turned_4 (a : UInt8) (w : World) : Calls Try.prog 48 #[.int .u8 (a.toNat : Int), .int .i64 4] w fun e w' => e = .returned (.int .u8 ((rot8 a 4).toNat : Int)) ∧ Ext w w' := by
  have hal := a.toNat_lt
  have h : bits .or .u8 ((a.toNat : Int) * 16 % 256) ((a.toNat : Int) / 16) = ((rot8 a 4).toNat : Int) := by
    have h1 := bor8n (x := (a.toNat : Int) * 16 % 256) (y := (a.toNat : Int) / 16) (a.toNat * 16 % 256) (a.toNat / 16) (by omega) (by omega) (by omega) (by omega)
    rw [h1]
    unfold rot8
    rw [b8_toNat _ (Nat.or_lt_two_pow (n := 8) (by omega) (by omega))]
  go_enter Try.func48, Try.ntmps48
  go_wp2
  refine Loud.wp_region_weave 8 w (Loud.sps [.val (.int .u8 (a.toNat : Int)), .val (.int .i64 4), .val (.int .u8 ((a.toNat : Int) * 16 % 256)), .val (.int .u8 (a.toNat : Int)), .val (.int .i64 4), .val (.int .i64 4), .val (.int .u8 ((a.toNat : Int) / 16)), .val (.int .u8 ((rot8 a 4).toNat : Int))]) (by kernel_rfl) (by kernel_rfl) (by show Ext _ _; repeat (first | exact Ext.refl _ | assumption | (with_reducible refine Ext.drew ?_) | (with_reducible refine Ext.drewN ?_ _) | (with_reducible refine Ext.alloc ?_ _) | (refine Ext.trans ?_ (by assumption)))) (Loud.sps_st _) ?wAx4 ?whAx4 ?whSx4 ?whFx4
  case whAx4 => intro u K hK; simp only [List.take_succ_cons, List.take_zero, Loud.puts]; go_simp; exact hK
  case whSx4 =>
    simp only [List.take_succ_cons, List.take_zero, Loud.stepsW]
    refine ⟨?wsx4_0, ?wsx4_1, ?wsx4_2, ?wsx4_3, ?wsx4_4, ?wsx4_5, ?wsx4_6, ?wsx4_7, trivial⟩
    case wsx4_0 =>
      intro u β wq hq h
      repeat (obtain ⟨h1, h⟩ := h; first | (replace h1 := h1 rfl; simp only [go_sem] at h1; try (obtain ⟨h1, h1b⟩ := h1)) | (have hno := (h1 : Region.binds _ _ = true → _); clear hno h1))
      refine Or.inl ⟨rfl, fun K hK => ?_⟩
      go_simp
      exact hK _ 0 _ (Ext.refl _) rfl
    case wsx4_1 =>
      intro u β wq hq h
      repeat (obtain ⟨h1, h⟩ := h; first | (replace h1 := h1 rfl; simp only [go_sem] at h1; try (obtain ⟨h1, h1b⟩ := h1)) | (have hno := (h1 : Region.binds _ _ = true → _); clear hno h1))
      refine Or.inl ⟨rfl, fun K hK => ?_⟩
      go_simp
      exact hK _ 0 _ (Ext.refl _) rfl
    case wsx4_2 =>
      intro u β wq hq h
      repeat (obtain ⟨h1, h⟩ := h; first | (replace h1 := h1 rfl; simp only [go_sem] at h1; try (obtain ⟨h1, h1b⟩ := h1)) | (have hno := (h1 : Region.binds _ _ = true → _); clear hno h1))
      refine Or.inl ⟨rfl, fun K hK => ?_⟩
      go_simp
      exact hK _ 0 _ (Ext.refl _) rfl
    case wsx4_3 =>
      intro u β wq hq h
      repeat (obtain ⟨h1, h⟩ := h; first | (replace h1 := h1 rfl; simp only [go_sem] at h1; try (obtain ⟨h1, h1b⟩ := h1)) | (have hno := (h1 : Region.binds _ _ = true → _); clear hno h1))
      refine Or.inl ⟨rfl, fun K hK => ?_⟩
      go_simp
      exact hK _ 0 _ (Ext.refl _) rfl
    case wsx4_4 =>
      intro u β wq hq h
      repeat (obtain ⟨h1, h⟩ := h; first | (replace h1 := h1 rfl; simp only [go_sem] at h1; try (obtain ⟨h1, h1b⟩ := h1)) | (have hno := (h1 : Region.binds _ _ = true → _); clear hno h1))
      refine Or.inl ⟨rfl, fun K hK => ?_⟩
      go_simp
      exact hK _ 0 _ (Ext.refl _) rfl
    case wsx4_5 =>
      intro u β wq hq h
      repeat (obtain ⟨h1, h⟩ := h; first | (replace h1 := h1 rfl; simp only [go_sem] at h1; try (obtain ⟨h1, h1b⟩ := h1)) | (have hno := (h1 : Region.binds _ _ = true → _); clear hno h1))
      refine Or.inl ⟨rfl, fun K hK => ?_⟩
      go_simp
      exact hK _ 0 _ (Ext.refl _) rfl
    case wsx4_6 =>
      intro u β wq hq h
      repeat (obtain ⟨h1, h⟩ := h; first | (replace h1 := h1 rfl; simp only [go_sem] at h1; try (obtain ⟨h1, h1b⟩ := h1)) | (have hno := (h1 : Region.binds _ _ = true → _); clear hno h1))
      refine Or.inl ⟨rfl, fun K hK => ?_⟩
      go_simp
      exact hK _ 0 _ (Ext.refl _) rfl
    case wsx4_7 =>
      intro u β wq hq h
      repeat (obtain ⟨h1, h⟩ := h; first | (replace h1 := h1 rfl; simp only [go_sem] at h1; try (obtain ⟨h1, h1b⟩ := h1)) | (have hno := (h1 : Region.binds _ _ = true → _); clear hno h1))
      refine Or.inl ⟨rfl, fun K hK => ?_⟩
      go_simp
      exact hK _ 0 _ (Ext.refl _) rfl
  intro u β w1 hq h
  have h0 := h 0 (by omega)
  have h1 := h 1 (by omega)
  have h2 := h 2 (by omega)
  have h3 := h 3 (by omega)
  have h4 := h 4 (by omega)
  have h5 := h 5 (by omega)
  have h6 := h 6 (by omega)
  have h7 := h 7 (by omega)
  clear h
  simp only [go_sem] at h0 h1 h2 h3 h4 h5 h6 h7
  simp only [List.drop_succ_cons, List.drop_zero]
  rw [h7]
  go_wp2
  go_returns
  exact ⟨rfl, hq⟩
set_option maxRecDepth 100000 in
set_option maxHeartbeats 1000000 in
theorem times_any (a b : UInt8) (w : World) : Calls Try.prog 11 #[.int .u8 (a.toNat : Int), .int .u8 (b.toNat : Int)] w fun e w' => e = .returned (.int .u8 ((gm a b).toNat : Int)) ∧ w = w' := by
  have GT := Lib.hid twice_any
  go_enter Try.func11, Try.ntmps11
  go_wp2
  go_loopw [0, 1, 4] (fun x y c wr => ∃ (a' b' c' : UInt8), x = .int .u8 (a'.toNat : Int) ∧ y = .int .u8 (b'.toNat : Int) ∧ c = .int .u8 (c'.toNat : Int) ∧ x8 c' (gm a' b') = gm a b ∧ w = wr) (fun _ y _ _ => (intOf y).toNat)
  case atStart => exact ⟨a, b, 0, rfl, rfl, rfl, x8_z _, rfl⟩
  case round =>
    obtain ⟨a', b', c', rfl, rfl, rfl, hg, rfl⟩ := hrel
    have HG := Lib.hid hg
    clear hg
    have hal := b_mod256 a'
    have hx0 := bxor8_0 c'
    have hbl := b'.toNat_lt
    have hb2 : (b8 (b'.toNat / 2)).toNat = b'.toNat / 2 := b8_toNat _ (by omega)
    have HB : Hid ((b'.toNat : Int) / 2 = ((b8 (b'.toNat / 2)).toNat : Int)) := Lib.hid (by rw [hb2]; omega)
    have HS : Hid (gm a' b' = x8 (if b'.toNat % 2 = 1 then a' else 0) (gm (tw a') (b8 (b'.toNat / 2)))) := Lib.hid (by rw [gm_step, gm, hb2])
    clear hb2
    by_cases hlt : 0 < b'.toNat
    · rcases Nat.mod_two_eq_zero_or_one b'.toNat with hp | hp
      · have hb1 : bits .and .u8 (b'.toNat : Int) 1 = 0 := by rw [band8_1, hp]; rfl
        have HP := Lib.hid hp
        clear hp
        go_wp2_with (go_at_call 32; with_reducible refine (GT.out _ _).mono ?_; rintro e w' ⟨rfl, rfl⟩)
        go_roundw
        case measure => simp [intOf]; omega
        case rel => exact ⟨tw a', b8 (b'.toNat / 2), c', rfl, by rw [HB.out], rfl, by rw [← HG.out, HS.out, HP.out, if_neg (by decide), x8_z], trivial⟩
      · have hb1 : bits .and .u8 (b'.toNat : Int) 1 = 1 := by rw [band8_1, hp]; rfl
        have HP := Lib.hid hp
        clear hp
        go_wp2_with (go_at_call 32; with_reducible refine (GT.out _ _).mono ?_; rintro e w' ⟨rfl, rfl⟩)
        go_roundw
        case measure => simp [intOf]; omega
        case rel => exact ⟨tw a', b8 (b'.toNat / 2), x8 c' a', rfl, by rw [HB.out], rfl, by rw [← HG.out, HS.out, HP.out, if_pos rfl, x8_assoc], trivial⟩
    · have hz : b' = 0 := by
        apply UInt8.toNat_inj.1
        show b'.toNat = 0
        omega
      have hc : c' = gm a b := by rw [← HG.out, hz, gm_zero, x8_z']
      have HC := Lib.hid hc
      clear hc hz
      go_wp2
      go_returns
      exact ⟨by rw [← HC.out]; rfl, rfl⟩
end Go.Proofs.Ytgncnplgjhaojaa
