import Derived.Test.YtclekllaikcglaaGreatBase
import Derived.Test.YtclekllaikcglaaGreatWeave
import Derived.Test.YtclekllaikcglaaGreatUnhex
import Derived.Laws.Tables
import Derived.Laws.Rows
import Derived.Deep.DeepCutAuto
import Derived.Laws.CopyRow

/- Contracts: layer 4, products. -/
namespace Go.Proofs.YtclekllaikcglaaGreat
open Go Go.RowKit
theorem bxor8n {x y : Int} (m n : Nat) (hx : x = m) (hy : y = n) (hm : m < 256) (hn : n < 256) : bits .xor .u8 x y = ((Nat.xor m n : Nat) : Int) := by
 have := bxor8 (b8 m) (b8 n)
 rw [b8_toNat m hm, b8_toNat n hn, x8_toNat, b8_toNat m hm, b8_toNat n hn] at this
 rw [hx, hy]; exact this
theorem bor8n {x y : Int} (m n : Nat) (hx : x = m) (hy : y = n) (hm : m < 256) (hn : n < 256) : bits .or .u8 x y = ((m ||| n : Nat) : Int) := by
 have := bor8 (b8 m) (b8 n)
 rw [b8_toNat m hm, b8_toNat n hn, show (o8 (b8 m) (b8 n)).toNat = (b8 m).toNat ||| (b8 n).toNat from UInt8.toNat_or _ _, b8_toNat m hm, b8_toNat n hn] at this
 rw [hx, hy]; exact this
theorem band8_1 (b : UInt8) : bits .and .u8 (b.toNat : Int) 1 = ((b.toNat % 2 : Nat) : Int) := by
 have := band8 b 1
 rw [show (a8 b 1).toNat = b.toNat % 2 by unfold a8; rw [UInt8.toNat_and, show (1 : UInt8).toNat = 1 from rfl, Nat.and_one_is_mod]] at this
 exact this
theorem b_mod256 (x : UInt8) : ((x.toNat : Int) % 256) = (x.toNat : Int) := by have := x.toNat_lt; omega
theorem bxor8_0 (c : UInt8) : bits .xor .u8 (c.toNat : Int) 0 = (c.toNat : Int) := by
 have := bxor8 c 0
 rw [x8_z'] at this; exact this
set_option maxRecDepth 100000 in
theorem twice_any (a : UInt8) (w : World) : Calls Tryz.prog 126 #[.int .u8 (a.toNat : Int)] w fun e w' => e = .returned (.int .u8 ((tw a).toNat : Int)) ∧ w = w' := by
 have hal := a.toNat_lt
 have h : bits .xor .u8 ((a.toNat : Int) * 2 % 256) ((a.toNat : Int) / 128 * 27) = ((tw a).toNat : Int) := by
  rw [tw_toNat]
  exact bxor8n (a.toNat * 2 % 256) (a.toNat / 128 * 27) (by omega) (by omega) (by omega) (by omega)
 go_enter Tryz.func126, Tryz.ntmps126
 go_wp2
 go_returns
 exact ⟨rfl, rfl⟩
set_option maxRecDepth 100000 in
theorem turned_1 (a : UInt8) (w : World) : Calls Tryz.prog 145 #[.int .u8 (a.toNat : Int), .int .i64 1] w fun e w' => e = .returned (.int .u8 ((rot8 a 1).toNat : Int)) ∧ Ext w w' := by
 have hal := a.toNat_lt
 have h : bits .or .u8 ((a.toNat : Int) * 2 % 256) ((a.toNat : Int) / 128) = ((rot8 a 1).toNat : Int) := by
  have h1 := bor8n (x := (a.toNat : Int) * 2 % 256) (y := (a.toNat : Int) / 128) (a.toNat * 2 % 256) (a.toNat / 128) (by omega) (by omega) (by omega) (by omega)
  rw [h1]
  unfold rot8
  rw [b8_toNat _ (Nat.or_lt_two_pow (n := 8) (by omega) (by omega))]
 go_enter Tryz.func145, Tryz.ntmps145
 go_wp2
 refine Loud.wp_region_weave 8 w (Loud.sps [.val (.int .u8 (a.toNat : Int)), .val (.int .i64 1), .val (.int .u8 ((a.toNat : Int) * 2 % 256)), .val (.int .u8 (a.toNat : Int)), .val (.int .i64 1), .val (.int .i64 7), .val (.int .u8 ((a.toNat : Int) / 128)), .val (.int .u8 ((rot8 a 1).toNat : Int))]) (by kernel_rfl) (by kernel_rfl) (by show Ext _ _; repeat (first | exact Ext.refl _ | assumption | (with_reducible refine Ext.drew ?_) | (with_reducible refine Ext.drewN ?_ _) | (with_reducible refine Ext.alloc ?_ _) | (refine Ext.trans ?_ (by assumption)))) (Loud.sps_st _) ?wAx1 ?whAx1 ?whSx1 ?whFx1
 case whAx1 => intro u K hK; simp only [List.take_succ_cons, List.take_zero, Loud.puts]; go_simp; exact hK
 case whSx1 =>
  refine ⟨?wsx1_0, ?wsx1_1, ?wsx1_2, ?wsx1_3, ?wsx1_4, ?wsx1_5, ?wsx1_6, ?wsx1_7, trivial⟩
  all_goals (intro u β wq hq h; repeat (obtain ⟨h1, h⟩ := h; first | (replace h1 := h1 rfl; simp only [go_sem] at h1; try (obtain ⟨h1, h1b⟩ := h1)) | (have hno := (h1 : Region.binds _ _ = true → _); clear hno h1)))
  all_goals (first | refine Or.inl ⟨rfl, fun K hK => ?_⟩ | refine Or.inl ⟨Loud.wanted_of rfl rfl (congrArg some (by assumption)), fun K hK => ?_⟩); go_simp; exact hK _ 0 _ (Ext.refl _) rfl
 intro u β w1 hq h
 have h0 := h 0 (by omega)
 have h1 := h 1 (by omega)
 have h2 := h 2 (by omega)
 have h3 := h 3 (by omega)
 have h4 := h 4 (by omega)
 have h5 := h 5 (by omega)
 have h6 := h 6 (by omega)
 have h7 := h 7 (by omega)
 clear h
 simp only [go_sem] at h0 h1 h2 h3 h4 h5 h6 h7
 simp only [List.drop_succ_cons, List.drop_zero]
 rw [h7]
 go_wp2
 go_returns
 exact ⟨rfl, hq⟩
set_option maxRecDepth 100000 in
theorem turned_2 (a : UInt8) (w : World) : Calls Tryz.prog 145 #[.int .u8 (a.toNat : Int), .int .i64 2] w fun e w' => e = .returned (.int .u8 ((rot8 a 2).toNat : Int)) ∧ Ext w w' := by
 have hal := a.toNat_lt
 have h : bits .or .u8 ((a.toNat : Int) * 4 % 256) ((a.toNat : Int) / 64) = ((rot8 a 2).toNat : Int) := by
  have h1 := bor8n (x := (a.toNat : Int) * 4 % 256) (y := (a.toNat : Int) / 64) (a.toNat * 4 % 256) (a.toNat / 64) (by omega) (by omega) (by omega) (by omega)
  rw [h1]
  unfold rot8
  rw [b8_toNat _ (Nat.or_lt_two_pow (n := 8) (by omega) (by omega))]
 go_enter Tryz.func145, Tryz.ntmps145
 go_wp2
 refine Loud.wp_region_weave 8 w (Loud.sps [.val (.int .u8 (a.toNat : Int)), .val (.int .i64 2), .val (.int .u8 ((a.toNat : Int) * 4 % 256)), .val (.int .u8 (a.toNat : Int)), .val (.int .i64 2), .val (.int .i64 6), .val (.int .u8 ((a.toNat : Int) / 64)), .val (.int .u8 ((rot8 a 2).toNat : Int))]) (by kernel_rfl) (by kernel_rfl) (by show Ext _ _; repeat (first | exact Ext.refl _ | assumption | (with_reducible refine Ext.drew ?_) | (with_reducible refine Ext.drewN ?_ _) | (with_reducible refine Ext.alloc ?_ _) | (refine Ext.trans ?_ (by assumption)))) (Loud.sps_st _) ?wAx2 ?whAx2 ?whSx2 ?whFx2
 case whAx2 => intro u K hK; simp only [List.take_succ_cons, List.take_zero, Loud.puts]; go_simp; exact hK
 case whSx2 =>
  refine ⟨?wsx2_0, ?wsx2_1, ?wsx2_2, ?wsx2_3, ?wsx2_4, ?wsx2_5, ?wsx2_6, ?wsx2_7, trivial⟩
  all_goals (intro u β wq hq h; repeat (obtain ⟨h1, h⟩ := h; first | (replace h1 := h1 rfl; simp only [go_sem] at h1; try (obtain ⟨h1, h1b⟩ := h1)) | (have hno := (h1 : Region.binds _ _ = true → _); clear hno h1)))
  all_goals (first | refine Or.inl ⟨rfl, fun K hK => ?_⟩ | refine Or.inl ⟨Loud.wanted_of rfl rfl (congrArg some (by assumption)), fun K hK => ?_⟩); go_simp; exact hK _ 0 _ (Ext.refl _) rfl
 intro u β w1 hq h
 have h0 := h 0 (by omega)
 have h1 := h 1 (by omega)
 have h2 := h 2 (by omega)
 have h3 := h 3 (by omega)
 have h4 := h 4 (by omega)
 have h5 := h 5 (by omega)
 have h6 := h 6 (by omega)
 have h7 := h 7 (by omega)
 clear h
 simp only [go_sem] at h0 h1 h2 h3 h4 h5 h6 h7
 simp only [List.drop_succ_cons, List.drop_zero]
 rw [h7]
 go_wp2
 go_returns
 exact ⟨rfl, hq⟩
set_option maxRecDepth 100000 in
theorem turned_3 (a : UInt8) (w : World) : Calls Tryz.prog 145 #[.int .u8 (a.toNat : Int), .int .i64 3] w fun e w' => e = .returned (.int .u8 ((rot8 a 3).toNat : Int)) ∧ Ext w w' := by
 have hal := a.toNat_lt
 have h : bits .or .u8 ((a.toNat : Int) * 8 % 256) ((a.toNat : Int) / 32) = ((rot8 a 3).toNat : Int) := by
  have h1 := bor8n (x := (a.toNat : Int) * 8 % 256) (y := (a.toNat : Int) / 32) (a.toNat * 8 % 256) (a.toNat / 32) (by omega) (by omega) (by omega) (by omega)
  rw [h1]
  unfold rot8
  rw [b8_toNat _ (Nat.or_lt_two_pow (n := 8) (by omega) (by omega))]
 go_enter Tryz.func145, Tryz.ntmps145
 go_wp2
 refine Loud.wp_region_weave 8 w (Loud.sps [.val (.int .u8 (a.toNat : Int)), .val (.int .i64 3), .val (.int .u8 ((a.toNat : Int) * 8 % 256)), .val (.int .u8 (a.toNat : Int)), .val (.int .i64 3), .val (.int .i64 5), .val (.int .u8 ((a.toNat : Int) / 32)), .val (.int .u8 ((rot8 a 3).toNat : Int))]) (by kernel_rfl) (by kernel_rfl) (by show Ext _ _; repeat (first | exact Ext.refl _ | assumption | (with_reducible refine Ext.drew ?_) | (with_reducible refine Ext.drewN ?_ _) | (with_reducible refine Ext.alloc ?_ _) | (refine Ext.trans ?_ (by assumption)))) (Loud.sps_st _) ?wAx3 ?whAx3 ?whSx3 ?whFx3
 case whAx3 => intro u K hK; simp only [List.take_succ_cons, List.take_zero, Loud.puts]; go_simp; exact hK
 case whSx3 =>
  refine ⟨?wsx3_0, ?wsx3_1, ?wsx3_2, ?wsx3_3, ?wsx3_4, ?wsx3_5, ?wsx3_6, ?wsx3_7, trivial⟩
  all_goals (intro u β wq hq h; repeat (obtain ⟨h1, h⟩ := h; first | (replace h1 := h1 rfl; simp only [go_sem] at h1; try (obtain ⟨h1, h1b⟩ := h1)) | (have hno := (h1 : Region.binds _ _ = true → _); clear hno h1)))
  all_goals (first | refine Or.inl ⟨rfl, fun K hK => ?_⟩ | refine Or.inl ⟨Loud.wanted_of rfl rfl (congrArg some (by assumption)), fun K hK => ?_⟩); go_simp; exact hK _ 0 _ (Ext.refl _) rfl
 intro u β w1 hq h
 have h0 := h 0 (by omega)
 have h1 := h 1 (by omega)
 have h2 := h 2 (by omega)
 have h3 := h 3 (by omega)
 have h4 := h 4 (by omega)
 have h5 := h 5 (by omega)
 have h6 := h 6 (by omega)
 have h7 := h 7 (by omega)
 clear h
 simp only [go_sem] at h0 h1 h2 h3 h4 h5 h6 h7
 simp only [List.drop_succ_cons, List.drop_zero]
 rw [h7]
 go_wp2
 go_returns
 exact ⟨rfl, hq⟩
set_option maxRecDepth 100000 in
theorem turned_4 (a : UInt8) (w : World) : Calls Tryz.prog 145 #[.int .u8 (a.toNat : Int), .int .i64 4] w fun e w' => e = .returned (.int .u8 ((rot8 a 4).toNat : Int)) ∧ Ext w w' := by
 have hal := a.toNat_lt
 have h : bits .or .u8 ((a.toNat : Int) * 16 % 256) ((a.toNat : Int) / 16) = ((rot8 a 4).toNat : Int) := by
  have h1 := bor8n (x := (a.toNat : Int) * 16 % 256) (y := (a.toNat : Int) / 16) (a.toNat * 16 % 256) (a.toNat / 16) (by omega) (by omega) (by omega) (by omega)
  rw [h1]
  unfold rot8
  rw [b8_toNat _ (Nat.or_lt_two_pow (n := 8) (by omega) (by omega))]
 go_enter Tryz.func145, Tryz.ntmps145
 go_wp2
 refine Loud.wp_region_weave 8 w (Loud.sps [.val (.int .u8 (a.toNat : Int)), .val (.int .i64 4), .val (.int .u8 ((a.toNat : Int) * 16 % 256)), .val (.int .u8 (a.toNat : Int)), .val (.int .i64 4), .val (.int .i64 4), .val (.int .u8 ((a.toNat : Int) / 16)), .val (.int .u8 ((rot8 a 4).toNat : Int))]) (by kernel_rfl) (by kernel_rfl) (by show Ext _ _; repeat (first | exact Ext.refl _ | assumption | (with_reducible refine Ext.drew ?_) | (with_reducible refine Ext.drewN ?_ _) | (with_reducible refine Ext.alloc ?_ _) | (refine Ext.trans ?_ (by assumption)))) (Loud.sps_st _) ?wAx4 ?whAx4 ?whSx4 ?whFx4
 case whAx4 => intro u K hK; simp only [List.take_succ_cons, List.take_zero, Loud.puts]; go_simp; exact hK
 case whSx4 =>
  refine ⟨?wsx4_0, ?wsx4_1, ?wsx4_2, ?wsx4_3, ?wsx4_4, ?wsx4_5, ?wsx4_6, ?wsx4_7, trivial⟩
  all_goals (intro u β wq hq h; repeat (obtain ⟨h1, h⟩ := h; first | (replace h1 := h1 rfl; simp only [go_sem] at h1; try (obtain ⟨h1, h1b⟩ := h1)) | (have hno := (h1 : Region.binds _ _ = true → _); clear hno h1)))
  all_goals (first | refine Or.inl ⟨rfl, fun K hK => ?_⟩ | refine Or.inl ⟨Loud.wanted_of rfl rfl (congrArg some (by assumption)), fun K hK => ?_⟩); go_simp; exact hK _ 0 _ (Ext.refl _) rfl
 intro u β w1 hq h
 have h0 := h 0 (by omega)
 have h1 := h 1 (by omega)
 have h2 := h 2 (by omega)
 have h3 := h 3 (by omega)
 have h4 := h 4 (by omega)
 have h5 := h 5 (by omega)
 have h6 := h 6 (by omega)
 have h7 := h 7 (by omega)
 clear h
 simp only [go_sem] at h0 h1 h2 h3 h4 h5 h6 h7
 simp only [List.drop_succ_cons, List.drop_zero]
 rw [h7]
 go_wp2
 go_returns
 exact ⟨rfl, hq⟩
set_option maxRecDepth 100000 in
set_option maxHeartbeats 1000000 in
theorem times_any (a b : UInt8) (w : World) : Calls Tryz.prog 146 #[.int .u8 (a.toNat : Int), .int .u8 (b.toNat : Int)] w fun e w' => e = .returned (.int .u8 ((gm a b).toNat : Int)) ∧ w = w' := by
 have GT := Lib.hid twice_any
 go_enter Tryz.func146, Tryz.ntmps146
 go_wp2
 go_loopw [0, 1, 4] (fun x y c wr => ∃ (a' b' c' : UInt8), x = .int .u8 (a'.toNat : Int) ∧ y = .int .u8 (b'.toNat : Int) ∧ c = .int .u8 (c'.toNat : Int) ∧ x8 c' (gm a' b') = gm a b ∧ w = wr) (fun _ y _ _ => (intOf y).toNat)
 case atStart => exact ⟨a, b, 0, rfl, rfl, rfl, x8_z _, rfl⟩
 case round =>
  obtain ⟨a', b', c', rfl, rfl, rfl, hg, rfl⟩ := hrel
  have HG := Lib.hid hg
  clear hg
  have hal := b_mod256 a'
  have hx0 := bxor8_0 c'
  have hbl := b'.toNat_lt
  have hb2 : (b8 (b'.toNat / 2)).toNat = b'.toNat / 2 := b8_toNat _ (by omega)
  have HB : Hid ((b'.toNat : Int) / 2 = ((b8 (b'.toNat / 2)).toNat : Int)) := Lib.hid (by rw [hb2]; omega)
  have HS : Hid (gm a' b' = x8 (if b'.toNat % 2 = 1 then a' else 0) (gm (tw a') (b8 (b'.toNat / 2)))) := Lib.hid (by rw [gm_step, gm, hb2])
  clear hb2
  by_cases hlt : 0 < b'.toNat
  ·rcases Nat.mod_two_eq_zero_or_one b'.toNat with hp | hp
   ·have hb1 : bits .and .u8 (b'.toNat : Int) 1 = 0 := by rw [band8_1, hp]; rfl
    have HP := Lib.hid hp
    clear hp
    go_wp2_with (go_at_call 126; with_reducible refine (GT.out _ _).mono ?_; rintro e w' ⟨rfl, rfl⟩)
    go_roundw
    case measure => simp [intOf]; omega
    case rel => exact ⟨tw a', b8 (b'.toNat / 2), c', rfl, by rw [HB.out], rfl, by rw [← HG.out, HS.out, HP.out, if_neg (by decide), x8_z], trivial⟩
   ·have hb1 : bits .and .u8 (b'.toNat : Int) 1 = 1 := by rw [band8_1, hp]; rfl
    have HP := Lib.hid hp
    clear hp
    go_wp2_with (go_at_call 126; with_reducible refine (GT.out _ _).mono ?_; rintro e w' ⟨rfl, rfl⟩)
    go_roundw
    case measure => simp [intOf]; omega
    case rel => exact ⟨tw a', b8 (b'.toNat / 2), x8 c' a', rfl, by rw [HB.out], rfl, by rw [← HG.out, HS.out, HP.out, if_pos rfl, x8_assoc], trivial⟩
  ·have hz : b' = 0 := by
    apply UInt8.toNat_inj.1
    show b'.toNat = 0
    omega
   have hc : c' = gm a b := by rw [← HG.out, hz, gm_zero, x8_z']
   have HC := Lib.hid hc
   clear hc hz
   go_wp2
   go_returns
   exact ⟨by rw [← HC.out]; rfl, rfl⟩
end Go.Proofs.YtclekllaikcglaaGreat

/- Contracts: layer 4, boxes. -/
namespace Go.Proofs.YtclekllaikcglaaGreat
open Go Go.RowKit
theorem info_b256 : (Tryz.prog.info? 164).map (·.size) = some 256 := by kernel_rfl
theorem und_b256 : Tryz.prog.underlying 164 = some (.array 256 5) := by kernel_rfl
def z256 : Array Value := bcells (List.replicate 256 0)
theorem zero_b256 (w : World) : Sem.run Tryz.prog (zeroValue 164) w = .ok (.agg z256) w := by kernel_rfl
theorem heap_alloc2b (w : World) (o1 o2 : Obj) : ((w.alloc o1).alloc o2).heap[w.heap.size + 1]? = some o2 := by
 have := heap_alloc_new (w.alloc o1) o2
 rwa [World.size_alloc] at this
theorem does_load_row {P : Program} {o : Oper} {a : Act} {w : World} {K : Value → World → Prop} {ty : TypeId} {x : Operand} (ho : o.op = .load ty x)
  {g : Nat} (hx : a.eval x = .pointer (some ⟨g, 0, none⟩)) {t : TypeId} {cs : Array Value} {fr : Nat × Nat} {d : TypeDesc} (hg : w.heap[g]? = some (.cells cs t fr))
  (hu : P.underlying ty = some d) (hd : (match d with | .struct _ | .array _ _ => true | _ => false) = true) (hi : (P.info? ty).map (·.size) = some cs.size) (h : K (.agg cs) w) : Loud.does P o a w K := by
 unfold Loud.does execOp
 simp only [ho, hx, Instr.loadAt, Instr.sureAddr, Sem.run_bind, Sem.run_pure, Result.andThen_ok, run_loadVar_row w g t ty cs fr d hg hu hd hi]
 exact h
theorem setRow_same (w : World) (g : Nat) (cs : Array Value) (t : TypeId) (hg : w.heap[g]? = some (.cells cs t (0, 0))) : w.setRow g cs = w := by
 have hh : (w.setRow g cs).heap = w.heap := by
  apply Array.ext_getElem?
  intro k
  by_cases hk : k = g
  ·subst hk
   rw [setRow_heap w k cs cs t _ hg, hg]
  ·exact setRow_other w g k cs hk
 cases w
 simp only [World.setRow] at hh ⊢
 rw [hh]
theorem does_store_row_same {P : Program} {o : Oper} {a : Act} {w : World} {K : Value → World → Prop} {ty : TypeId} {x y : Operand} (ho : o.op = .store ty x y)
  {g : Nat} (hx : a.eval x = .pointer (some ⟨g, 0, none⟩)) {cs : Array Value} (hy : a.eval y = .agg cs) {t : TypeId} (hg : w.heap[g]? = some (.cells cs t (0, 0)))
  (hi : (P.info? ty).map (·.size) = some cs.size) (h1 : cs.all (·.oneCell') = true) (h : K undef w) : Loud.does P o a w K := by
 have hr := run_storeVar_row (P := P) w g t ty cs cs hg hi rfl h1
 rw [setRow_same w g cs t hg] at hr
 unfold Loud.does execOp
 simp only [ho, hx, hy, Instr.storeAt, Instr.sureAddr, Sem.run_bind, Sem.run_pure, Result.andThen_ok, hr]
 exact h
theorem results_two_rows {P : Program} {fn : Func} {p q : Tmp} {ty : TypeId} (h : fn.results = #[.cell p ty, .cell q ty]) (tmps : Array Value) (w : World) (g1 g2 : Nat) (t1 t2 : TypeId) (cs1 cs2 : Array Value) (f1 f2 : Nat × Nat) (d : TypeDesc)
  (hp : tmps.getD p undef = .pointer (some ⟨g1, 0, none⟩)) (hq : tmps.getD q undef = .pointer (some ⟨g2, 0, none⟩)) (hg1 : w.heap[g1]? = some (.cells cs1 t1 f1)) (hg2 : w.heap[g2]? = some (.cells cs2 t2 f2))
  (hu : P.underlying ty = some d) (hd : (match d with | .struct _ | .array _ _ => true | _ => false) = true) (hi1 : (P.info? ty).map (·.size) = some cs1.size) (hi2 : (P.info? ty).map (·.size) = some cs2.size) :
  (results fn tmps).run P w = .ok (.tuple #[.agg cs1, .agg cs2]) w := by
 have hp' : tmps[p]?.getD undef = .pointer (some ⟨g1, 0, none⟩) := by simpa using hp
 have hq' : tmps[q]?.getD undef = .pointer (some ⟨g2, 0, none⟩) := by simpa using hq
 simp [results, h, hp', hq', asAddr, run_loadVar_row w g1 t1 ty cs1 f1 d hg1 hu hd hi1, run_loadVar_row w g2 t2 ty cs2 f2 d hg2 hu hd hi2]
theorem bcells_all (l : List UInt8) : (bcells l).all (·.oneCell') = true := by
 rw [Array.all_eq_true_iff_forall_mem]
 intro v hv
 rw [bcells_toList] at hv
 obtain ⟨b, _, rfl⟩ := List.mem_map.1 (by simpa using hv)
 rfl
theorem run_index_one {P : Program} {t e n : Nat} {d : TypeDesc} (ht : P.underlying t = some (.array n e)) (he : P.underlying e = some d) (hd : (match d with | .struct _ | .array _ _ => true | _ => false) = false) (hi : (P.info? e).map (·.size) = some 1) (cs : Array Value) (v : Value) (k : Nat) (hk : k < n) (hc : cs[k]? = some v) (w : World) :
  (Instr.index t (.agg cs) (.int .i64 (k : Int))).run P w = .ok v w := by
 obtain ⟨i0, hi0, hs⟩ : ∃ i0, P.info? e = some i0 ∧ i0.size = 1 := by
  cases hq : P.info? e with
  | none => simp [hq] at hi
  | some i => exact ⟨i, rfl, by simpa [hq] using hi⟩
 have hagg : (isAgg e).run P w = .ok false w := by
  unfold isAgg
  rw [Sem.run_bind, run_underlying he w]
  cases d <;> simp_all
 simp [Instr.index, asIntOf, run_underlying ht, hk, sizeOf, typeInfo, hi0, hs, part, hagg, hc]
set_option maxRecDepth 100000 in
set_option maxHeartbeats 4000000 in
theorem boxes_any (w : World) : Calls Tryz.prog 123 #[] w fun e w' => e = .returned (.tuple #[.agg (bcells boxT), .agg (bcells unT)]) ∧ Ext w w' := by
 have hz := zero_b256
 have h99 : ∀ y : UInt8, bits .xor .u8 (y.toNat : Int) 99 = ((x8 y 99).toNat : Int) := fun y => bxor8 y 99
 have G1 := Lib.hid turned_1; have G2 := Lib.hid turned_2; have G3 := Lib.hid turned_3; have G4 := Lib.hid turned_4
 have T3 : Hid (∀ (p : UInt8) (W : World), Calls Tryz.prog 146 #[.int .u8 (p.toNat : Int), .int .u8 3] W fun e w' => e = .returned (.int .u8 ((gm p 3).toNat : Int)) ∧ W = w') := Lib.hid fun p W => times_any p 3 W
 have T6 : Hid (∀ (p : UInt8) (W : World), Calls Tryz.prog 146 #[.int .u8 (p.toNat : Int), .int .u8 246] W fun e w' => e = .returned (.int .u8 ((gm p 246).toNat : Int)) ∧ W = w') := Lib.hid fun p W => times_any p 246 W
 go_enter Tryz.func123, Tryz.ntmps123
 go_upto_region 2 with fail
 obtain ⟨w0, hw0⟩ : ∃ w0, (w.alloc (Obj.cells z256 164)).alloc (Obj.cells z256 164) = w0 := ⟨_, rfl⟩
 have k0 : w0.heap[w.heap.size]? = some (.cells (bcells (boxK 0)) 164) := by rw [← hw0]; exact heap_alloc_old _ _ (heap_alloc_new _ _)
 have k1 : w0.heap[w.heap.size + 1]? = some (.cells (bcells (unK 0)) 164) := by rw [← hw0]; exact heap_alloc2b _ _ _
 have kx : Ext w w0 := by rw [← hw0]; exact ((Ext.refl w).alloc _).alloc _
 rw [hw0]
 clear hw0 hz
 go_wp2
 go_loopw [2, 3, 6] (fun p q i wr => ∃ k : Nat, k ≤ 255 ∧ p = .int .u8 ((pT.getD k 0).toNat : Int) ∧ q = .int .u8 ((qT.getD k 0).toNat : Int) ∧ i = .int .i64 k ∧ wr.heap[w.heap.size]? = some (.cells (bcells (boxK k)) 164) ∧ wr.heap[w.heap.size + 1]? = some (.cells (bcells (unK 0)) 164) ∧ Ext w wr) (fun _ _ i _ => 255 - (intOf i).toNat)
 case atStart => exact ⟨0, by omega, rfl, rfl, rfl, k0, k1, kx⟩
 case round =>
  clear k0 k1 kx
  obtain ⟨k, hk, rfl, rfl, rfl, hb, hu, hx⟩ := hrel
  have HB := Lib.hid hb; have HU := Lib.hid hu; clear hb hu
  by_cases hlt : k < 255
  ·have hp := Lib.hid (pT_step ⟨k, hlt⟩)
   have hq := Lib.hid (qT_step ⟨k, hlt⟩)
   simp only at hp hq
   have hbl := boxK_length k
   have HK : Hid (boxK (k + 1) = (boxK k).set (pT.getD k 0).toNat (boxV (qT.getD k 0))) := Lib.hid rfl
   generalize pT.getD k 0 = p at *
   generalize qT.getD k 0 = q at *
   generalize boxK k = b at *
   have hpl := p.toNat_lt
   have hpb : p.toNat < b.length := by omega
   have HBL := Lib.hid hbl
   clear hbl
   go_wp2_with (first
    | (go_at_call 145; with_reducible refine (G1.out _ _).mono ?_; rintro e w1 ⟨rfl, hx1⟩)
    | (go_at_call 145; with_reducible refine (G2.out _ _).mono ?_; rintro e w2 ⟨rfl, hx2⟩)
    | (go_at_call 145; with_reducible refine (G3.out _ _).mono ?_; rintro e w3 ⟨rfl, hx3⟩)
    | (go_at_call 145; with_reducible refine (G4.out _ _).mono ?_; rintro e w4 ⟨rfl, hx4⟩; have hx' : Ext wr w4 := hx1.trans (hx2.trans (hx3.trans hx4)); have HB4 := Lib.hid (hx'.keep HB.out); have HU4 := Lib.hid (hx'.keep HU.out); have hc4 := cell_blk HB4.out (bcells_at b p.toNat hpb); have hf4 := frozen_blk (i := p.toNat) HB4.out)
    | (go_at_call 146; with_reducible refine (T3.out _ _).mono ?_; rintro e w' ⟨rfl, rfl⟩)
    | (go_at_call 146; with_reducible refine (T6.out _ _).mono ?_; rintro e w' ⟨rfl, rfl⟩))
   go_roundw
   case measure => simp [intOf]; omega
   case rel =>
    refine ⟨k + 1, by omega, by rw [hp.out], by rw [hq.out], by go_num, ?_, ?_, (hx.trans hx').setCell (Nat.le_refl _) _⟩
    ·rw [heap_setCell_same _ HB4.out, bcells_set, HK.out]; rfl
    ·rw [heap_setCell_other _ _ _ (by show w.heap.size + 1 ≠ w.heap.size; omega)]; exact HU4.out
  ·obtain rfl : k = 255 := by omega
   have hbl := boxK_length 255
   have HBA := Lib.hid boxK_all
   generalize boxK 255 = b at *
   generalize pT.getD 255 0 = p at *
   generalize qT.getD 255 0 = q at *
   obtain ⟨c0, hc0⟩ : ∃ c0, wr.cell? ⟨w.heap.size, 0, none⟩ = some c0 := ⟨_, cell_blk HB.out (bcells_at b 0 (by omega))⟩
   have hf0 := frozen_blk (i := 0) HB.out
   have HBL := Lib.hid hbl
   clear hbl
   go_upto_region 8 with fail
   obtain ⟨w8, hw8⟩ : ∃ w8, wr.setCell ⟨w.heap.size, 0, none⟩ (.int .u8 99) = w8 := ⟨_, rfl⟩
   have hb8 : w8.heap[w.heap.size]? = some (.cells (bcells boxT) 164) := by
    rw [← hw8, heap_setCell_same _ HB.out, show (Value.int .u8 99) = Value.int .u8 ((99 : UInt8).toNat : Int) from rfl, bcells_set, HBA.out]
   have hu8 : w8.heap[w.heap.size + 1]? = some (.cells (bcells (unK 0)) 164) := by
    rw [← hw8, heap_setCell_other _ _ _ (by show w.heap.size + 1 ≠ w.heap.size; omega)]; exact HU.out
   have hx8 : Ext w w8 := by rw [← hw8]; exact hx.setCell (Nat.le_refl _) _
   rw [hw8]
   clear hw8 HB HU hx hc0 hf0
   have hsz : (Tryz.prog.info? 164).map (·.size) = some (bcells boxT).size := by rw [bcells_size, boxT_length]; exact info_b256
   have HI := Lib.hid hsz
   have HB8 := Lib.hid hb8
   clear hsz hb8
   go_wp2_with (refine wpList_load_row rfl _ _ rfl w.heap.size rfl _ _ _ _ HB8.out und_b256 rfl HI.out ?_)
   obtain ⟨bt, hbt⟩ : ∃ bt, bcells boxT = bt := ⟨_, rfl⟩
   rw [hbt]
   have HBT := Lib.hid hbt
   clear hbt
   go_loopw [31] (fun i wr => ∃ k : Nat, k ≤ 256 ∧ i = .int .i64 k ∧ wr.heap[w.heap.size]? = some (.cells (bcells boxT) 164) ∧ wr.heap[w.heap.size + 1]? = some (.cells (bcells (unK k)) 164) ∧ Ext w wr) (fun i _ => 256 - (intOf i).toNat)
   case atStart => exact ⟨0, by omega, rfl, HB8.out, hu8, hx8⟩
   case round =>
    clear hu8 hx8
    obtain ⟨k, hk, rfl, hb, hu, hx⟩ := hrel
    have HB := Lib.hid hb; have HU := Lib.hid hu; clear hb hu
    by_cases hlt : k < 256
    ·have hbg : bt[k]? = some (.int .u8 ((boxT.getD k 0).toNat : Int)) := by
      rw [← HBT.out, bcells_get?]
      have : k < boxT.length := by rw [boxT_length]; exact hlt
      simp [List.getD, this]
     have hul := unK_length k
     have HK : Hid (unK (k + 1) = (unK k).set (boxT.getD k 0).toNat (b8 k)) := Lib.hid rfl
     generalize boxT.getD k 0 = p at *
     generalize unK k = u at *
     have hpl := p.toNat_lt
     have hpu : p.toNat < u.length := by omega
     obtain ⟨c0, hc0⟩ : ∃ c0, wr.cell? ⟨w.heap.size + 1, p.toNat, none⟩ = some c0 := ⟨_, cell_blk HU.out (bcells_at u p.toNat hpu)⟩
     have hf0 := frozen_blk (i := p.toNat) HU.out
     have hix : Sem.run Tryz.prog (Instr.index 164 (.agg bt) (.int .i64 (k : Int))) wr = .ok (.int .u8 (p.toNat : Int)) wr := run_index_one und_b256 und_u8 rfl (by kernel_rfl) bt _ k hlt hbg wr
     have hw8 : IntKind.u8.wrap (k : Int) = ((b8 k).toNat : Int) := by rw [b8_toNat _ (by omega), IntKind.wrap_u8]; omega
     clear hul
     go_wp2
     go_roundw
     case measure => simp [intOf]; omega
     case rel =>
      refine ⟨k + 1, by omega, by go_num, ?_, ?_, hx.setCell (by show w.heap.size ≤ w.heap.size + 1; omega) _⟩
      ·rw [heap_setCell_other _ _ _ (by show w.heap.size ≠ w.heap.size + 1; omega)]; exact HB.out
      ·rw [heap_setCell_same _ HU.out, bcells_set, HK.out]
    ·obtain rfl : k = 256 := by omega
     rw [unK_all] at HU
     have hsu : (Tryz.prog.info? 164).map (·.size) = some (bcells unT).size := by rw [bcells_size, unT_length]; exact info_b256
     have HJ := Lib.hid hsu
     clear hsu
     go_upto_region 13 with fail
     refine Loud.wp_region_weave 4 wr (Loud.sps [.val (.agg (bcells boxT)), .val (.agg (bcells unT)), .any, .any]) (by kernel_rfl) (by kernel_rfl) (by show Ext _ _; repeat (first | exact Ext.refl _ | assumption | (with_reducible refine Ext.drew ?_) | (with_reducible refine Ext.drewN ?_ _) | (with_reducible refine Ext.alloc ?_ _) | (refine Ext.trans ?_ (by assumption)))) (Loud.sps_st _) ?wAx1 ?whAx1 ?whSx1 ?whFx1
     case whAx1 => intro u K hK; simp only [List.take_succ_cons, List.take_zero, Loud.puts]; go_simp; exact hK
     case whSx1 =>
      refine ⟨?wsx1_0, ?wsx1_1, ?wsx1_2, ?wsx1_3, trivial⟩
      all_goals (intro u β wq hq h; repeat (obtain ⟨h1, h⟩ := h; first | (replace h1 := h1 rfl; simp only [go_sem] at h1; try (obtain ⟨h1, h1b⟩ := h1)) | (have hno := (h1 : Region.binds _ _ = true → _); clear hno h1)))
      case wsx1_0 =>
       refine Or.inl ⟨rfl, fun K hK => ?_⟩
       exact does_load_row rfl rfl (hq.keep HB.out) und_b256 rfl HI.out (hK _ 0 _ (Ext.refl _) rfl)
      case wsx1_1 =>
       refine Or.inl ⟨rfl, fun K hK => ?_⟩
       exact does_load_row rfl rfl (hq.keep HU.out) und_b256 rfl HJ.out (hK _ 0 _ (Ext.refl _) rfl)
      case wsx1_2 =>
       refine Or.inl ⟨rfl, fun K hK => ?_⟩
       exact does_store_row_same rfl rfl h1 (hq.keep HB.out) HI.out (bcells_all _) (hK _ 0 _ (Ext.refl _) trivial)
      case wsx1_3 =>
       refine Or.inl ⟨rfl, fun K hK => ?_⟩
       exact does_store_row_same rfl rfl h1 (hq.keep HU.out) HJ.out (bcells_all _) (hK _ 0 _ (Ext.refl _) trivial)
     intro u β w9 hq h
     have h0 := h 0 (by omega)
     have h1 := h 1 (by omega)
     have h2 := h 2 (by omega)
     have h3 := h 3 (by omega)
     clear h
     simp only [go_sem] at h0 h1 h2 h3
     simp only [List.drop_succ_cons, List.drop_zero]
     go_wp2
     refine bodyPost_ret (results_two_rows rfl _ _ w.heap.size (w.heap.size + 1) _ _ (bcells boxT) (bcells unT) _ _ _ rfl rfl (hq.keep HB.out) (hq.keep HU.out) und_b256 rfl HI.out HJ.out) rfl ?_
     exact ⟨rfl, hx.trans hq⟩
end Go.Proofs.YtclekllaikcglaaGreat

/- Contracts: layer 4, a byte's box, and what it is a box of. -/
namespace Go.Proofs.YtclekllaikcglaaGreat
open Go Go.RowKit
theorem setRow_get {w : World} {g : Nat} {old cs : Array Value} {t : TypeId} (hg : w.heap[g]? = some (.cells old t (0, 0))) : (w.setRow g cs).heap[g]? = some (.cells cs t (0, 0)) := setRow_heap w g old cs t _ hg
end Go.Proofs.YtclekllaikcglaaGreat

/- Contracts: layer 4, a cipher in memory; a word's boxes; either or a round's key. -/
namespace Go.Proofs.YtclekllaikcglaaGreat
open Go Go.RowKit
def cCells (K B U : List UInt8) : Array Value := ((K ++ (B ++ U)).map byteV ++ [Value.bool true]).toArray
theorem cCells_size (K B U : List UInt8) : (cCells K B U).size = K.length + (B.length + U.length) + 1 := by simp [cCells]; omega
theorem cC_byte (K B U : List UInt8) (j : Nat) (h : j < (K ++ (B ++ U)).length) : (cCells K B U)[j]? = some (byteV ((K ++ (B ++ U))[j])) := by
 unfold cCells
 rw [List.getElem?_toArray, List.getElem?_append_left (by simpa using h), List.getElem?_map, List.getElem?_eq_getElem h]
 rfl
theorem cC_key (K B U : List UInt8) (j : Nat) (h : j < K.length) : (cCells K B U)[j]? = some (.int .u8 (K[j].toNat : Int)) := by
 rw [cC_byte K B U j (by simp; omega), List.getElem_append_left h]; rfl
theorem cC_box (K B U : List UInt8) (hK : K.length = 176) (j : Nat) (x : UInt8) (h : B[j]? = some x) : (cCells K B U)[176 + j]? = some (.int .u8 (x.toNat : Int)) := by
 obtain ⟨hj, rfl⟩ := List.getElem?_eq_some_iff.1 h
 rw [cC_byte K B U (176 + j) (by simp; omega), List.getElem_append_right (by omega), List.getElem_append_left (by omega)]
 simp [hK, byteV]
theorem cC_made (K B U : List UInt8) (hK : K.length = 176) (hB : B.length = 256) (hU : U.length = 256) : (cCells K B U)[688]? = some (.bool true) := by
 unfold cCells
 rw [List.getElem?_toArray, List.getElem?_append_right (by simp; omega)]
 simp [hK, hB, hU]
def CI (w : World) (c : Nat) (K : List UInt8) : Prop := K.length = 176 ∧ w.heap[c]? = some (.cells (cCells K boxT unT) 166 (0, 0))
theorem CI.ext {w w' : World} {c : Nat} {K : List UInt8} (h : CI w c K) (hx : Ext w w') : CI w' c K := ⟨h.1, hx.keep h.2⟩
theorem CI.box {w : World} {c : Nat} {K : List UInt8} (h : CI w c K) (b : UInt8) : w.cell? ⟨c, 176 + b.toNat, none⟩ = some (.int .u8 ((boxO b).toNat : Int)) := cell_blk h.2 (cC_box K _ _ h.1 _ _ (boxO_at b))
theorem CI.key {w : World} {c : Nat} {K : List UInt8} (h : CI w c K) (j : Nat) (hj : j < K.length) : w.cell? ⟨c, j, none⟩ = some (.int .u8 (K[j].toNat : Int)) := cell_blk h.2 (cC_key K _ _ j hj)
theorem CI.made {w : World} {c : Nat} {K : List UInt8} (h : CI w c K) : w.cell? ⟨c, 688, none⟩ = some (.bool true) := cell_blk h.2 (cC_made K _ _ h.1 boxT_length unT_length)
def byteK (n : UInt32) (k : Nat) : UInt8 := b8 (n.toNat / 2 ^ (24 - 8 * k))
def bwN (n : UInt32) : Nat → Nat
 | 0 => 0
 | k + 1 => bwN n k * 256 + (boxO (byteK n k)).toNat
theorem bwN_lt (n : UInt32) : ∀ k, bwN n k < 256 ^ k
 | 0 => Nat.zero_lt_succ _
 | k + 1 => by
  have h1 := bwN_lt n k
  have h2 := (boxO (byteK n k)).toNat_lt
  rw [bwN, Nat.pow_succ]
  have : bwN n k * 256 + 256 ≤ 256 ^ k * 256 := by omega
  omega
def boxW (n : UInt32) : UInt32 := UInt32.ofNat (bwN n 4)
theorem boxW_toNat (n : UInt32) : (boxW n).toNat = bwN n 4 := UInt32.toNat_ofNat_of_lt' (bwN_lt n 4)
set_option maxRecDepth 100000 in
set_option maxHeartbeats 2000000 in
theorem boxed_any (n : UInt32) (c : Nat) (K : List UInt8) (w : World) (hci : CI w c K) :
  Calls Tryz.prog 124 #[.pointer (some ⟨c, 0, none⟩), .int .u32 (n.toNat : Int)] w fun e w' => e = .returned (.int .u32 ((boxW n).toNat : Int)) ∧ Ext w w' := by
 have HC := Lib.hid hci
 have hnl := n.toNat_lt
 clear hci
 go_enter Tryz.func124, Tryz.ntmps124
 go_wp2
 go_loopw [4, 5] (fun o i wr => ∃ (k : Nat) (z : Int), k ≤ 4 ∧ o = .int .u32 (bwN n k : Int) ∧ i = .int .i64 z ∧ z = 24 - 8 * (k : Int) ∧ Ext w wr) (fun _ i _ => (intOf i + 8).toNat)
 case atStart => exact ⟨0, 24, by omega, rfl, rfl, rfl, Ext.refl _⟩
 case round =>
  obtain ⟨k, z, hk, rfl, rfl, hz, hx⟩ := hrel
  have hbl := bwN_lt n k
  have HN : Hid (bwN n (k + 1) = bwN n k * 256 + (boxO (byteK n k)).toNat) := Lib.hid rfl
  have hcase : k = 0 ∨ k = 1 ∨ k = 2 ∨ k = 3 ∨ k = 4 := by omega
  rcases hcase with rfl | rfl | rfl | rfl | rfl
  ·obtain rfl : z = 24 := by omega
   have hby : (n.toNat : Int) / 16777216 % 256 = ((byteK n 0).toNat : Int) := by
    unfold byteK; rw [b8_mod]; omega
   have hby2 : IntKind.u8.wrap ((n.toNat : Int) / 16777216) = ((byteK n 0).toNat : Int) := by rw [IntKind.wrap_u8]; exact hby
   have hc := (HC.out.ext hx).box (byteK n 0)
   have hbb := (byteK n 0).toNat_lt
   have hyy := (boxO (byteK n 0)).toNat_lt
   have hor := or_byte32 (bwN n 0) (boxO (byteK n 0)) (by omega)
   have hw32 : IntKind.u32.wrap ((bwN n 0 : Int) * 256) = (bwN n 0 : Int) * 256 := by rw [IntKind.wrap_u32]; omega
   have hbi : ((byteK n 0).toNat : Int) < 256 := by omega
   generalize byteK n 0 = b at *
   generalize bwN n 0 = a at *
   generalize boxO b = y at *
   clear hz hk
   go_wp2
   refine Loud.wp_region_weave 13 wr (Loud.sps [.val (.int .u32 (a : Int)), .val (.int .u32 ((a : Int) * 256)), .val (.pointer (some ⟨c, 0, none⟩)), .val (.int .u32 (n.toNat : Int)), .val (.int .i64 24), .val (.int .u32 ((n.toNat : Int) / 16777216)), .val (.int .u8 (b.toNat : Int)), .val (.pointer (some ⟨c, 0, none⟩)), .val (.pointer (some ⟨c, 176, none⟩)), .val (.pointer (some ⟨c, 176 + b.toNat, none⟩)), .val (.int .u8 (y.toNat : Int)), .val (.int .u32 (y.toNat : Int)), .val (.int .u32 ((a * 256 + y.toNat : Nat) : Int))]) (by kernel_rfl) (by kernel_rfl) (by show Ext _ _; repeat (first | exact Ext.refl _ | assumption | (with_reducible refine Ext.drew ?_) | (with_reducible refine Ext.drewN ?_ _) | (with_reducible refine Ext.alloc ?_ _) | (refine Ext.trans ?_ (by assumption)))) (Loud.sps_st _) ?wAx1 ?whAx1 ?whSx1 ?whFx1
   case whAx1 => intro u K hK; simp only [List.take_succ_cons, List.take_zero, Loud.puts]; go_simp; exact hK
   case whSx1 =>
    refine ⟨?wsx1_0, ?wsx1_1, ?wsx1_2, ?wsx1_3, ?wsx1_4, ?wsx1_5, ?wsx1_6, ?wsx1_7, ?wsx1_8, ?wsx1_9, ?wsx1_10, ?wsx1_11, ?wsx1_12, trivial⟩
    all_goals (intro u β wq hq h; repeat (obtain ⟨h1, h⟩ := h; first | (replace h1 := h1 rfl; simp only [go_sem] at h1; try (obtain ⟨h1, h1b⟩ := h1)) | (have hno := (h1 : Region.binds _ _ = true → _); clear hno h1)))
    case wsx1_10 =>
     refine Or.inl ⟨rfl, fun K hK => ?_⟩
     have hqc := hq.cell_of hc
     go_simp
     exact hK _ 0 _ (Ext.refl _) rfl
    all_goals (first | refine Or.inl ⟨rfl, fun K hK => ?_⟩ | refine Or.inl ⟨Loud.wanted_of rfl rfl (congrArg some (by assumption)), fun K hK => ?_⟩); go_simp; exact hK _ 0 _ (Ext.refl _) rfl
   intro u β w1 hq h
   have h0 := h 0 (by omega)
   have h1 := h 1 (by omega)
   have h2 := h 2 (by omega)
   have h3 := h 3 (by omega)
   have h4 := h 4 (by omega)
   have h5 := h 5 (by omega)
   have h6 := h 6 (by omega)
   have h7 := h 7 (by omega)
   have h8 := h 8 (by omega)
   have h9 := h 9 (by omega)
   have h10 := h 10 (by omega)
   have h11 := h 11 (by omega)
   have h12 := h 12 (by omega)
   clear h
   simp only [go_sem] at h0 h1 h2 h3 h4 h5 h6 h7 h8 h9 h10 h11 h12
   simp only [List.drop_succ_cons, List.drop_zero]
   rw [h12]
   go_wp2
   go_roundw
   case measure => simp [intOf]
   case rel => exact ⟨0 + 1, 24 - 8, by omega, by rw [HN.out], rfl, by omega, hx.trans hq⟩
  ·obtain rfl : z = 16 := by omega
   have hby : (n.toNat : Int) / 65536 % 256 = ((byteK n 1).toNat : Int) := by
    unfold byteK; rw [b8_mod]; omega
   have hby2 : IntKind.u8.wrap ((n.toNat : Int) / 65536) = ((byteK n 1).toNat : Int) := by rw [IntKind.wrap_u8]; exact hby
   have hc := (HC.out.ext hx).box (byteK n 1)
   have hbb := (byteK n 1).toNat_lt
   have hyy := (boxO (byteK n 1)).toNat_lt
   have hor := or_byte32 (bwN n 1) (boxO (byteK n 1)) (by omega)
   have hw32 : IntKind.u32.wrap ((bwN n 1 : Int) * 256) = (bwN n 1 : Int) * 256 := by rw [IntKind.wrap_u32]; omega
   have hbi : ((byteK n 1).toNat : Int) < 256 := by omega
   generalize byteK n 1 = b at *
   generalize bwN n 1 = a at *
   generalize boxO b = y at *
   clear hz hk
   go_wp2
   refine Loud.wp_region_weave 13 wr (Loud.sps [.val (.int .u32 (a : Int)), .val (.int .u32 ((a : Int) * 256)), .val (.pointer (some ⟨c, 0, none⟩)), .val (.int .u32 (n.toNat : Int)), .val (.int .i64 16), .val (.int .u32 ((n.toNat : Int) / 65536)), .val (.int .u8 (b.toNat : Int)), .val (.pointer (some ⟨c, 0, none⟩)), .val (.pointer (some ⟨c, 176, none⟩)), .val (.pointer (some ⟨c, 176 + b.toNat, none⟩)), .val (.int .u8 (y.toNat : Int)), .val (.int .u32 (y.toNat : Int)), .val (.int .u32 ((a * 256 + y.toNat : Nat) : Int))]) (by kernel_rfl) (by kernel_rfl) (by show Ext _ _; repeat (first | exact Ext.refl _ | assumption | (with_reducible refine Ext.drew ?_) | (with_reducible refine Ext.drewN ?_ _) | (with_reducible refine Ext.alloc ?_ _) | (refine Ext.trans ?_ (by assumption)))) (Loud.sps_st _) ?wAx2 ?whAx2 ?whSx2 ?whFx2
   case whAx2 => intro u K hK; simp only [List.take_succ_cons, List.take_zero, Loud.puts]; go_simp; exact hK
   case whSx2 =>
    refine ⟨?wsx2_0, ?wsx2_1, ?wsx2_2, ?wsx2_3, ?wsx2_4, ?wsx2_5, ?wsx2_6, ?wsx2_7, ?wsx2_8, ?wsx2_9, ?wsx2_10, ?wsx2_11, ?wsx2_12, trivial⟩
    all_goals (intro u β wq hq h; repeat (obtain ⟨h1, h⟩ := h; first | (replace h1 := h1 rfl; simp only [go_sem] at h1; try (obtain ⟨h1, h1b⟩ := h1)) | (have hno := (h1 : Region.binds _ _ = true → _); clear hno h1)))
    case wsx2_10 =>
     refine Or.inl ⟨rfl, fun K hK => ?_⟩
     have hqc := hq.cell_of hc
     go_simp
     exact hK _ 0 _ (Ext.refl _) rfl
    all_goals (first | refine Or.inl ⟨rfl, fun K hK => ?_⟩ | refine Or.inl ⟨Loud.wanted_of rfl rfl (congrArg some (by assumption)), fun K hK => ?_⟩); go_simp; exact hK _ 0 _ (Ext.refl _) rfl
   intro u β w1 hq h
   have h0 := h 0 (by omega)
   have h1 := h 1 (by omega)
   have h2 := h 2 (by omega)
   have h3 := h 3 (by omega)
   have h4 := h 4 (by omega)
   have h5 := h 5 (by omega)
   have h6 := h 6 (by omega)
   have h7 := h 7 (by omega)
   have h8 := h 8 (by omega)
   have h9 := h 9 (by omega)
   have h10 := h 10 (by omega)
   have h11 := h 11 (by omega)
   have h12 := h 12 (by omega)
   clear h
   simp only [go_sem] at h0 h1 h2 h3 h4 h5 h6 h7 h8 h9 h10 h11 h12
   simp only [List.drop_succ_cons, List.drop_zero]
   rw [h12]
   go_wp2
   go_roundw
   case measure => simp [intOf]
   case rel => exact ⟨1 + 1, 16 - 8, by omega, by rw [HN.out], rfl, by omega, hx.trans hq⟩
  ·obtain rfl : z = 8 := by omega
   have hby : (n.toNat : Int) / 256 % 256 = ((byteK n 2).toNat : Int) := by
    unfold byteK; rw [b8_mod]; omega
   have hby2 : IntKind.u8.wrap ((n.toNat : Int) / 256) = ((byteK n 2).toNat : Int) := by rw [IntKind.wrap_u8]; exact hby
   have hc := (HC.out.ext hx).box (byteK n 2)
   have hbb := (byteK n 2).toNat_lt
   have hyy := (boxO (byteK n 2)).toNat_lt
   have hor := or_byte32 (bwN n 2) (boxO (byteK n 2)) (by omega)
   have hw32 : IntKind.u32.wrap ((bwN n 2 : Int) * 256) = (bwN n 2 : Int) * 256 := by rw [IntKind.wrap_u32]; omega
   have hbi : ((byteK n 2).toNat : Int) < 256 := by omega
   generalize byteK n 2 = b at *
   generalize bwN n 2 = a at *
   generalize boxO b = y at *
   clear hz hk
   go_wp2
   refine Loud.wp_region_weave 13 wr (Loud.sps [.val (.int .u32 (a : Int)), .val (.int .u32 ((a : Int) * 256)), .val (.pointer (some ⟨c, 0, none⟩)), .val (.int .u32 (n.toNat : Int)), .val (.int .i64 8), .val (.int .u32 ((n.toNat : Int) / 256)), .val (.int .u8 (b.toNat : Int)), .val (.pointer (some ⟨c, 0, none⟩)), .val (.pointer (some ⟨c, 176, none⟩)), .val (.pointer (some ⟨c, 176 + b.toNat, none⟩)), .val (.int .u8 (y.toNat : Int)), .val (.int .u32 (y.toNat : Int)), .val (.int .u32 ((a * 256 + y.toNat : Nat) : Int))]) (by kernel_rfl) (by kernel_rfl) (by show Ext _ _; repeat (first | exact Ext.refl _ | assumption | (with_reducible refine Ext.drew ?_) | (with_reducible refine Ext.drewN ?_ _) | (with_reducible refine Ext.alloc ?_ _) | (refine Ext.trans ?_ (by assumption)))) (Loud.sps_st _) ?wAx3 ?whAx3 ?whSx3 ?whFx3
   case whAx3 => intro u K hK; simp only [List.take_succ_cons, List.take_zero, Loud.puts]; go_simp; exact hK
   case whSx3 =>
    refine ⟨?wsx3_0, ?wsx3_1, ?wsx3_2, ?wsx3_3, ?wsx3_4, ?wsx3_5, ?wsx3_6, ?wsx3_7, ?wsx3_8, ?wsx3_9, ?wsx3_10, ?wsx3_11, ?wsx3_12, trivial⟩
    all_goals (intro u β wq hq h; repeat (obtain ⟨h1, h⟩ := h; first | (replace h1 := h1 rfl; simp only [go_sem] at h1; try (obtain ⟨h1, h1b⟩ := h1)) | (have hno := (h1 : Region.binds _ _ = true → _); clear hno h1)))
    case wsx3_10 =>
     refine Or.inl ⟨rfl, fun K hK => ?_⟩
     have hqc := hq.cell_of hc
     go_simp
     exact hK _ 0 _ (Ext.refl _) rfl
    all_goals (first | refine Or.inl ⟨rfl, fun K hK => ?_⟩ | refine Or.inl ⟨Loud.wanted_of rfl rfl (congrArg some (by assumption)), fun K hK => ?_⟩); go_simp; exact hK _ 0 _ (Ext.refl _) rfl
   intro u β w1 hq h
   have h0 := h 0 (by omega)
   have h1 := h 1 (by omega)
   have h2 := h 2 (by omega)
   have h3 := h 3 (by omega)
   have h4 := h 4 (by omega)
   have h5 := h 5 (by omega)
   have h6 := h 6 (by omega)
   have h7 := h 7 (by omega)
   have h8 := h 8 (by omega)
   have h9 := h 9 (by omega)
   have h10 := h 10 (by omega)
   have h11 := h 11 (by omega)
   have h12 := h 12 (by omega)
   clear h
   simp only [go_sem] at h0 h1 h2 h3 h4 h5 h6 h7 h8 h9 h10 h11 h12
   simp only [List.drop_succ_cons, List.drop_zero]
   rw [h12]
   go_wp2
   go_roundw
   case measure => simp [intOf]
   case rel => exact ⟨2 + 1, 8 - 8, by omega, by rw [HN.out], rfl, by omega, hx.trans hq⟩
  ·obtain rfl : z = 0 := by omega
   have hby : (n.toNat : Int) / 1 % 256 = ((byteK n 3).toNat : Int) := by
    unfold byteK; rw [b8_mod]; omega
   have hby2 : IntKind.u8.wrap ((n.toNat : Int) / 1) = ((byteK n 3).toNat : Int) := by rw [IntKind.wrap_u8]; exact hby
   have hc := (HC.out.ext hx).box (byteK n 3)
   have hbb := (byteK n 3).toNat_lt
   have hyy := (boxO (byteK n 3)).toNat_lt
   have hor := or_byte32 (bwN n 3) (boxO (byteK n 3)) (by omega)
   have hw32 : IntKind.u32.wrap ((bwN n 3 : Int) * 256) = (bwN n 3 : Int) * 256 := by rw [IntKind.wrap_u32]; omega
   have hbi : ((byteK n 3).toNat : Int) < 256 := by omega
   rw [Int.ediv_one] at hby2
   generalize byteK n 3 = b at *
   generalize bwN n 3 = a at *
   generalize boxO b = y at *
   clear hz hk
   go_wp2
   refine Loud.wp_region_weave 13 wr (Loud.sps [.val (.int .u32 (a : Int)), .val (.int .u32 ((a : Int) * 256)), .val (.pointer (some ⟨c, 0, none⟩)), .val (.int .u32 (n.toNat : Int)), .val (.int .i64 0), .val (.int .u32 (n.toNat : Int)), .val (.int .u8 (b.toNat : Int)), .val (.pointer (some ⟨c, 0, none⟩)), .val (.pointer (some ⟨c, 176, none⟩)), .val (.pointer (some ⟨c, 176 + b.toNat, none⟩)), .val (.int .u8 (y.toNat : Int)), .val (.int .u32 (y.toNat : Int)), .val (.int .u32 ((a * 256 + y.toNat : Nat) : Int))]) (by kernel_rfl) (by kernel_rfl) (by show Ext _ _; repeat (first | exact Ext.refl _ | assumption | (with_reducible refine Ext.drew ?_) | (with_reducible refine Ext.drewN ?_ _) | (with_reducible refine Ext.alloc ?_ _) | (refine Ext.trans ?_ (by assumption)))) (Loud.sps_st _) ?wAx4 ?whAx4 ?whSx4 ?whFx4
   case whAx4 => intro u K hK; simp only [List.take_succ_cons, List.take_zero, Loud.puts]; go_simp; exact hK
   case whSx4 =>
    refine ⟨?wsx4_0, ?wsx4_1, ?wsx4_2, ?wsx4_3, ?wsx4_4, ?wsx4_5, ?wsx4_6, ?wsx4_7, ?wsx4_8, ?wsx4_9, ?wsx4_10, ?wsx4_11, ?wsx4_12, trivial⟩
    all_goals (intro u β wq hq h; repeat (obtain ⟨h1, h⟩ := h; first | (replace h1 := h1 rfl; simp only [go_sem] at h1; try (obtain ⟨h1, h1b⟩ := h1)) | (have hno := (h1 : Region.binds _ _ = true → _); clear hno h1)))
    case wsx4_10 =>
     refine Or.inl ⟨rfl, fun K hK => ?_⟩
     have hqc := hq.cell_of hc
     go_simp
     exact hK _ 0 _ (Ext.refl _) rfl
    all_goals (first | refine Or.inl ⟨rfl, fun K hK => ?_⟩ | refine Or.inl ⟨Loud.wanted_of rfl rfl (congrArg some (by assumption)), fun K hK => ?_⟩); go_simp; exact hK _ 0 _ (Ext.refl _) rfl
   intro u β w1 hq h
   have h0 := h 0 (by omega)
   have h1 := h 1 (by omega)
   have h2 := h 2 (by omega)
   have h3 := h 3 (by omega)
   have h4 := h 4 (by omega)
   have h5 := h 5 (by omega)
   have h6 := h 6 (by omega)
   have h7 := h 7 (by omega)
   have h8 := h 8 (by omega)
   have h9 := h 9 (by omega)
   have h10 := h 10 (by omega)
   have h11 := h 11 (by omega)
   have h12 := h 12 (by omega)
   clear h
   simp only [go_sem] at h0 h1 h2 h3 h4 h5 h6 h7 h8 h9 h10 h11 h12
   simp only [List.drop_succ_cons, List.drop_zero]
   rw [h12]
   go_wp2
   go_roundw
   case measure => simp [intOf]
   case rel => exact ⟨3 + 1, 0 - 8, by omega, by rw [HN.out], rfl, by omega, hx.trans hq⟩
  ·obtain rfl : z = -8 := by omega
   have HW := Lib.hid (boxW_toNat n)
   generalize bwN n 4 = a at *
   go_wp2
   go_returns
   exact ⟨by rw [HW.out]; rfl, hx⟩
end Go.Proofs.YtclekllaikcglaaGreat

/- Contracts: layer 4, either or a round's key; a column mixed. -/
namespace Go.Proofs.YtclekllaikcglaaGreat
open Go Go.RowKit
def rkey (K : List UInt8) (r : Nat) : List UInt8 := (K.drop (16 * r)).take 16
theorem rkey_length (K : List UInt8) (hK : K.length = 176) (r : Nat) (hr : r ≤ 10) : (rkey K r).length = 16 := by
 unfold rkey; rw [List.length_take, List.length_drop]; omega
theorem rkey_at (K : List UInt8) (hK : K.length = 176) (r : Nat) (hr : r ≤ 10) (k : Nat) (hk : k < 16) : (rkey K r)[k]'(by rw [rkey_length K hK r hr]; exact hk) = K[16 * r + k]'(by omega) := by
 unfold rkey
 rw [List.getElem_take, List.getElem_drop]
set_option maxRecDepth 100000 in
set_option maxHeartbeats 2000000 in
theorem adds_any (c : Nat) (K : List UInt8) (g : Nat) (s : List UInt8) (r : Nat) (w : World) (hci : CI w c K) (hcg : c < g) (hs : s.length = 16) (hr : r ≤ 10) (hg : w.heap[g]? = some (.cells (bcells s) 162 (0, 0))) :
  Calls Tryz.prog 147 #[.pointer (some ⟨c, 0, none⟩), .pointer (some ⟨g, 0, none⟩), .int .i64 (r : Int)] w fun e w' => e = .returned (.tuple #[]) ∧ w'.heap[g]? = some (.cells (bcells (xorL s (rkey K r))) 162 (0, 0)) ∧ Below g w w' := by
 have HC := Lib.hid hci
 have hK := hci.1
 have hrl := rkey_length K hK r hr
 have hsr : s.length = (rkey K r).length := by rw [hs, hrl]
 have HG := Lib.hid hg
 have HSR := Lib.hid hsr
 clear hci hg hsr
 go_enter Tryz.func147, Tryz.ntmps147
 go_wp2
 go_loopw [7] (fun i wr => ∃ k : Nat, k ≤ 16 ∧ i = .int .i64 k ∧ wr.heap[g]? = some (.cells (bcells (xorK s (rkey K r) k)) 162 (0, 0)) ∧ Below g w wr) (fun i _ => 16 - (intOf i).toNat)
 case atStart => exact ⟨0, by omega, rfl, by rw [show xorK s (rkey K r) 0 = s by simp [xorK]]; exact HG.out, Below.refl _ _⟩
 case round =>
  obtain ⟨k, hk, rfl, hb, hx⟩ := hrel
  have HB := Lib.hid hb
  have hxl := xorK_length s (rkey K r) HSR.out k (by omega)
  by_cases hlt : k < 16
  ·have hck : wr.cell? ⟨c, 16 * r + k, none⟩ = some (.int .u8 ((K[16 * r + k]'(by omega)).toNat : Int)) := (World.cell?_of_block (hx.block c hcg)).trans (HC.out.key (16 * r + k) (by omega))
   have hgk : wr.cell? ⟨g, k, none⟩ = some (.int .u8 ((s[k]'(by omega)).toNat : Int)) := by
    refine cell_blk hb ?_
    rw [bcells_at _ k (by rw [hxl]; omega), xorK_at s (rkey K r) HSR.out k (by omega)]
   have hfz : wr.frozen? ⟨g, k, none⟩ = false := frozen_blk hb
   have hst := xorK_step s (rkey K r) HSR.out k (by omega)
   rw [rkey_at K hK r hr k hlt] at hst
   have HST := Lib.hid hst
   clear hb hst hxl
   have hri : (r : Int) < 11 := by omega
   have hki : (k : Int) < 16 := by omega
   generalize s[k]'(by omega) = a at *
   generalize K[16 * r + k]'(by omega) = b at *
   rw [show 16 * r + k = r * 16 + k by omega] at hck
   go_wp2
   refine Loud.wp_region_weave 16 wr (Loud.sps [.val (.pointer (some ⟨g, 0, none⟩)), .val (.int .i64 (k : Int)), .val (.pointer (some ⟨g, 0, none⟩)), .val (.pointer (some ⟨g, k, none⟩)), .val (.int .u8 (a.toNat : Int)), .val (.pointer (some ⟨c, 0, none⟩)), .val (.int .i64 (r : Int)), .val (.int .i64 (k : Int)), .val (.pointer (some ⟨c, 0, none⟩)), .val (.pointer (some ⟨c, 0, none⟩)), .val (.pointer (some ⟨c, r * 16, none⟩)), .val (.pointer (some ⟨c, r * 16 + k, none⟩)), .val (.int .u8 (b.toNat : Int)), .val (.int .u8 ((x8 a b).toNat : Int)), .val (.pointer (some ⟨g, 0, none⟩)), .val (.pointer (some ⟨g, k, none⟩))]) (by kernel_rfl) (by kernel_rfl) (by show Ext _ _; repeat (first | exact Ext.refl _ | assumption | (with_reducible refine Ext.drew ?_) | (with_reducible refine Ext.drewN ?_ _) | (with_reducible refine Ext.alloc ?_ _) | (refine Ext.trans ?_ (by assumption)))) (Loud.sps_st _) ?wAx1 ?whAx1 ?whSx1 ?whFx1
   case whAx1 => intro u K hK; simp only [List.take_succ_cons, List.take_zero, Loud.puts]; go_simp; exact hK
   case whSx1 =>
    refine ⟨?wsx1_0, ?wsx1_1, ?wsx1_2, ?wsx1_3, ?wsx1_4, ?wsx1_5, ?wsx1_6, ?wsx1_7, ?wsx1_8, ?wsx1_9, ?wsx1_10, ?wsx1_11, ?wsx1_12, ?wsx1_13, ?wsx1_14, ?wsx1_15, trivial⟩
    all_goals (intro u β wq hq h; repeat (obtain ⟨h1, h⟩ := h; first | (replace h1 := h1 rfl; simp only [go_sem] at h1; try (obtain ⟨h1, h1b⟩ := h1)) | (have hno := (h1 : Region.binds _ _ = true → _); clear hno h1)))
    case wsx1_4 =>
     refine Or.inl ⟨rfl, fun K hK => ?_⟩
     have hqc := hq.cell_of hgk
     go_simp
     exact hK _ 0 _ (Ext.refl _) rfl
    case wsx1_12 =>
     refine Or.inl ⟨rfl, fun K hK => ?_⟩
     have hqc := hq.cell_of hck
     go_simp
     exact hK _ 0 _ (Ext.refl _) rfl
    all_goals (first | refine Or.inl ⟨rfl, fun K hK => ?_⟩ | refine Or.inl ⟨Loud.wanted_of rfl rfl (congrArg some (by assumption)), fun K hK => ?_⟩); go_simp; exact hK _ 0 _ (Ext.refl _) rfl
   intro u β w1 hq h
   have h0 := h 0 (by omega)
   have h1 := h 1 (by omega)
   have h2 := h 2 (by omega)
   have h3 := h 3 (by omega)
   have h4 := h 4 (by omega)
   have h5 := h 5 (by omega)
   have h6 := h 6 (by omega)
   have h7 := h 7 (by omega)
   have h8 := h 8 (by omega)
   have h9 := h 9 (by omega)
   have h10 := h 10 (by omega)
   have h11 := h 11 (by omega)
   have h12 := h 12 (by omega)
   have h13 := h 13 (by omega)
   have h14 := h 14 (by omega)
   have h15 := h 15 (by omega)
   clear h
   simp only [go_sem] at h0 h1 h2 h3 h4 h5 h6 h7 h8 h9 h10 h11 h12 h13 h14 h15
   simp only [List.drop_succ_cons, List.drop_zero]
   rw [h15]
   have hbq := Lib.hid (hq.keep HB.out)
   have hgk1 := hq.cell_of hgk
   have hfz1 : w1.frozen? ⟨g, k, none⟩ = false := frozen_blk hbq.out
   have hxq := hx.trans (Below.mono hq (Nat.le_of_lt (blk_lt HB.out)))
   try rw [h13]
   go_wp2
   go_roundw
   case measure => simp [intOf]; omega
   case rel =>
    refine ⟨k + 1, by omega, by go_num, ?_, hxq.setCell (Nat.le_refl _) _⟩
    rw [heap_setCell_same _ hbq.out, bcells_set, HST.out]
  ·obtain rfl : k = 16 := by omega
   have hd : xorK s (rkey K r) 16 = xorL s (rkey K r) := by
    have := xorL_length s (rkey K r) HSR.out
    simp [xorK, List.take_of_length_le (show (xorL s (rkey K r)).length ≤ 16 by omega), List.drop_of_length_le (show s.length ≤ 16 by omega)]
   rw [hd] at HB
   clear hb hd hxl
   go_wp2
   go_returns
   exact ⟨rfl, HB.out, hx⟩
end Go.Proofs.YtclekllaikcglaaGreat

/- Contracts: layer 4, a column mixed. -/
namespace Go.Proofs.YtclekllaikcglaaGreat
open Go Go.RowKit
theorem wpl_copy_row {P : Program} {ops : Array Oper} {rest : List Oper} {o : Oper} {a : Act} {Q : Exit → Act → World → Prop} {w : World} (hgd : o.guard = none) {d x : Operand} {dT sT elem : TypeId}
  (ho : o.op = .call { callee := .builtin .copy, args := #[d, x], argTypes := #[dT, sT] }) (hu : P.underlying dT = some (.slice elem)) (hs : (P.info? elem).map (·.size) = some 1)
  {g off dLen dCap sLen sCap : Nat} {ad : Addr} {cur : Array Value} {t : TypeId} (cs : List Value) (h1 : a.eval d = .slice (some ⟨g, off, none⟩) dLen dCap) (h2 : a.eval x = .slice (some ad) sLen sCap)
  (hg : w.heap[g]? = some (.cells cur t (0, 0))) (hn : cs.length = Nat.min sLen dLen) (hsrc : ∀ j v, cs[j]? = some v → w.cell? (ad.add j) = some v) (hfit : off + cs.length ≤ cur.size) (hone : ∀ v ∈ cs, v.oneCell' = true)
  (h : ∀ w', w'.heap[g]? = some (.cells (cur.toList.take off ++ cs ++ cur.toList.drop (off + cs.length)).toArray t (0, 0)) → Below g w w' → wpList P ops Q rest (a.put o.dst (goInt cs.length)) w') : wpList P ops Q (o :: rest) a w := by
 refine wpList_plain hgd fun K hK => ?_
 have hr := run_copy_row (P := P) w dT sT o.type elem g off dLen dCap ad sLen sCap cur t cs hu hs hg hn hsrc hfit hone
 unfold Oper.wp execOp
 simp only [ho, resolve, invoke, builtin, Sem.run_bind, Sem.run_pure, Result.andThen_ok, List.map_toArray, List.map_cons, List.map_nil, h1, h2, hr]
 exact hK _ _ (h _ (setRow_heap w g cur _ t _ hg) (setRow_below g (Nat.le_refl _) _))
def mixK (f col : List UInt8) (r : Nat) : Nat → UInt8
 | 0 => 0
 | k + 1 => x8 (mixK f col r k) (gm (col.getD k 0) (f.getD ((k + 4 - r) % 4) 0))
def mixL (f col : List UInt8) : List UInt8 := (List.range 4).map fun r => mixK f col r 4
@[simp] theorem mixL_length (f col : List UInt8) : (mixL f col).length = 4 := by simp [mixL]
def outK (f col : List UInt8) (r k : Nat) : List UInt8 := (mixL f col).take r ++ (mixK f col r k :: List.replicate (3 - r) 0)
theorem outK_at (f col : List UInt8) (r k : Nat) (hr : r < 4) : (outK f col r k)[r]? = some (mixK f col r k) := by
 unfold outK
 rw [List.getElem?_append_right (by rw [List.length_take, mixL_length]; omega), List.length_take, mixL_length, Nat.min_eq_left (by omega), Nat.sub_self]
 rfl
theorem outK_set (f col : List UInt8) (r k : Nat) (hr : r < 4) (x : UInt8) : (outK f col r k).set r x = (mixL f col).take r ++ (x :: List.replicate (3 - r) 0) := by
 unfold outK
 rw [List.set_append_right _ _ (by rw [List.length_take, mixL_length]; omega), List.length_take, mixL_length, Nat.min_eq_left (by omega), Nat.sub_self]
 rfl
theorem outK_done (f col : List UInt8) (r : Nat) (hr : r < 3) : outK f col r 4 = outK f col (r + 1) 0 := by
 unfold outK
 rw [List.take_succ_eq_append_getElem (by rw [mixL_length]; omega), List.append_assoc]
 congr 1
 rw [show 3 - r = (3 - (r + 1)) + 1 by omega, List.replicate_succ]
 simp [mixL, mixK]
theorem outK_all (f col : List UInt8) : outK f col 3 4 = mixL f col := by
 simp [outK, mixL, List.range, List.range.loop]
def outS (f col : List UInt8) (r : Nat) : List UInt8 := if r < 4 then outK f col r 0 else mixL f col
theorem outS_succ (f col : List UInt8) (r : Nat) (hr : r < 4) : outK f col r 4 = outS f col (r + 1) := by
 unfold outS
 by_cases h : r < 3
 ·rw [if_pos (by omega), outK_done f col r h]
 ·obtain rfl : r = 3 := by omega
  rw [if_neg (by omega), outK_all]
set_option maxRecDepth 100000 in
set_option maxHeartbeats 4000000 in
theorem mixed_any (g o cap : Nat) (s f : List UInt8) (f0 f1 f2 f3 : UInt8) (hf : f = [f0, f1, f2, f3]) (t : TypeId) (w : World) (hg : w.heap[g]? = some (.cells (bcells s) t (0, 0))) (ho : o + 4 ≤ s.length) :
  Calls Tryz.prog 148 #[.slice (some ⟨g, o, none⟩) 4 cap, .agg #[.int .u8 (f0.toNat : Int), .int .u8 (f1.toNat : Int), .int .u8 (f2.toNat : Int), .int .u8 (f3.toNat : Int)]] w fun e w' => e = .returned (.tuple #[]) ∧ w'.heap[g]? = some (.cells (bcells (splice s o (mixL f ((s.drop o).take 4)))) t (0, 0)) ∧ Below g w w' := by
 have HG := Lib.hid hg
 have hgl := blk_lt hg
 clear hg
 have GT : Hid (∀ (a b : UInt8) (W : World), Calls Tryz.prog 146 #[.int .u8 (a.toNat : Int), .int .u8 (b.toNat : Int)] W fun e w' => e = .returned (.int .u8 ((gm a b).toNat : Int)) ∧ Ext W w') := Lib.hid fun a b W => (times_any a b W).mono (by rintro e w' ⟨rfl, rfl⟩; exact ⟨rfl, Ext.refl _⟩)
 have hbf : (#[.int .u8 (f0.toNat : Int), .int .u8 (f1.toNat : Int), .int .u8 (f2.toNat : Int), .int .u8 (f3.toNat : Int)] : Array Value) = bcells f := by rw [hf]; rfl
 have hfl : f.length = 4 := by rw [hf]; rfl
 have HF := Lib.hid hbf
 clear hbf hf
 go_enter Tryz.func148, Tryz.ntmps148
 go_upto_region 2 with fail
 obtain ⟨w0, hw0⟩ : ∃ w0, ((w.alloc (Obj.cells #[.int .u8 (f0.toNat : Int), .int .u8 (f1.toNat : Int), .int .u8 (f2.toNat : Int), .int .u8 (f3.toNat : Int)] 196)).alloc (Obj.cells #[.int .u8 0, .int .u8 0, .int .u8 0, .int .u8 0] 196)) = w0 := ⟨_, rfl⟩
 obtain ⟨col, hcol⟩ : ∃ col, (s.drop o).take 4 = col := ⟨_, rfl⟩
 have hcl : col.length = 4 := by rw [← hcol, List.length_take, List.length_drop]; omega
 have hcs : ∀ k (hk : k < 4), s[o + k]'(by omega) = col.getD k 0 := by
  intro k hk
  have : col.getD k 0 = col[k]'(by omega) := by simp [List.getD, show k < col.length by omega]
  rw [this]
  subst hcol
  rw [List.getElem_take, List.getElem_drop]
 have HCS := Lib.hid hcs
 have k0 : w0.heap[w.heap.size]? = some (.cells (bcells f) 196 (0, 0)) := by rw [← hw0, ← HF.out]; exact heap_alloc_old _ _ (heap_alloc_new _ _)
 have k1 : w0.heap[w.heap.size + 1]? = some (.cells (bcells (outS f col 0)) 196 (0, 0)) := by rw [← hw0]; exact heap_alloc2b _ _ _
 have kx : Ext w w0 := by rw [← hw0]; exact ((Ext.refl w).alloc _).alloc _
 have HCOL := Lib.hid hcol
 rw [hw0]
 clear hw0 HF hcs hcol
 go_wp2
 go_loopw [7] (fun i wr => ∃ r : Nat, r ≤ 4 ∧ i = .int .i64 r ∧ wr.heap[w.heap.size]? = some (.cells (bcells f) 196 (0, 0)) ∧ wr.heap[w.heap.size + 1]? = some (.cells (bcells (outS f col r)) 196 (0, 0)) ∧ Ext w wr) (fun i _ => 4 - (intOf i).toNat)
 case atStart => exact ⟨0, by omega, rfl, k0, k1, kx⟩
 case round =>
  clear k0 k1 kx
  obtain ⟨r, hr, rfl, hfr, hor, hx⟩ := hrel
  have HO := Lib.hid hor; have HFR := Lib.hid hfr
  clear hor hfr
  by_cases hlt : r < 4
  ·rw [show outS f col r = outK f col r 0 from if_pos hlt] at HO
   have HSU := Lib.hid (outS_succ f col r hlt)
   go_wp2
   obtain ⟨wo, rfl⟩ : ∃ x, x = wr := ⟨_, rfl⟩
   go_loopw [10] (fun i wr => ∃ k : Nat, k ≤ 4 ∧ i = .int .i64 k ∧ wr.heap[w.heap.size]? = some (.cells (bcells f) 196 (0, 0)) ∧ wr.heap[w.heap.size + 1]? = some (.cells (bcells (outK f col r k)) 196 (0, 0)) ∧ Ext w wr) (fun i _ => 4 - (intOf i).toNat)
   case atStart => exact ⟨0, by omega, rfl, HFR.out, HO.out, hx⟩
   case round =>
    clear HO HFR hx
    obtain ⟨k, hk, rfl, hfr, hor, hx⟩ := hrel
    have HO := Lib.hid hor; have HFR := Lib.hid hfr
    clear hor hfr
    by_cases hlk : k < 4
    ·obtain ⟨idx, hidx⟩ : ∃ idx : Nat, ((k : Int) - (r : Int) + 4) % 4 = (idx : Int) := ⟨(k + 4 - r) % 4, by omega⟩
     have hid2 : idx = (k + 4 - r) % 4 := by omega
     have hi4 : idx < 4 := by omega
     have hoc := cell_blk (i := r) HO.out (by rw [bcells_get?, outK_at f col r k hlt]; rfl)
     have hgc := cell_blk (i := o + k) (hx.keep HG.out) (bcells_at s (o + k) (by omega))
     rw [HCS.out k hlk] at hgc
     have hfc := cell_blk (i := idx) HFR.out (bcells_at f idx (by omega))
     rw [show f[idx]'(by omega) = f.getD idx 0 by simp [List.getD, show idx < f.length by omega]] at hfc
     have HM : Hid (mixK f col r (k + 1) = x8 (mixK f col r k) (gm (col.getD k 0) (f.getD idx 0))) := Lib.hid (by rw [hid2]; rfl)
     have HS := Lib.hid (outK_set f col r k hlt (mixK f col r (k + 1)))
     clear hid2
     generalize col.getD k 0 = b at *
     generalize f.getD idx 0 = c at *
     generalize mixK f col r k = a at *
     have hri : (r : Int) < 4 := by omega
     have hki : (k : Int) < 4 := by omega
     have hii : (idx : Int) < 4 := by omega
     have hws : IntKind.i64.wrap ((k : Int) - (r : Int)) = (k : Int) - (r : Int) := by rw [IntKind.wrap_i64]; omega
     have hwt : IntKind.i64.wrap ((k : Int) - (r : Int) + 4) = (k : Int) - (r : Int) + 4 := by rw [IntKind.wrap_i64]; omega
     have htm : ((k : Int) - (r : Int) + 4).tmod 4 = (idx : Int) := by rw [Int.tmod_eq_emod_of_nonneg (by omega)]; exact hidx
     go_wp2
     refine Loud.wp_region_weave 17 wr (Loud.sps [.val (.int .i64 (r : Int)), .val (.pointer (some ⟨w.heap.size + 1, r, none⟩)), .val (.int .u8 (a.toNat : Int)), .val (.slice (some ⟨g, o, none⟩) 4 cap), .val (.int .i64 (k : Int)), .val (.pointer (some ⟨g, o + k, none⟩)), .val (.int .u8 (b.toNat : Int)), .val (.int .i64 (k : Int)), .val (.int .i64 (r : Int)), .val (.int .i64 ((k : Int) - (r : Int))), .val (.int .i64 ((k : Int) - (r : Int) + 4)), .val (.int .i64 (idx : Int)), .val (.pointer (some ⟨w.heap.size, idx, none⟩)), .val (.int .u8 (c.toNat : Int)), .val (.int .u8 ((gm b c).toNat : Int)), .val (.int .u8 ((x8 a (gm b c)).toNat : Int)), .val (.pointer (some ⟨w.heap.size + 1, r, none⟩))]) (by kernel_rfl) (by kernel_rfl) (by show Ext _ _; repeat (first | exact Ext.refl _ | assumption | (with_reducible refine Ext.drew ?_) | (with_reducible refine Ext.drewN ?_ _) | (with_reducible refine Ext.alloc ?_ _) | (refine Ext.trans ?_ (by assumption)))) (Loud.sps_st _) ?wAx1 ?whAx1 ?whSx1 ?whFx1
     case whAx1 => intro u K hK; simp only [List.take_succ_cons, List.take_zero, Loud.puts]; go_simp; exact hK
     case whSx1 =>
      refine ⟨?wsx1_0, ?wsx1_1, ?wsx1_2, ?wsx1_3, ?wsx1_4, ?wsx1_5, ?wsx1_6, ?wsx1_7, ?wsx1_8, ?wsx1_9, ?wsx1_10, ?wsx1_11, ?wsx1_12, ?wsx1_13, ?wsx1_14, ?wsx1_15, ?wsx1_16, trivial⟩
      all_goals (intro u β wq hq h; repeat (obtain ⟨h1, h⟩ := h; first | (replace h1 := h1 rfl; simp only [go_sem] at h1; try (obtain ⟨h1, h1b⟩ := h1)) | (have hno := (h1 : Region.binds _ _ = true → _); clear hno h1)))
      case wsx1_2 =>
       refine Or.inl ⟨rfl, fun K hK => ?_⟩
       have hqc := hq.cell_of hoc
       go_simp
       exact hK _ 0 _ (Ext.refl _) rfl
      case wsx1_6 =>
       refine Or.inl ⟨rfl, fun K hK => ?_⟩
       have hqc := hq.cell_of hgc
       go_simp
       exact hK _ 0 _ (Ext.refl _) rfl
      case wsx1_13 =>
       refine Or.inl ⟨rfl, fun K hK => ?_⟩
       have hqc := hq.cell_of hfc
       go_simp
       exact hK _ 0 _ (Ext.refl _) rfl
      case wsx1_14 =>
       refine Or.inl ⟨rfl, fun K hK => ?_⟩
       go_simp
       refine (GT.out b c _).mono ?_; rintro e w1 ⟨rfl, hx1⟩; exact ⟨_, rfl, hK _ 0 _ hx1 rfl⟩
      all_goals (first | refine Or.inl ⟨rfl, fun K hK => ?_⟩ | refine Or.inl ⟨Loud.wanted_of rfl rfl (congrArg some (by assumption)), fun K hK => ?_⟩); go_simp; exact hK _ 0 _ (Ext.refl _) rfl
     intro u β w1 hq h
     have h0 := h 0 (by omega)
     have h1 := h 1 (by omega)
     have h2 := h 2 (by omega)
     have h3 := h 3 (by omega)
     have h4 := h 4 (by omega)
     have h5 := h 5 (by omega)
     have h6 := h 6 (by omega)
     have h7 := h 7 (by omega)
     have h8 := h 8 (by omega)
     have h9 := h 9 (by omega)
     have h10 := h 10 (by omega)
     have h11 := h 11 (by omega)
     have h12 := h 12 (by omega)
     have h13 := h 13 (by omega)
     have h14 := h 14 (by omega)
     have h15 := h 15 (by omega)
     have h16 := h 16 (by omega)
     clear h
     simp only [go_sem] at h0 h1 h2 h3 h4 h5 h6 h7 h8 h9 h10 h11 h12 h13 h14 h15 h16
     simp only [List.drop_succ_cons, List.drop_zero]
     rw [h16]
     have hbq := Lib.hid (hq.keep HO.out)
     have hfq := Lib.hid (hq.keep HFR.out)
     have hoc1 := hq.cell_of hoc
     have hfz1 : w1.frozen? ⟨w.heap.size + 1, r, none⟩ = false := frozen_blk hbq.out
     have hxq := hx.trans hq
     try rw [h15]
     go_wp2
     go_roundw
     case measure => simp [intOf]; omega
     case rel =>
      repeat apply Exists.intro
      refine ⟨?_, by rw [decide_eq_true hri]⟩
      refine ⟨k + 1, by omega, by go_num, ?_, ?_, hxq.setCell (by show w.heap.size ≤ w.heap.size + 1; omega) _⟩
      ·rw [heap_setCell_other _ _ _ (by show w.heap.size ≠ w.heap.size + 1; omega)]; exact hfq.out
      ·rw [heap_setCell_same _ hbq.out, bcells_set, ← HM.out, HS.out]; rfl
    ·obtain rfl : k = 4 := by omega
     rw [HSU.out] at HO
     go_wp2
     go_roundw
     case measure => simp [intOf]; omega
     case rel => exact ⟨r + 1, by omega, by go_num, HFR.out, HO.out, hx⟩
  ·obtain rfl : r = 4 := by omega
   rw [show outS f col 4 = mixL f col from if_neg (by omega)] at HO
   have hgq := Lib.hid (hx.keep HG.out)
   have hu8 : (Tryz.prog.info? 5).map (·.size) = some 1 := by kernel_rfl
   have HU8 := Lib.hid hu8
   clear hu8
   have hsrc : ∀ j v, ((mixL f col).map byteV)[j]? = some v → wr.cell? ((⟨w.heap.size + 1, 0, none⟩ : Addr).add j) = some v := by
    intro j v hj
    rw [show ((⟨w.heap.size + 1, 0, none⟩ : Addr).add j) = ⟨w.heap.size + 1, j, none⟩ by simp [Addr.add]; omega]
    exact cell_blk HO.out (by rw [bcells_toList, List.getElem?_toArray]; exact hj)
   go_wp2_with (refine wpl_copy_row rfl rfl und_bytes HU8.out (g := g) (off := o) (ad := ⟨w.heap.size + 1, 0, none⟩) ((mixL f col).map byteV) rfl rfl hgq.out (by simp [mixL_length]) hsrc (by simp [mixL_length]; omega) (oneCells _ (fun _ => rfl)) ?_; intro w' hb' hbel; have HB' := Lib.hid hb'; clear hb')
   go_returns
   refine ⟨rfl, ?_, (Below.mono hx (Nat.le_of_lt hgl)).trans hbel⟩
   rw [HB'.out, HCOL.out]
   congr 2
   unfold splice
   simp [bcells, byteV, List.map_take, List.map_drop]
end Go.Proofs.YtclekllaikcglaaGreat
