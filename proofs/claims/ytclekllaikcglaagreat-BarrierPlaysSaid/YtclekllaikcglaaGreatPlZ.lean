import Derived.Test.YtclekllaikcglaaGreatPlY
import Derived.Deep.CutRange

/- Layer 15: stands; BarrierPlays. -/
set_option linter.unusedVariables false
namespace Go.Proofs.YtclekllaikcglaaGreat
open Go Go.RowKit
theorem have_len (gs : GS) : (haveS gs).1 = gs.length := by cases gs <;> rfl
theorem RefS.cells {B r : Nat} {s : BS} {W : World} (h : RefS B r s W) (ok : s.Ok) : ∃ rp ad cap, W.cell? ⟨r, 0, none⟩ = some (.int .u8 (s.st : Int)) ∧ W.cell? ⟨r, 1, none⟩ = some (.string (bs s.hd)) ∧ W.cell? ⟨r, 3, none⟩ = some (.pointer rp) ∧ W.cell? ⟨r, 4, none⟩ = some (.slice ad s.gs.length cap) := by
 obtain ⟨rp, gv, hb⟩ := h.blk ok
 have ho : W.ownsRow B 119 3 gv s.gs.length (gvals s.gs) := by
  rcases h with ⟨h0, d, gv2, h2⟩ | ⟨h0, gv2, h2⟩
  ·have e := hb.symm.trans h2.blk
   simp only [rbo, Option.some.injEq, Obj.cells.injEq] at e
   have e2 : gv = gv2 := by simpa using (Array.mk.inj e.1 |> List.cons.inj |>.2 |> List.cons.inj |>.2 |> List.cons.inj |>.2 |> List.cons.inj |>.2 |> List.cons.inj |>.1)
   rw [e2]; exact h2.own
  ·have e := hb.symm.trans h2.blk
   simp only [rbo, Option.some.injEq, Obj.cells.injEq] at e
   have e2 : gv = gv2 := by simpa using (Array.mk.inj e.1 |> List.cons.inj |>.2 |> List.cons.inj |>.2 |> List.cons.inj |>.2 |> List.cons.inj |>.2 |> List.cons.inj |>.1)
   rw [e2]; exact h2.own
 obtain ⟨ad, cap, rfl⟩ := own_lookG ho
 obtain ⟨c0, c1, _, c3, c4, _⟩ := rb_c hb
 exact ⟨rp, ad, cap, c0, c1, c3, c4⟩
set_option maxRecDepth 100000 in
set_option maxHeartbeats 16000000 in
theorem stands_shut (w0 W : World) (p b r : Nat) (sv : Value) (P : PSt) (s : BS) (N : Nat) (h : PW w0 [] p b r sv P s s W) (ok : s.Ok) (hst : s.st ≠ 2)
  (GHV : Hid (∀ W, ProgB w0 b s W → Calls Tryz.prog 14 #[.pointer (some ⟨b, 0, none⟩)] W fun e w' => e = .returned (.tuple #[.int .i64 (s.gs.length : Int), .int .i64 (N : Int)]) ∧ Ext W w'))
  (HNN : Hid (s.st = 0 ∧ N = 0 ∨ s.st ≠ 0 ∧ ∃ x t, s.hd = x :: t ∧ N = x.toNat)) :
  Calls Tryz.prog 25 #[.pointer (some ⟨p, 0, none⟩)] W fun e w' => e = .returned (.bool true) ∧ Ext W w' := by
 obtain ⟨d0, d1, _, _, _, _, _⟩ := h.cells
 obtain ⟨rp, ad, cap, r0, r1, r3, r4⟩ := h.ref.cells ok
 have GEP : Hid (∀ W, ProgB w0 b s W → Calls Tryz.prog 19 #[.pointer (some ⟨b, 0, none⟩)] W fun e w' => e = .returned (.slice none 0 0) ∧ W = w') := Lib.hid (fun W hB => by
  obtain ⟨p, q, bg, hc⟩ := hB.cell
  exact bar_Epochs_st hc hst)
 have gst : ∀ W, ProgB w0 b s W → Calls Tryz.prog 15 #[.pointer (some ⟨b, 0, none⟩)] W fun e w' => e = .returned (.int .u8 (s.st : Int)) ∧ Ext W w' := fun W hB => by
  obtain ⟨p, q, bg, hc⟩ := hB.cell
  exact (bar_State hc).mono (by rintro e w' ⟨rfl, rfl⟩; exact ⟨rfl, Ext.refl _⟩)
 have ghd : ∀ W, ProgB w0 b s W → Calls Tryz.prog 18 #[.pointer (some ⟨b, 0, none⟩)] W fun e w' => e = .returned (.string (bs s.hd)) ∧ Ext W w' := fun W hB => by
  obtain ⟨p, q, bg, hc⟩ := hB.cell
  exact (bar_Header hc).mono (by rintro e w' ⟨rfl, rfl⟩; exact ⟨rfl, Ext.refl _⟩)
 have GST0 := Lib.hid gst
 have GHD0 := Lib.hid ghd
 have H := Lib.hid h
 have hst2 : ((s.st : Int) != 2) = true := by simp; omega
 obtain ⟨st, hst0⟩ : ∃ st, s.st = st := ⟨_, rfl⟩
 obtain ⟨hd, hhd⟩ : ∃ hd, s.hd = hd := ⟨_, rfl⟩
 obtain ⟨G, hG⟩ : ∃ G, s.gs.length = G := ⟨_, rfl⟩
 rw [hst0] at r0 hst2 HNN GST0
 rw [hhd] at r1 HNN GHD0
 rw [hG] at r4 GHV
 clear h ok hst gst ghd r3 hst0 hhd hG
 have iS : st ≠ 0 → ∀ W, (Instr.index 9 (.string (bs hd)) (.int .i64 0)).run Tryz.prog W = .ok (.int .u8 (N : Int)) W := fun h0 W => by
  rcases HNN.out with ⟨h1, _⟩ | ⟨_, x, t, h1, h2⟩
  ·exact absurd h1 h0
  ·subst h1 h2; exact run_index_str (x :: t) 0 (by simp) W
 have IS := Lib.hid iS
 have hN : N < 256 := by
  rcases HNN.out with ⟨_, h1⟩ | ⟨_, x, t, _, h2⟩
  ·omega
  ·rw [h2]; exact x.toNat_lt
 have hwN : IntKind.i64.wrap (N : Int) = (N : Int) := by rw [IntKind.wrap_i64]; omega
 clear iS
 go_enter Tryz.func25, Tryz.ntmps25
 go_upto_region 2 with (go_at_call 14; (with_reducible refine (GHV.out _ H.out.prog).mono ?_); rintro e w1 ⟨rfl, hx1⟩; have HX := Lib.hid hx1; have H1 := Lib.hid (H.out.next hx1); have e0 := hx1.cell_of d0; have e1 := hx1.cell_of d1; have f0 := hx1.cell_of r0; have f1 := hx1.cell_of r1; have f4 := hx1.cell_of r4; clear hx1)
 clear d0 d1 r0 r1 r4
 have hGG : Hid (∀ K : Prop, K → K) := Lib.hid (fun _ h => h)
 by_cases h0 : st = 0
 ·have hne : ((st : Int) != 0) = false := by simp; omega
  have hN0 : N = 0 := by
   rcases HNN.out with ⟨_, h1⟩ | ⟨h1, _⟩
   ·exact h1
   ·exact absurd h0 h1
  subst hN0
  clear HNN h0 IS
  go_upto_region 7 with (go_at_call 19; (with_reducible refine (GEP.out _ H1.out.prog).mono ?_); rintro e w' ⟨rfl, rfl⟩)
  have GST := Lib.hid (fun W2 (hx : Ext w1 W2) => GST0.out W2 (H1.out.prog.next hx))
  have GHD := Lib.hid (fun W2 (hx : Ext w1 W2) => GHD0.out W2 (H1.out.prog.next hx))
  have d0 := e0; have d1 := e1; have r0 := f0; have r1 := f1
  clear e0 e1 f0 f1 f4 hne hst2 GST0 GHD0 GEP GHV
  refine Loud.wp_region_weave 44 w1 (Loud.sps [.val (.pointer (some ⟨p, 0, none⟩)), .val (.pointer (some ⟨p, 0, none⟩)), .val (.pointer (some ⟨p, 0, none⟩)), .val (.pointer (some ⟨b, 0, none⟩)), .val (.int .u8 (st : Int)), .val (.pointer (some ⟨p, 0, none⟩)), .val (.pointer (some ⟨p, 0, none⟩)), .val (.pointer (some ⟨p, 1, none⟩)), .val (.pointer (some ⟨r, 0, none⟩)), .val (.pointer (some ⟨r, 0, none⟩)), .val (.pointer (some ⟨r, 0, none⟩)), .val (.int .u8 (st : Int)), .val (.bool true), .val (.bool true), .val (.pointer (some ⟨p, 0, none⟩)), .val (.pointer (some ⟨p, 0, none⟩)), .val (.pointer (some ⟨p, 0, none⟩)), .val (.pointer (some ⟨b, 0, none⟩)), .val (.string (bs hd)), .val (.pointer (some ⟨p, 0, none⟩)), .val (.pointer (some ⟨p, 0, none⟩)), .val (.pointer (some ⟨p, 1, none⟩)), .val (.pointer (some ⟨r, 0, none⟩)), .val (.pointer (some ⟨r, 0, none⟩)), .val (.pointer (some ⟨r, 1, none⟩)), .val (.string (bs hd)), .val (.bool true), .val (.bool true), .val (.bool true), .val (.int .i64 (G : Int)), .val (.int .i64 (G : Int)), .val (.bool true), .val (.bool true), .val (.bool true), .val (.int .i64 0), .val (.int .i64 0), .val (.bool true), .val (.bool true), .val (.bool true), .val (.slice none 0 0), .val (.int .i64 0), .val (.bool true), .val (.bool true), .val (.bool true)]) (by kernel_rfl) (by kernel_rfl) (by show Ext _ _; repeat (first | exact Ext.refl _ | assumption | (with_reducible refine Ext.drew ?_) | (with_reducible refine Ext.drewN ?_ _) | (with_reducible refine Ext.alloc ?_ _) | (refine Ext.trans ?_ (by assumption)))) (Loud.sps_st _) ?wAx1 ?whAx1 ?whSx1 ?whFx1
  case whAx1 => intro u K hK; simp only [List.take_succ_cons, List.take_zero, Loud.puts]; go_simp; exact hK
  case whSx1 =>
   refine ⟨?wsx1_0, ?wsx1_1, ?wsx1_2, ?wsx1_3, ?wsx1_4, ?wsx1_5, ?wsx1_6, ?wsx1_7, ?wsx1_8, ?wsx1_9, ?wsx1_10, ?wsx1_11, ?wsx1_12, ?wsx1_13, ?wsx1_14, ?wsx1_15, ?wsx1_16, ?wsx1_17, ?wsx1_18, ?wsx1_19, ?wsx1_20, ?wsx1_21, ?wsx1_22, ?wsx1_23, ?wsx1_24, ?wsx1_25, ?wsx1_26, ?wsx1_27, ?wsx1_28, ?wsx1_29, ?wsx1_30, ?wsx1_31, ?wsx1_32, ?wsx1_33, ?wsx1_34, ?wsx1_35, ?wsx1_36, ?wsx1_37, ?wsx1_38, ?wsx1_39, ?wsx1_40, ?wsx1_41, ?wsx1_42, ?wsx1_43, trivial⟩
   all_goals (intro u β wq hq h; repeat (obtain ⟨h1, h⟩ := h; first | (replace h1 := h1 rfl; simp only [go_sem] at h1; try (obtain ⟨h1, h1b⟩ := h1)) | (have hno := (h1 : Region.binds _ _ = true → _); clear hno h1)))
   case wsx1_3 =>
    refine Or.inl ⟨rfl, fun K hK => ?_⟩
    have hqc := hq.cell_of d0
    go_simp
    exact hK _ 0 _ (Ext.refl _) rfl
   case wsx1_4 =>
    refine Or.inl ⟨rfl, fun K hK => ?_⟩
    go_simp
    refine (GST.out _ (by assumption)).mono ?_; rintro e w1 ⟨rfl, hx1⟩; exact ⟨_, rfl, hK _ 0 _ hx1 rfl⟩
   case wsx1_8 =>
    refine Or.inl ⟨rfl, fun K hK => ?_⟩
    have hqc := hq.cell_of d1
    go_simp
    exact hK _ 0 _ (Ext.refl _) rfl
   case wsx1_11 =>
    refine Or.inl ⟨rfl, fun K hK => ?_⟩
    have hqc := hq.cell_of r0
    go_simp
    exact hK _ 0 _ (Ext.refl _) rfl
   case wsx1_17 =>
    refine Or.inl ⟨Loud.wanted_of rfl rfl (congrArg some (by assumption)), fun K hK => ?_⟩
    have hqc := hq.cell_of d0
    go_simp
    exact hK _ 0 _ (Ext.refl _) rfl
   case wsx1_18 =>
    refine Or.inl ⟨Loud.wanted_of rfl rfl (congrArg some (by assumption)), fun K hK => ?_⟩
    go_simp
    refine (GHD.out _ (by assumption)).mono ?_; rintro e w1 ⟨rfl, hx1⟩; exact ⟨_, rfl, hK _ 0 _ hx1 rfl⟩
   case wsx1_22 =>
    refine Or.inl ⟨Loud.wanted_of rfl rfl (congrArg some (by assumption)), fun K hK => ?_⟩
    have hqc := hq.cell_of d1
    go_simp
    exact hK _ 0 _ (Ext.refl _) rfl
   case wsx1_25 =>
    refine Or.inl ⟨Loud.wanted_of rfl rfl (congrArg some (by assumption)), fun K hK => ?_⟩
    have hqc := hq.cell_of r1
    go_simp
    exact hK _ 0 _ (Ext.refl _) rfl
   all_goals (first | refine Or.inl ⟨rfl, fun K hK => ?_⟩ | refine Or.inl ⟨Loud.wanted_of rfl rfl (congrArg some (by assumption)), fun K hK => ?_⟩); go_simp; exact hK _ 0 _ (Ext.refl _) rfl
  intro u β wE hq h
  have h0 := h 0 (by omega)
  have h1 := h 1 (by omega)
  have h2 := h 2 (by omega)
  have h3 := h 3 (by omega)
  have h4 := h 4 (by omega)
  have h5 := h 5 (by omega)
  have h6 := h 6 (by omega)
  have h7 := h 7 (by omega)
  have h8 := h 8 (by omega)
  have h9 := h 9 (by omega)
  have h10 := h 10 (by omega)
  have h11 := h 11 (by omega)
  have h12 := h 12 (by omega)
  have h13 := h 13 (by omega)
  have h14 := h 14 (by omega)
  have h15 := h 15 (by omega)
  have h16 := h 16 (by omega)
  have h17 := h 17 (by omega)
  have h18 := h 18 (by omega)
  have h19 := h 19 (by omega)
  have h20 := h 20 (by omega)
  have h21 := h 21 (by omega)
  have h22 := h 22 (by omega)
  have h23 := h 23 (by omega)
  have h24 := h 24 (by omega)
  have h25 := h 25 (by omega)
  have h26 := h 26 (by omega)
  have h27 := h 27 (by omega)
  have h28 := h 28 (by omega)
  have h29 := h 29 (by omega)
  have h30 := h 30 (by omega)
  have h31 := h 31 (by omega)
  have h32 := h 32 (by omega)
  have h33 := h 33 (by omega)
  have h34 := h 34 (by omega)
  have h35 := h 35 (by omega)
  have h36 := h 36 (by omega)
  have h37 := h 37 (by omega)
  have h38 := h 38 (by omega)
  have h39 := h 39 (by omega)
  have h40 := h 40 (by omega)
  have h41 := h 41 (by omega)
  have h42 := h 42 (by omega)
  have h43 := h 43 (by omega)
  clear h
  simp only [go_sem] at h0 h1 h2 h3 h4 h5 h6 h7 h8 h9 h10 h11 h12 h13 h14 h15 h16 h17 h18 h19 h20 h21 h22 h23 h24 h25 h26 h27 h28 h29 h30 h31 h32 h33 h34 h35 h36 h37 h38 h39 h40 h41 h42 h43
  simp only [List.drop_succ_cons, List.drop_zero]
  rw [h43]
  have HXE := Lib.hid (HX.out.trans hq)
  have e43 := h43
  clear h0 h1 h2 h3 h4 h5 h6 h7 h8 h9 h10 h11 h12 h13 h14 h15 h16 h17 h18 h19 h20 h21 h22 h23 h24 h25 h26 h27 h28 h29 h30 h31 h32 h33 h34 h35 h36 h37 h38 h39 h40 h41 h42 d0 d1 r0 r1 hq
  try rw [e43]
  go_wp2_with fail
  go_returns
  exact ⟨rfl, HXE.out⟩
 ·have hne : ((st : Int) != 0) = true := by simp; omega
  have iS := IS.out h0
  clear HNN h0 IS
  go_upto_region 7 with (go_at_call 19; (with_reducible refine (GEP.out _ H1.out.prog).mono ?_); rintro e w' ⟨rfl, rfl⟩)
  have GST := Lib.hid (fun W2 (hx : Ext w1 W2) => GST0.out W2 (H1.out.prog.next hx))
  have GHD := Lib.hid (fun W2 (hx : Ext w1 W2) => GHD0.out W2 (H1.out.prog.next hx))
  have d0 := e0; have d1 := e1; have r0 := f0; have r1 := f1
  clear e0 e1 f0 f1 f4 hne hst2 GST0 GHD0 GEP GHV
  refine Loud.wp_region_weave 44 w1 (Loud.sps [.val (.pointer (some ⟨p, 0, none⟩)), .val (.pointer (some ⟨p, 0, none⟩)), .val (.pointer (some ⟨p, 0, none⟩)), .val (.pointer (some ⟨b, 0, none⟩)), .val (.int .u8 (st : Int)), .val (.pointer (some ⟨p, 0, none⟩)), .val (.pointer (some ⟨p, 0, none⟩)), .val (.pointer (some ⟨p, 1, none⟩)), .val (.pointer (some ⟨r, 0, none⟩)), .val (.pointer (some ⟨r, 0, none⟩)), .val (.pointer (some ⟨r, 0, none⟩)), .val (.int .u8 (st : Int)), .val (.bool true), .val (.bool true), .val (.pointer (some ⟨p, 0, none⟩)), .val (.pointer (some ⟨p, 0, none⟩)), .val (.pointer (some ⟨p, 0, none⟩)), .val (.pointer (some ⟨b, 0, none⟩)), .val (.string (bs hd)), .val (.pointer (some ⟨p, 0, none⟩)), .val (.pointer (some ⟨p, 0, none⟩)), .val (.pointer (some ⟨p, 1, none⟩)), .val (.pointer (some ⟨r, 0, none⟩)), .val (.pointer (some ⟨r, 0, none⟩)), .val (.pointer (some ⟨r, 1, none⟩)), .val (.string (bs hd)), .val (.bool true), .val (.bool true), .val (.bool true), .val (.int .i64 (G : Int)), .val (.int .i64 (G : Int)), .val (.bool true), .val (.bool true), .val (.bool true), .val (.int .i64 (N : Int)), .val (.int .i64 (N : Int)), .val (.bool true), .val (.bool true), .val (.bool true), .val (.slice none 0 0), .val (.int .i64 0), .val (.bool true), .val (.bool true), .val (.bool true)]) (by kernel_rfl) (by kernel_rfl) (by show Ext _ _; repeat (first | exact Ext.refl _ | assumption | (with_reducible refine Ext.drew ?_) | (with_reducible refine Ext.drewN ?_ _) | (with_reducible refine Ext.alloc ?_ _) | (refine Ext.trans ?_ (by assumption)))) (Loud.sps_st _) ?wAx2 ?whAx2 ?whSx2 ?whFx2
  case whAx2 => intro u K hK; simp only [List.take_succ_cons, List.take_zero, Loud.puts]; go_simp; exact hK
  case whSx2 =>
   refine ⟨?wsx2_0, ?wsx2_1, ?wsx2_2, ?wsx2_3, ?wsx2_4, ?wsx2_5, ?wsx2_6, ?wsx2_7, ?wsx2_8, ?wsx2_9, ?wsx2_10, ?wsx2_11, ?wsx2_12, ?wsx2_13, ?wsx2_14, ?wsx2_15, ?wsx2_16, ?wsx2_17, ?wsx2_18, ?wsx2_19, ?wsx2_20, ?wsx2_21, ?wsx2_22, ?wsx2_23, ?wsx2_24, ?wsx2_25, ?wsx2_26, ?wsx2_27, ?wsx2_28, ?wsx2_29, ?wsx2_30, ?wsx2_31, ?wsx2_32, ?wsx2_33, ?wsx2_34, ?wsx2_35, ?wsx2_36, ?wsx2_37, ?wsx2_38, ?wsx2_39, ?wsx2_40, ?wsx2_41, ?wsx2_42, ?wsx2_43, trivial⟩
   all_goals (intro u β wq hq h; repeat (obtain ⟨h1, h⟩ := h; first | (replace h1 := h1 rfl; simp only [go_sem] at h1; try (obtain ⟨h1, h1b⟩ := h1)) | (have hno := (h1 : Region.binds _ _ = true → _); clear hno h1)))
   case wsx2_3 =>
    refine Or.inl ⟨rfl, fun K hK => ?_⟩
    have hqc := hq.cell_of d0
    go_simp
    exact hK _ 0 _ (Ext.refl _) rfl
   case wsx2_4 =>
    refine Or.inl ⟨rfl, fun K hK => ?_⟩
    go_simp
    refine (GST.out _ (by assumption)).mono ?_; rintro e w1 ⟨rfl, hx1⟩; exact ⟨_, rfl, hK _ 0 _ hx1 rfl⟩
   case wsx2_8 =>
    refine Or.inl ⟨rfl, fun K hK => ?_⟩
    have hqc := hq.cell_of d1
    go_simp
    exact hK _ 0 _ (Ext.refl _) rfl
   case wsx2_11 =>
    refine Or.inl ⟨rfl, fun K hK => ?_⟩
    have hqc := hq.cell_of r0
    go_simp
    exact hK _ 0 _ (Ext.refl _) rfl
   case wsx2_17 =>
    refine Or.inl ⟨Loud.wanted_of rfl rfl (congrArg some (by assumption)), fun K hK => ?_⟩
    have hqc := hq.cell_of d0
    go_simp
    exact hK _ 0 _ (Ext.refl _) rfl
   case wsx2_18 =>
    refine Or.inl ⟨Loud.wanted_of rfl rfl (congrArg some (by assumption)), fun K hK => ?_⟩
    go_simp
    refine (GHD.out _ (by assumption)).mono ?_; rintro e w1 ⟨rfl, hx1⟩; exact ⟨_, rfl, hK _ 0 _ hx1 rfl⟩
   case wsx2_22 =>
    refine Or.inl ⟨Loud.wanted_of rfl rfl (congrArg some (by assumption)), fun K hK => ?_⟩
    have hqc := hq.cell_of d1
    go_simp
    exact hK _ 0 _ (Ext.refl _) rfl
   case wsx2_25 =>
    refine Or.inl ⟨Loud.wanted_of rfl rfl (congrArg some (by assumption)), fun K hK => ?_⟩
    have hqc := hq.cell_of r1
    go_simp
    exact hK _ 0 _ (Ext.refl _) rfl
   all_goals (first | refine Or.inl ⟨rfl, fun K hK => ?_⟩ | refine Or.inl ⟨Loud.wanted_of rfl rfl (congrArg some (by assumption)), fun K hK => ?_⟩); go_simp; exact hK _ 0 _ (Ext.refl _) rfl
  intro u β wE hq h
  have h0 := h 0 (by omega)
  have h1 := h 1 (by omega)
  have h2 := h 2 (by omega)
  have h3 := h 3 (by omega)
  have h4 := h 4 (by omega)
  have h5 := h 5 (by omega)
  have h6 := h 6 (by omega)
  have h7 := h 7 (by omega)
  have h8 := h 8 (by omega)
  have h9 := h 9 (by omega)
  have h10 := h 10 (by omega)
  have h11 := h 11 (by omega)
  have h12 := h 12 (by omega)
  have h13 := h 13 (by omega)
  have h14 := h 14 (by omega)
  have h15 := h 15 (by omega)
  have h16 := h 16 (by omega)
  have h17 := h 17 (by omega)
  have h18 := h 18 (by omega)
  have h19 := h 19 (by omega)
  have h20 := h 20 (by omega)
  have h21 := h 21 (by omega)
  have h22 := h 22 (by omega)
  have h23 := h 23 (by omega)
  have h24 := h 24 (by omega)
  have h25 := h 25 (by omega)
  have h26 := h 26 (by omega)
  have h27 := h 27 (by omega)
  have h28 := h 28 (by omega)
  have h29 := h 29 (by omega)
  have h30 := h 30 (by omega)
  have h31 := h 31 (by omega)
  have h32 := h 32 (by omega)
  have h33 := h 33 (by omega)
  have h34 := h 34 (by omega)
  have h35 := h 35 (by omega)
  have h36 := h 36 (by omega)
  have h37 := h 37 (by omega)
  have h38 := h 38 (by omega)
  have h39 := h 39 (by omega)
  have h40 := h 40 (by omega)
  have h41 := h 41 (by omega)
  have h42 := h 42 (by omega)
  have h43 := h 43 (by omega)
  clear h
  simp only [go_sem] at h0 h1 h2 h3 h4 h5 h6 h7 h8 h9 h10 h11 h12 h13 h14 h15 h16 h17 h18 h19 h20 h21 h22 h23 h24 h25 h26 h27 h28 h29 h30 h31 h32 h33 h34 h35 h36 h37 h38 h39 h40 h41 h42 h43
  simp only [List.drop_succ_cons, List.drop_zero]
  rw [h43]
  have HXE := Lib.hid (HX.out.trans hq)
  have e43 := h43
  clear h0 h1 h2 h3 h4 h5 h6 h7 h8 h9 h10 h11 h12 h13 h14 h15 h16 h17 h18 h19 h20 h21 h22 h23 h24 h25 h26 h27 h28 h29 h30 h31 h32 h33 h34 h35 h36 h37 h38 h39 h40 h41 h42 d0 d1 r0 r1 hq
  try rw [e43]
  go_wp2_with fail
  go_returns
  exact ⟨rfl, HXE.out⟩
set_option maxRecDepth 100000 in
set_option maxHeartbeats 16000000 in
theorem stands_open (w0 W : World) (p b r : Nat) (sv : Value) (P : PSt) (s : BS) (h : PW w0 [] p b r sv P s s W) (ok : s.Ok) (hst : s.st = 2) :
  Calls Tryz.prog 25 #[.pointer (some ⟨p, 0, none⟩)] W fun e w' => e = .returned (.bool true) ∧ Ext W w' := by
 obtain ⟨d0, d1, _, _, _, _, _⟩ := h.cells
 obtain ⟨rp, ad, cap, r0, r1, r3, r4⟩ := h.ref.cells ok
 obtain ⟨hI, _, _, _, hgs⟩ := ok.opn hst
 obtain ⟨x, t, hhx, _, _, _⟩ := ok.hd (by omega)
 obtain ⟨d, gv, hO⟩ := h.ref.open hst
 obtain ⟨gd, capd, hdb, _, _, _, _, _, hdc⟩ := hO.doc.look hI.ne
 have rp3 : W.cell? ⟨r, 3, none⟩ = some (.pointer (some ⟨d, 0, none⟩)) := (rb_c hO.blk).2.2.2.1
 have dd0 : W.cell? ⟨d, 0, none⟩ = some (.slice (some ⟨gd, 0, none⟩) s.E.length capd) := cell_blk hdb rfl
 have HDC := Lib.hid hdc
 have GHV : Hid (∀ W, ProgB w0 b s W → Calls Tryz.prog 14 #[.pointer (some ⟨b, 0, none⟩)] W fun e w' => e = .returned (.tuple #[.int .i64 (s.gs.length : Int), .int .i64 (x.toNat : Int)]) ∧ Ext W w') := Lib.hid (fun W hB => by
  obtain ⟨a, rfl, hA⟩ := hB.open hst
  have hc := hA.cell
  rw [hhx] at hc
  have := bar_HaveX hc (by omega) hA.got (by rw [hgs]; simp)
  rw [have_len] at this
  exact this)
 have GEP : Hid (∀ W, ProgB w0 b s W → Calls Tryz.prog 19 #[.pointer (some ⟨b, 0, none⟩)] W (EpB (fun W2 => Ext W W2) s.E)) := Lib.hid (fun W hB => by
  obtain ⟨a, rfl, hA⟩ := hB.open hst
  exact bar_Epochs_x w0 W [] a s.hd s.gs s.E s.n s.root hA hI)
 have gst : ∀ W, ProgB w0 b s W → Calls Tryz.prog 15 #[.pointer (some ⟨b, 0, none⟩)] W fun e w' => e = .returned (.int .u8 (s.st : Int)) ∧ Ext W w' := fun W hB => by
  obtain ⟨p, q, bg, hc⟩ := hB.cell
  exact (bar_State hc).mono (by rintro e w' ⟨rfl, rfl⟩; exact ⟨rfl, Ext.refl _⟩)
 have ghd : ∀ W, ProgB w0 b s W → Calls Tryz.prog 18 #[.pointer (some ⟨b, 0, none⟩)] W fun e w' => e = .returned (.string (bs s.hd)) ∧ Ext W w' := fun W hB => by
  obtain ⟨p, q, bg, hc⟩ := hB.cell
  exact (bar_Header hc).mono (by rintro e w' ⟨rfl, rfl⟩; exact ⟨rfl, Ext.refl _⟩)
 have GST0 := Lib.hid gst
 have GHD0 := Lib.hid ghd
 have H := Lib.hid h
 have iS : ∀ W, (Instr.index 9 (.string (bs (x :: t))) (.int .i64 0)).run Tryz.prog W = .ok (.int .u8 (x.toNat : Int)) W := fun W => run_index_str (x :: t) 0 (by simp) W
 obtain ⟨N, hNx⟩ : ∃ N, x.toNat = N := ⟨_, rfl⟩
 have hN : N < 256 := by rw [← hNx]; exact x.toNat_lt
 have hwN : IntKind.i64.wrap (N : Int) = (N : Int) := by rw [IntKind.wrap_i64]; omega
 obtain ⟨st, hst0⟩ : ∃ st, s.st = st := ⟨_, rfl⟩
 obtain ⟨hd, hhd⟩ : ∃ hd, s.hd = hd := ⟨_, rfl⟩
 obtain ⟨G, hG⟩ : ∃ G, s.gs.length = G := ⟨_, rfl⟩
 obtain ⟨E, hE⟩ : ∃ E, s.E = E := ⟨_, rfl⟩
 obtain ⟨L, hL⟩ : ∃ L, E.length = L := ⟨_, rfl⟩
 have hL64 : L ≤ 64 := by rw [← hL, ← hE]; exact hI.len
 have hx2 : x :: t = hd := by rw [← hhx, hhd]
 rw [hst0] at r0 GST0
 rw [hhd] at r1 GHD0
 rw [hG] at r4 GHV
 rw [hE] at dd0 GEP HDC
 rw [hL] at dd0
 rw [hNx] at iS GHV
 rw [hx2] at iS
 have hst3 : st = 2 := by rw [← hst0]; exact hst
 subst hst3
 have HLL := Lib.hid hL
 clear h ok hst gst ghd r3 hst0 hhd hG hE hI hgs hhx hO hdb hdc hNx hx2 hL
 go_enter Tryz.func25, Tryz.ntmps25
 go_upto_region 2 with (go_at_call 14; (with_reducible refine (GHV.out _ H.out.prog).mono ?_); rintro e w1 ⟨rfl, hx1⟩; have HX := Lib.hid hx1; have H1 := Lib.hid (H.out.next hx1); have e0 := hx1.cell_of d0; have e1 := hx1.cell_of d1; have f0 := hx1.cell_of r0; have f1 := hx1.cell_of r1; have f4 := hx1.cell_of r4; have f3 := hx1.cell_of rp3; have k0 := hx1.cell_of dd0; clear hx1)
 clear d0 d1 r0 r1 r4 rp3 dd0
 go_upto_region 6 with (go_at_call 19; (with_reducible refine (GEP.out _ H1.out.prog).mono ?_); rintro e w2 ⟨g, cp, rfl, hep, hx2⟩; have HX2 := Lib.hid hx2; have HEP := Lib.hid hep; have H2 := Lib.hid (H1.out.next hx2); have d0 := hx2.cell_of e0; have d1 := hx2.cell_of e1; have r0 := hx2.cell_of f0; have r1 := hx2.cell_of f1; have r3 := hx2.cell_of f3; have q0 := hx2.cell_of k0; clear hx2 hep)
 have hLE := HLL.out
 try rw [hLE]
 clear e0 e1 f0 f1 f3 f4 k0 GHV GEP hLE
 have HE2 : Hid (Ext w2 w2) := Lib.hid (Ext.refl w2)
 go_wp2_with fail
 go_loopg [8] L (fun q s8 wr => ∃ i : Nat, s8 = .int .i64 (i : Int) ∧ i + q = L ∧ Hid (Ext w2 wr))
 case atStart => exact ⟨0, rfl, by omega, HE2⟩
 case round =>
  obtain ⟨i, rfl, hiq, HE⟩ := hrel
  clear HE2
  cases gk with
  | succ q =>
   have hiL : i < E.length := by have := HLL.out; omega
   have hii : (i : Int) < (L : Int) := by omega
   have t1 := HE.out.cell_of (HEP.out i hiL)
   have t2 := HE.out.cell_of (((HX.out.trans HX2.out)).cell_of (HDC.out i hiL).1)
   obtain ⟨ep, hep⟩ : ∃ ep, (E[i]).1 = ep := ⟨_, rfl⟩
   rw [hep] at t1 t2
   have u1 := HE.out.cell_of d1
   have u3 := HE.out.cell_of r3
   have u0 := HE.out.cell_of q0
   clear hep
   go_upto_region 13 with fail
   go_quiet (fail)
   go_wp2
   go_roundg q
   case measure => omega
   case rel => exact ⟨i + 1, by go_num, by omega, Lib.hid (HE.out.drewN _)⟩
  | zero =>
  obtain rfl : i = L := by omega
  have hlt : decide ((i : Int) < (i : Int)) = false := by simp
  go_upto_region 15 with fail
  have GST : Hid (∀ W2, Ext wr W2 → Calls Tryz.prog 15 #[.pointer (some ⟨b, 0, none⟩)] W2 fun e w' => e = .returned (.int .u8 2) ∧ Ext W2 w') := Lib.hid (fun W2 hx => GST0.out W2 (H2.out.prog.next (HE.out.trans hx)))
  have GHD := Lib.hid (fun W2 (hx : Ext wr W2) => GHD0.out W2 (H2.out.prog.next (HE.out.trans hx)))
  have d0' := HE.out.cell_of d0; have d1' := HE.out.cell_of d1; have r0' := HE.out.cell_of r0; have r1' := HE.out.cell_of r1
  clear d0 d1 r0 r1 r3 q0 GST0 GHD0 HDC HEP
  have d0 := d0'; have d1 := d1'; have r0 := r0'; have r1 := r1'
  clear d0' d1' r0' r1'
  refine Loud.wp_region_weave 39 wr (Loud.sps [.val (.pointer (some ⟨p, 0, none⟩)), .val (.pointer (some ⟨p, 0, none⟩)), .val (.pointer (some ⟨p, 0, none⟩)), .val (.pointer (some ⟨b, 0, none⟩)), .val (.int .u8 2), .val (.pointer (some ⟨p, 0, none⟩)), .val (.pointer (some ⟨p, 0, none⟩)), .val (.pointer (some ⟨p, 1, none⟩)), .val (.pointer (some ⟨r, 0, none⟩)), .val (.pointer (some ⟨r, 0, none⟩)), .val (.pointer (some ⟨r, 0, none⟩)), .val (.int .u8 2), .val (.bool true), .val (.bool true), .val (.pointer (some ⟨p, 0, none⟩)), .val (.pointer (some ⟨p, 0, none⟩)), .val (.pointer (some ⟨p, 0, none⟩)), .val (.pointer (some ⟨b, 0, none⟩)), .val (.string (bs hd)), .val (.pointer (some ⟨p, 0, none⟩)), .val (.pointer (some ⟨p, 0, none⟩)), .val (.pointer (some ⟨p, 1, none⟩)), .val (.pointer (some ⟨r, 0, none⟩)), .val (.pointer (some ⟨r, 0, none⟩)), .val (.pointer (some ⟨r, 1, none⟩)), .val (.string (bs hd)), .val (.bool true), .val (.bool true), .val (.bool true), .val (.int .i64 (G : Int)), .val (.int .i64 (G : Int)), .val (.bool true), .val (.bool true), .val (.bool true), .val (.int .i64 (N : Int)), .val (.int .i64 (N : Int)), .val (.bool true), .val (.bool true), .val (.bool true)]) (by kernel_rfl) (by kernel_rfl) (by show Ext _ _; repeat (first | exact Ext.refl _ | assumption | (with_reducible refine Ext.drew ?_) | (with_reducible refine Ext.drewN ?_ _) | (with_reducible refine Ext.alloc ?_ _) | (refine Ext.trans ?_ (by assumption)))) (Loud.sps_st _) ?wAx3 ?whAx3 ?whSx3 ?whFx3
  case whAx3 => intro u K hK; simp only [List.take_succ_cons, List.take_zero, Loud.puts]; go_simp; exact hK
  case whSx3 =>
   refine ⟨?wsx3_0, ?wsx3_1, ?wsx3_2, ?wsx3_3, ?wsx3_4, ?wsx3_5, ?wsx3_6, ?wsx3_7, ?wsx3_8, ?wsx3_9, ?wsx3_10, ?wsx3_11, ?wsx3_12, ?wsx3_13, ?wsx3_14, ?wsx3_15, ?wsx3_16, ?wsx3_17, ?wsx3_18, ?wsx3_19, ?wsx3_20, ?wsx3_21, ?wsx3_22, ?wsx3_23, ?wsx3_24, ?wsx3_25, ?wsx3_26, ?wsx3_27, ?wsx3_28, ?wsx3_29, ?wsx3_30, ?wsx3_31, ?wsx3_32, ?wsx3_33, ?wsx3_34, ?wsx3_35, ?wsx3_36, ?wsx3_37, ?wsx3_38, trivial⟩
   all_goals (intro u β wq hq h; repeat (obtain ⟨h1, h⟩ := h; first | (replace h1 := h1 rfl; simp only [go_sem] at h1; try (obtain ⟨h1, h1b⟩ := h1)) | (have hno := (h1 : Region.binds _ _ = true → _); clear hno h1)))
   case wsx3_3 =>
    refine Or.inl ⟨rfl, fun K hK => ?_⟩
    have hqc := hq.cell_of d0
    go_simp
    exact hK _ 0 _ (Ext.refl _) rfl
   case wsx3_4 =>
    refine Or.inl ⟨rfl, fun K hK => ?_⟩
    go_simp
    refine (GST.out _ (by assumption)).mono ?_; rintro e w1 ⟨rfl, hx1⟩; exact ⟨_, rfl, hK _ 0 _ hx1 rfl⟩
   case wsx3_8 =>
    refine Or.inl ⟨rfl, fun K hK => ?_⟩
    have hqc := hq.cell_of d1
    go_simp
    exact hK _ 0 _ (Ext.refl _) rfl
   case wsx3_11 =>
    refine Or.inl ⟨rfl, fun K hK => ?_⟩
    have hqc := hq.cell_of r0
    go_simp
    exact hK _ 0 _ (Ext.refl _) rfl
   case wsx3_17 =>
    refine Or.inl ⟨Loud.wanted_of rfl rfl (congrArg some (by assumption)), fun K hK => ?_⟩
    have hqc := hq.cell_of d0
    go_simp
    exact hK _ 0 _ (Ext.refl _) rfl
   case wsx3_18 =>
    refine Or.inl ⟨Loud.wanted_of rfl rfl (congrArg some (by assumption)), fun K hK => ?_⟩
    go_simp
    refine (GHD.out _ (by assumption)).mono ?_; rintro e w1 ⟨rfl, hx1⟩; exact ⟨_, rfl, hK _ 0 _ hx1 rfl⟩
   case wsx3_22 =>
    refine Or.inl ⟨Loud.wanted_of rfl rfl (congrArg some (by assumption)), fun K hK => ?_⟩
    have hqc := hq.cell_of d1
    go_simp
    exact hK _ 0 _ (Ext.refl _) rfl
   case wsx3_25 =>
    refine Or.inl ⟨Loud.wanted_of rfl rfl (congrArg some (by assumption)), fun K hK => ?_⟩
    have hqc := hq.cell_of r1
    go_simp
    exact hK _ 0 _ (Ext.refl _) rfl
   all_goals (first | refine Or.inl ⟨rfl, fun K hK => ?_⟩ | refine Or.inl ⟨Loud.wanted_of rfl rfl (congrArg some (by assumption)), fun K hK => ?_⟩); go_simp; exact hK _ 0 _ (Ext.refl _) rfl
  intro u β wE hq h
  have h0 := h 0 (by omega)
  have h1 := h 1 (by omega)
  have h2 := h 2 (by omega)
  have h3 := h 3 (by omega)
  have h4 := h 4 (by omega)
  have h5 := h 5 (by omega)
  have h6 := h 6 (by omega)
  have h7 := h 7 (by omega)
  have h8 := h 8 (by omega)
  have h9 := h 9 (by omega)
  have h10 := h 10 (by omega)
  have h11 := h 11 (by omega)
  have h12 := h 12 (by omega)
  have h13 := h 13 (by omega)
  have h14 := h 14 (by omega)
  have h15 := h 15 (by omega)
  have h16 := h 16 (by omega)
  have h17 := h 17 (by omega)
  have h18 := h 18 (by omega)
  have h19 := h 19 (by omega)
  have h20 := h 20 (by omega)
  have h21 := h 21 (by omega)
  have h22 := h 22 (by omega)
  have h23 := h 23 (by omega)
  have h24 := h 24 (by omega)
  have h25 := h 25 (by omega)
  have h26 := h 26 (by omega)
  have h27 := h 27 (by omega)
  have h28 := h 28 (by omega)
  have h29 := h 29 (by omega)
  have h30 := h 30 (by omega)
  have h31 := h 31 (by omega)
  have h32 := h 32 (by omega)
  have h33 := h 33 (by omega)
  have h34 := h 34 (by omega)
  have h35 := h 35 (by omega)
  have h36 := h 36 (by omega)
  have h37 := h 37 (by omega)
  have h38 := h 38 (by omega)
  clear h
  simp only [go_sem] at h0 h1 h2 h3 h4 h5 h6 h7 h8 h9 h10 h11 h12 h13 h14 h15 h16 h17 h18 h19 h20 h21 h22 h23 h24 h25 h26 h27 h28 h29 h30 h31 h32 h33 h34 h35 h36 h37 h38
  simp only [List.drop_succ_cons, List.drop_zero]
  rw [h38]
  have HXE := Lib.hid (((HX.out.trans HX2.out).trans HE.out).trans hq)
  have e38 := h38
  clear h0 h1 h2 h3 h4 h5 h6 h7 h8 h9 h10 h11 h12 h13 h14 h15 h16 h17 h18 h19 h20 h21 h22 h23 h24 h25 h26 h27 h28 h29 h30 h31 h32 h33 h34 h35 h36 h37 d0 d1 r0 r1 hq
  try rw [e38]
  go_wp2_with fail
  go_returns
  exact ⟨rfl, HXE.out⟩
theorem stands15 (w0 W : World) (p b r : Nat) (sv : Value) (P : PSt) (s : BS) (h : PW w0 [] p b r sv P s s W) (ok : s.Ok) :
  Calls Tryz.prog 25 #[.pointer (some ⟨p, 0, none⟩)] W fun e w' => e = .returned (.bool true) ∧ Ext W w' := by
 by_cases h2 : s.st = 2
 ·exact stands_open w0 W p b r sv P s h ok h2
 ·by_cases h0 : s.st = 0
  ·refine stands_shut w0 W p b r sv P s 0 h ok h2 (Lib.hid (fun W hB => ?_)) (Lib.hid (.inl ⟨h0, rfl⟩))
   obtain ⟨p, q, bg, hc⟩ := hB.cell
   rw [h0] at hc
   refine (bar_Have0 hc).mono ?_
   rintro e w' ⟨rfl, rfl⟩
   exact ⟨by rw [ok.non h0]; rfl, Ext.refl _⟩
  ·obtain ⟨x, t, hhx, _, _, _⟩ := ok.hd h0
   refine stands_shut w0 W p b r sv P s x.toNat h ok h2 (Lib.hid (fun W hB => ?_)) (Lib.hid (.inr ⟨h0, x, t, hhx, rfl⟩))
   obtain ⟨bg, bm, c, hC⟩ := hB.shut h2
   have hc := hC.cell
   rw [hhx] at hc
   have := bar_HaveX hc h0 hC.got (by have := ok.few; omega)
   rw [have_len] at this
   exact this
end Go.Proofs.YtclekllaikcglaaGreat

/- The statements of layer 15: BarrierPlays. -/
set_option linter.unusedVariables false
namespace Go.Proofs.YtclekllaikcglaaGreat
open Go Go.RowKit
set_option maxRecDepth 100000 in
set_option maxHeartbeats 16000000 in
theorem law_BarrierPlays (w : World) (l : List Act5) (ad : Option Addr) (cap : Nat) (hl : l.length ≤ maxLen) (hb : ∀ x ∈ l, x.text.length ≤ 140737488351232 ∧ x.other.length ≤ 140737488351232) (h : SlC w ad l) :
  Calls Tryz.prog 6 #[.slice ad l.length cap] w fun e w' => e = .returned (.bool true) ∧ Ext w w' := by
 have GW := Lib.hid works15
 have GH := heavy15 l ad cap w h hl hb
 cases hh : heavyC l with
 | true =>
  rw [hh] at GH
  have GHH := Lib.hid GH
  clear GH h hl hb hh
  go_enter Tryz.func6, Tryz.ntmps6
  go_wp2_with (first
   | (go_at_call 23; (with_reducible refine GHH.out.mono ?_); rintro e w1 ⟨rfl, hx1⟩)
   | (go_at_call 7; (with_reducible refine (GW.out _).mono ?_); rintro e w2 ⟨rfl, hx2⟩))
  go_returns
  exact ⟨rfl, hx1.trans hx2⟩
 | false =>
 rw [hh] at GH
 have GHH := Lib.hid GH
 obtain ⟨hl30, hlen⟩ := heavyC_no hh
 have HLEN := Lib.hid hlen
 have HSL := Lib.hid h
 have GNW := Lib.hid (fun (W : World) (hx : Ext w W) => bar_New_c w W [] hx (by simp))
 obtain ⟨L, hL⟩ : ∃ L, l.length = L := ⟨_, rfl⟩
 have HLL := Lib.hid hL
 rw [hL] at GHH hl30 ⊢
 clear GH h hl hb hh hlen hL
 go_enter Tryz.func6, Tryz.ntmps6
 go_upto_region 4 with (first
  | (go_at_call 23; (with_reducible refine GHH.out.mono ?_); rintro e w1 ⟨rfl, hx1⟩; have HX1 := Lib.hid hx1; clear hx1)
  | (go_at_call 8; (with_reducible refine (GNW.out _ HX1.out).mono ?_); rintro e w2 ⟨b0, bg, bm, rfl, h2, _, _, _, _⟩; have HC2 := Lib.hid h2; clear h2))
 obtain ⟨W2, hW2⟩ : ∃ W2, w2.alloc (rbo 0 [] [] none (.slice none 0 0)) = W2 := ⟨_, rfl⟩
 obtain ⟨W3, hW3⟩ : ∃ W3, W2.alloc (plo b0 w2.heap.size (.slice none 0 0) ⟨[], [], [], 0⟩) = W3 := ⟨_, rfl⟩
 have hsz : W2.heap.size = w2.heap.size + 1 := by rw [← hW2]; simp
 have H0 : Hid (PW w [] W2.heap.size b0 w2.heap.size (.slice none 0 0) ⟨[], [], [], 0⟩ BS.zero BS.zero W3) := Lib.hid (by
  have hx2 : Ext w2 W2 := by rw [← hW2]; exact (Ext.refl _).alloc _
  have hx3 : Ext W2 W3 := by rw [← hW3]; exact (Ext.refl _).alloc _
  have hs := HC2.out.ext.size
  refine ⟨by omega, by rw [← hW3]; exact heap_alloc_new _ _, .inr ⟨by simp [BS.zero], bg, bm, 0, HC2.out.next (hx2.trans hx3)⟩, .inr ⟨by simp [BS.zero], .slice none 0 0, hx3.keep (by rw [← hW2]; exact heap_alloc_new _ _), hs, World.ownsRow_nil _ _ _ _⟩, .inl ⟨rfl, rfl⟩, by simp⟩)
 have HP0 : Hid (BS.zero.Ok ∧ (⟨[], [], [], 0⟩ : PSt).Ok) := Lib.hid ⟨BS.zero_ok, by simp, by simp, by simp, by simp, by show 0 < 18446744073709551616; omega⟩
 obtain ⟨p, hp⟩ : ∃ p, W2.heap.size = p := ⟨_, rfl⟩
 rw [hp] at H0
 have hW2' : w2.alloc (.cells #[.int .u8 0, .string { data := #[] }, .string { data := #[] }, .pointer none, .slice none 0 0] 63) = W2 := hW2
 have hW3' : W2.alloc (.cells #[.pointer (some ⟨b0, 0, none⟩), .pointer (some ⟨w2.heap.size, 0, none⟩), .slice none 0 0, .string { data := #[] }, .string { data := #[] }, .int .u64 0] 65) = W3 := hW3
 have hsz2 : w2.heap.size + 1 = p := by omega
 try rw [hW2']
 try rw [hsz2]
 try rw [hp]
 try rw [hW3']
 clear hW2 hW3 hW2' hW3' hsz hsz2 hp HC2 GNW GHH
 go_wp2_with fail
 go_loopg [4] L (fun q s4 wr => ∃ (i b r : Nat) (sv : Value) (P : PSt) (s : BS), s4 = .int .i64 (i : Int) ∧ i + q = L ∧ Hid (PW w [] p b r sv P s s wr) ∧ Hid (s.Ok ∧ P.Ok))
 case atStart => exact ⟨0, b0, w2.heap.size, .slice none 0 0, _, _, rfl, by omega, H0, HP0⟩
 case round =>
  obtain ⟨i, b, r, sv, P, s, rfl, hiq, HPW, HOK⟩ := hrel
  clear H0 HP0
  cases gk with
  | succ q =>
   have hiL : i < l.length := by have := HLL.out; omega
   have hii : (i : Int) < (L : Int) := by omega
   obtain ⟨ab, ao, hado, _, ha⟩ := HSL.out i hiL
   subst hado
   obtain ⟨x, hx⟩ : ∃ x, l[i] = x := ⟨_, rfl⟩
   rw [hx] at ha
   have hxl := HLEN.out x (by rw [← hx]; exact List.getElem_mem hiL)
   have hx0 := HPW.out.ext
   obtain ⟨a0, a1, a2, a3, a4, a5⟩ := ha.ext hx0
   have GD := Lib.hid (does15 w wr p b r sv P s x HPW.out HOK.out.1 HOK.out.2 hxl.1 hxl.2)
   unfold actv at GD
   clear hx ha hxl hx0
   go_upto_region 9 with (first
    | (go_at_call 24; (with_reducible refine GD.out.mono ?_); rintro e w4 ⟨rfl, b4, r4, sv4, P4, s4, h4, hok4, hP4⟩; have H4 := Lib.hid h4; have HOK4 := Lib.hid (And.intro hok4 hP4); have GS := Lib.hid (stands15 w w4 p b4 r4 sv4 P4 s4 h4 hok4); clear h4 hok4 hP4)
    | (go_at_call 25; (with_reducible refine GS.out.mono ?_); rintro e w5 ⟨rfl, hx5⟩; have H5 := Lib.hid (H4.out.next hx5); clear hx5))
   clear a0 a1 a2 a3 a4 a5 GD GS H4
   obtain ⟨_, d1, _, _, _, _, hf⟩ := H5.out.cells
   obtain ⟨rp, ad4, cap4, r0, r1, _, _⟩ := H5.out.ref.cells HOK4.out.1
   have hf3 := hf 3
   have d3 : w5.cell? ⟨p, 3, none⟩ = some (.string (bs P4.hd)) := H5.out.cells.2.2.2.1
   clear hf
   by_cases h0 : s4.st = 0
   ·have hne : ((s4.st : Int) != 0) = false := by simp; omega
    clear h0
    go_wp2_with fail
    go_roundg q
    case measure => omega
    case rel => exact ⟨i + 1, b4, r4, sv4, P4, s4, by go_num, by omega, H5, HOK4⟩
   ·have hne : ((s4.st : Int) != 0) = true := by simp; omega
    clear h0
    have HS : Hid (PW w [] p b4 r4 sv4 ⟨P4.sh, s4.hd, P4.put, P4.n⟩ s4 s4 (w5.setCell ⟨p, 3, none⟩ (.string (bs s4.hd)))) := Lib.hid (H5.out.set (i := 3) (heap_setCell_same (i := 3) _ H5.out.blk) (H5.out.set_prog H5.out.prog _ _) (H5.out.set_ref H5.out.ref _ _) (H5.out.set_row H5.out.row _ _))
    have HOK5 : Hid (s4.Ok ∧ (⟨P4.sh, s4.hd, P4.put, P4.n⟩ : PSt).Ok) := Lib.hid ⟨HOK4.out.1, HOK4.out.2.few, HOK4.out.2.len, HOK4.out.1.hdl, HOK4.out.2.putl, HOK4.out.2.num⟩
    go_wp2_with fail
    go_roundg q
    case measure => omega
    case rel => exact ⟨i + 1, b4, r4, sv4, _, s4, by go_num, by omega, HS, HOK5⟩
  | zero =>
  obtain rfl : i = L := by omega
  have hlt : decide ((i : Int) < (i : Int)) = false := by simp
  go_wp2_with (go_at_call 7; (with_reducible refine (GW.out _).mono ?_); rintro e w6 ⟨rfl, hx6⟩)
  go_returns
  exact ⟨rfl, HPW.out.ext.trans hx6⟩
end Go.Proofs.YtclekllaikcglaaGreat
