import Derived.Test.YtclekllaikcglaaGreatRing
import Derived.Test.YtclekllaikcglaaGreatLaw02

/- Contracts: layer 13, the keys of an epoch. -/
namespace Go.Proofs.YtclekllaikcglaaGreat
open Go Go.RowKit
open Go.ChangeMaps (setBlock)
def lblC : List UInt8 := [99, 105, 112, 104, 101, 114]
def lblT : List UInt8 := [116, 97, 103]
set_option maxRecDepth 100000 in
set_option maxHeartbeats 1000000 in
theorem ring_Keys (r m : Nat) (E : Eps) (n ep : Nat) (w : World) (h : RingAt w r m E n) (hn : 0 < n) {s : List UInt8} (hs : lookE E ep = some s) (hl : s.length ≤ 1099511627776) :
  Calls Tryz.prog 59 #[.pointer (some ⟨r, 0, none⟩), .int .u32 (ep : Int)] w fun e w' => e = .returned (.tuple #[.string (bs (derL s lblC 16)), .string (bs (derL s lblT 32)), .bool true]) ∧ Ext w w' := by
 have G := Lib.hid (ring_made r m E n w h hn)
 have GC : Hid (∀ W, Calls Tryz.prog 85 #[.string (bs s), .string { data := #[99, 105, 112, 104, 101, 114] }, .int .i64 16] W fun e w' => e = .returned (.tuple #[.string (bs (derL s lblC 16)), .bool true]) ∧ Ext W w') := Lib.hid fun W => derive_yes s lblC 16 W hl (by decide) (by omega) (by omega)
 have GT : Hid (∀ W, Calls Tryz.prog 85 #[.string (bs s), .string { data := #[116, 97, 103] }, .int .i64 32] W fun e w' => e = .returned (.tuple #[.string (bs (derL s lblT 32)), .bool true]) ∧ Ext W w') := Lib.hid fun W => derive_yes s lblT 32 W hl (by decide) (by omega) (by omega)
 generalize derL s lblC 16 = kc at *
 generalize derL s lblT 32 = kt at *
 obtain ⟨L, clk, a, b, c, d⟩ := h
 have c0 := cell_blk (i := 0) c rfl
 have hlk := run_lookM und_map und_u32 d (ep : Int) (zero_string w)
 rw [look_of L E ep a, hs] at hlk
 simp only [Option.map_some, Option.getD_some, Option.isSome_some, strV] at hlk
 clear a b c d hs hl
 go_enter Tryz.func59, Tryz.ntmps59
 go_wp2_with (first
  | (go_at_call 70; refine G.out.mono ?_; rintro e w' ⟨rfl, rfl⟩)
  | (go_at_call 85; with_reducible refine (GC.out _).mono ?_; rintro e w1 ⟨rfl, hx1⟩)
  | (go_at_call 85; with_reducible refine (GT.out _).mono ?_; rintro e w2 ⟨rfl, hx2⟩))
 go_returns
 exact ⟨rfl, hx1.trans hx2⟩
set_option maxRecDepth 100000 in
theorem ring_Keys_none (r m : Nat) (E : Eps) (n ep : Nat) (w : World) (h : RingAt w r m E n) (hn : 0 < n) (hs : lookE E ep = none) :
  Calls Tryz.prog 59 #[.pointer (some ⟨r, 0, none⟩), .int .u32 (ep : Int)] w fun e w' => e = .returned (.tuple #[.string (bs []), .string (bs []), .bool false]) ∧ w = w' := by
 have G := Lib.hid (ring_made r m E n w h hn)
 obtain ⟨L, clk, a, b, c, d⟩ := h
 have c0 := cell_blk (i := 0) c rfl
 have hlk := run_lookM und_map und_u32 d (ep : Int) (zero_string w)
 rw [look_of L E ep a, hs] at hlk
 simp only [Option.map_none, Option.getD_none, Option.isSome_none] at hlk
 clear a b c d hs
 go_enter Tryz.func59, Tryz.ntmps59
 go_wp2_with (go_at_call 70; refine G.out.mono ?_; rintro e w' ⟨rfl, rfl⟩)
 go_returns
 exact ⟨rfl, rfl⟩
theorem lookE_none : ∀ (E : Eps) (ep : Nat), (∀ j (hj : j < E.length), E[j].1 ≠ ep) → lookE E ep = none
 | [], _, _ => rfl
 | p :: E, ep, h => by
  have ih := lookE_none E ep (fun j hj => h (j + 1) (by simpa using hj))
  have h0 : p.1 ≠ ep := h 0 (by simp)
  unfold lookE at ih ⊢
  rw [List.find?_cons_of_neg (by simpa using h0)]
  exact ih
theorem lookE_first : ∀ (E : Eps) (ep k : Nat) (hk : k < E.length), (∀ j (hj : j < k), (E[j]'(by omega)).1 ≠ ep) → E[k].1 = ep → lookE E ep = some E[k].2
 | [], _, _, hk, _, _ => by simp at hk
 | p :: E, ep, 0, _, _, h => by
  have h : p.1 = ep := h
  unfold lookE
  rw [List.find?_cons_of_pos (by simpa using h)]
  rfl
 | p :: E, ep, k + 1, hk, hb, h => by
  have ih := lookE_first E ep k (by simpa using hk) (fun j hj => hb (j + 1) (by omega)) h
  have h0 : p.1 ≠ ep := hb 0 (by omega)
  unfold lookE at ih ⊢
  rw [List.find?_cons_of_neg (by simpa using h0)]
  exact ih
set_option maxRecDepth 100000 in
set_option maxHeartbeats 1000000 in
theorem ref_at (B d : Nat) (E : Eps) (ep : Nat) (w : World) (h : DocAt w B d E) (hE : E ≠ []) (hl : E.length ≤ 1000) :
  Calls Tryz.prog 107 #[.pointer (some ⟨d, 0, none⟩), .int .u32 (ep : Int)] w fun e w' => ((∃ k, ∃ hk : k < E.length, e = .returned (.int .i64 (k : Int)) ∧ E[k].1 = ep ∧ lookE E ep = some E[k].2) ∨ (e = .returned (.int .i64 (-1)) ∧ lookE E ep = none)) ∧ w = w' := by
 obtain ⟨g, cap, hd, _, _, _, _, _, hc⟩ := h.look hE
 have c0 := cell_blk (i := 0) hd rfl
 have HC := Lib.hid hc
 have HL := Lib.hid hl
 clear h hd hc hl hE
 go_enter Tryz.func107, Tryz.ntmps107
 go_wp2
 go_loopw [5] (fun i wr => ∃ k : Nat, k ≤ E.length ∧ i = .int .i64 k ∧ w = wr ∧ Hid (∀ j (hj : j < k) (hj2 : j < E.length), E[j].1 ≠ ep)) (fun i _ => E.length - (intOf i).toNat)
 case atStart => exact ⟨0, by omega, rfl, rfl, Lib.hid (fun j hj => by omega)⟩
 case round =>
  obtain ⟨k, hk, rfl, rfl, HB⟩ := hrel
  by_cases hlk : k < E.length
  ·have c1 := (HC.out k hlk).1
   have hll := HL.out
   have hki : (k : Int) < (E.length : Int) := by omega
   obtain ⟨x, hx⟩ : ∃ x, E[k].1 = x := ⟨_, rfl⟩
   rw [hx] at c1
   by_cases hxe : x = ep
   ·subst hxe
    have HF := Lib.hid (lookE_first E x k hlk (fun j hj => HB.out j hj (by omega)) hx)
    have HX := Lib.hid hx
    clear hx
    go_wp2
    go_returns
    exact ⟨.inl ⟨k, hlk, rfl, HX.out, HF.out⟩, rfl⟩
   ·have hne : ((x : Int) == (ep : Int)) = false := by simp; omega
    have HX := Lib.hid hx
    clear hx
    go_wp2
    go_roundw
    case measure => simp [intOf]; omega
    case rel =>
     refine ⟨k + 1, by omega, by go_num, by first | rfl | trivial, Lib.hid (fun j hj hj2 => ?_)⟩
     by_cases hjk : j = k
     ·subst hjk; rw [HX.out]; exact hxe
     ·exact HB.out j (by omega) hj2
  ·obtain rfl : k = E.length := by omega
   have HN := Lib.hid (lookE_none E ep (fun j hj => HB.out j hj hj))
   have hlt : decide ((E.length : Int) < (E.length : Int)) = false := by simp
   go_wp2
   go_returns
   exact ⟨.inr ⟨rfl, HN.out⟩, rfl⟩
theorem ref_at_some (B d : Nat) (E : Eps) (ep : Nat) (w : World) (h : DocAt w B d E) (hl : E.length ≤ 1000) {s : List UInt8} (hs : lookE E ep = some s) :
  Calls Tryz.prog 107 #[.pointer (some ⟨d, 0, none⟩), .int .u32 (ep : Int)] w fun e w' => ∃ k, ∃ hk : k < E.length, e = .returned (.int .i64 (k : Int)) ∧ E[k].2 = s ∧ w = w' := by
 refine (ref_at B d E ep w h (fun e => by rw [e] at hs; cases hs) hl).mono ?_
 rintro e w' ⟨⟨k, hk, he, _, hlo⟩ | ⟨_, hlo⟩, hw⟩
 ·rw [hs] at hlo
  injection hlo with hlo
  exact ⟨k, hk, he, hlo.symm, hw⟩
 ·rw [hs] at hlo; cases hlo
theorem ref_at_none (B d : Nat) (E : Eps) (ep : Nat) (w : World) (h : DocAt w B d E) (hE : E ≠ []) (hl : E.length ≤ 1000) (hs : lookE E ep = none) :
  Calls Tryz.prog 107 #[.pointer (some ⟨d, 0, none⟩), .int .u32 (ep : Int)] w fun e w' => e = .returned (.int .i64 (-1)) ∧ w = w' := by
 refine (ref_at B d E ep w h hE hl).mono ?_
 rintro e w' ⟨⟨k, hk, he, _, hlo⟩ | ⟨he, _⟩, hw⟩
 ·rw [hs] at hlo; cases hlo
 ·exact ⟨he, hw⟩
set_option maxRecDepth 100000 in
set_option maxHeartbeats 2000000 in
theorem ref_ring_Keys (B d : Nat) (E : Eps) (ep : Nat) (w : World) (h : DocAt w B d E) (hl : E.length ≤ 1000) {s : List UInt8} (hs : lookE E ep = some s) (hsl : s.length ≤ 1099511627776) :
  Calls Tryz.prog 102 #[.pointer (some ⟨d, 0, none⟩), .int .u32 (ep : Int)] w fun e w' => e = .returned (.tuple #[.string (bs (derL s lblC 16)), .string (bs (derL s lblT 32)), .bool true]) ∧ Ext w w' := by
 have GA := Lib.hid (ref_at_some B d E ep w h hl hs)
 have GC : Hid (∀ W, Calls Tryz.prog 119 #[.string (bs s), .string { data := #[99, 105, 112, 104, 101, 114] }, .int .i64 16] W fun e w' => e = .returned (.string (bs (derL s lblC 16))) ∧ Ext W w') := Lib.hid fun W => refDerive_yes s lblC 16 W hsl (by decide) (by omega) (by omega)
 have GT : Hid (∀ W, Calls Tryz.prog 119 #[.string (bs s), .string { data := #[116, 97, 103] }, .int .i64 32] W fun e w' => e = .returned (.string (bs (derL s lblT 32))) ∧ Ext W w') := Lib.hid fun W => refDerive_yes s lblT 32 W hsl (by decide) (by omega) (by omega)
 generalize derL s lblC 16 = kc at *
 generalize derL s lblT 32 = kt at *
 obtain ⟨g, cap, hd, _, _, _, _, _, hc⟩ := h.look (fun e => by rw [e] at hs; cases hs)
 have c0 := cell_blk (i := 0) hd rfl
 have HC := Lib.hid hc
 clear h hd hc hs hsl
 go_enter Tryz.func102, Tryz.ntmps102
 go_wp2_with (go_at_call 107; refine GA.out.mono ?_; rintro e w' ⟨k, hk, rfl, hks, rfl⟩; have c1 := (HC.out k hk).2; rw [hks] at c1; have hki : (k : Int) < (E.length : Int) := by omega)
 clear hks
 refine Loud.wp_region_weave 21 w (Loud.sps [.val (.pointer (some ⟨d, 0, none⟩)), .val (.pointer (some ⟨d, 0, none⟩)), .val (.pointer (some ⟨d, 0, none⟩)), .val (.slice (some ⟨g, 0, none⟩) E.length cap), .val (.int .i64 (k : Int)), .val (.pointer (some ⟨g, k * 2, none⟩)), .val (.pointer (some ⟨g, k * 2 + 1, none⟩)), .val (.string (bs s)), .val (.string (bs kc)), .val (.pointer (some ⟨d, 0, none⟩)), .val (.pointer (some ⟨d, 0, none⟩)), .val (.pointer (some ⟨d, 0, none⟩)), .val (.slice (some ⟨g, 0, none⟩) E.length cap), .val (.int .i64 (k : Int)), .val (.pointer (some ⟨g, k * 2, none⟩)), .val (.pointer (some ⟨g, k * 2 + 1, none⟩)), .val (.string (bs s)), .val (.string (bs kt)), .val (.string (bs kc)), .val (.string (bs kt)), .val (.bool true)]) (by kernel_rfl) (by kernel_rfl) (by show Ext _ _; repeat (first | exact Ext.refl _ | assumption | (with_reducible refine Ext.drew ?_) | (with_reducible refine Ext.drewN ?_ _) | (with_reducible refine Ext.alloc ?_ _) | (refine Ext.trans ?_ (by assumption)))) (Loud.sps_st _) ?wAx1 ?whAx1 ?whSx1 ?whFx1
 case whAx1 => intro u K hK; simp only [List.take_succ_cons, List.take_zero, Loud.puts]; go_simp; exact hK
 case whSx1 =>
  refine ⟨?wsx1_0, ?wsx1_1, ?wsx1_2, ?wsx1_3, ?wsx1_4, ?wsx1_5, ?wsx1_6, ?wsx1_7, ?wsx1_8, ?wsx1_9, ?wsx1_10, ?wsx1_11, ?wsx1_12, ?wsx1_13, ?wsx1_14, ?wsx1_15, ?wsx1_16, ?wsx1_17, ?wsx1_18, ?wsx1_19, ?wsx1_20, trivial⟩
  all_goals (intro u β wq hq h; repeat (obtain ⟨h1, h⟩ := h; first | (replace h1 := h1 rfl; simp only [go_sem] at h1; try (obtain ⟨h1, h1b⟩ := h1)) | (have hno := (h1 : Region.binds _ _ = true → _); clear hno h1)))
  case wsx1_3 =>
   refine Or.inl ⟨rfl, fun K hK => ?_⟩
   have hqc := hq.cell_of c0
   go_simp
   exact hK _ 0 _ (Ext.refl _) rfl
  case wsx1_7 =>
   refine Or.inl ⟨rfl, fun K hK => ?_⟩
   have hqc := hq.cell_of c1
   go_simp
   exact hK _ 0 _ (Ext.refl _) rfl
  case wsx1_8 =>
   refine Or.inl ⟨rfl, fun K hK => ?_⟩
   go_simp
   refine (GC.out _).mono ?_; rintro e w1 ⟨rfl, hx1⟩; exact ⟨_, rfl, hK _ 0 _ hx1 rfl⟩
  case wsx1_12 =>
   refine Or.inl ⟨rfl, fun K hK => ?_⟩
   have hqc := hq.cell_of c0
   go_simp
   exact hK _ 0 _ (Ext.refl _) rfl
  case wsx1_16 =>
   refine Or.inl ⟨rfl, fun K hK => ?_⟩
   have hqc := hq.cell_of c1
   go_simp
   exact hK _ 0 _ (Ext.refl _) rfl
  case wsx1_17 =>
   refine Or.inl ⟨rfl, fun K hK => ?_⟩
   go_simp
   refine (GT.out _).mono ?_; rintro e w1 ⟨rfl, hx1⟩; exact ⟨_, rfl, hK _ 0 _ hx1 rfl⟩
  all_goals (first | refine Or.inl ⟨rfl, fun K hK => ?_⟩ | refine Or.inl ⟨Loud.wanted_of rfl rfl (congrArg some (by assumption)), fun K hK => ?_⟩); go_simp; exact hK _ 0 _ (Ext.refl _) rfl
 intro u β w5 hq h
 have h0 := h 0 (by omega)
 have h1 := h 1 (by omega)
 have h2 := h 2 (by omega)
 have h3 := h 3 (by omega)
 have h4 := h 4 (by omega)
 have h5 := h 5 (by omega)
 have h6 := h 6 (by omega)
 have h7 := h 7 (by omega)
 have h8 := h 8 (by omega)
 have h9 := h 9 (by omega)
 have h10 := h 10 (by omega)
 have h11 := h 11 (by omega)
 have h12 := h 12 (by omega)
 have h13 := h 13 (by omega)
 have h14 := h 14 (by omega)
 have h15 := h 15 (by omega)
 have h16 := h 16 (by omega)
 have h17 := h 17 (by omega)
 have h18 := h 18 (by omega)
 have h19 := h 19 (by omega)
 have h20 := h 20 (by omega)
 clear h
 simp only [go_sem] at h0 h1 h2 h3 h4 h5 h6 h7 h8 h9 h10 h11 h12 h13 h14 h15 h16 h17 h18 h19 h20
 simp only [List.drop_succ_cons, List.drop_zero]
 rw [h20]
 go_wp2
 go_returns
 rw [h18, h19]
 exact ⟨rfl, hq⟩
set_option maxRecDepth 100000 in
theorem ref_ring_Keys_none (B d : Nat) (E : Eps) (ep : Nat) (w : World) (h : DocAt w B d E) (hE : E ≠ []) (hl : E.length ≤ 1000) (hs : lookE E ep = none) :
  Calls Tryz.prog 102 #[.pointer (some ⟨d, 0, none⟩), .int .u32 (ep : Int)] w fun e w' => e = .returned (.tuple #[.string (bs []), .string (bs []), .bool false]) ∧ w = w' := by
 have GA := Lib.hid (ref_at_none B d E ep w h hE hl hs)
 clear h hs
 go_enter Tryz.func102, Tryz.ntmps102
 go_wp2_with (go_at_call 107; refine GA.out.mono ?_; rintro e w' ⟨rfl, rfl⟩)
 go_returns
 exact ⟨rfl, rfl⟩
end Go.Proofs.YtclekllaikcglaaGreat
