import Derived.Test.YtclekllaikcglaaGreatRefBar
import Derived.Test.YtclekllaikcglaaGreatBarB

/- Layer 15: the document's barrier: Unseal. -/
namespace Go.Proofs.YtclekllaikcglaaGreat
open Go Go.RowKit
theorem DocAt.lower {w : World} {B B' d : Nat} {E : Eps} (h : DocAt w B d E) (hB : B' ≤ B) : DocAt w B' d E := by
 obtain ⟨v, hd, hb, hown⟩ := h
 refine ⟨v, hd, by omega, hown.1, ?_⟩
 rcases hown.2 with h0 | ⟨g, cap, cur, hv, hg, r⟩
 ·exact .inl h0
 ·exact .inr ⟨g, cap, cur, hv, by omega, r⟩
def csB (hd : List UInt8) : Array Value := #[.int .u8 1, .string (bs hd), .string (bs []), .pointer none, undef]
theorem rc_g {B r : Nat} {gv : Value} {hd : List UInt8} {gs : GS} {W : World} (h : RC B r 1 gv hd gs W) : RGi W B r 4 (csB hd) 63 gs :=
 ⟨h.lo, by simp [csB], by decide, gv, h.blk, h.own, own_other h.own h.blk (by decide)⟩
theorem g_rc {B r : Nat} {hd : List UInt8} {gs : GS} {W : World} (h : RGi W B r 4 (csB hd) 63 gs) : ∃ gv, RC B r 1 gv hd gs W := by
 obtain ⟨h1, _, _, v, h2, h3, _⟩ := h
 exact ⟨v, h2, h1, h3⟩
theorem ref_add (W : World) (B r : Nat) (gv : Value) (hd : List UInt8) (gs : GS) (s : List UInt8) (h : RC B r 1 gv hd gs W) (hs : s.length ≤ 1000000) (hgl : gs.length ≤ 100) (hg64 : ∀ y ∈ gs, y.2.2.length ≤ 64) :
  Calls Tryz.prog 75 #[.pointer (some ⟨r, 4, none⟩), .string (bs s)] W fun e w' => e = .returned (.int .i64 (addS gs s).1) ∧ (∃ gv', RC B r 1 gv' hd (addS gs s).2 w') ∧ Fr B W w' := by
 refine (RAdd_any W B r 4 (csB hd) _ gs s (by omega) (by omega) h.size hg64 (rc_g h)).mono ?_
 rintro e w' ⟨rfl, h1, h2, h3⟩
 exact ⟨rfl, g_rc h1, Fr.gath h.blk (rbo_ty _ _ _ _ _) h2 h3⟩
theorem rc_look {B r : Nat} {gv : Value} {hd : List UInt8} {gs : GS} {W : World} (h : RC B r 1 gv hd gs W) : ∃ ad cap, gv = .slice ad gs.length cap ∧ W.cell? ⟨r, 4, none⟩ = some (.slice ad gs.length cap) := by
 obtain ⟨ad, cap, rfl⟩ := own_lookG h.own
 exact ⟨ad, cap, rfl, cell_blk h.blk rfl⟩
theorem own_zero {w : World} {B size n cap : Nat} {e : TypeId} {ad : Option Addr} {xs : List Value} (h : w.ownsRow B e size (.slice ad n cap) n xs) (hn : 0 < n) : w.ownsRow B e size (.slice ad 0 cap) 0 [] := by
 refine ⟨by simp, ?_⟩
 rcases h.2 with ⟨_, h0⟩ | ⟨g, c, cur, hv, hg, hh, h1, h2, h3, _⟩
 ·omega
 ·injection hv with hv1 _ hv3
  subst hv1 hv3
  exact .inr ⟨g, cap, cur, rfl, hg, hh, by omega, h2, h3, by simp⟩
set_option maxRecDepth 100000 in
set_option maxHeartbeats 8000000 in
theorem ref_Unseal_st {W : World} {r st : Nat} {hd root : List UInt8} {rp : Option Addr} {gv : Value} (s : List UInt8) (h : W.heap[r]? = some (rbo st hd root rp gv)) (hst : st ≠ 1) :
  Calls Tryz.prog 49 #[.pointer (some ⟨r, 0, none⟩), .string (bs s)] W fun e w' => e = .returned (.tuple #[.bool false, .int .i64 151]) ∧ W = w' := by
 obtain ⟨c0, _, _, _, _, _⟩ := rb_c h
 have hne : ((st : Int) != 1) = true := by simp; omega
 clear h hst
 go_enter Tryz.func49, Tryz.ntmps49
 go_wp2
 go_returns
 exact ⟨rfl, rfl⟩
set_option maxRecDepth 100000 in
set_option maxHeartbeats 8000000 in
theorem ref_Unseal_no (W : World) (B r : Nat) (gv : Value) (hd : List UInt8) (gs : GS) (s : List UInt8) (er : Int) (h : RC B r 1 gv hd gs W) (hs : s.length ≤ 1000000) (hgl : gs.length ≤ 100) (hg64 : ∀ y ∈ gs, y.2.2.length ≤ 64) (hadd : addS gs s = (er, gs)) (her : er ≠ 0) :
  Calls Tryz.prog 49 #[.pointer (some ⟨r, 0, none⟩), .string (bs s)] W fun e w' => e = .returned (.tuple #[.bool false, .int .i64 er]) ∧ (∃ gv', RC B r 1 gv' hd gs w') ∧ Fr B W w' := by
 have ga := ref_add W B r gv hd gs s h hs hgl hg64
 rw [hadd] at ga
 have GA := Lib.hid ga
 obtain ⟨c0, _, _, _, _, _⟩ := rb_c h.blk
 obtain ⟨ad, cap, rfl, c4⟩ := rc_look h
 have her1 : (er != 0) = true := by simpa using her
 clear h hs hgl hg64 hadd her ga
 go_enter Tryz.func49, Tryz.ntmps49
 go_wp2_with (go_at_call 75; (with_reducible refine GA.out.mono ?_); rintro e w1 ⟨rfl, h1, h2⟩; have H1 := Lib.hid (And.intro h1 h2); clear h1 h2)
 go_returns
 exact ⟨rfl, H1.out.1, H1.out.2⟩
set_option maxRecDepth 100000 in
set_option maxHeartbeats 8000000 in
theorem ref_Unseal_other (W : World) (B r : Nat) (gv : Value) (x : UInt8) (t : List UInt8) (s : List UInt8) (i n : Nat) (y : List UInt8) (h : RC B r 1 gv (x :: t) [] W) (hs : s.length ≤ 1000000) (hadd : addS [] s = (0, [(i, n, y)])) (hno : ¬ (n = x.toNat ∧ y.length = 32)) :
  Calls Tryz.prog 49 #[.pointer (some ⟨r, 0, none⟩), .string (bs s)] W fun e w' => e = .returned (.tuple #[.bool false, .int .i64 60]) ∧ (∃ gv', RC B r 1 gv' (x :: t) [] w') ∧ Fr B W w' := by
 obtain ⟨gs, hgs⟩ : ∃ gs : GS, [] = gs := ⟨_, rfl⟩
 have hgl : gs.length ≤ 100 := by subst hgs; simp
 have hg64 : ∀ y ∈ gs, y.2.2.length ≤ 64 := by subst hgs; simp
 have hgs0 : gs.length = 0 := by subst hgs; rfl
 replace hadd : addS gs s = (0, gs ++ [(i, n, y)]) := by subst hgs; exact hadd
 replace h : RC B r 1 gv (x :: t) gs W := by subst hgs; exact h
 suffices hgoal : Calls Tryz.prog 49 #[.pointer (some ⟨r, 0, none⟩), .string (bs s)] W fun e w' => e = .returned (.tuple #[.bool false, .int .i64 60]) ∧ (∃ gv', RC B r 1 gv' (x :: t) gs w') ∧ Fr B W w' by
  subst hgs; exact hgoal
 have HGS := Lib.hid hgs
 have ga := ref_add W B r gv (x :: t) gs s h hs hgl hg64
 rw [hadd] at ga
 have GA := Lib.hid ga
 obtain ⟨c0, zz1, zz2, zz3, zz4, zz5⟩ := rb_c h.blk
 clear zz1 zz2 zz3 zz4 zz5
 obtain ⟨ad, cap, rfl, c4⟩ := rc_look h
 have iS : ∀ W, (Instr.index 9 (.string (bs (x :: t))) (.int .i64 0)).run Tryz.prog W = .ok (.int .u8 (x.toNat : Int)) W := fun W => run_index_str (x :: t) 0 (by simp) W
 have hw : IntKind.i64.wrap (x.toNat : Int) = (x.toNat : Int) := by have := x.toNat_lt; rw [IntKind.wrap_i64]; omega
 obtain ⟨L, hL⟩ : ∃ L, gs.length = L := ⟨_, rfl⟩
 have hL100 : L ≤ 100 := by omega
 have HLg := Lib.hid hL
 rw [hL] at c4
 obtain ⟨hd, hhd⟩ : ∃ hd, x :: t = hd := ⟨_, rfl⟩
 rw [hhd] at iS GA ⊢
 have HNO := Lib.hid hno
 obtain rfl : L = 0 := by omega
 clear h hs hgl hg64 hadd ga hhd hL hgs hgs0 hno
 go_enter Tryz.func49, Tryz.ntmps49
 go_upto_region 7 with (go_at_call 75; (with_reducible refine GA.out.mono ?_); rintro e w1 ⟨rfl, ⟨gv1, h1⟩, h2⟩; have H1 := Lib.hid h1; have HF1 := Lib.hid h2; clear h1 h2)
 obtain ⟨ad1, cap1, hgv1, c41⟩ := rc_look H1.out
 subst hgv1
 have hlen : (gs ++ [(i, n, y)]).length = 0 + 1 := by rw [List.length_append, HLg.out]; rfl
 rw [hlen] at c41
 obtain ⟨b1, hb1, y0, y1, y2⟩ : ∃ b1, ad1 = some ⟨b1, 0, none⟩ ∧ w1.cell? ⟨b1, 0 * 3, none⟩ = some (.int .i64 (i : Int)) ∧ w1.cell? ⟨b1, 0 * 3 + 1, none⟩ = some (.int .i64 (n : Int)) ∧ w1.cell? ⟨b1, 0 * 3 + 2, none⟩ = some (.string (bs y)) := by
  obtain ⟨a', c', hv, hc⟩ := Sh.of_row H1.out.own
  obtain ⟨b, ha, _, z0, z1, z2⟩ := hc 0 (by omega)
  have hx : (gs ++ [(i, n, y)])[0]'(by omega) = (i, n, y) := by
   have hLg := HLg.out
   rw [List.getElem_append_right (by omega)]
   simp
  rw [hx] at z0 z1 z2
  injection hv with hv1
  exact ⟨b, hv1.trans ha, z0, z1, z2⟩
 subst hb1
 clear hlen c0 c4
 have hLi : (0 : Int) < (0 : Int) + 1 := by omega
 go_upto_region 8 with fail
 have hx2 := (Ext.refl w1).alloc (.cells #[.int .i64 (i : Int), .int .i64 (n : Int), .string (bs y)] 119)
 have hn2 := heap_alloc_new w1 (.cells #[.int .i64 (i : Int), .int .i64 (n : Int), .string (bs y)] 119)
 obtain ⟨bx, hbx⟩ : ∃ bx, w1.heap.size = bx := ⟨_, rfl⟩
 rw [hbx] at hn2
 try rw [hbx]
 obtain ⟨w2, hw2⟩ : ∃ w2, w1.alloc (.cells #[.int .i64 (i : Int), .int .i64 (n : Int), .string (bs y)] 119) = w2 := ⟨_, rfl⟩
 rw [hw2] at hx2 hn2
 try rw [hw2]
 clear hw2 hbx
 have H2 := Lib.hid (H1.out.ext hx2)
 have HF2 := Lib.hid (HF1.out.trans (Fr.of hx2 H1.out.size))
 obtain ⟨e0, e1, _, _, _, hf⟩ := rb_c H2.out.blk
 have e4 := hx2.cell_of c41
 have x1 : w2.cell? ⟨bx, 1, none⟩ = some (.int .i64 (n : Int)) := cell_blk hn2 rfl
 have x2 : w2.cell? ⟨bx, 2, none⟩ = some (.string (bs y)) := cell_blk hn2 rfl
 have hf4 := hf 4
 clear hf hn2 y0 y1 y2 c41 H1 HF1
 have HRZ : Hid (w2.ownsRow B 119 3 (.slice (some ⟨b1, 0, none⟩) 0 cap1) gs.length (gvals gs)) := Lib.hid (by
  have := own_zero H2.out.own (by simp)
  rw [HLg.out]
  rw [← HGS.out]
  exact this)
 have hc0 : (0 : Int) ≤ (cap1 : Int) := by omega
 by_cases hn : n = x.toNat
 ·have hne : ((n : Int) != (x.toNat : Int)) = false := by simp; omega
  have hl : ((y.length : Int) != 32) = true := by
   have : y.length ≠ 32 := fun e => HNO.out ⟨hn, e⟩
   simp; omega
  clear hn
  go_quiet (fail)
  go_wp2
  go_returns
  exact ⟨rfl, ⟨_, rb4 (H2.out.ext ((Ext.refl w2).drewN nq)).blk _, H2.out.lo, own_cell (H2.out.ext ((Ext.refl w2).drewN nq)).blk (ownsRow_ext HRZ.out ((Ext.refl w2).drewN nq)) (by decide)⟩, (HF2.out.trans (Fr.of ((Ext.refl w2).drewN nq) H2.out.size)).trans (Fr.set H2.out.lo (H2.out.ext ((Ext.refl w2).drewN nq)).blk (rbo_ty _ _ _ _ _))⟩
 ·have hne : ((n : Int) != (x.toNat : Int)) = true := by simp; omega
  clear hn
  go_quiet (fail)
  go_wp2
  go_returns
  exact ⟨rfl, ⟨_, rb4 (H2.out.ext ((Ext.refl w2).drewN nq)).blk _, H2.out.lo, own_cell (H2.out.ext ((Ext.refl w2).drewN nq)).blk (ownsRow_ext HRZ.out ((Ext.refl w2).drewN nq)) (by decide)⟩, (HF2.out.trans (Fr.of ((Ext.refl w2).drewN nq) H2.out.size)).trans (Fr.set H2.out.lo (H2.out.ext ((Ext.refl w2).drewN nq)).blk (rbo_ty _ _ _ _ _))⟩
theorem fit_add {x : UInt8} {gs gs' : GS} {s : List UInt8} {i : Nat} {y : List UInt8} (hf : Fit x gs gs' s i y) : gs' = gs ++ [(i, x.toNat, y)] := by
 have h := hf.add
 unfold addS at h
 rw [hf.read] at h
 simp only at h
 split at h
 ·injection h with h1; cases h1
 ·split at h
  ·injection h with h1; cases h1
  ·injection h with _ h2; exact h2.symm
theorem ref_secret (W : World) (B r : Nat) (gv : Value) (hd : List UInt8) (gs : GS) (x : UInt8) (h : RC B r 1 gv hd gs W) (hl : gs.length ≤ 100) (hall : ∀ z ∈ gs, z.2.1 = x.toNat ∧ z.2.2.length = 32) :
  Calls Tryz.prog 76 #[.pointer (some ⟨r, 4, none⟩)] W fun e w' => e = .returned (.string (bs ((secretS gs).getD []))) ∧ Ext W w' :=
 RSecret_any W B r 4 (csB hd) _ gs (by omega) (rc_g h) x.toNat 32 (by omega) hall
theorem fit_all {x : UInt8} {gs gs' : GS} {s : List UInt8} {i : Nat} {y : List UInt8} (hf : Fit x gs gs' s i y) (hall : ∀ z ∈ gs, z.2.1 = x.toNat ∧ z.2.2.length = 32) : ∀ z ∈ gs', z.2.1 = x.toNat ∧ z.2.2.length = 32 := by
 intro z hz
 rw [fit_add hf] at hz
 rcases List.mem_append.1 hz with hz | hz
 ·exact hall z hz
 ·simp at hz; subst hz; exact ⟨rfl, hf.len⟩
set_option maxRecDepth 100000 in
set_option maxHeartbeats 8000000 in
theorem ref_Unseal_more (W : World) (B r : Nat) (gv : Value) (x : UInt8) (t : List UInt8) (gs gs' : GS) (s : List UInt8) (i : Nat) (y : List UInt8) (h : RC B r 1 gv (x :: t) gs W) (hs : s.length ≤ 1000000) (hf : Fit x gs gs' s i y) (hall : ∀ z ∈ gs, z.2.1 = x.toNat ∧ z.2.2.length = 32) (hsec : secretS gs' = none) :
  Calls Tryz.prog 49 #[.pointer (some ⟨r, 0, none⟩), .string (bs s)] W fun e w' => e = .returned (.tuple #[.bool false, .int .i64 0]) ∧ (∃ gv', RC B r 1 gv' (x :: t) gs' w') ∧ Fr B W w' := by
 obtain ⟨n, hn⟩ : ∃ n, x.toNat = n := ⟨_, rfl⟩
 have hgl : gs.length ≤ 100 := hf.small.1
 have hg64 : ∀ y ∈ gs, y.2.2.length ≤ 64 := fun z hz => by rw [(hall z hz).2]; omega
 have hadd : addS gs s = (0, gs ++ [(i, n, y)]) := by rw [hf.add, fit_add hf, hn]
 have hall' := fit_all hf hall
 have hgs' := fit_add hf
 rw [hn] at hgs'
 have hl' := hf.small.2
 have GSx := Lib.hid (fun W2 gv2 (h2 : RC B r 1 gv2 (x :: t) gs' W2) => ref_secret W2 B r gv2 (x :: t) gs' x h2 hl' hall')
 have hyl : ((y.length : Int) != 32) = false := by have := hf.len; simp; omega
 rw [hsec] at GSx
 have GSE : Hid (∀ W2 gv2, RC B r 1 gv2 (x :: t) gs' W2 → Calls Tryz.prog 76 #[.pointer (some ⟨r, 4, none⟩)] W2 fun e w' => e = .returned (.string { data := #[] }) ∧ Ext W2 w') := GSx
 have ga := ref_add W B r gv (x :: t) gs s h hs hgl hg64
 rw [hadd] at ga
 have GA := Lib.hid ga
 obtain ⟨c0, zz1, zz2, zz3, zz4, zz5⟩ := rb_c h.blk
 clear zz1 zz2 zz3 zz4 zz5
 obtain ⟨ad, cap, rfl, c4⟩ := rc_look h
 have iS : ∀ W, (Instr.index 9 (.string (bs (x :: t))) (.int .i64 0)).run Tryz.prog W = .ok (.int .u8 (x.toNat : Int)) W := fun W => run_index_str (x :: t) 0 (by simp) W
 have hw : IntKind.i64.wrap (x.toNat : Int) = (x.toNat : Int) := by have := x.toNat_lt; rw [IntKind.wrap_i64]; omega
 obtain ⟨L, hL⟩ : ∃ L, gs.length = L := ⟨_, rfl⟩
 have hL100 : L ≤ 100 := by omega
 have HLg := Lib.hid hL
 rw [hL] at c4
 obtain ⟨hd, hhd⟩ : ∃ hd, x :: t = hd := ⟨_, rfl⟩
 rw [hhd] at iS GA GSE ⊢
 rw [hgs'] at GSE ⊢
 rw [hn] at iS hw
 clear h hs hgl hg64 hadd ga hhd hL hf hall hall' hgs' hl' GSx hsec hn
 go_enter Tryz.func49, Tryz.ntmps49
 go_upto_region 7 with (go_at_call 75; (with_reducible refine GA.out.mono ?_); rintro e w1 ⟨rfl, ⟨gv1, h1⟩, h2⟩; have H1 := Lib.hid h1; have HF1 := Lib.hid h2; clear h1 h2)
 obtain ⟨ad1, cap1, hgv1, c41⟩ := rc_look H1.out
 subst hgv1
 have hlen : (gs ++ [(i, n, y)]).length = L + 1 := by rw [List.length_append, HLg.out]; rfl
 rw [hlen] at c41
 obtain ⟨b1, hb1, y0, y1, y2⟩ : ∃ b1, ad1 = some ⟨b1, 0, none⟩ ∧ w1.cell? ⟨b1, L * 3, none⟩ = some (.int .i64 (i : Int)) ∧ w1.cell? ⟨b1, L * 3 + 1, none⟩ = some (.int .i64 (n : Int)) ∧ w1.cell? ⟨b1, L * 3 + 2, none⟩ = some (.string (bs y)) := by
  obtain ⟨a', c', hv, hc⟩ := Sh.of_row H1.out.own
  obtain ⟨b, ha, _, z0, z1, z2⟩ := hc L (by omega)
  have hx : (gs ++ [(i, n, y)])[L]'(by omega) = (i, n, y) := by
   have hLg := HLg.out
   rw [List.getElem_append_right (by omega)]
   simp
  rw [hx] at z0 z1 z2
  injection hv with hv1
  exact ⟨b, hv1.trans ha, z0, z1, z2⟩
 subst hb1
 clear hlen c0 c4
 have hLi : (L : Int) < (L : Int) + 1 := by omega
 go_upto_region 8 with fail
 have hx2 := (Ext.refl w1).alloc (.cells #[.int .i64 (i : Int), .int .i64 (n : Int), .string (bs y)] 119)
 have hn2 := heap_alloc_new w1 (.cells #[.int .i64 (i : Int), .int .i64 (n : Int), .string (bs y)] 119)
 obtain ⟨bx, hbx⟩ : ∃ bx, w1.heap.size = bx := ⟨_, rfl⟩
 rw [hbx] at hn2
 try rw [hbx]
 obtain ⟨w2, hw2⟩ : ∃ w2, w1.alloc (.cells #[.int .i64 (i : Int), .int .i64 (n : Int), .string (bs y)] 119) = w2 := ⟨_, rfl⟩
 rw [hw2] at hx2 hn2
 try rw [hw2]
 clear hw2 hbx
 have H2 := Lib.hid (H1.out.ext hx2)
 have HF2 := Lib.hid (HF1.out.trans (Fr.of hx2 H1.out.size))
 obtain ⟨e0, e1, _, _, _, hf⟩ := rb_c H2.out.blk
 have e4 := hx2.cell_of c41
 have x1 : w2.cell? ⟨bx, 1, none⟩ = some (.int .i64 (n : Int)) := cell_blk hn2 rfl
 have x2 : w2.cell? ⟨bx, 2, none⟩ = some (.string (bs y)) := cell_blk hn2 rfl
 have hf4 := hf 4
 clear hf hn2 y0 y1 y2 c41 H1 HF1
 go_quiet (fail)
 have H3 := Lib.hid (H2.out.ext ((Ext.refl w2).drewN nq))
 go_wp2_with (go_at_call 76; (with_reducible refine (GSE.out _ _ H3.out).mono ?_); rintro e w3 ⟨rfl, hx3⟩)
 go_returns
 exact ⟨rfl, ⟨_, H3.out.ext hx3⟩, (HF2.out.trans (Fr.of ((Ext.refl w2).drewN nq) H2.out.size)).trans (Fr.of hx3 H3.out.size)⟩
set_option maxRecDepth 100000 in
set_option maxHeartbeats 8000000 in
theorem ref_Unseal_tag (W : World) (B r : Nat) (gv : Value) (x : UInt8) (t : List UInt8) (gs gs' : GS) (s : List UInt8) (i : Nat) (y : List UInt8) (root text : List UInt8) (er : Int) (h : RC B r 1 gv (x :: t) gs W) (hs : s.length ≤ 1000000) (hf : Fit x gs gs' s i y) (hall : ∀ z ∈ gs, z.2.1 = x.toNat ∧ z.2.2.length = 32) (hsec : secretS gs' = some root) (hrl : root.length = 32) (htl : t.length ≤ 1000000) (hxl : text.length ≤ 1000000) (ho : openAny [(1, root)] lblB x.toNat t = (text, er)) (hre : readE text = none) :
  Calls Tryz.prog 49 #[.pointer (some ⟨r, 0, none⟩), .string (bs s)] W fun e w' => e = .returned (.tuple #[.bool false, .int .i64 141]) ∧ (∃ gv', RC B r 1 gv' (x :: t) [] w') ∧ Fr B W w' := by
 obtain ⟨n, hn⟩ : ∃ n, x.toNat = n := ⟨_, rfl⟩
 have hgl : gs.length ≤ 100 := hf.small.1
 have hg64 : ∀ y ∈ gs, y.2.2.length ≤ 64 := fun z hz => by rw [(hall z hz).2]; omega
 have hadd : addS gs s = (0, gs ++ [(i, n, y)]) := by rw [hf.add, fit_add hf, hn]
 have hall' := fit_all hf hall
 have hgs' := fit_add hf
 rw [hn] at hgs'
 have hl' := hf.small.2
 have GSx := Lib.hid (fun W2 gv2 (h2 : RC B r 1 gv2 (x :: t) gs' W2) => ref_secret W2 B r gv2 (x :: t) gs' x h2 hl' hall')
 have hyl : ((y.length : Int) != 32) = false := by have := hf.len; simp; omega
 rw [hsec] at GSx
 have GSE : Hid (∀ W2 gv2, RC B r 1 gv2 (x :: t) gs' W2 → Calls Tryz.prog 76 #[.pointer (some ⟨r, 4, none⟩)] W2 fun e w' => e = .returned (.string (bs root)) ∧ Ext W2 w') := GSx
 have GN := Lib.hid (fun W => ref_ring_New root W)
 have GO : Hid (∀ B d W, DocAt W B d [(1, root)] → Calls Tryz.prog 77 #[.pointer (some ⟨d, 0, none⟩), .string { data := #[98, 97, 114, 114, 105, 101, 114] }, .int .u64 (x.toNat : Int), .string (bs t)] W fun e w' => e = .returned (.tuple #[.string (bs text), .int .i64 er]) ∧ Ext W w') :=
  Lib.hid (fun B d W hr => by
   have := refOpen_any B d [(1, root)] lblB t x.toNat W hr (by simp) (by simp) (by omega) (by simp [hrl]) (by have := x.toNat_lt; unfold U64; omega) (by decide)
   rw [ho] at this
   exact this)
 have GRD : Hid (∀ W, Calls Tryz.prog 79 #[.string (bs text)] W fun e w' => e = .returned (.pointer none) ∧ Ext W w') := Lib.hid (fun W => (ref_Read text W hxl).mono (by
  rintro e w' (⟨_, rfl, hx⟩ | ⟨E1, d, h1, _⟩)
  ·exact ⟨rfl, hx⟩
  ·rw [hre] at h1; cases h1))
 have hrn : root.isEmpty = false := by cases root with
  | nil => simp at hrl
  | cons _ _ => rfl
 have hw64 : IntKind.u64.wrap (x.toNat : Int) = (x.toNat : Int) := by have := x.toNat_lt; rw [IntKind.wrap_u64]; omega
 have hex : (bs (x :: t)).extract 1 (t.length + 1) = bs t := by rw [bs_extract]; simp
 have ha : (x :: t).length = t.length + 1 := rfl
 have ht1 : (1 : Int) ≤ (t.length : Int) + 1 := by omega
 have ga := ref_add W B r gv (x :: t) gs s h hs hgl hg64
 rw [hadd] at ga
 have GA := Lib.hid ga
 obtain ⟨c0, zz1, zz2, zz3, zz4, zz5⟩ := rb_c h.blk
 clear zz1 zz2 zz3 zz4 zz5
 obtain ⟨ad, cap, rfl, c4⟩ := rc_look h
 have iS : ∀ W, (Instr.index 9 (.string (bs (x :: t))) (.int .i64 0)).run Tryz.prog W = .ok (.int .u8 (x.toNat : Int)) W := fun W => run_index_str (x :: t) 0 (by simp) W
 have hw : IntKind.i64.wrap (x.toNat : Int) = (x.toNat : Int) := by have := x.toNat_lt; rw [IntKind.wrap_i64]; omega
 obtain ⟨L, hL⟩ : ∃ L, gs.length = L := ⟨_, rfl⟩
 have hL100 : L ≤ 100 := by omega
 have HLg := Lib.hid hL
 rw [hL] at c4
 obtain ⟨hd, hhd⟩ : ∃ hd, x :: t = hd := ⟨_, rfl⟩
 rw [hhd] at iS GA GSE hex ha ⊢
 rw [hgs'] at GSE
 rw [hn] at iS hw GO hw64
 clear h hs hgl hg64 hadd ga hhd hL hf hall hall' hgs' hl' GSx hsec hn hrl htl hxl ho hre
 go_enter Tryz.func49, Tryz.ntmps49
 go_upto_region 7 with (go_at_call 75; (with_reducible refine GA.out.mono ?_); rintro e w1 ⟨rfl, ⟨gv1, h1⟩, h2⟩; have H1 := Lib.hid h1; have HF1 := Lib.hid h2; clear h1 h2)
 obtain ⟨ad1, cap1, hgv1, c41⟩ := rc_look H1.out
 subst hgv1
 have hlen : (gs ++ [(i, n, y)]).length = L + 1 := by rw [List.length_append, HLg.out]; rfl
 rw [hlen] at c41
 obtain ⟨b1, hb1, y0, y1, y2⟩ : ∃ b1, ad1 = some ⟨b1, 0, none⟩ ∧ w1.cell? ⟨b1, L * 3, none⟩ = some (.int .i64 (i : Int)) ∧ w1.cell? ⟨b1, L * 3 + 1, none⟩ = some (.int .i64 (n : Int)) ∧ w1.cell? ⟨b1, L * 3 + 2, none⟩ = some (.string (bs y)) := by
  obtain ⟨a', c', hv, hc⟩ := Sh.of_row H1.out.own
  obtain ⟨b, ha, _, z0, z1, z2⟩ := hc L (by omega)
  have hx : (gs ++ [(i, n, y)])[L]'(by omega) = (i, n, y) := by
   have hLg := HLg.out
   rw [List.getElem_append_right (by omega)]
   simp
  rw [hx] at z0 z1 z2
  injection hv with hv1
  exact ⟨b, hv1.trans ha, z0, z1, z2⟩
 subst hb1
 clear hlen c0 c4
 have hLi : (L : Int) < (L : Int) + 1 := by omega
 go_upto_region 8 with fail
 have hx2 := (Ext.refl w1).alloc (.cells #[.int .i64 (i : Int), .int .i64 (n : Int), .string (bs y)] 119)
 have hn2 := heap_alloc_new w1 (.cells #[.int .i64 (i : Int), .int .i64 (n : Int), .string (bs y)] 119)
 obtain ⟨bx, hbx⟩ : ∃ bx, w1.heap.size = bx := ⟨_, rfl⟩
 rw [hbx] at hn2
 try rw [hbx]
 obtain ⟨w2, hw2⟩ : ∃ w2, w1.alloc (.cells #[.int .i64 (i : Int), .int .i64 (n : Int), .string (bs y)] 119) = w2 := ⟨_, rfl⟩
 rw [hw2] at hx2 hn2
 try rw [hw2]
 clear hw2 hbx
 have H2 := Lib.hid (H1.out.ext hx2)
 have HF2 := Lib.hid (HF1.out.trans (Fr.of hx2 H1.out.size))
 obtain ⟨e0, e1, _, _, _, hf⟩ := rb_c H2.out.blk
 have e4 := hx2.cell_of c41
 have x1 : w2.cell? ⟨bx, 1, none⟩ = some (.int .i64 (n : Int)) := cell_blk hn2 rfl
 have x2 : w2.cell? ⟨bx, 2, none⟩ = some (.string (bs y)) := cell_blk hn2 rfl
 have hf4 := hf 4
 clear hf hn2 y0 y1 y2 c41 H1 HF1
 go_quiet (fail)
 have H3 := Lib.hid (H2.out.ext ((Ext.refl w2).drewN nq))
 have HF3 := Lib.hid (HF2.out.trans (Fr.of ((Ext.refl w2).drewN nq) H2.out.size))
 go_upto_region 14 with (go_at_call 76; (with_reducible refine (GSE.out _ _ H3.out).mono ?_); rintro e w3 ⟨rfl, hx3⟩; have H4 := Lib.hid (H3.out.ext hx3); have HF4 := Lib.hid (HF3.out.trans (Fr.of hx3 H3.out.size)); clear hx3)
 obtain ⟨k0, k1, k2, k3, k4, hf⟩ := rb_c H4.out.blk
 have hk4 := hf 4
 clear hf e0 e1 e4 x1 x2 hf4
 have h5 := rb4 H4.out.blk (.slice none 0 0)
 have HF5 := Lib.hid (HF4.out.trans (Fr.set (i := 4) (v := .slice none 0 0) H4.out.lo H4.out.blk (rbo_ty _ _ _ _ _)))
 have H5 : Hid (RC B r 1 (.slice none 0 0) hd [] (w3.setCell ⟨r, 4, none⟩ (.slice none 0 0))) := Lib.hid ⟨h5, H4.out.lo, World.ownsRow_nil _ _ _ _⟩
 go_upto_region 15 with fail
 obtain ⟨w5, hw5⟩ : ∃ w5, w3.setCell ⟨r, 4, none⟩ (.slice none 0 0) = w5 := ⟨_, rfl⟩
 rw [hw5] at H5 HF5
 try rw [hw5]
 clear hw5 h5 k0 k1 k2 k3 k4 hk4
 obtain ⟨k0, k1, k2, k3, k4, hf⟩ := rb_c H5.out.blk
 refine Loud.wp_region_loud (fun i => decide (i = 1 ∨ i = 13)) 19 (fun w' => Ext w5 w') (by kernel_rfl) (by kernel_rfl) ((Ext.refl w5).drew) ?_
 simp only [List.take_succ_cons, List.take_zero]
 iterate 1 (refine Loud.lex_qe rfl rfl ?_; apply Exists.intro; refine ⟨fun wq hq => ?_, Loud.norm fun K hK => ?_⟩; (go_simp; try rfl); go_simp; refine hK _ ?_; clear hK K)
 refine Loud.lex_l rfl rfl (fun K hK => ?_); go_simp; refine (GN.out _).mono ?_; rintro e w6 ⟨e1, rfl, h6, hx6⟩; refine ⟨_, rfl, ?_⟩; go_simp; refine hK _ _ (((Ext.refl w5).drew).trans hx6) ?_; clear hK K
 iterate 3 (refine Loud.lex_qe rfl rfl ?_; apply Exists.intro; refine ⟨fun wq hq => ?_, Loud.norm fun K hK => ?_⟩; (go_simp; try rfl); go_simp; refine hK _ ?_; clear hK K)
 refine Loud.lex_qe rfl rfl ?_; apply Exists.intro; refine ⟨fun wq hq => ?_, Loud.norm fun K hK => ?_⟩; (have hqc := hq.cell_of k1; go_simp; try rfl); go_simp; refine hK _ ?_; clear hK K
 iterate 5 (refine Loud.lex_qe rfl rfl ?_; apply Exists.intro; refine ⟨fun wq hq => ?_, Loud.norm fun K hK => ?_⟩; (go_simp; try rfl); go_simp; refine hK _ ?_; clear hK K)
 refine Loud.lex_qe rfl rfl ?_; apply Exists.intro; refine ⟨fun wq hq => ?_, Loud.norm fun K hK => ?_⟩; (have hqc := hq.cell_of k1; go_simp; try rfl); go_simp; refine hK _ ?_; clear hK K
 iterate 1 (refine Loud.lex_qe rfl rfl ?_; apply Exists.intro; refine ⟨fun wq hq => ?_, Loud.norm fun K hK => ?_⟩; (go_simp; try rfl); go_simp; refine hK _ ?_; clear hK K)
 refine Loud.lex_l rfl rfl (fun K hK => ?_); go_simp; refine (GO.out _ _ _ h6).mono ?_; rintro e w7 ⟨rfl, hx7⟩; refine ⟨_, rfl, ?_⟩; go_simp; refine hK _ _ ((((Ext.refl w5).drew).trans hx6).trans hx7) ?_; clear hK K
 iterate 5 (refine Loud.lex_qe rfl rfl ?_; apply Exists.intro; refine ⟨fun wq hq => ?_, Loud.norm fun K hK => ?_⟩; (go_simp; try rfl); go_simp; refine hK _ ?_; clear hK K)
 refine Loud.lex_nil ?_
 simp only [List.drop_succ_cons, List.drop_zero]
 have HX7 : Hid (Ext w5 w7) := Lib.hid (((Ext.refl w5).drew.trans hx6).trans hx7)
 have H7 := Lib.hid (H5.out.ext HX7.out)
 have HF7 := Lib.hid (HF5.out.trans (Fr.of HX7.out H5.out.size))
 clear h6 hx6 hx7 k0 k1 k2 k3 k4 hf
 by_cases her : er = 0
 ·subst her
  go_wp2_with (go_at_call 79; (with_reducible refine (GRD.out _).mono ?_); rintro e w8 ⟨rfl, hx8⟩)
  go_returns
  exact ⟨rfl, ⟨_, H7.out.ext hx8⟩, HF7.out.trans (Fr.of hx8 H7.out.size)⟩
 ·have her1 : (er != 0) = true := by simpa using her
  clear her
  go_wp2_with (go_at_call 79; (with_reducible refine (GRD.out _).mono ?_); rintro e w8 ⟨rfl, hx8⟩)
  go_returns
  exact ⟨rfl, ⟨_, H7.out.ext hx8⟩, HF7.out.trans (Fr.of hx8 H7.out.size)⟩
set_option maxRecDepth 100000 in
set_option maxHeartbeats 8000000 in
theorem ref_Unseal_open (W : World) (B r : Nat) (gv : Value) (x : UInt8) (t : List UInt8) (gs gs' : GS) (s : List UInt8) (i : Nat) (y : List UInt8) (root text : List UInt8) (E : Eps) (h : RC B r 1 gv (x :: t) gs W) (hs : s.length ≤ 1000000) (hf : Fit x gs gs' s i y) (hall : ∀ z ∈ gs, z.2.1 = x.toNat ∧ z.2.2.length = 32) (hsec : secretS gs' = some root) (hrl : root.length = 32) (htl : t.length ≤ 1000000) (hxl : text.length ≤ 1000000) (ho : openAny [(1, root)] lblB x.toNat t = (text, 0)) (hre : readE text = some E) :
  Calls Tryz.prog 49 #[.pointer (some ⟨r, 0, none⟩), .string (bs s)] W fun e w' => e = .returned (.tuple #[.bool true, .int .i64 0]) ∧ (∃ d gv', RO B r d gv' (x :: t) root E [] w') ∧ Fr B W w' := by
 obtain ⟨n, hn⟩ : ∃ n, x.toNat = n := ⟨_, rfl⟩
 have hgl : gs.length ≤ 100 := hf.small.1
 have hg64 : ∀ y ∈ gs, y.2.2.length ≤ 64 := fun z hz => by rw [(hall z hz).2]; omega
 have hadd : addS gs s = (0, gs ++ [(i, n, y)]) := by rw [hf.add, fit_add hf, hn]
 have hall' := fit_all hf hall
 have hgs' := fit_add hf
 rw [hn] at hgs'
 have hl' := hf.small.2
 have GSx := Lib.hid (fun W2 gv2 (h2 : RC B r 1 gv2 (x :: t) gs' W2) => ref_secret W2 B r gv2 (x :: t) gs' x h2 hl' hall')
 have hyl : ((y.length : Int) != 32) = false := by have := hf.len; simp; omega
 rw [hsec] at GSx
 have GSE : Hid (∀ W2 gv2, RC B r 1 gv2 (x :: t) gs' W2 → Calls Tryz.prog 76 #[.pointer (some ⟨r, 4, none⟩)] W2 fun e w' => e = .returned (.string (bs root)) ∧ Ext W2 w') := GSx
 have GN := Lib.hid (fun W => ref_ring_New root W)
 have GO : Hid (∀ B d W, DocAt W B d [(1, root)] → Calls Tryz.prog 77 #[.pointer (some ⟨d, 0, none⟩), .string { data := #[98, 97, 114, 114, 105, 101, 114] }, .int .u64 (x.toNat : Int), .string (bs t)] W fun e w' => e = .returned (.tuple #[.string (bs text), .int .i64 0]) ∧ Ext W w') :=
  Lib.hid (fun B d W hr => by
   have := refOpen_any B d [(1, root)] lblB t x.toNat W hr (by simp) (by simp) (by omega) (by simp [hrl]) (by have := x.toNat_lt; unfold U64; omega) (by decide)
   rw [ho] at this
   exact this)
 have GRD : Hid (∀ W, Calls Tryz.prog 79 #[.string (bs text)] W fun e w' => ∃ d, e = .returned (.pointer (some ⟨d, 0, none⟩)) ∧ DocAt w' W.heap.size d E ∧ Ext W w') := Lib.hid (fun W => (ref_Read text W hxl).mono (by
  rintro e w' (⟨h1, _⟩ | ⟨E1, d, h1, rfl, h2, h3⟩)
  ·rw [hre] at h1; cases h1
  ·rw [hre] at h1; injection h1 with h1; subst h1; exact ⟨d, rfl, h2, h3⟩))
 have hrn : root.isEmpty = false := by cases root with
  | nil => simp at hrl
  | cons _ _ => rfl
 have hw64 : IntKind.u64.wrap (x.toNat : Int) = (x.toNat : Int) := by have := x.toNat_lt; rw [IntKind.wrap_u64]; omega
 have hex : (bs (x :: t)).extract 1 (t.length + 1) = bs t := by rw [bs_extract]; simp
 have ha : (x :: t).length = t.length + 1 := rfl
 have ht1 : (1 : Int) ≤ (t.length : Int) + 1 := by omega
 have ga := ref_add W B r gv (x :: t) gs s h hs hgl hg64
 rw [hadd] at ga
 have GA := Lib.hid ga
 obtain ⟨c0, zz1, zz2, zz3, zz4, zz5⟩ := rb_c h.blk
 clear zz1 zz2 zz3 zz4 zz5
 obtain ⟨ad, cap, rfl, c4⟩ := rc_look h
 have iS : ∀ W, (Instr.index 9 (.string (bs (x :: t))) (.int .i64 0)).run Tryz.prog W = .ok (.int .u8 (x.toNat : Int)) W := fun W => run_index_str (x :: t) 0 (by simp) W
 have hw : IntKind.i64.wrap (x.toNat : Int) = (x.toNat : Int) := by have := x.toNat_lt; rw [IntKind.wrap_i64]; omega
 obtain ⟨L, hL⟩ : ∃ L, gs.length = L := ⟨_, rfl⟩
 have hL100 : L ≤ 100 := by omega
 have HLg := Lib.hid hL
 rw [hL] at c4
 obtain ⟨hd, hhd⟩ : ∃ hd, x :: t = hd := ⟨_, rfl⟩
 rw [hhd] at iS GA GSE hex ha ⊢
 rw [hgs'] at GSE
 rw [hn] at iS hw GO hw64
 clear h hs hgl hg64 hadd ga hhd hL hf hall hall' hgs' hl' GSx hsec hn hrl htl hxl ho hre
 go_enter Tryz.func49, Tryz.ntmps49
 go_upto_region 7 with (go_at_call 75; (with_reducible refine GA.out.mono ?_); rintro e w1 ⟨rfl, ⟨gv1, h1⟩, h2⟩; have H1 := Lib.hid h1; have HF1 := Lib.hid h2; clear h1 h2)
 obtain ⟨ad1, cap1, hgv1, c41⟩ := rc_look H1.out
 subst hgv1
 have hlen : (gs ++ [(i, n, y)]).length = L + 1 := by rw [List.length_append, HLg.out]; rfl
 rw [hlen] at c41
 obtain ⟨b1, hb1, y0, y1, y2⟩ : ∃ b1, ad1 = some ⟨b1, 0, none⟩ ∧ w1.cell? ⟨b1, L * 3, none⟩ = some (.int .i64 (i : Int)) ∧ w1.cell? ⟨b1, L * 3 + 1, none⟩ = some (.int .i64 (n : Int)) ∧ w1.cell? ⟨b1, L * 3 + 2, none⟩ = some (.string (bs y)) := by
  obtain ⟨a', c', hv, hc⟩ := Sh.of_row H1.out.own
  obtain ⟨b, ha, _, z0, z1, z2⟩ := hc L (by omega)
  have hx : (gs ++ [(i, n, y)])[L]'(by omega) = (i, n, y) := by
   have hLg := HLg.out
   rw [List.getElem_append_right (by omega)]
   simp
  rw [hx] at z0 z1 z2
  injection hv with hv1
  exact ⟨b, hv1.trans ha, z0, z1, z2⟩
 subst hb1
 clear hlen c0 c4
 have hLi : (L : Int) < (L : Int) + 1 := by omega
 go_upto_region 8 with fail
 have hx2 := (Ext.refl w1).alloc (.cells #[.int .i64 (i : Int), .int .i64 (n : Int), .string (bs y)] 119)
 have hn2 := heap_alloc_new w1 (.cells #[.int .i64 (i : Int), .int .i64 (n : Int), .string (bs y)] 119)
 obtain ⟨bx, hbx⟩ : ∃ bx, w1.heap.size = bx := ⟨_, rfl⟩
 rw [hbx] at hn2
 try rw [hbx]
 obtain ⟨w2, hw2⟩ : ∃ w2, w1.alloc (.cells #[.int .i64 (i : Int), .int .i64 (n : Int), .string (bs y)] 119) = w2 := ⟨_, rfl⟩
 rw [hw2] at hx2 hn2
 try rw [hw2]
 clear hw2 hbx
 have H2 := Lib.hid (H1.out.ext hx2)
 have HF2 := Lib.hid (HF1.out.trans (Fr.of hx2 H1.out.size))
 obtain ⟨e0, e1, _, _, _, hf⟩ := rb_c H2.out.blk
 have e4 := hx2.cell_of c41
 have x1 : w2.cell? ⟨bx, 1, none⟩ = some (.int .i64 (n : Int)) := cell_blk hn2 rfl
 have x2 : w2.cell? ⟨bx, 2, none⟩ = some (.string (bs y)) := cell_blk hn2 rfl
 have hf4 := hf 4
 clear hf hn2 y0 y1 y2 c41 H1 HF1
 go_quiet (fail)
 have H3 := Lib.hid (H2.out.ext ((Ext.refl w2).drewN nq))
 have HF3 := Lib.hid (HF2.out.trans (Fr.of ((Ext.refl w2).drewN nq) H2.out.size))
 go_upto_region 14 with (go_at_call 76; (with_reducible refine (GSE.out _ _ H3.out).mono ?_); rintro e w3 ⟨rfl, hx3⟩; have H4 := Lib.hid (H3.out.ext hx3); have HF4 := Lib.hid (HF3.out.trans (Fr.of hx3 H3.out.size)); clear hx3)
 obtain ⟨k0, k1, k2, k3, k4, hf⟩ := rb_c H4.out.blk
 have hk4 := hf 4
 clear hf e0 e1 e4 x1 x2 hf4
 have h5 := rb4 H4.out.blk (.slice none 0 0)
 have HF5 := Lib.hid (HF4.out.trans (Fr.set (i := 4) (v := .slice none 0 0) H4.out.lo H4.out.blk (rbo_ty _ _ _ _ _)))
 have H5 : Hid (RC B r 1 (.slice none 0 0) hd [] (w3.setCell ⟨r, 4, none⟩ (.slice none 0 0))) := Lib.hid ⟨h5, H4.out.lo, World.ownsRow_nil _ _ _ _⟩
 go_upto_region 15 with fail
 obtain ⟨w5, hw5⟩ : ∃ w5, w3.setCell ⟨r, 4, none⟩ (.slice none 0 0) = w5 := ⟨_, rfl⟩
 rw [hw5] at H5 HF5
 try rw [hw5]
 clear hw5 h5 k0 k1 k2 k3 k4 hk4
 obtain ⟨k0, k1, k2, k3, k4, hf⟩ := rb_c H5.out.blk
 refine Loud.wp_region_loud (fun i => decide (i = 1 ∨ i = 13)) 19 (fun w' => Ext w5 w') (by kernel_rfl) (by kernel_rfl) ((Ext.refl w5).drew) ?_
 simp only [List.take_succ_cons, List.take_zero]
 iterate 1 (refine Loud.lex_qe rfl rfl ?_; apply Exists.intro; refine ⟨fun wq hq => ?_, Loud.norm fun K hK => ?_⟩; (go_simp; try rfl); go_simp; refine hK _ ?_; clear hK K)
 refine Loud.lex_l rfl rfl (fun K hK => ?_); go_simp; refine (GN.out _).mono ?_; rintro e w6 ⟨e1, rfl, h6, hx6⟩; refine ⟨_, rfl, ?_⟩; go_simp; refine hK _ _ (((Ext.refl w5).drew).trans hx6) ?_; clear hK K
 iterate 3 (refine Loud.lex_qe rfl rfl ?_; apply Exists.intro; refine ⟨fun wq hq => ?_, Loud.norm fun K hK => ?_⟩; (go_simp; try rfl); go_simp; refine hK _ ?_; clear hK K)
 refine Loud.lex_qe rfl rfl ?_; apply Exists.intro; refine ⟨fun wq hq => ?_, Loud.norm fun K hK => ?_⟩; (have hqc := hq.cell_of k1; go_simp; try rfl); go_simp; refine hK _ ?_; clear hK K
 iterate 5 (refine Loud.lex_qe rfl rfl ?_; apply Exists.intro; refine ⟨fun wq hq => ?_, Loud.norm fun K hK => ?_⟩; (go_simp; try rfl); go_simp; refine hK _ ?_; clear hK K)
 refine Loud.lex_qe rfl rfl ?_; apply Exists.intro; refine ⟨fun wq hq => ?_, Loud.norm fun K hK => ?_⟩; (have hqc := hq.cell_of k1; go_simp; try rfl); go_simp; refine hK _ ?_; clear hK K
 iterate 1 (refine Loud.lex_qe rfl rfl ?_; apply Exists.intro; refine ⟨fun wq hq => ?_, Loud.norm fun K hK => ?_⟩; (go_simp; try rfl); go_simp; refine hK _ ?_; clear hK K)
 refine Loud.lex_l rfl rfl (fun K hK => ?_); go_simp; refine (GO.out _ _ _ h6).mono ?_; rintro e w7 ⟨rfl, hx7⟩; refine ⟨_, rfl, ?_⟩; go_simp; refine hK _ _ ((((Ext.refl w5).drew).trans hx6).trans hx7) ?_; clear hK K
 iterate 5 (refine Loud.lex_qe rfl rfl ?_; apply Exists.intro; refine ⟨fun wq hq => ?_, Loud.norm fun K hK => ?_⟩; (go_simp; try rfl); go_simp; refine hK _ ?_; clear hK K)
 refine Loud.lex_nil ?_
 simp only [List.drop_succ_cons, List.drop_zero]
 have HX7 : Hid (Ext w5 w7) := Lib.hid (((Ext.refl w5).drew.trans hx6).trans hx7)
 have H7 := Lib.hid (H5.out.ext HX7.out)
 have HF7 := Lib.hid (HF5.out.trans (Fr.of HX7.out H5.out.size))
 clear h6 hx6 hx7 k0 k1 k2 k3 k4 hf
 go_upto_region 19 with (go_at_call 79; (with_reducible refine (GRD.out _).mono ?_); rintro e w8 ⟨d, rfl, h8, hx8⟩; have HD8 := Lib.hid h8; have HX8 := Lib.hid hx8; clear h8 hx8)
 have H8 := Lib.hid (H7.out.ext HX8.out)
 have HF8 := Lib.hid (HF7.out.trans (Fr.of HX8.out H7.out.size))
 obtain ⟨m0, m1, m2, m3, m4, hf⟩ := rb_c H8.out.blk
 have hm0 := hf 0
 have hm2 := hf 2
 have hm3 := hf 3
 clear hf
 go_wp2
 go_returns
 have q1 := rb0 H8.out.blk 2
 have q2 := rb2 q1 root
 have q3 := rb3 q2 (some ⟨d, 0, none⟩)
 refine ⟨rfl, ⟨d, _, q3, H8.out.lo, doc_cell q2 (doc_cell q1 (doc_cell H8.out.blk (HD8.out.lower H7.out.size))), World.ownsRow_nil _ _ _ _⟩, ((HF8.out.trans (Fr.set H8.out.lo H8.out.blk (rbo_ty _ _ _ _ _))).trans (Fr.set H8.out.lo q1 (rbo_ty _ _ _ _ _))).trans (Fr.set H8.out.lo q2 (rbo_ty _ _ _ _ _))⟩
end Go.Proofs.YtclekllaikcglaaGreat
