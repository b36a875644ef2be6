import Derived.Test.YtclekllaikcglaaGreatBar
import Derived.Test.YtclekllaikcglaaGreatLaw13a
import Derived.Test.YtclekllaikcglaaGreatSeal
import Derived.Test.YtclekllaikcglaaGreatGatherE
import Derived.Maps.AppendAt

/- Layer 15: a barrier that is open: heads, Put, Get, Seal, Rotate, Retire, Epochs. -/
namespace Go.Proofs.YtclekllaikcglaaGreat
open Go Go.RowKit
structure BA where
 b : Nat
 bg : Nat
 bm : Nat
 r : Nat
 m : Nat
 rr : Nat
 mr : Nat
 c : Nat
def BA.all (a : BA) : List Nat := [a.b, a.bg, a.bm, a.r, a.m, a.rr, a.mr]
def lblB : List UInt8 := [98, 97, 114, 114, 105, 101, 114]
def hdL (root : List UInt8) (nb : Nat) (nonce : List UInt8) (E : Eps) : List UInt8 :=
 b8 nb :: (envL root 1 nonce (bytesE E) ++ tagL root lblB nb (envL root 1 nonce (bytesE E)))
structure BarO (w0 : World) (F : List (Nat × Obj)) (a : BA) (hd : List UInt8) (gs : GS) (E : Eps) (n : Nat) (root : List UInt8) (w : World) : Prop where
 ext : Ext w0 w
 cell : BCell w a.b (some ⟨a.r, 0, none⟩) 2 hd (some ⟨a.rr, 0, none⟩) a.bg
 ring : RingAt w a.r a.m E n
 top : RingAt w a.rr a.mr [(1, root)] 1
 got : PG w a.bg a.bm a.c gs
 lo : ∀ x ∈ a.all, w0.heap.size ≤ x
 nd : a.all.Nodup
 keep : ∀ x ∈ F, w.heap[x.1]? = some x.2
 off : ∀ x ∈ F, x.1 ∉ a.all
structure BarC (w0 : World) (F : List (Nat × Obj)) (b bg bm c st : Nat) (hd : List UInt8) (gs : GS) (w : World) : Prop where
 ext : Ext w0 w
 cell : BCell w b none st hd none bg
 got : PG w bg bm c gs
 lo : w0.heap.size ≤ b ∧ w0.heap.size ≤ bg ∧ w0.heap.size ≤ bm
 nd : b ≠ bg ∧ b ≠ bm
 keep : ∀ x ∈ F, w.heap[x.1]? = some x.2
 off : ∀ x ∈ F, x.1 ∉ [b, bg, bm]
section
variable {w0 w w' : World} {F : List (Nat × Obj)} {a : BA} {hd : List UInt8} {gs : GS} {E : Eps} {n : Nat} {root : List UInt8}
theorem BarO.next (h : BarO w0 F a hd gs E n root w) (hx : Ext w w') : BarO w0 F a hd gs E n root w' :=
 ⟨h.ext.trans hx, hx.keep h.cell, h.ring.ext hx, h.top.ext hx, h.got.ext hx, h.lo, h.nd, fun x hxF => hx.keep (h.keep x hxF), h.off⟩
theorem BarC.next {b bg bm c st : Nat} (h : BarC w0 F b bg bm c st hd gs w) (hx : Ext w w') : BarC w0 F b bg bm c st hd gs w' :=
 ⟨h.ext.trans hx, hx.keep h.cell, h.got.ext hx, h.lo, h.nd, fun x hxF => hx.keep (h.keep x hxF), h.off⟩
theorem BarO.ne (h : BarO w0 F a hd gs E n root w) : a.b ≠ a.bg ∧ a.b ≠ a.bm ∧ a.b ≠ a.r ∧ a.b ≠ a.m ∧ a.b ≠ a.rr ∧ a.b ≠ a.mr ∧ a.bg ≠ a.r ∧ a.bg ≠ a.m ∧ a.bm ≠ a.r ∧ a.bm ≠ a.m ∧ a.r ≠ a.rr ∧ a.r ≠ a.mr ∧ a.m ≠ a.rr ∧ a.m ≠ a.mr := by
 have := h.nd
 simp only [BA.all, List.nodup_cons, List.mem_cons, List.not_mem_nil, or_false, not_or] at this
 refine ⟨?_, ?_, ?_, ?_, ?_, ?_, ?_, ?_, ?_, ?_, ?_, ?_, ?_, ?_⟩ <;> intro e <;> simp_all
theorem BarO.low (h : BarO w0 F a hd gs E n root w) : w0.heap.size ≤ a.b ∧ w0.heap.size ≤ a.bg ∧ w0.heap.size ≤ a.bm ∧ w0.heap.size ≤ a.r ∧ w0.heap.size ≤ a.m :=
 ⟨h.lo _ (by simp [BA.all]), h.lo _ (by simp [BA.all]), h.lo _ (by simp [BA.all]), h.lo _ (by simp [BA.all]), h.lo _ (by simp [BA.all])⟩
theorem BarO.put {E' : Eps} {n' : Nat} (h : BarO w0 F a hd gs E n root w) (hr : RingAt w' a.r a.m E' n') (hb : But [a.r, a.m] w w') : BarO w0 F a hd gs E' n' root w' := by
 obtain ⟨h1, h2, h3, h4, h5, h6, h7, h8, h9, h10, h11, h12, h13, h14⟩ := h.ne
 obtain ⟨l1, l2, l3, l4, l5⟩ := h.low
 refine ⟨But.ext h.ext hb (by simp; omega), hb.keep h.cell (by simp; omega), hr, h.top.keep (hb.block _ h.top.lt.1 (by simp; omega)) (hb.block _ h.top.lt.2 (by simp; omega)), h.got.but hb (by simp; omega) (by simp; omega), h.lo, h.nd, fun x hxF => hb.keep (h.keep x hxF) (fun hm => h.off x hxF (by simp [BA.all] at hm ⊢; omega)), h.off⟩
end
end Go.Proofs.YtclekllaikcglaaGreat

/- Layer 15: a barrier's header made anew; Seal, Put, Get. -/
namespace Go.Proofs.YtclekllaikcglaaGreat
open Go Go.RowKit
section
variable {w : World} {b : Nat} {p q : Option Addr} {st : Nat} {hd : List UInt8} {bg : Nat}
theorem BCell.set0 (h : BCell w b p st hd q bg) (p' : Option Addr) : BCell (w.setCell ⟨b, 0, none⟩ (.pointer p')) b p' st hd q bg := heap_setCell_same (i := 0) _ h
theorem BCell.set1 (h : BCell w b p st hd q bg) (st' : Nat) : BCell (w.setCell ⟨b, 1, none⟩ (.int .u8 (st' : Int))) b p st' hd q bg := heap_setCell_same (i := 1) _ h
theorem BCell.set2 (h : BCell w b p st hd q bg) (hd' : List UInt8) : BCell (w.setCell ⟨b, 2, none⟩ (.string (bs hd'))) b p st hd' q bg := heap_setCell_same (i := 2) _ h
theorem BCell.set3 (h : BCell w b p st hd q bg) (q' : Option Addr) : BCell (w.setCell ⟨b, 3, none⟩ (.pointer q')) b p st hd q' bg := heap_setCell_same (i := 3) _ h
end
theorem but_set (b i : Nat) (w : World) (v : Value) : But [b] w (w.setCell ⟨b, i, none⟩ v) := (But.refl _ _).setCell (.inl (by simp)) _
theorem BarO.own {w0 w w' : World} {F : List (Nat × Obj)} {a : BA} {hd hd' : List UInt8} {gs : GS} {E : Eps} {n : Nat} {root : List UInt8} (h : BarO w0 F a hd gs E n root w) (hb : But [a.b] w w') (hc : BCell w' a.b (some ⟨a.r, 0, none⟩) 2 hd' (some ⟨a.rr, 0, none⟩) a.bg) : BarO w0 F a hd' gs E n root w' := by
 obtain ⟨h1, h2, h3, h4, h5, h6, h7, h8, h9, h10, h11, h12, h13, h14⟩ := h.ne
 obtain ⟨l1, l2, l3, l4, l5⟩ := h.low
 refine ⟨But.ext h.ext hb (by simp; omega), hc, h.ring.keep (hb.block _ h.ring.lt.1 (by simp; omega)) (hb.block _ h.ring.lt.2 (by simp; omega)), h.top.keep (hb.block _ h.top.lt.1 (by simp; omega)) (hb.block _ h.top.lt.2 (by simp; omega)), h.got.but hb (by simp; omega) (by simp; omega), h.lo, h.nd, fun x hxF => hb.keep (h.keep x hxF) (fun hm => h.off x hxF (by simp [BA.all] at hm ⊢; omega)), h.off⟩
theorem BarO.shut {w0 w w' : World} {F : List (Nat × Obj)} {a : BA} {hd hd' : List UInt8} {gs : GS} {E : Eps} {n st : Nat} {root : List UInt8} (h : BarO w0 F a hd gs E n root w) (hb : But [a.b] w w') (hc : BCell w' a.b none st hd' none a.bg) : BarC w0 F a.b a.bg a.bm a.c st hd' gs w' := by
 obtain ⟨h1, h2, h3, h4, h5, h6, h7, h8, h9, h10, h11, h12, h13, h14⟩ := h.ne
 obtain ⟨l1, l2, l3, l4, l5⟩ := h.low
 exact ⟨But.ext h.ext hb (by simp; omega), hc, h.got.but hb (by simp; omega) (by simp; omega), ⟨l1, l2, l3⟩, ⟨h1, h2⟩, fun x hxF => hb.keep (h.keep x hxF) (fun hm => h.off x hxF (by simp [BA.all] at hm ⊢; omega)), fun x hxF hm => h.off x hxF (by simp [BA.all] at hm ⊢; omega)⟩
set_option maxRecDepth 100000 in
set_option maxHeartbeats 4000000 in
theorem bar_heads (w0 w : World) (F : List (Nat × Obj)) (a : BA) (hd : List UInt8) (gs : GS) (E : Eps) (n : Nat) (root nonce : List UInt8) (nb : Nat) (h : BarO w0 F a hd gs E n root w) (hI : RI E n) (hn : n < 4294967296) (hr : root.length = 32) (hno : nonce.length = 12) (hnb : nb < 256) :
  Calls Tryz.prog 30 #[.pointer (some ⟨a.b, 0, none⟩), .int .u8 (nb : Int), .string (bs nonce)] w fun e w' => e = .returned (.int .i64 0) ∧ BarO w0 F a (hdL root nb nonce E) gs E n root w' := by
 obtain ⟨y, rfl⟩ : ∃ y : UInt8, nb = y.toNat := ⟨b8 nb, (b8_toNat nb hnb).symm⟩
 have hy : b8 y.toNat = y := by unfold b8; simp
 have GB := Lib.hid (fun W (hx : Ext w W) => ring_Bytes a.r a.m E n W (h.ring.ext hx) hI hn)
 have hbl : (bytesE E).length ≤ 1048576 := by rw [bytesE_length E hI.key]; have := hI.len; omega
 have HH : Hid (hdL root y.toNat nonce E = b8 y.toNat :: (envL root 1 nonce (bytesE E) ++ tagL root lblB y.toNat (envL root 1 nonce (bytesE E)))) := Lib.hid rfl
 have GC : Hid (∀ W, Ext w W → Calls Tryz.prog 41 #[.pointer (some ⟨a.rr, 0, none⟩), .string { data := #[98, 97, 114, 114, 105, 101, 114] }, .int .u64 (y.toNat : Int), .string (bs nonce), .string (bs (bytesE E))] W fun e w' => e = .returned (.tuple #[.string (bs (envL root 1 nonce (bytesE E) ++ tagL root lblB y.toNat (envL root 1 nonce (bytesE E)))), .int .i64 0]) ∧ Ext W w') :=
  Lib.hid (fun W hx => Close_yes a.rr a.mr [(1, root)] 1 root lblB nonce (bytesE E) y.toNat W (h.top.ext hx) (by omega) (by omega) (by simp [lookE]) (by omega) (by have := y.toNat_lt; unfold U64; omega) hno (by decide) hbl)
 have hsl : (envL root 1 nonce (bytesE E) ++ tagL root lblB y.toNat (envL root 1 nonce (bytesE E))).length ≤ 2000000 := by
  rw [List.length_append, envL_length _ _ _ _ hno, tagL_length]; omega
 generalize envL root 1 nonce (bytesE E) ++ tagL root lblB y.toNat (envL root 1 nonce (bytesE E)) = S at *
 generalize hdL root y.toNat nonce E = hd' at *
 generalize bytesE E = BY at *
 have c0 := h.cell.c0
 have c3 := h.cell.c3
 have H := Lib.hid h
 have hw64 : IntKind.u64.wrap (y.toNat : Int) = (y.toNat : Int) := by have := y.toNat_lt; rw [IntKind.wrap_u64]; omega
 rw [hy] at HH
 have ks := one_str y
 have hsl2 : ¬ 9223372036854775807 < 1 + S.length := by omega
 clear h hI hn hr hno hbl hnb hy hsl
 go_enter Tryz.func30, Tryz.ntmps30
 go_upto_region 1 with fail
 refine Loud.wp_region_weave 18 w (Loud.sps [.val (.pointer (some ⟨a.b, 0, none⟩)), .val (.pointer (some ⟨a.b, 0, none⟩)), .val (.pointer (some ⟨a.b, 3, none⟩)), .val (.pointer (some ⟨a.rr, 0, none⟩)), .val (.int .u8 (y.toNat : Int)), .val (.int .u64 (y.toNat : Int)), .val (.string (bs nonce)), .val (.pointer (some ⟨a.b, 0, none⟩)), .val (.pointer (some ⟨a.b, 0, none⟩)), .val (.pointer (some ⟨a.b, 0, none⟩)), .val (.pointer (some ⟨a.r, 0, none⟩)), .val (.string (bs BY)), .val (.tuple #[.string (bs S), .int .i64 0]), .val (.tuple #[.string (bs S), .int .i64 0]), .val (.string (bs S)), .val (.int .i64 0), .val (.string (bs S)), .val (.int .i64 0)]) (by kernel_rfl) (by kernel_rfl) (by show Ext _ _; repeat (first | exact Ext.refl _ | assumption | (with_reducible refine Ext.drew ?_) | (with_reducible refine Ext.drewN ?_ _) | (with_reducible refine Ext.alloc ?_ _) | (refine Ext.trans ?_ (by assumption)))) (Loud.sps_st _) ?wAx1 ?whAx1 ?whSx1 ?whFx1
 case whAx1 => intro u K hK; simp only [List.take_succ_cons, List.take_zero, Loud.puts]; go_simp; exact hK
 case whSx1 =>
  refine ⟨?wsx1_0, ?wsx1_1, ?wsx1_2, ?wsx1_3, ?wsx1_4, ?wsx1_5, ?wsx1_6, ?wsx1_7, ?wsx1_8, ?wsx1_9, ?wsx1_10, ?wsx1_11, ?wsx1_12, ?wsx1_13, ?wsx1_14, ?wsx1_15, ?wsx1_16, ?wsx1_17, trivial⟩
  all_goals (intro u β wq hq h; repeat (obtain ⟨h1, h⟩ := h; first | (replace h1 := h1 rfl; simp only [go_sem] at h1; try (obtain ⟨h1, h1b⟩ := h1)) | (have hno := (h1 : Region.binds _ _ = true → _); clear hno h1)))
  case wsx1_3 =>
   refine Or.inl ⟨rfl, fun K hK => ?_⟩
   have hqc := hq.cell_of c3
   go_simp
   exact hK _ 0 _ (Ext.refl _) rfl
  case wsx1_10 =>
   refine Or.inl ⟨rfl, fun K hK => ?_⟩
   have hqc := hq.cell_of c0
   go_simp
   exact hK _ 0 _ (Ext.refl _) rfl
  case wsx1_11 =>
   refine Or.inl ⟨rfl, fun K hK => ?_⟩
   go_simp
   refine (GB.out _ (by assumption)).mono ?_; rintro e w1 ⟨rfl, hx1⟩; exact ⟨_, rfl, hK _ 0 _ hx1 rfl⟩
  case wsx1_12 =>
   refine Or.inl ⟨rfl, fun K hK => ?_⟩
   go_simp
   refine (GC.out _ (by assumption)).mono ?_; rintro e w1 ⟨rfl, hx1⟩; exact ⟨_, rfl, hK _ 0 _ hx1 rfl⟩
  all_goals (first | refine Or.inl ⟨rfl, fun K hK => ?_⟩ | refine Or.inl ⟨Loud.wanted_of rfl rfl (congrArg some (by assumption)), fun K hK => ?_⟩); go_simp; exact hK _ 0 _ (Ext.refl _) rfl
 intro u β w5 hq h
 have h0 := h 0 (by omega)
 have h1 := h 1 (by omega)
 have h2 := h 2 (by omega)
 have h3 := h 3 (by omega)
 have h4 := h 4 (by omega)
 have h5 := h 5 (by omega)
 have h6 := h 6 (by omega)
 have h7 := h 7 (by omega)
 have h8 := h 8 (by omega)
 have h9 := h 9 (by omega)
 have h10 := h 10 (by omega)
 have h11 := h 11 (by omega)
 have h12 := h 12 (by omega)
 have h13 := h 13 (by omega)
 have h14 := h 14 (by omega)
 have h15 := h 15 (by omega)
 have h16 := h 16 (by omega)
 have h17 := h 17 (by omega)
 clear h
 simp only [go_sem] at h0 h1 h2 h3 h4 h5 h6 h7 h8 h9 h10 h11 h12 h13 h14 h15 h16 h17
 simp only [List.drop_succ_cons, List.drop_zero]
 rw [h17]
 have HQ := Lib.hid hq
 have e16 := h16
 clear h0 h1 h2 h3 h4 h5 h6 h7 h8 h9 h10 h11 h12 h13 h14 h15 h16 h17 c0 c3
 rw [e16]
 clear e16
 have c5 : w5.cell? ⟨a.b, 2, none⟩ = some (.string (bs hd)) := hq.cell_of H.out.cell.c2
 have H6 := Lib.hid (H.out.next (hq.alloc (.cells #[.int .u8 (y.toNat : Int)] 5)))
 have f6 := H6.out.cell.fz 2
 have c6 := H6.out.cell.c2
 go_wp2_with fail
 go_returns
 rw [HH.out]
 exact ⟨rfl, H6.out.own (but_set _ _ _ _) (H6.out.cell.set2 _)⟩
set_option maxRecDepth 100000 in
theorem bar_Seal (w0 w : World) (F : List (Nat × Obj)) (a : BA) (hd : List UInt8) (gs : GS) (E : Eps) (n : Nat) (root : List UInt8) (h : BarO w0 F a hd gs E n root w) :
  Calls Tryz.prog 12 #[.pointer (some ⟨a.b, 0, none⟩)] w fun e w' => e = .returned (.int .i64 0) ∧ BarC w0 F a.b a.bg a.bm a.c 1 hd gs w' := by
 have G := Lib.hid (bar_is2 h.cell)
 have c0 := h.cell.c0
 have c1 := h.cell.c1
 have c3 := h.cell.c3
 have f0 := h.cell.fz 0
 have f1 := h.cell.fz 1
 have f3 := h.cell.fz 3
 have H := Lib.hid h
 clear h
 go_enter Tryz.func12, Tryz.ntmps12
 go_wp2_with (go_at_call 27; with_reducible refine G.out.mono ?_; rintro e w' ⟨rfl, rfl⟩)
 go_returns
 refine ⟨rfl, H.out.shut (((but_set _ _ _ _).trans (but_set _ _ _ _)).trans (but_set _ _ _ _)) ?_⟩
 exact ((H.out.cell.set0 none).set3 none).set1 1
set_option maxRecDepth 100000 in
theorem bar_Put (w0 w : World) (F : List (Nat × Obj)) (a : BA) (hd : List UInt8) (gs : GS) (E : Eps) (n : Nat) (root key path nonce text : List UInt8) (ver : Nat) (h : BarO w0 F a hd gs E n root w) (hI : RI E n) (hn : n < 4294967296) (hs : lookE E n = some key)
  (hv : U64 ver) (hno : nonce.length = 12) (hp : path.length ≤ 1048576) (ht : text.length ≤ 1048576) :
  Calls Tryz.prog 16 #[.pointer (some ⟨a.b, 0, none⟩), .string (bs path), .int .u64 (ver : Int), .string (bs nonce), .string (bs text)] w fun e w' => e = .returned (.tuple #[.string (bs (envL key n nonce text ++ tagL key path ver (envL key n nonce text))), .int .i64 0]) ∧ BarO w0 F a hd gs E n root w' := by
 have G := Lib.hid (bar_open h.cell)
 have hkl : key.length ≤ 1099511627776 := by have := look_key hI.key hs; omega
 have GC := Lib.hid (Close_yes a.r a.m E n key path nonce text ver w h.ring hI.pos hn hs hkl hv hno hp ht)
 generalize envL key n nonce text ++ tagL key path ver (envL key n nonce text) = S at *
 have c0 := h.cell.c0
 have H := Lib.hid h
 clear h hI hn hs hv hno hp ht hkl
 go_enter Tryz.func16, Tryz.ntmps16
 go_wp2_with (first
  | (go_at_call 40; with_reducible refine G.out.mono ?_; rintro e w' ⟨rfl, rfl⟩)
  | (go_at_call 41; with_reducible refine GC.out.mono ?_; rintro e w1 ⟨rfl, hx1⟩))
 go_returns
 exact ⟨rfl, H.out.next hx1⟩
set_option maxRecDepth 100000 in
theorem bar_Get (w0 w : World) (F : List (Nat × Obj)) (a : BA) (hd : List UInt8) (gs : GS) (E : Eps) (n : Nat) (root path s : List UInt8) (ver : Nat) (h : BarO w0 F a hd gs E n root w) (hI : RI E n)
  (hv : U64 ver) (hp : path.length ≤ 1048576) (ht : s.length ≤ 1099511627776) :
  Calls Tryz.prog 21 #[.pointer (some ⟨a.b, 0, none⟩), .string (bs path), .int .u64 (ver : Int), .string (bs s)] w fun e w' => e = .returned (.tuple #[.string (bs (openAny E path ver s).1), .int .i64 (openAny E path ver s).2]) ∧ BarO w0 F a hd gs E n root w' := by
 have G := Lib.hid (bar_open h.cell)
 have GC := Lib.hid (Open_any a.r a.m E n path s ver w h.ring hI.pos ht hI.key hv hp)
 generalize openAny E path ver s = R at *
 have c0 := h.cell.c0
 have H := Lib.hid h
 clear h hI hv hp ht
 go_enter Tryz.func21, Tryz.ntmps21
 go_wp2_with (first
  | (go_at_call 40; with_reducible refine G.out.mono ?_; rintro e w' ⟨rfl, rfl⟩)
  | (go_at_call 37; with_reducible refine GC.out.mono ?_; rintro e w1 ⟨rfl, hx1⟩))
 go_returns
 exact ⟨rfl, H.out.next hx1⟩
set_option maxRecDepth 100000 in
theorem bar_Get_no (w0 w : World) (F : List (Nat × Obj)) (b bg bm c st : Nat) (hd : List UInt8) (gs : GS) (path s : List UInt8) (ver : Nat) (h : BarC w0 F b bg bm c st hd gs w) (hst : st ≠ 2) :
  Calls Tryz.prog 21 #[.pointer (some ⟨b, 0, none⟩), .string (bs path), .int .u64 (ver : Int), .string (bs s)] w fun e w' => e = .returned (.tuple #[.string { data := #[] }, .int .i64 (if st = 1 then 150 else 151)]) ∧ w = w' := by
 have g := bar_open h.cell
 rw [if_neg hst] at g
 obtain ⟨v, hv, hv0⟩ : ∃ v : Int, (if st = 1 then (150 : Int) else 151) = v ∧ v ≠ 0 := ⟨_, rfl, by split <;> omega⟩
 rw [hv] at g ⊢
 have G := Lib.hid g
 have hv1 : (v != 0) = true := by simpa using hv0
 clear h g hv hv0 hst
 go_enter Tryz.func21, Tryz.ntmps21
 go_wp2_with (go_at_call 40; with_reducible refine G.out.mono ?_; rintro e w' ⟨rfl, rfl⟩)
 go_returns
 exact ⟨rfl, rfl⟩
end Go.Proofs.YtclekllaikcglaaGreat

/- Layer 15: Rotate, Retire, Epochs, Begin, Load. -/
namespace Go.Proofs.YtclekllaikcglaaGreat
open Go Go.RowKit
set_option maxRecDepth 100000 in
theorem bar_Rotate (w0 w : World) (F : List (Nat × Obj)) (a : BA) (x : UInt8) (t : List UInt8) (gs : GS) (E : Eps) (n : Nat) (root key nonce : List UInt8) (h : BarO w0 F a (x :: t) gs E n root w) (hI : RI E n) (hl : E.length < 64) (hn : n < 4294967295) (hr : root.length = 32) (hk : key.length = 32) (hno : nonce.length = 12) :
  Calls Tryz.prog 20 #[.pointer (some ⟨a.b, 0, none⟩), .string (bs key), .string (bs nonce)] w fun e w' => e = .returned (.tuple #[.int .u32 ((n + 1 : Nat) : Int), .int .i64 0]) ∧ BarO w0 F a (hdL root x.toNat nonce (E ++ [(n + 1, key)])) gs (E ++ [(n + 1, key)]) (n + 1) root w' := by
 have G := Lib.hid (bar_open h.cell)
 have GR := Lib.hid (ring_Rotate a.r a.m E n key w h.ring hI.pos hk hl hn (hI.new (by omega)))
 have hI2 := hI.rot (key := key) hl hk
 have GH := Lib.hid (fun W (h : BarO w0 F a (x :: t) gs (E ++ [(n + 1, key)]) (n + 1) root W) => bar_heads w0 W F a (x :: t) gs (E ++ [(n + 1, key)]) (n + 1) root nonce x.toNat h hI2 (by omega) hr hno x.toNat_lt)
 have iS : ∀ W, (Instr.index 9 (.string (bs (x :: t))) (.int .i64 0)).run Tryz.prog W = .ok (.int .u8 (x.toNat : Int)) W := fun W => run_index_str (x :: t) 0 (by simp) W
 have hne : ((nonce.length : Int) != 12) = false := by simp; omega
 have H := Lib.hid h
 have c0 := h.cell.c0
 generalize hdL root x.toNat nonce (E ++ [(n + 1, key)]) = hd' at *
 clear h hI hl hn hr hk hno hI2
 go_enter Tryz.func20, Tryz.ntmps20
 go_wp2_with (first
  | (go_at_call 40; with_reducible refine G.out.mono ?_; rintro e w' ⟨rfl, rfl⟩)
  | (go_at_call 44; with_reducible refine GR.out.mono ?_; rintro e w1 ⟨rfl, h1, hb⟩; have H1 := Lib.hid (H.out.put h1 hb); have c2 := H1.out.cell.c2; clear h1 hb)
  | (go_at_call 30; with_reducible refine (GH.out _ H1.out).mono ?_; rintro e w2 ⟨rfl, h2⟩; have H2 := Lib.hid h2; clear h2))
 go_returns
 exact ⟨rfl, H2.out⟩
set_option maxRecDepth 100000 in
theorem bar_Retire (w0 w : World) (F : List (Nat × Obj)) (a : BA) (x : UInt8) (t : List UInt8) (gs : GS) (E : Eps) (n ep : Nat) (root nonce : List UInt8) (h : BarO w0 F a (x :: t) gs E n root w) (hI : RI E n) (hn : n < 4294967296) (hr : root.length = 32) (hno : nonce.length = 12) (he : ep ≠ n) {s : List UInt8} (hs : lookE E ep = some s) :
  Calls Tryz.prog 22 #[.pointer (some ⟨a.b, 0, none⟩), .int .u32 (ep : Int), .string (bs nonce)] w fun e w' => e = .returned (.int .i64 0) ∧ BarO w0 F a (hdL root x.toNat nonce (goneE E ep)) gs (goneE E ep) n root w' := by
 have G := Lib.hid (bar_open h.cell)
 have GR := Lib.hid (ring_Retire a.r a.m E n ep w h.ring hI.pos he hs)
 have hI2 := hI.gone he
 have GH := Lib.hid (fun W (h : BarO w0 F a (x :: t) gs (goneE E ep) n root W) => bar_heads w0 W F a (x :: t) gs (goneE E ep) n root nonce x.toNat h hI2 (by omega) hr hno x.toNat_lt)
 have iS : ∀ W, (Instr.index 9 (.string (bs (x :: t))) (.int .i64 0)).run Tryz.prog W = .ok (.int .u8 (x.toNat : Int)) W := fun W => run_index_str (x :: t) 0 (by simp) W
 have hne : ((nonce.length : Int) != 12) = false := by simp; omega
 have H := Lib.hid h
 have c0 := h.cell.c0
 generalize hdL root x.toNat nonce (goneE E ep) = hd' at *
 clear h hI hn hr hno hI2 he hs
 go_enter Tryz.func22, Tryz.ntmps22
 go_wp2_with (first
  | (go_at_call 40; with_reducible refine G.out.mono ?_; rintro e w' ⟨rfl, rfl⟩)
  | (go_at_call 45; with_reducible refine GR.out.mono ?_; rintro e w1 ⟨rfl, h1, hb⟩; have H1 := Lib.hid (H.out.put h1 (but_pair hb)); have c2 := H1.out.cell.c2; clear h1 hb)
  | (go_at_call 30; with_reducible refine (GH.out _ H1.out).mono ?_; rintro e w2 ⟨rfl, h2⟩; have H2 := Lib.hid h2; clear h2))
 go_returns
 exact ⟨rfl, H2.out⟩
set_option maxRecDepth 100000 in
theorem bar_Retire_no (w0 w : World) (F : List (Nat × Obj)) (a : BA) (hd : List UInt8) (gs : GS) (E : Eps) (n ep : Nat) (root nonce : List UInt8) (h : BarO w0 F a hd gs E n root w) (hI : RI E n) (hno : nonce.length = 12) (he : ep = n ∨ lookE E ep = none) :
  Calls Tryz.prog 22 #[.pointer (some ⟨a.b, 0, none⟩), .int .u32 (ep : Int), .string (bs nonce)] w fun e w' => e = .returned (.int .i64 (if ep = n then 2 else 3)) ∧ w = w' := by
 have G := Lib.hid (bar_open h.cell)
 have gr : Calls Tryz.prog 45 #[.pointer (some ⟨a.r, 0, none⟩), .int .u32 (ep : Int)] w fun e w' => e = .returned (.int .i64 (if ep = n then 2 else 3)) ∧ w = w' := by
  by_cases hc : ep = n
  ·subst hc; rw [if_pos rfl]; exact ring_Retire_new a.r a.m E ep w h.ring hI.pos
  ·rw [if_neg hc]; exact ring_Retire_none a.r a.m E n ep w h.ring hI.pos hc (by rcases he with he | he; exact absurd he hc; exact he)
 obtain ⟨v, hv, hv0⟩ : ∃ v : Int, (if ep = n then (2 : Int) else 3) = v ∧ v ≠ 0 := ⟨_, rfl, by split <;> omega⟩
 rw [hv] at gr ⊢
 have GR := Lib.hid gr
 have hv1 : (v != 0) = true := by simpa using hv0
 have hne : ((nonce.length : Int) != 12) = false := by simp; omega
 have c0 := h.cell.c0
 clear h hI hno he gr hv hv0
 go_enter Tryz.func22, Tryz.ntmps22
 go_wp2_with (first
  | (go_at_call 40; with_reducible refine G.out.mono ?_; rintro e w' ⟨rfl, rfl⟩)
  | (go_at_call 45; with_reducible refine GR.out.mono ?_; rintro e w' ⟨rfl, rfl⟩))
 go_returns
 exact ⟨rfl, rfl⟩
def EpB (T : World → Prop) (E : Eps) (e : Ending) (w' : World) : Prop := ∃ g cap, e = .returned (.slice (some ⟨g, 0, none⟩) E.length cap) ∧ (∀ k, (hk : k < E.length) → w'.cell? ⟨g, k, none⟩ = some (.int .u32 (E[k].1 : Int))) ∧ T w'
end Go.Proofs.YtclekllaikcglaaGreat

/- Layer 15: Begin. -/
namespace Go.Proofs.YtclekllaikcglaaGreat
open Go Go.RowKit
def shsL (root : List UInt8) (l : List (List UInt8)) : List (List UInt8) := shares (l.length + 1) l ++ [shareB (l.length + 1) (l.length + 1) (lastS root l)]
theorem shsL_length (root : List UInt8) (l : List (List UInt8)) : (shsL root l).length = l.length + 1 := by simp [shsL, shares_length]
theorem split_shs (root : List UInt8) (l : List (List UInt8)) (hr : root.length = 32) (h3 : l.length < 16) (hl : ∀ s ∈ l, s.length = 32) : splitS root l = some (shsL root l) := by
 rw [splitS, if_neg (by omega), if_pos]
 ·rfl
 ·rw [List.all_eq_true]
  intro s hs
  simp [hl s hs, hr]
def BegX (w0 : World) (F : List (Nat × Obj)) (b bg bm : Nat) (root key nonce : List UInt8) (l : List (List UInt8)) (e : Ending) (w' : World) : Prop :=
 ∃ (a : BA) (g cap : Nat) (o : Obj), a.b = b ∧ a.bg = bg ∧ a.bm = bm ∧ e = .returned (.tuple #[.slice (some ⟨g, 0, none⟩) (l.length + 1) cap, .int .i64 0]) ∧
  BarO w0 ((g, o) :: F) a (hdL root (l.length + 1) nonce [(1, key)]) [] [(1, key)] 1 root w' ∧ (∀ W : World, W.heap[g]? = some o → ∀ i (hi : i < (shsL root l).length), W.cell? ⟨g, i, none⟩ = some (strV (shsL root l)[i]))
def BegT (w0 : World) (F : List (Nat × Obj)) (b bg bm : Nat) (root key nonce : List UInt8) (l : List (List UInt8)) (e : Ending) (w' : World) : Prop :=
 ∃ (a : BA) (g cap : Nat) (cur : Array Value), a.b = b ∧ a.bg = bg ∧ a.bm = bm ∧ e = .returned (.tuple #[.slice (some ⟨g, 0, none⟩) (l.length + 1) cap, .int .i64 0]) ∧
  BarO w0 ((g, .cells cur 9 (0, 0)) :: F) a (hdL root (l.length + 1) nonce [(1, key)]) [] [(1, key)] 1 root w' ∧ ∀ i (hi : i < (shsL root l).length), cur[i]? = some (strV (shsL root l)[i])
set_option maxRecDepth 100000 in
set_option maxHeartbeats 4000000 in
theorem bar_Begin_t (w0 w : World) (F : List (Nat × Obj)) (b bg bm c : Nat) (root key nonce : List UInt8) (l : List (List UInt8)) (ad : Option Addr) (cap : Nat) (h : BarC w0 F b bg bm c 0 [] [] w) (hr : root.length = 32) (hk : key.length = 32) (hno : nonce.length = 12)
  (hv : Sl w (.slice ad l.length cap) (l.map strV)) (h3 : l.length < 16) (hl : ∀ s ∈ l, s.length = 32) :
  Calls Tryz.prog 10 #[.pointer (some ⟨b, 0, none⟩), .string (bs root), .string (bs key), .string (bs nonce), .slice ad l.length cap] w (BegT w0 F b bg bm root key nonce l) := by
 unfold BegT
 have G := Lib.hid (bar_is0 h.cell)
 have GNR := Lib.hid (fun W => ring_New root W hr)
 have GNK := Lib.hid (fun W => ring_New key W hk)
 have GS := Lib.hid (fun W (hx : Ext w W) => split_shs root l hr h3 hl ▸ Split_fit root l ad cap W (by omega) (by omega) h3 (hv.ext hx))
 have GH := Lib.hid (fun (a : BA) (F : List (Nat × Obj)) W (h : BarO w0 F a [] [] [(1, key)] 1 root W) => bar_heads w0 W F a [] [] [(1, key)] 1 root nonce (l.length + 1) h (ri_one key hk) (by omega) hr hno (by omega))
 have hne : ((nonce.length : Int) != 12) = false := by simp; omega
 have H := Lib.hid h
 have hwu : IntKind.u8.wrap ((l.length + 1 : Nat) : Int) = ((l.length + 1 : Nat) : Int) := by rw [IntKind.wrap_u8]; omega
 have HSL := Lib.hid (shsL_length root l)
 generalize hdL root (l.length + 1) nonce [(1, key)] = hd' at *
 generalize shsL root l = SH at *
 obtain ⟨N, hN⟩ : ∃ N, l.length + 1 = N := ⟨_, rfl⟩
 have hN16 : N ≤ 16 := by omega
 rw [hN] at GH HSL hwu ⊢
 have HN := Lib.hid hN
 clear hN
 clear h hk hno hv hl hr h3
 go_enter Tryz.func10, Tryz.ntmps10
 go_upto_region 11 with (first
  | (go_at_call 27; (with_reducible refine G.out.mono ?_); rintro e w' ⟨rfl, rfl⟩)
  | (go_at_call 28; (with_reducible refine (GNR.out _).mono ?_); rintro e w1 ⟨rr, mr, rfl, h1, h2, h3, h4, hx1⟩; have H1 := Lib.hid (And.intro h1 (And.intro h2 (And.intro h3 (And.intro h4 hx1)))); clear h1 h2 h3 h4 hx1)
  | (go_at_call 28; (with_reducible refine (GNK.out _).mono ?_); rintro e w2 ⟨r, m, rfl, h1, h2, h3, h4, hx2⟩; have H2 := Lib.hid (And.intro h1 (And.intro h2 (And.intro h3 (And.intro h4 hx2)))); clear h1 h2 h3 h4 hx2)
  | (go_at_call 29; (with_reducible refine (GS.out _ (H1.out.2.2.2.2.trans H2.out.2.2.2.2)).mono ?_); rintro e w3 ⟨v, rfl, hrow, hx3⟩; have HR := Lib.hid hrow; have HX3 := Lib.hid hx3; clear hrow hx3))
 have hx3 := (H1.out.2.2.2.2.trans H2.out.2.2.2.2).trans HX3.out
 have h3 := H.out.next hx3
 obtain ⟨g, cap', cur, rfl, hBg, hh, htk⟩ : ∃ g cap' cur, v = .slice (some ⟨g, 0, none⟩) N cap' ∧ w2.heap.size ≤ g ∧ w3.heap[g]? = some (.cells cur 9 (0, 0)) ∧ cur.toList.take N = SH.map strV := by
  rcases HR.out.look with ⟨_, h0⟩ | ⟨g, cap', cur, hv, hBg, hh, _, _, htk⟩
  ·have := congrArg List.length h0; rw [List.length_map, HSL.out, ← HN.out] at this; simp at this
  ·rw [List.length_map, HSL.out] at hv htk; exact ⟨g, cap', cur, hv, hBg, hh, htk⟩
 have HTK := Lib.hid htk
 have c0 := h3.cell.c0
 have c1 := h3.cell.c1
 have c3 := h3.cell.c3
 have f0 := h3.cell.fz 0
 have f1 := h3.cell.fz 1
 have f3 := h3.cell.fz 3
 have H3 := Lib.hid h3
 obtain ⟨w4, hw4⟩ : ∃ x, ((w3.setCell ⟨b, 0, none⟩ (.pointer (some ⟨r, 0, none⟩))).setCell ⟨b, 3, none⟩ (.pointer (some ⟨rr, 0, none⟩))).setCell ⟨b, 1, none⟩ (.int .u8 2) = x := ⟨_, rfl⟩
 have hb4 : But [b] w3 w4 := by rw [← hw4]; exact ((but_set _ _ _ _).trans (but_set _ _ _ _)).trans (but_set _ _ _ _)
 have hc4 : BCell w4 b (some ⟨r, 0, none⟩) 2 [] (some ⟨rr, 0, none⟩) bg := by rw [← hw4]; exact ((h3.cell.set0 _).set3 _).set1 2
 have HA : Hid (BarO w0 ((g, .cells cur 9 (0, 0)) :: F) ⟨b, bg, bm, r, m, rr, mr, c⟩ [] [] [(1, key)] 1 root w4) := Lib.hid (by
  obtain ⟨q1, q2, q3, q4, q5⟩ := H1.out
  obtain ⟨p1, p2, p3, p4, p5⟩ := H2.out
  have hs1 := q5.size
  have hs2 := p5.size
  have hb := blk_lt H.out.cell
  obtain ⟨hgm, n1, s1, _, _, k3, k4, _⟩ := H.out.got
  have hg1 := blk_lt k3
  have hg2 := blk_lt k4
  have hrl := p4.lt
  have hrrl := q4.lt
  obtain ⟨l1, l2, l3⟩ := H.out.lo
  have hsz := H.out.ext.size
  obtain ⟨nd1, nd2⟩ := H.out.nd
  refine ⟨But.ext h3.ext hb4 (by simp; omega), hc4, ?_, ?_, h3.got.but hb4 (by simp; omega) (by simp; omega), ?_, ?_, ?_, ?_⟩
  ·have := p4.ext HX3.out
   exact this.keep (hb4.block _ this.lt.1 (by simp; omega)) (hb4.block _ this.lt.2 (by simp; omega))
  ·have := (q4.ext p5).ext HX3.out
   exact this.keep (hb4.block _ this.lt.1 (by simp; omega)) (hb4.block _ this.lt.2 (by simp; omega))
  ·intro x hx
   simp only [BA.all, List.mem_cons, List.not_mem_nil, or_false] at hx
   omega
  ·simp only [BA.all, List.nodup_cons, List.mem_cons, List.not_mem_nil, or_false, not_or, not_false_eq_true, List.nodup_nil, and_true]
   omega
  ·intro x hx
   rcases List.mem_cons.1 hx with rfl | hx
   ·exact hb4.keep hh (by simp; omega)
   ·exact hb4.keep (h3.keep x hx) (fun hm => h3.off x hx (by simp at hm ⊢; omega))
  ·intro x hx hm
   have hm2 := hm
   simp only [BA.all, List.mem_cons, List.not_mem_nil, or_false] at hm
   rcases List.mem_cons.1 hx with rfl | hx
   ·dsimp only at hm; omega
   ·have hxl := blk_lt (H.out.keep x hx)
    have := H.out.off x hx
    simp only [List.mem_cons, List.not_mem_nil, or_false, not_or] at this
    omega)
 clear hb4 hc4 h3 hx3 htk hBg hh
 go_upto_region 12 with fail
 try rw [hw4]
 clear hw4 c0 c1 c3 f0 f1 f3
 go_wp2_with (go_at_call 30; (with_reducible refine (GH.out ⟨b, bg, bm, r, m, rr, mr, c⟩ _ _ HA.out).mono ?_); rintro e w5 ⟨rfl, h5⟩; have H5 := Lib.hid h5; clear h5)
 go_returns
 refine ⟨⟨b, bg, bm, r, m, rr, mr, c⟩, g, cap', cur, rfl, rfl, rfl, rfl, H5.out, fun i hi => ?_⟩
 have hi2 : i < N := by rw [HSL.out] at hi; exact hi
 have := congrArg (fun z => z[i]?) HTK.out
 simp only [List.getElem?_take, if_pos hi2, List.getElem?_map, List.getElem?_eq_getElem hi, Option.map_some] at this
 simpa using this
theorem bar_Begin (w0 w : World) (F : List (Nat × Obj)) (b bg bm c : Nat) (root key nonce : List UInt8) (l : List (List UInt8)) (ad : Option Addr) (cap : Nat) (h : BarC w0 F b bg bm c 0 [] [] w) (hr : root.length = 32) (hk : key.length = 32) (hno : nonce.length = 12)
  (hv : Sl w (.slice ad l.length cap) (l.map strV)) (h3 : l.length < 16) (hl : ∀ s ∈ l, s.length = 32) :
  Calls Tryz.prog 10 #[.pointer (some ⟨b, 0, none⟩), .string (bs root), .string (bs key), .string (bs nonce), .slice ad l.length cap] w (BegX w0 F b bg bm root key nonce l) := by
 refine (bar_Begin_t w0 w F b bg bm c root key nonce l ad cap h hr hk hno hv h3 hl).mono ?_
 rintro e w' ⟨a, g, cp, cur, h1, h2, h3, he, h4, h5⟩
 exact ⟨a, g, cp, _, h1, h2, h3, he, h4, fun W hW i hi => cell_blk hW (h5 i hi)⟩
end Go.Proofs.YtclekllaikcglaaGreat

/- Layer 15: New, fits, Unseal. -/
namespace Go.Proofs.YtclekllaikcglaaGreat
open Go Go.RowKit
theorem bar_New_c (w0 w : World) (F : List (Nat × Obj)) (hx : Ext w0 w) (hF : ∀ x ∈ F, w.heap[x.1]? = some x.2) :
  Calls Tryz.prog 8 #[] w fun e w' => ∃ b bg bm, e = .returned (.pointer (some ⟨b, 0, none⟩)) ∧ BarC w0 F b bg bm 0 0 [] [] w' ∧ w.heap.size ≤ b ∧ w.heap.size ≤ bg ∧ w.heap.size ≤ bm ∧ Ext w w' := by
 refine (bar_New w).mono ?_
 rintro e w' ⟨b, bg, bm, rfl, h1, h2, h3, h4, h5, h6, h7, hx1⟩
 have hs := hx.size
 refine ⟨b, bg, bm, rfl, ⟨hx.trans hx1, h1, h2, ⟨by omega, by omega, by omega⟩, ⟨h6, h7⟩, fun x hxF => hx1.keep (hF x hxF), fun x hxF hm => ?_⟩, h3, h4, h5, hx1⟩
 have := blk_lt (hF x hxF)
 simp only [List.mem_cons, List.not_mem_nil, or_false] at hm
 omega
set_option maxRecDepth 100000 in
theorem bar_fits {w : World} {b : Nat} {p q : Option Addr} {st : Nat} {x : UInt8} {t : List UInt8} {bg : Nat} (h : BCell w b p st (x :: t) q bg) (by_ : List UInt8) (hby : by_.length = 32) :
  Calls Tryz.prog 33 #[.pointer (some ⟨b, 0, none⟩), .int .i64 (x.toNat : Int), .string (bs by_)] w fun e w' => e = .returned (.bool true) ∧ w = w' := by
 have c2 := h.c2
 have iS : ∀ W, (Instr.index 9 (.string (bs (x :: t))) (.int .i64 0)).run Tryz.prog W = .ok (.int .u8 (x.toNat : Int)) W := fun W => run_index_str (x :: t) 0 (by simp) W
 have hw : IntKind.i64.wrap (x.toNat : Int) = (x.toNat : Int) := by have := x.toNat_lt; rw [IntKind.wrap_i64]; omega
 have hl : ((by_.length : Int) == 32) = true := by rw [hby]; rfl
 have hl2 : (by_.length : Int) = 32 := by omega
 clear h hby
 go_enter Tryz.func33, Tryz.ntmps33
 go_wp2
 go_returns
 exact ⟨by simp, rfl⟩
theorem BarC.gput {w0 w w' : World} {F : List (Nat × Obj)} {b bg bm c c' st : Nat} {hd : List UInt8} {gs gs' : GS} (h : BarC w0 F b bg bm c st hd gs w) (hp : PG w' bg bm c' gs') (hb : But [bg, bm] w w') : BarC w0 F b bg bm c' st hd gs' w' := by
 obtain ⟨l1, l2, l3⟩ := h.lo
 obtain ⟨n1, n2⟩ := h.nd
 refine ⟨But.ext h.ext hb (by simp; omega), hb.keep h.cell (by simp; omega), hp, h.lo, h.nd, fun x hx => hb.keep (h.keep x hx) (fun hm => h.off x hx (by simp at hm ⊢; omega)), h.off⟩
theorem secretV_none : secretV none = .tuple #[.string { data := #[] }, .bool false] := rfl
theorem secretV_some (s : List UInt8) : secretV (some s) = .tuple #[.string (bs s), .bool true] := rfl
structure Fit (x : UInt8) (gs gs' : GS) (s : List UInt8) (i : Nat) (y : List UInt8) : Prop where
 read : readS s = some (i, x.toNat, y)
 len : y.length = 32
 add : addS gs s = (0, gs')
 small : gs.length ≤ 100 ∧ gs'.length ≤ 100
set_option maxRecDepth 100000 in
set_option maxHeartbeats 4000000 in
theorem bar_Unseal_more (w0 w : World) (F : List (Nat × Obj)) (b bg bm c : Nat) (x : UInt8) (t : List UInt8) (gs gs' : GS) (s : List UInt8) (i : Nat) (y : List UInt8) (h : BarC w0 F b bg bm c 1 (x :: t) gs w) (hs : s.length ≤ 1000) (hf : Fit x gs gs' s i y) (hn : secretS gs' = none) :
  Calls Tryz.prog 13 #[.pointer (some ⟨b, 0, none⟩), .string (bs s)] w fun e w' => e = .returned (.tuple #[.bool false, .int .i64 0]) ∧ BarC w0 F b bg bm c 1 (x :: t) gs' w' := by
 have G := Lib.hid (bar_is1 h.cell)
 have hrv : readV s = .tuple #[.int .i64 (i : Int), .int .i64 (x.toNat : Int), .string (bs y), .int .i64 0] := by unfold readV; rw [hf.read]
 have GR := Lib.hid (fun W => hrv ▸ Read_any s W (by omega))
 have GHV := Lib.hid (fun W (h : BarC w0 F b bg bm c 1 (x :: t) gs W) => Have_any W bg bm c gs (by have := hf.small.1; omega) h.got)
 have GF := Lib.hid (fun W (h : BarC w0 F b bg bm c 1 (x :: t) gs W) => bar_fits h.cell y hf.len)
 have GA : Hid (∀ W, BarC w0 F b bg bm c 1 (x :: t) gs W → Calls Tryz.prog 34 #[.pointer (some ⟨bg, 0, none⟩), .string (bs s)] W fun e w' => e = .returned (.int .i64 0) ∧ BarC w0 F b bg bm c 1 (x :: t) gs' w') := Lib.hid (fun W h => (Add_any W bg bm c gs s (by omega) (by have := hf.small.1; omega) h.got).mono (by
  rintro e w' ⟨he, hp, hb⟩
  rw [hf.add] at he hp
  exact ⟨he, h.gput hp hb⟩))
 have GS := Lib.hid (fun W (h : BarC w0 F b bg bm c 1 (x :: t) gs' W) => secretV_none ▸ hn ▸ Secret_any W bg bm c gs' (by have := hf.small.2; omega) h.got)
 generalize (haveS gs).1 = hv1 at *
 generalize (haveS gs).2 = hv2 at *
 have H := Lib.hid h
 have c4 := h.cell.c4
 clear h hs hf hn hrv
 by_cases hz : hv1 = 0
 ·subst hz
  go_enter Tryz.func13, Tryz.ntmps13
  go_upto_region 8 with (first
   | (go_at_call 27; (with_reducible refine G.out.mono ?_); rintro e w' ⟨rfl, rfl⟩)
   | (go_at_call 31; (with_reducible refine (GR.out _).mono ?_); rintro e w1 ⟨rfl, hx1⟩; have H1 := Lib.hid (H.out.next hx1); have c4a := H1.out.cell.c4; clear hx1)
   | (go_at_call 32; (with_reducible refine (GHV.out _ H1.out).mono ?_); rintro e w2 ⟨rfl, hx2⟩; have H2 := Lib.hid (H1.out.next hx2); have c4b := H2.out.cell.c4; clear hx2)
   | (go_at_call 33; (with_reducible refine (GF.out _ H2.out).mono ?_); rintro e w' ⟨rfl, rfl⟩))
  go_wp2_with (first
   | (go_at_call 34; (with_reducible refine (GA.out _ H2.out).mono ?_); rintro e w3 ⟨rfl, h3⟩; have H3 := Lib.hid h3; have c4c := H3.out.cell.c4; clear h3)
   | (go_at_call 35; (with_reducible refine (GS.out _ H3.out).mono ?_); rintro e w4 ⟨rfl, hx4⟩))
  go_returns
  exact ⟨rfl, H3.out.next hx4⟩
 ·have hz1 : ((hv1 : Int) == 0) = false := by simp; omega
  clear hz
  go_enter Tryz.func13, Tryz.ntmps13
  go_upto_region 8 with (first
   | (go_at_call 27; (with_reducible refine G.out.mono ?_); rintro e w' ⟨rfl, rfl⟩)
   | (go_at_call 31; (with_reducible refine (GR.out _).mono ?_); rintro e w1 ⟨rfl, hx1⟩; have H1 := Lib.hid (H.out.next hx1); have c4a := H1.out.cell.c4; clear hx1)
   | (go_at_call 32; (with_reducible refine (GHV.out _ H1.out).mono ?_); rintro e w2 ⟨rfl, hx2⟩; have H2 := Lib.hid (H1.out.next hx2); have c4b := H2.out.cell.c4; clear hx2))
  go_wp2_with (first
   | (go_at_call 34; (with_reducible refine (GA.out _ H2.out).mono ?_); rintro e w3 ⟨rfl, h3⟩; have H3 := Lib.hid h3; have c4c := H3.out.cell.c4; clear h3)
   | (go_at_call 35; (with_reducible refine (GS.out _ H3.out).mono ?_); rintro e w4 ⟨rfl, hx4⟩))
  go_returns
  exact ⟨rfl, H3.out.next hx4⟩
end Go.Proofs.YtclekllaikcglaaGreat

/- Layer 15: Unseal, the last share. -/
namespace Go.Proofs.YtclekllaikcglaaGreat
open Go Go.RowKit
def UnX (w0 : World) (F : List (Nat × Obj)) (b bg bm : Nat) (hd : List UInt8) (E : Eps) (root : List UInt8) (e : Ending) (w' : World) : Prop :=
 e = .returned (.tuple #[.bool true, .int .i64 0]) ∧ ∃ a : BA, a.b = b ∧ a.bg = bg ∧ a.bm = bm ∧ BarO w0 F a hd [] E (lastE E) root w'
def RdN (E : Eps) (w : World) (e : Ending) (w' : World) : Prop := ∃ r m, e = .returned (.tuple #[.pointer (some ⟨r, 0, none⟩), .int .i64 0]) ∧ RingAt w' r m E (lastE E) ∧ w.heap.size ≤ r ∧ w.heap.size ≤ m ∧ Ext w w'
theorem read_new (s : List UInt8) (E : Eps) (W : World) (hs : s.length ≤ 1000000) (h : readE s = some E) : Calls Tryz.prog 38 #[.string (bs s)] W (RdN E W) := by
 refine (ring_Read s W hs).mono ?_
 rintro e w' (⟨h1, _⟩ | ⟨E1, r, m, h1, rfl, _, _, h2, h3, h4, h5⟩)
 ·rw [h] at h1; cases h1
 ·rw [h] at h1; injection h1 with h1; subst h1; exact ⟨r, m, rfl, h2, h3, h4, h5⟩
theorem BarC.open {w0 w w' : World} {F : List (Nat × Obj)} {b bg bm c st r m rr mr n : Nat} {hd root : List UInt8} {gs : GS} {E : Eps} (h : BarC w0 F b bg bm c st hd gs w) (hb : But [b] w w') (hc : BCell w' b (some ⟨r, 0, none⟩) 2 hd (some ⟨rr, 0, none⟩) bg)
  (hr : RingAt w r m E n) (ht : RingAt w rr mr [(1, root)] 1) (B C : Nat) (h1 : b < B ∧ bg < B ∧ bm < B) (h2 : B ≤ rr ∧ B ≤ mr ∧ rr < C ∧ mr < C) (h3 : C ≤ r ∧ C ≤ m) (hF : ∀ x ∈ F, x.1 < B) (_hsz : w0.heap.size ≤ B) : BarO w0 F ⟨b, bg, bm, r, m, rr, mr, c⟩ hd gs E n root w' := by
 obtain ⟨l1, l2, l3⟩ := h.lo
 obtain ⟨n1, n2⟩ := h.nd
 obtain ⟨hgm, _⟩ := h.got
 have hrm := map_ne hr
 have htm := map_ne ht
 refine ⟨But.ext h.ext hb (by simp; omega), hc, hr.keep (hb.block _ hr.lt.1 (by simp; omega)) (hb.block _ hr.lt.2 (by simp; omega)), ht.keep (hb.block _ ht.lt.1 (by simp; omega)) (hb.block _ ht.lt.2 (by simp; omega)), h.got.but hb (by simp; omega) (by simp; omega), ?_, ?_, ?_, ?_⟩
 ·intro x hx
  simp only [BA.all, List.mem_cons, List.not_mem_nil, or_false] at hx
  omega
 ·simp only [BA.all, List.nodup_cons, List.mem_cons, List.not_mem_nil, or_false, not_or, not_false_eq_true, List.nodup_nil, and_true]
  omega
 ·intro x hx
  exact hb.keep (h.keep x hx) (fun hm => h.off x hx (by simp at hm ⊢; omega))
 ·intro x hx hm
  have h5 := h.off x hx
  have h6 := hF x hx
  simp only [BA.all, List.mem_cons, List.not_mem_nil, or_false] at hm
  simp only [List.mem_cons, List.not_mem_nil, or_false, not_or] at h5
  omega
set_option maxRecDepth 100000 in
set_option maxHeartbeats 8000000 in
theorem bar_Unseal_open (w0 w : World) (F : List (Nat × Obj)) (b bg bm c : Nat) (x : UInt8) (t : List UInt8) (gs gs' : GS) (s : List UInt8) (i : Nat) (y root text : List UInt8) (E : Eps) (h : BarC w0 F b bg bm c 1 (x :: t) gs w) (hs : s.length ≤ 1000) (hf : Fit x gs gs' s i y) (hn : secretS gs' = some root)
  (hrl : root.length = 32) (ho : openAny [(1, root)] lblB x.toNat t = (text, 0)) (hre : readE text = some E) (htl : t.length ≤ 1000000) (hxl : text.length ≤ 1000000) :
  Calls Tryz.prog 13 #[.pointer (some ⟨b, 0, none⟩), .string (bs s)] w (UnX w0 F b bg bm (x :: t) E root) := by
 have G := Lib.hid (bar_is1 h.cell)
 have hrv : readV s = .tuple #[.int .i64 (i : Int), .int .i64 (x.toNat : Int), .string (bs y), .int .i64 0] := by unfold readV; rw [hf.read]
 have GR := Lib.hid (fun W => hrv ▸ Read_any s W (by omega))
 have GHV := Lib.hid (fun W (h : BarC w0 F b bg bm c 1 (x :: t) gs W) => Have_any W bg bm c gs (by have := hf.small.1; omega) h.got)
 have GF := Lib.hid (fun W (h : BarC w0 F b bg bm c 1 (x :: t) gs W) => bar_fits h.cell y hf.len)
 have GA : Hid (∀ W, BarC w0 F b bg bm c 1 (x :: t) gs W → Calls Tryz.prog 34 #[.pointer (some ⟨bg, 0, none⟩), .string (bs s)] W fun e w' => e = .returned (.int .i64 0) ∧ BarC w0 F b bg bm c 1 (x :: t) gs' w') := Lib.hid (fun W h => (Add_any W bg bm c gs s (by omega) (by have := hf.small.1; omega) h.got).mono (by
  rintro e w' ⟨he, hp, hb⟩
  rw [hf.add] at he hp
  exact ⟨he, h.gput hp hb⟩))
 have GS := Lib.hid (fun W (h : BarC w0 F b bg bm c 1 (x :: t) gs' W) => secretV_some root ▸ hn ▸ Secret_any W bg bm c gs' (by have := hf.small.2; omega) h.got)
 have GD : Hid (∀ W, BarC w0 F b bg bm c 1 (x :: t) gs' W → Calls Tryz.prog 36 #[.pointer (some ⟨bg, 0, none⟩)] W fun e w' => e = .returned (.tuple #[]) ∧ BarC w0 F b bg bm (c + gs'.length) 1 (x :: t) [] w') := Lib.hid (fun W h => (Drop_any W bg bm c gs' h.got).mono (by
  rintro e w' ⟨he, hp, hb⟩
  exact ⟨he, h.gput hp hb⟩))
 have GN := Lib.hid (fun W => ring_New root W hrl)
 have GO : Hid (∀ rr mr W, RingAt W rr mr [(1, root)] 1 → Calls Tryz.prog 37 #[.pointer (some ⟨rr, 0, none⟩), .string { data := #[98, 97, 114, 114, 105, 101, 114] }, .int .u64 (x.toNat : Int), .string (bs t)] W fun e w' => e = .returned (.tuple #[.string (bs text), .int .i64 0]) ∧ Ext W w') :=
  Lib.hid (fun rr mr W hr => by
   have := Open_any rr mr [(1, root)] 1 lblB t x.toNat W hr (by omega) (by omega) (by simp [hrl]) (by have := x.toNat_lt; unfold U64; omega) (by decide)
   rw [ho] at this
   exact this)
 have GRD := Lib.hid (fun W => read_new text E W hxl hre)
 have iS : ∀ W, (Instr.index 9 (.string (bs (x :: t))) (.int .i64 0)).run Tryz.prog W = .ok (.int .u8 (x.toNat : Int)) W := fun W => run_index_str (x :: t) 0 (by simp) W
 have hw64 : IntKind.u64.wrap (x.toNat : Int) = (x.toNat : Int) := by have := x.toNat_lt; rw [IntKind.wrap_u64]; omega
 have hex : (bs (x :: t)).extract 1 (t.length + 1) = bs t := by rw [bs_extract]; simp
 generalize (haveS gs).1 = hv1 at *
 generalize (haveS gs).2 = hv2 at *
 have H := Lib.hid h
 have c4 := h.cell.c4
 have ha : (x :: t).length = t.length + 1 := rfl
 have ht1 : (1 : Int) ≤ (t.length : Int) + 1 := by omega
 obtain ⟨hd, hhd⟩ : ∃ hd, x :: t = hd := ⟨_, rfl⟩
 rw [hhd] at GHV GA GS GD H iS hex ha ⊢
 have GF2 : Hid (∀ W, BarC w0 F b bg bm c 1 hd gs W → Calls Tryz.prog 33 #[.pointer (some ⟨b, 0, none⟩), .int .i64 (x.toNat : Int), .string (bs y)] W fun e w' => e = .returned (.bool true) ∧ W = w') := hhd ▸ GF
 obtain ⟨c2n, hc2n⟩ : ∃ k, c + gs'.length = k := ⟨_, rfl⟩
 rw [hc2n] at GD
 clear h hs hf hn hrv hrl ho hre hxl hhd GF hc2n
 by_cases hz : hv1 = 0
 ·subst hz
  go_enter Tryz.func13, Tryz.ntmps13
  go_upto_region 8 with (first
   | (go_at_call 27; (with_reducible refine G.out.mono ?_); rintro e w' ⟨rfl, rfl⟩)
   | (go_at_call 31; (with_reducible refine (GR.out _).mono ?_); rintro e w1 ⟨rfl, hx1⟩; have H1 := Lib.hid (H.out.next hx1); have c4a := H1.out.cell.c4; clear hx1)
   | (go_at_call 32; (with_reducible refine (GHV.out _ H1.out).mono ?_); rintro e w2 ⟨rfl, hx2⟩; have H2 := Lib.hid (H1.out.next hx2); have c4b := H2.out.cell.c4; clear hx2)
   | (go_at_call 33; (with_reducible refine (GF2.out _ H2.out).mono ?_); rintro e w' ⟨rfl, rfl⟩))
  go_upto_region 16 with (first
   | (go_at_call 34; (with_reducible refine (GA.out _ H2.out).mono ?_); rintro e w3 ⟨rfl, h3⟩; have H3 := Lib.hid h3; have c4c := H3.out.cell.c4; clear h3)
   | (go_at_call 35; (with_reducible refine (GS.out _ H3.out).mono ?_); rintro e w4 ⟨rfl, hx4⟩; have H4 := Lib.hid (H3.out.next hx4); have c4d := H4.out.cell.c4; clear hx4)
   | (go_at_call 36; (with_reducible refine (GD.out _ H4.out).mono ?_); rintro e w5 ⟨rfl, h5⟩; have H5 := Lib.hid h5; clear h5)
   | (go_at_call 28; (with_reducible refine (GN.out _).mono ?_); rintro e w6 ⟨rr, mr, rfl, q1, q2, q3, q4, q5⟩; have HT := Lib.hid (And.intro q1 (And.intro q2 q4)); have H6 := Lib.hid (H5.out.next q5); have HX6 := Lib.hid q5; clear q1 q2 q3 q4 q5))
  have c2 := H6.out.cell.c2
  clear c4 c4a c4b c4c c4d G GR GHV GF2 GA GS GD GN H H1 H2 H3 H4
  refine Loud.wp_region_weave 18 w6 (Loud.sps [.val (.pointer (some ⟨rr, 0, none⟩)), .val (.pointer (some ⟨b, 0, none⟩)), .val (.pointer (some ⟨b, 0, none⟩)), .val (.pointer (some ⟨b, 2, none⟩)), .val (.string (bs hd)), .val (.int .u8 (x.toNat : Int)), .val (.int .u64 (x.toNat : Int)), .val (.pointer (some ⟨b, 0, none⟩)), .val (.pointer (some ⟨b, 0, none⟩)), .val (.pointer (some ⟨b, 2, none⟩)), .val (.string (bs hd)), .val (.string (bs t)), .val (.tuple #[.string (bs text), .int .i64 0]), .val (.tuple #[.string (bs text), .int .i64 0]), .val (.string (bs text)), .val (.int .i64 0), .val (.string (bs text)), .val (.int .i64 0)]) (by kernel_rfl) (by kernel_rfl) (by show Ext _ _; repeat (first | exact Ext.refl _ | assumption | (with_reducible refine Ext.drew ?_) | (with_reducible refine Ext.drewN ?_ _) | (with_reducible refine Ext.alloc ?_ _) | (refine Ext.trans ?_ (by assumption)))) (Loud.sps_st _) ?wAx1 ?whAx1 ?whSx1 ?whFx1
  case whAx1 => intro u K hK; simp only [List.take_succ_cons, List.take_zero, Loud.puts]; go_simp; exact hK
  case whSx1 =>
   refine ⟨?wsx1_0, ?wsx1_1, ?wsx1_2, ?wsx1_3, ?wsx1_4, ?wsx1_5, ?wsx1_6, ?wsx1_7, ?wsx1_8, ?wsx1_9, ?wsx1_10, ?wsx1_11, ?wsx1_12, ?wsx1_13, ?wsx1_14, ?wsx1_15, ?wsx1_16, ?wsx1_17, trivial⟩
   all_goals (intro u β wq hq h; repeat (obtain ⟨h1, h⟩ := h; first | (replace h1 := h1 rfl; simp only [go_sem] at h1; try (obtain ⟨h1, h1b⟩ := h1)) | (have hno := (h1 : Region.binds _ _ = true → _); clear hno h1)))
   case wsx1_4 =>
    refine Or.inl ⟨rfl, fun K hK => ?_⟩
    have hqc := hq.cell_of c2
    go_simp
    exact hK _ 0 _ (Ext.refl _) rfl
   case wsx1_10 =>
    refine Or.inl ⟨rfl, fun K hK => ?_⟩
    have hqc := hq.cell_of c2
    go_simp
    exact hK _ 0 _ (Ext.refl _) rfl
   case wsx1_12 =>
    refine Or.inl ⟨rfl, fun K hK => ?_⟩
    go_simp
    refine (GO.out rr mr _ (HT.out.2.2.ext (by assumption))).mono ?_; rintro e w1 ⟨rfl, hx1⟩; exact ⟨_, rfl, hK _ 0 _ hx1 rfl⟩
   all_goals (first | refine Or.inl ⟨rfl, fun K hK => ?_⟩ | refine Or.inl ⟨Loud.wanted_of rfl rfl (congrArg some (by assumption)), fun K hK => ?_⟩); go_simp; exact hK _ 0 _ (Ext.refl _) rfl
  intro u β w7 hq h
  have h0 := h 0 (by omega)
  have h1 := h 1 (by omega)
  have h2 := h 2 (by omega)
  have h3 := h 3 (by omega)
  have h4 := h 4 (by omega)
  have h5 := h 5 (by omega)
  have h6 := h 6 (by omega)
  have h7 := h 7 (by omega)
  have h8 := h 8 (by omega)
  have h9 := h 9 (by omega)
  have h10 := h 10 (by omega)
  have h11 := h 11 (by omega)
  have h12 := h 12 (by omega)
  have h13 := h 13 (by omega)
  have h14 := h 14 (by omega)
  have h15 := h 15 (by omega)
  have h16 := h 16 (by omega)
  have h17 := h 17 (by omega)
  clear h
  simp only [go_sem] at h0 h1 h2 h3 h4 h5 h6 h7 h8 h9 h10 h11 h12 h13 h14 h15 h16 h17
  simp only [List.drop_succ_cons, List.drop_zero]
  rw [h17]
  have e16 := h16
  have H7 := Lib.hid (H6.out.next hq)
  have HX7 := Lib.hid hq
  clear h0 h1 h2 h3 h4 h5 h6 h7 h8 h9 h10 h11 h12 h13 h14 h15 h16 h17 c2 hq
  rw [e16]
  clear e16
  go_upto_region 20 with (go_at_call 38; (with_reducible refine (GRD.out _).mono ?_); rintro e w8 ⟨r, m, rfl, hr, hr1, hr2, hx8⟩; have HR8 := Lib.hid (And.intro hr (And.intro hr1 hr2)); have HX8 := Lib.hid hx8; have H8 := Lib.hid (H7.out.next hx8); clear hr hr1 hr2 hx8)
  have c0 := H8.out.cell.c0
  have c1 := H8.out.cell.c1
  have c3 := H8.out.cell.c3
  have f0 := H8.out.cell.fz 0
  have f1 := H8.out.cell.fz 1
  have f3 := H8.out.cell.fz 3
  go_wp2_with fail
  go_returns
  obtain ⟨t1, t2, t3⟩ := HT.out
  obtain ⟨r1, r2, r3⟩ := HR8.out
  have s6 := HX6.out.size
  have s7 := HX7.out.size
  have tl := t3.lt
  have hbl := blk_lt H5.out.cell
  obtain ⟨_, n1, s1, _, _, k3, k4, _⟩ := H5.out.got
  have hg1 := blk_lt k3
  have hg2 := blk_lt k4
  refine ⟨rfl, ⟨b, bg, bm, r, m, rr, mr, c2n⟩, rfl, rfl, rfl, H8.out.open (((but_set _ _ _ _).trans (but_set _ _ _ _)).trans (but_set _ _ _ _)) (((H8.out.cell.set0 _).set3 _).set1 2) r1 ((t3.ext HX7.out).ext HX8.out) w5.heap.size w7.heap.size ⟨hbl, hg1, hg2⟩ ⟨t1, t2, by omega, by omega⟩ ⟨r2, r3⟩ (fun z hz => blk_lt (H5.out.keep z hz)) H5.out.ext.size⟩
 ·have hz1 : ((hv1 : Int) == 0) = false := by simp; omega
  clear hz
  go_enter Tryz.func13, Tryz.ntmps13
  go_upto_region 8 with (first
   | (go_at_call 27; (with_reducible refine G.out.mono ?_); rintro e w' ⟨rfl, rfl⟩)
   | (go_at_call 31; (with_reducible refine (GR.out _).mono ?_); rintro e w1 ⟨rfl, hx1⟩; have H1 := Lib.hid (H.out.next hx1); have c4a := H1.out.cell.c4; clear hx1)
   | (go_at_call 32; (with_reducible refine (GHV.out _ H1.out).mono ?_); rintro e w2 ⟨rfl, hx2⟩; have H2 := Lib.hid (H1.out.next hx2); have c4b := H2.out.cell.c4; clear hx2))
  go_upto_region 16 with (first
   | (go_at_call 34; (with_reducible refine (GA.out _ H2.out).mono ?_); rintro e w3 ⟨rfl, h3⟩; have H3 := Lib.hid h3; have c4c := H3.out.cell.c4; clear h3)
   | (go_at_call 35; (with_reducible refine (GS.out _ H3.out).mono ?_); rintro e w4 ⟨rfl, hx4⟩; have H4 := Lib.hid (H3.out.next hx4); have c4d := H4.out.cell.c4; clear hx4)
   | (go_at_call 36; (with_reducible refine (GD.out _ H4.out).mono ?_); rintro e w5 ⟨rfl, h5⟩; have H5 := Lib.hid h5; clear h5)
   | (go_at_call 28; (with_reducible refine (GN.out _).mono ?_); rintro e w6 ⟨rr, mr, rfl, q1, q2, q3, q4, q5⟩; have HT := Lib.hid (And.intro q1 (And.intro q2 q4)); have H6 := Lib.hid (H5.out.next q5); have HX6 := Lib.hid q5; clear q1 q2 q3 q4 q5))
  have c2 := H6.out.cell.c2
  clear c4 c4a c4b c4c c4d G GR GHV GF2 GA GS GD GN H H1 H2 H3 H4
  refine Loud.wp_region_weave 18 w6 (Loud.sps [.val (.pointer (some ⟨rr, 0, none⟩)), .val (.pointer (some ⟨b, 0, none⟩)), .val (.pointer (some ⟨b, 0, none⟩)), .val (.pointer (some ⟨b, 2, none⟩)), .val (.string (bs hd)), .val (.int .u8 (x.toNat : Int)), .val (.int .u64 (x.toNat : Int)), .val (.pointer (some ⟨b, 0, none⟩)), .val (.pointer (some ⟨b, 0, none⟩)), .val (.pointer (some ⟨b, 2, none⟩)), .val (.string (bs hd)), .val (.string (bs t)), .val (.tuple #[.string (bs text), .int .i64 0]), .val (.tuple #[.string (bs text), .int .i64 0]), .val (.string (bs text)), .val (.int .i64 0), .val (.string (bs text)), .val (.int .i64 0)]) (by kernel_rfl) (by kernel_rfl) (by show Ext _ _; repeat (first | exact Ext.refl _ | assumption | (with_reducible refine Ext.drew ?_) | (with_reducible refine Ext.drewN ?_ _) | (with_reducible refine Ext.alloc ?_ _) | (refine Ext.trans ?_ (by assumption)))) (Loud.sps_st _) ?wAx2 ?whAx2 ?whSx2 ?whFx2
  case whAx2 => intro u K hK; simp only [List.take_succ_cons, List.take_zero, Loud.puts]; go_simp; exact hK
  case whSx2 =>
   refine ⟨?wsx2_0, ?wsx2_1, ?wsx2_2, ?wsx2_3, ?wsx2_4, ?wsx2_5, ?wsx2_6, ?wsx2_7, ?wsx2_8, ?wsx2_9, ?wsx2_10, ?wsx2_11, ?wsx2_12, ?wsx2_13, ?wsx2_14, ?wsx2_15, ?wsx2_16, ?wsx2_17, trivial⟩
   all_goals (intro u β wq hq h; repeat (obtain ⟨h1, h⟩ := h; first | (replace h1 := h1 rfl; simp only [go_sem] at h1; try (obtain ⟨h1, h1b⟩ := h1)) | (have hno := (h1 : Region.binds _ _ = true → _); clear hno h1)))
   case wsx2_4 =>
    refine Or.inl ⟨rfl, fun K hK => ?_⟩
    have hqc := hq.cell_of c2
    go_simp
    exact hK _ 0 _ (Ext.refl _) rfl
   case wsx2_10 =>
    refine Or.inl ⟨rfl, fun K hK => ?_⟩
    have hqc := hq.cell_of c2
    go_simp
    exact hK _ 0 _ (Ext.refl _) rfl
   case wsx2_12 =>
    refine Or.inl ⟨rfl, fun K hK => ?_⟩
    go_simp
    refine (GO.out rr mr _ (HT.out.2.2.ext (by assumption))).mono ?_; rintro e w1 ⟨rfl, hx1⟩; exact ⟨_, rfl, hK _ 0 _ hx1 rfl⟩
   all_goals (first | refine Or.inl ⟨rfl, fun K hK => ?_⟩ | refine Or.inl ⟨Loud.wanted_of rfl rfl (congrArg some (by assumption)), fun K hK => ?_⟩); go_simp; exact hK _ 0 _ (Ext.refl _) rfl
  intro u β w7 hq h
  have h0 := h 0 (by omega)
  have h1 := h 1 (by omega)
  have h2 := h 2 (by omega)
  have h3 := h 3 (by omega)
  have h4 := h 4 (by omega)
  have h5 := h 5 (by omega)
  have h6 := h 6 (by omega)
  have h7 := h 7 (by omega)
  have h8 := h 8 (by omega)
  have h9 := h 9 (by omega)
  have h10 := h 10 (by omega)
  have h11 := h 11 (by omega)
  have h12 := h 12 (by omega)
  have h13 := h 13 (by omega)
  have h14 := h 14 (by omega)
  have h15 := h 15 (by omega)
  have h16 := h 16 (by omega)
  have h17 := h 17 (by omega)
  clear h
  simp only [go_sem] at h0 h1 h2 h3 h4 h5 h6 h7 h8 h9 h10 h11 h12 h13 h14 h15 h16 h17
  simp only [List.drop_succ_cons, List.drop_zero]
  rw [h17]
  have e16 := h16
  have H7 := Lib.hid (H6.out.next hq)
  have HX7 := Lib.hid hq
  clear h0 h1 h2 h3 h4 h5 h6 h7 h8 h9 h10 h11 h12 h13 h14 h15 h16 h17 c2 hq
  rw [e16]
  clear e16
  go_upto_region 20 with (go_at_call 38; (with_reducible refine (GRD.out _).mono ?_); rintro e w8 ⟨r, m, rfl, hr, hr1, hr2, hx8⟩; have HR8 := Lib.hid (And.intro hr (And.intro hr1 hr2)); have HX8 := Lib.hid hx8; have H8 := Lib.hid (H7.out.next hx8); clear hr hr1 hr2 hx8)
  have c0 := H8.out.cell.c0
  have c1 := H8.out.cell.c1
  have c3 := H8.out.cell.c3
  have f0 := H8.out.cell.fz 0
  have f1 := H8.out.cell.fz 1
  have f3 := H8.out.cell.fz 3
  go_wp2_with fail
  go_returns
  obtain ⟨t1, t2, t3⟩ := HT.out
  obtain ⟨r1, r2, r3⟩ := HR8.out
  have s6 := HX6.out.size
  have s7 := HX7.out.size
  have tl := t3.lt
  have hbl := blk_lt H5.out.cell
  obtain ⟨_, n1, s1, _, _, k3, k4, _⟩ := H5.out.got
  have hg1 := blk_lt k3
  have hg2 := blk_lt k4
  refine ⟨rfl, ⟨b, bg, bm, r, m, rr, mr, c2n⟩, rfl, rfl, rfl, H8.out.open (((but_set _ _ _ _).trans (but_set _ _ _ _)).trans (but_set _ _ _ _)) (((H8.out.cell.set0 _).set3 _).set1 2) r1 ((t3.ext HX7.out).ext HX8.out) w5.heap.size w7.heap.size ⟨hbl, hg1, hg2⟩ ⟨t1, t2, by omega, by omega⟩ ⟨r2, r3⟩ (fun z hz => blk_lt (H5.out.keep z hz)) H5.out.ext.size⟩
end Go.Proofs.YtclekllaikcglaaGreat

/- Layer 15, plain: shares that come, in whatever order; a header that is opened. -/
namespace Go.Proofs.YtclekllaikcglaaGreat
open Go Go.RowKit
def shU (root : List UInt8) (l : List (List UInt8)) : List (List UInt8) := l ++ [lastS root l]
theorem shU_length (root : List UInt8) (l : List (List UInt8)) : (shU root l).length = l.length + 1 := by simp [shU]
theorem shU_len (root : List UInt8) (l : List (List UInt8)) (hr : root.length = 32) (hl : ∀ s ∈ l, s.length = 32) : ∀ s ∈ shU root l, s.length = 32 := by
 intro s hs
 rcases List.mem_append.1 hs with hs | hs
 ·exact hl s hs
 ·simp at hs; subst hs; rw [lastS_length root l (fun x hx => by rw [hl x hx, hr])]; exact hr
theorem shU_secret (root : List UInt8) (l : List (List UInt8)) (hr : root.length = 32) (hl : ∀ s ∈ l, s.length = 32) : lastS (List.replicate 32 0) (shU root l) = root := all_secret 32 root l hr hl
theorem shsL_at (root : List UInt8) (l : List (List UInt8)) (i : Nat) (hi : i < l.length + 1) : (shsL root l)[i]'(by rw [shsL_length]; exact hi) = shareB (i + 1) (l.length + 1) ((shU root l).getD i []) := by
 by_cases h : i < l.length
 ·simp only [shsL]
  rw [List.getElem_append_left (by rw [shares_length]; exact h)]
  have e : (l ++ [lastS root l])[i]?.getD [] = l[i] := by rw [List.getElem?_append_left h, List.getElem?_eq_getElem h]; rfl
  simp only [shares, shU, List.getD, e]
  simp
 ·obtain rfl : i = l.length := by omega
  simp only [shsL]
  rw [List.getElem_append_right (by rw [shares_length]; exact Nat.le_refl _)]
  simp [shU, List.getD]
theorem readS_share (i m : Nat) (s : List UInt8) (hi : i < m) (hm : m ≤ 16) (hs : s.length = 32) : readS (shareB (i + 1) m s) = some (i + 1, m, s) := by
 unfold readS shareB
 simp only [b8_toNat (i + 1) (by omega), b8_toNat m (by omega)]
 rw [if_pos (by omega)]
def gotJ (m : Nat) (U : List (List UInt8)) (J : List Nat) : GS := J.map fun j => (j + 1, m, U.getD j [])
theorem gotJ_snoc (m : Nat) (U : List (List UInt8)) (J : List Nat) (j : Nat) : gotJ m U (J ++ [j]) = gotJ m U J ++ [(j + 1, m, U.getD j [])] := by simp [gotJ]
theorem getD_len {U : List (List UInt8)} (hU : ∀ s ∈ U, s.length = 32) (j : Nat) (hj : j < U.length) : (U.getD j []).length = 32 := by
 rw [List.getD, List.getElem?_eq_getElem hj]; exact hU _ (List.getElem_mem hj)
theorem gotJ_ok {m : Nat} {U : List (List UInt8)} (hU : ∀ s ∈ U, s.length = 32) (J : List Nat) (hJ : ∀ j ∈ J, j < U.length) : ∀ x ∈ gotJ m U J, x.2.1 = m ∧ x.2.2.length = 32 := by
 intro x hx
 obtain ⟨j, hj, rfl⟩ := List.mem_map.1 hx
 exact ⟨rfl, getD_len hU j (hJ j hj)⟩
theorem fit_J {m : Nat} {U : List (List UInt8)} (hm : m ≤ 16) (hUm : U.length = m) (hU : ∀ s ∈ U, s.length = 32) (J : List Nat) (hJ : ∀ j ∈ J, j < U.length) (hl : J.length ≤ 20) (j : Nat) (hj : j < U.length) (hn : j ∉ J) :
  Fit (b8 m) (gotJ m U J) (gotJ m U (J ++ [j])) (shareB (j + 1) m (U.getD j [])) (j + 1) (U.getD j []) := by
 have hs := getD_len hU j hj
 have hr := readS_share j m (U.getD j []) (by omega) hm hs
 refine ⟨by rw [b8_toNat m (by omega)]; exact hr, hs, ?_, ?_⟩
 ·rw [gotJ_snoc]
  refine add_new hr hs fun x hx => ?_
  have := gotJ_ok (m := m) hU J hJ x hx
  refine ⟨this.1, this.2, ?_⟩
  obtain ⟨k, hk, rfl⟩ := List.mem_map.1 hx
  intro e
  dsimp only at e
  exact hn (by rwa [← Nat.succ.inj e])
 ·simp [gotJ]; omega
theorem secret_less {m : Nat} {U : List (List UInt8)} (hU : ∀ s ∈ U, s.length = 32) (J : List Nat) (hJ : ∀ j ∈ J, j < U.length) (hl : J.length < m) : secretS (gotJ m U J) = none :=
 secretS_less (n := m) _ (fun x hx => (gotJ_ok hU J hJ x hx).1) (by simpa [gotJ] using hl)
theorem secret_full {m : Nat} {U : List (List UInt8)} (hUm : U.length = m) (h1 : 1 ≤ m) (hU : ∀ s ∈ U, s.length = 32) (J : List Nat) (hp : J.Perm (List.range m)) : secretS (gotJ m U J) = some (lastS (List.replicate 32 0) U) := by
 have hJ : ∀ j ∈ J, j < U.length := fun j hj => by rw [hUm]; exact List.mem_range.1 (hp.mem_iff.1 hj)
 have hl := hp.length_eq
 rw [List.length_range] at hl
 rw [secretS_full (n := m) (q := 32) _ (gotJ_ok hU J hJ) (by intro e; have := congrArg List.length e; simp [gotJ] at this; subst this; simp at hl; omega) (by simp [gotJ]; omega)]
 congr 1
 refine lastS_perm ?_ _
 have e : (gotJ m U J).map (·.2.2) = J.map (fun j => U.getD j []) := by simp [gotJ]
 rw [e]
 refine (hp.map _).trans ?_
 have : (List.range m).map (fun j => U.getD j []) = U := by
  apply List.ext_getElem
  ·simp [hUm]
  ·intro i h1 h2
   simp [List.getD, h2]
 rw [this]
theorem hd_open (root nonce : List UInt8) (nb : Nat) (E : Eps) (n : Nat) (hI : RI E n) (hno : nonce.length = 12) : openAny [(1, root)] lblB nb (envL root 1 nonce (bytesE E) ++ tagL root lblB nb (envL root 1 nonce (bytesE E))) = (bytesE E, 0) := by
 have hbl : (bytesE E).length ≤ 1048576 := by rw [bytesE_length E hI.key]; have := hI.len; omega
 have he := ep_env root lblB nonce (bytesE E) 1 nb hno (by omega) hbl
 unfold openAny
 rw [he]
 have : lookE [(1, root)] 1 = some root := by simp [lookE]
 simp only [this]
 rw [open_close root lblB nonce (bytesE E) 1 nb hno]
 rfl
end Go.Proofs.YtclekllaikcglaaGreat

/- Layer 15: Load; what a law keeps of its own. -/
namespace Go.Proofs.YtclekllaikcglaaGreat
open Go Go.RowKit
set_option maxRecDepth 100000 in
theorem bar_Load (w0 w : World) (F : List (Nat × Obj)) (b bg bm c : Nat) (x : UInt8) (t : List UInt8) (gs : GS) (ep : Nat) (h : BarC w0 F b bg bm c 0 [] gs w) (h1 : 1 ≤ x.toNat) (h16 : x.toNat ≤ 16) (he : epR t = (ep, 0)) (ht : t.length ≤ 1000000) :
  Calls Tryz.prog 17 #[.pointer (some ⟨b, 0, none⟩), .string (bs (x :: t))] w fun e w' => e = .returned (.int .i64 0) ∧ BarC w0 F b bg bm c 1 (x :: t) gs w' := by
 have G := Lib.hid (bar_is0 h.cell)
 have ge := fun W => Epoch_any t W (by omega)
 rw [he] at ge
 have GE := Lib.hid ge
 have iS : ∀ W, (Instr.index 9 (.string (bs (x :: t))) (.int .i64 0)).run Tryz.prog W = .ok (.int .u8 (x.toNat : Int)) W := fun W => run_index_str (x :: t) 0 (by simp) W
 have hex : (bs (x :: t)).extract 1 (t.length + 1) = bs t := by rw [bs_extract]; simp
 have ha : (x :: t).length = t.length + 1 := rfl
 have ht1 : (1 : Int) ≤ (t.length : Int) + 1 := by omega
 have ht2 : decide ((t.length : Int) + 1 < 1) = false := by simp; omega
 have hx1 : decide ((x.toNat : Int) < 1) = false := by simp; omega
 have hx2 : decide ((16 : Int) < (x.toNat : Int)) = false := by simp; omega
 have H := Lib.hid h
 obtain ⟨hd, hhd⟩ : ∃ hd, x :: t = hd := ⟨_, rfl⟩
 rw [hhd] at iS hex ha ⊢
 clear ge h h1 h16 he hhd
 go_enter Tryz.func17, Tryz.ntmps17
 go_upto_region 9 with (first
  | (go_at_call 27; (with_reducible refine G.out.mono ?_); rintro e w' ⟨rfl, rfl⟩)
  | (go_at_call 42; (with_reducible refine (GE.out _).mono ?_); rintro e w1 ⟨rfl, hx1⟩; have H1 := Lib.hid (H.out.next hx1); clear hx1))
 have c1 := H1.out.cell.c1
 have c2 := H1.out.cell.c2
 have f1 := H1.out.cell.fz 1
 have f2 := H1.out.cell.fz 2
 go_wp2_with fail
 go_returns
 obtain ⟨l1, l2, l3⟩ := H1.out.lo
 obtain ⟨n1, n2⟩ := H1.out.nd
 have hb := (but_set b 2 w1 (.string (bs hd))).trans (but_set b 1 _ (.int .u8 1))
 exact ⟨rfl, But.ext H1.out.ext hb (by simp; omega), (H1.out.cell.set2 hd).set1 1, H1.out.got.but hb (by simp; omega) (by simp; omega), H1.out.lo, H1.out.nd, fun z hz => hb.keep (H1.out.keep z hz) (fun hm => H1.out.off z hz (by simp at hm ⊢; omega)), H1.out.off⟩
theorem BarO.turn {w0 w w' : World} {F F' : List (Nat × Obj)} {a : BA} {hd : List UInt8} {gs : GS} {E : Eps} {n : Nat} {root : List UInt8} (h : BarO w0 F a hd gs E n root w) (S : List Nat) (hb : But S w w') (h0 : ∀ x ∈ S, w0.heap.size ≤ x) (hS : ∀ x ∈ S, x ∉ a.all)
  (hk : ∀ x ∈ F', w'.heap[x.1]? = some x.2) (ho : ∀ x ∈ F', x.1 ∉ a.all) : BarO w0 F' a hd gs E n root w' := by
 have nm : ∀ x ∈ a.all, x ∉ S := fun x hx hs => hS x hs hx
 refine ⟨But.ext h.ext hb h0, hb.keep h.cell (nm _ (by simp [BA.all])), h.ring.keep (hb.block _ h.ring.lt.1 (nm _ (by simp [BA.all]))) (hb.block _ h.ring.lt.2 (nm _ (by simp [BA.all]))), h.top.keep (hb.block _ h.top.lt.1 (nm _ (by simp [BA.all]))) (hb.block _ h.top.lt.2 (nm _ (by simp [BA.all]))), h.got.but hb (nm _ (by simp [BA.all])) (nm _ (by simp [BA.all])), h.lo, h.nd, hk, ho⟩
theorem BarC.turn {w0 w w' : World} {F F' : List (Nat × Obj)} {b bg bm c st : Nat} {hd : List UInt8} {gs : GS} (h : BarC w0 F b bg bm c st hd gs w) (S : List Nat) (hb : But S w w') (h0 : ∀ x ∈ S, w0.heap.size ≤ x) (hS : ∀ x ∈ S, x ∉ [b, bg, bm])
  (hk : ∀ x ∈ F', w'.heap[x.1]? = some x.2) (ho : ∀ x ∈ F', x.1 ∉ [b, bg, bm]) : BarC w0 F' b bg bm c st hd gs w' := by
 have nm : ∀ x ∈ [b, bg, bm], x ∉ S := fun x hx hs => hS x hs hx
 exact ⟨But.ext h.ext hb h0, hb.keep h.cell (nm _ (by simp)), h.got.but hb (nm _ (by simp)) (nm _ (by simp)), h.lo, h.nd, hk, ho⟩
end Go.Proofs.YtclekllaikcglaaGreat

/- Layer 15: shares that come in some order. -/
namespace Go.Proofs.YtclekllaikcglaaGreat
open Go Go.RowKit
end Go.Proofs.YtclekllaikcglaaGreat

/- Layer 15: one share goes out of a slice. -/
namespace Go.Proofs.YtclekllaikcglaaGreat
open Go Go.RowKit
end Go.Proofs.YtclekllaikcglaaGreat
