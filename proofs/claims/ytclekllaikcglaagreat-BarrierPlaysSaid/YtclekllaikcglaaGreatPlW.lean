import Derived.Test.YtclekllaikcglaaGreatPlS
import Derived.Test.YtclekllaikcglaaGreatLaw15a
import Derived.Test.YtclekllaikcglaaGreatActs15
import Derived.Deep.CutRange

/- Layer 15: what a law plays on: both barriers, and what there was. -/
namespace Go.Proofs.YtclekllaikcglaaGreat
open Go Go.RowKit
structure PSt where
 sh : List (List UInt8)
 hd : List UInt8
 put : List UInt8
 n : Nat
structure PSt.Ok (P : PSt) : Prop where
 few : P.sh.length ≤ 5
 len : ∀ x ∈ P.sh, x.length ≤ 100
 hdl : P.hd.length ≤ 100000
 putl : P.put.length ≤ 100000
 num : U64 P.n
def plo (b r : Nat) (sv : Value) (P : PSt) : Obj := .cells #[.pointer (some ⟨b, 0, none⟩), .pointer (some ⟨r, 0, none⟩), sv, .string (bs P.hd), .string (bs P.put), .int .u64 (P.n : Int)] 65
theorem plo_ty (b r : Nat) (sv : Value) (P : PSt) : progTy (plo b r sv P) = false ∧ refTy (plo b r sv P) = false := by simp [plo, progTy, refTy]
structure PW (w0 : World) (X : List (Nat × Obj)) (p b r : Nat) (sv : Value) (P : PSt) (s1 s2 : BS) (W : World) : Prop where
 lo : w0.heap.size ≤ p
 blk : W.heap[p]? = some (plo b r sv P)
 prog : ProgB w0 b s1 W
 ref : RefS w0.heap.size r s2 W
 row : ShV W sv P.sh
 keep : ∀ x ∈ X, W.heap[x.1]? = some x.2 ∧ progTy x.2 = false ∧ refTy x.2 = false ∧ x.1 ≠ p
section
variable {w0 W W' : World} {X : List (Nat × Obj)} {p b r : Nat} {sv : Value} {P : PSt} {s1 s2 s1' s2' : BS}
theorem PW.ext (h : PW w0 X p b r sv P s1 s2 W) : Ext w0 W := h.prog.ext
theorem PW.next (h : PW w0 X p b r sv P s1 s2 W) (hx : Ext W W') : PW w0 X p b r sv P s1 s2 W' :=
 ⟨h.lo, hx.keep h.blk, h.prog.next hx, h.ref.next hx, h.row.ext hx, fun x hm => ⟨hx.keep (h.keep x hm).1, (h.keep x hm).2⟩⟩
theorem PW.stepP (h : PW w0 X p b r sv P s1 s2 W) (h1 : ProgB w0 b s1' W') (hk : KeepsN progTy W W') : PW w0 X p b r sv P s1' s2 W' :=
 ⟨h.lo, hk p _ h.blk (plo_ty _ _ _ _).1, h1, h.ref.keeps hk, h.row.keepP hk, fun x hm => ⟨hk _ _ (h.keep x hm).1 (h.keep x hm).2.1, (h.keep x hm).2⟩⟩
theorem PW.stepR (h : PW w0 X p b r sv P s1 s2 W) (h1 : RefS w0.heap.size r s2' W') (hf : Fr w0.heap.size W W') : PW w0 X p b r sv P s1 s2' W' :=
 ⟨h.lo, hf.keeps p _ h.blk (plo_ty _ _ _ _).2, h.prog.keeps hf.keeps (h.ext.trans_below hf.below (Nat.le_refl _)), h1, h.row.keepR hf.keeps, fun x hm => ⟨hf.keeps _ _ (h.keep x hm).1 (h.keep x hm).2.2.1, (h.keep x hm).2⟩⟩
theorem PW.less (h : PW w0 X p b r sv P s1 s2 W) : PW w0 [] p b r sv P s1 s2 W := ⟨h.lo, h.blk, h.prog, h.ref, h.row, by simp⟩
theorem PW.more (h : PW w0 X p b r sv P s1 s2 W) (o : Obj) (h1 : progTy o = false) (h2 : refTy o = false) : PW w0 ((W.heap.size, o) :: X) p b r sv P s1 s2 (W.alloc o) := by
 have hx := (Ext.refl W).alloc o
 have h3 := h.next hx
 refine ⟨h3.lo, h3.blk, h3.prog, h3.ref, h3.row, fun x hm => ?_⟩
 rcases List.mem_cons.1 hm with rfl | hm
 ·exact ⟨heap_alloc_new _ _, h1, h2, by have := blk_lt h.blk; dsimp only; omega⟩
 ·exact h3.keep x hm
theorem PW.set (h : PW w0 X p b r sv P s1 s2 W) {i : Nat} {v : Value} {b' r' : Nat} {sv' : Value} {P' : PSt} (hb : (W.setCell ⟨p, i, none⟩ v).heap[p]? = some (plo b' r' sv' P')) (hp : ProgB w0 b' s1' (W.setCell ⟨p, i, none⟩ v)) (hr : RefS w0.heap.size r' s2' (W.setCell ⟨p, i, none⟩ v)) (hs : ShV (W.setCell ⟨p, i, none⟩ v) sv' P'.sh) :
  PW w0 X p b' r' sv' P' s1' s2' (W.setCell ⟨p, i, none⟩ v) :=
 ⟨h.lo, hb, hp, hr, hs, fun x hm => ⟨(heap_setCell_other _ _ _ (h.keep x hm).2.2.2).trans (h.keep x hm).1, (h.keep x hm).2⟩⟩
theorem PW.set_prog (h : PW w0 X p b r sv P s1 s2 W) {b' : Nat} (h1 : ProgB w0 b' s1' W) (i : Nat) (v : Value) : ProgB w0 b' s1' (W.setCell ⟨p, i, none⟩ v) :=
 h1.keepsY (fun k o hk ht _ => (heap_setCell_other _ _ _ (by
  rintro (rfl : k = p)
  rw [h.blk] at hk; injection hk with hk; subst hk; rw [(plo_ty _ _ _ _).1] at ht; cases ht)).trans hk) (Ext.setCell h1.ext h.lo _)
theorem PW.set_ref (h : PW w0 X p b r sv P s1 s2 W) {r' : Nat} (h1 : RefS w0.heap.size r' s2' W) (i : Nat) (v : Value) : RefS w0.heap.size r' s2' (W.setCell ⟨p, i, none⟩ v) :=
 h1.keepsY (fun k o hk ht _ => (heap_setCell_other _ _ _ (by
  rintro (rfl : k = p)
  rw [h.blk] at hk; injection hk with hk; subst hk; rw [(plo_ty _ _ _ _).2] at ht; cases ht)).trans hk)
theorem PW.set_row (h : PW w0 X p b r sv P s1 s2 W) {sv' : Value} {sh : List (List UInt8)} (h1 : ShV W sv' sh) (i : Nat) (v : Value) : ShV (W.setCell ⟨p, i, none⟩ v) sv' sh := by
 rcases h1 with h1 | ⟨g, cap, cur, q1, q2, q3⟩
 ·exact .inl h1
 ·refine .inr ⟨g, cap, cur, q1, (heap_setCell_other _ _ _ ?_).trans q2, q3⟩
  rintro (rfl : g = p)
  rw [h.blk] at q2; cases q2
theorem PW.cells (h : PW w0 X p b r sv P s1 s2 W) : W.cell? ⟨p, 0, none⟩ = some (.pointer (some ⟨b, 0, none⟩)) ∧ W.cell? ⟨p, 1, none⟩ = some (.pointer (some ⟨r, 0, none⟩)) ∧ W.cell? ⟨p, 2, none⟩ = some sv ∧ W.cell? ⟨p, 3, none⟩ = some (.string (bs P.hd)) ∧ W.cell? ⟨p, 4, none⟩ = some (.string (bs P.put)) ∧ W.cell? ⟨p, 5, none⟩ = some (.int .u64 (P.n : Int)) ∧ ∀ i, W.frozen? ⟨p, i, none⟩ = false :=
 ⟨cell_blk h.blk rfl, cell_blk h.blk rfl, cell_blk h.blk rfl, cell_blk h.blk rfl, cell_blk h.blk rfl, cell_blk h.blk rfl, fun _ => frozen_blk h.blk⟩
end
def acto (x : Act5) : Obj := .cells #[.int .u8 (x.op.toNat : Int), .string (bs x.text), .string (bs x.other), .int .u32 (x.n.toNat : Int), .int .u8 (x.share.toNat : Int), .bool x.fit] 68
def actv (x : Act5) : Value := .agg #[.int .u8 (x.op.toNat : Int), .string (bs x.text), .string (bs x.other), .int .u32 (x.n.toNat : Int), .int .u8 (x.share.toNat : Int), .bool x.fit]
theorem acto_ty (x : Act5) : progTy (acto x) = false ∧ refTy (acto x) = false := by simp [acto, progTy, refTy]
theorem acto_c {W : World} {b : Nat} {x : Act5} (h : W.heap[b]? = some (acto x)) : W.cell? ⟨b, 0, none⟩ = some (.int .u8 (x.op.toNat : Int)) ∧ W.cell? ⟨b, 1, none⟩ = some (.string (bs x.text)) ∧ W.cell? ⟨b, 2, none⟩ = some (.string (bs x.other)) ∧ W.cell? ⟨b, 3, none⟩ = some (.int .u32 (x.n.toNat : Int)) ∧ W.cell? ⟨b, 4, none⟩ = some (.int .u8 (x.share.toNat : Int)) ∧ W.cell? ⟨b, 5, none⟩ = some (.bool x.fit) :=
 ⟨cell_blk h rfl, cell_blk h rfl, cell_blk h rfl, cell_blk h rfl, cell_blk h rfl, cell_blk h rfl⟩
def nonceF (s : List UInt8) (fit : Bool) : List UInt8 := if fit then padTo 12 s else s
def rootF (s : List UInt8) (fit : Bool) : List UInt8 := if fit then padTo 32 s else s
set_option maxRecDepth 100000 in
theorem nonce15F (s : List UInt8) (fit : Bool) (w : World) (hl : s.length ≤ 100000) :
  Calls Tryz.prog 11 #[.string (bs s), .bool fit] w fun e w' => e = .returned (.string (bs (nonceF s fit))) ∧ Ext w w' := by
 cases fit with
 | true => exact nonce15 s w (by omega)
 | false =>
  unfold nonceF
  clear hl
  go_enter Tryz.func11, Tryz.ntmps11
  go_wp2
  go_returns
  exact ⟨rfl, Ext.refl _⟩
set_option maxRecDepth 100000 in
theorem root15F (s : List UInt8) (fit : Bool) (w : World) (hl : s.length ≤ 100000) :
  Calls Tryz.prog 51 #[.string (bs s), .bool fit] w fun e w' => e = .returned (.string (bs (rootF s fit))) ∧ Ext w w' := by
 cases fit with
 | true =>
  have G := Lib.hid (full13 s w (by omega))
  unfold rootF
  clear hl
  rw [if_pos rfl]
  generalize padTo 32 s = k at *
  go_enter Tryz.func51, Tryz.ntmps51
  go_wp2_with (go_at_call 9; (with_reducible refine G.out.mono ?_); rintro e w1 ⟨rfl, hx1⟩)
  go_returns
  exact ⟨rfl, hx1⟩
 | false =>
  unfold rootF
  clear hl
  go_enter Tryz.func51, Tryz.ntmps51
  go_wp2
  go_returns
  exact ⟨rfl, Ext.refl _⟩
theorem rootF_len (s : List UInt8) (fit : Bool) (h : s.length ≤ 5000) : (rootF s fit).length ≤ 5000 := by
 unfold rootF
 split
 ·rw [padTo_length]; omega
 ·exact h
def shareF (P : PSt) (x : Act5) : List UInt8 := if x.share.toNat = 0 ∨ P.sh = [] then x.text else P.sh.getD ((x.share.toNat - 1) % P.sh.length) []
set_option maxRecDepth 100000 in
set_option maxHeartbeats 4000000 in
theorem share15 (w0 W : World) (X : List (Nat × Obj)) (p b r : Nat) (sv : Value) (P : PSt) (s1 s2 : BS) (x : Act5) (h : PW w0 X p b r sv P s1 s2 W) (hP : P.sh.length ≤ 5) :
  Calls Tryz.prog 48 #[.pointer (some ⟨p, 0, none⟩), actv x] W fun e w' => e = .returned (.string (bs (shareF P x))) ∧ Ext W w' := by
 unfold actv
 obtain ⟨_, _, c2, _, _, _, _⟩ := h.cells
 obtain ⟨L, hL⟩ : ∃ L, P.sh.length = L := ⟨_, rfl⟩
 by_cases h0 : x.share.toNat = 0
 ·have hsf : shareF P x = x.text := by unfold shareF; rw [if_pos (.inl h0)]
  rw [hsf]
  have hne : ((x.share.toNat : Int) == 0) = true := by simp; omega
  clear h hP hsf h0 hL
  go_enter Tryz.func48, Tryz.ntmps48
  go_wp2
  go_returns
  exact ⟨rfl, (Ext.refl _).alloc _⟩
 ·have hne : ((x.share.toNat : Int) == 0) = false := by simp; omega
  by_cases hs : P.sh = []
  ·have hsf : shareF P x = x.text := by unfold shareF; rw [if_pos (.inr hs)]
   rw [hsf]
   obtain ⟨ad, cap, rfl⟩ : ∃ ad cap, sv = .slice ad 0 cap := by
    rcases h.row with ⟨h1, _⟩ | ⟨g, cap, cur, h1, _⟩
    ·exact ⟨none, 0, h1⟩
    ·rw [hs] at h1; exact ⟨_, _, h1⟩
   clear h hP hsf h0 hL hs
   have c2' := ((Ext.refl W).alloc (acto x)).cell_of c2
   unfold acto at c2'
   go_enter Tryz.func48, Tryz.ntmps48
   go_wp2
   go_returns
   exact ⟨rfl, (Ext.refl _).alloc _⟩
  ·obtain ⟨g, cap, cur, rfl, hg, hcur⟩ : ∃ g cap cur, sv = .slice (some ⟨g, 0, none⟩) L cap ∧ W.heap[g]? = some (.cells cur 9 (0, 0)) ∧ ∀ i (hi : i < P.sh.length), cur[i]? = some (strV P.sh[i]) := by
    rcases h.row with ⟨_, h1⟩ | ⟨g, cap, cur, h1, h2, h3⟩
    ·exact absurd h1 hs
    ·exact ⟨g, cap, cur, hL ▸ h1, h2, h3⟩
   have hL0 : 0 < L := by
    cases hq : P.sh with
    | nil => exact absurd hq hs
    | cons a t => rw [hq] at hL; rw [← hL]; simp
   obtain ⟨k, hk⟩ : ∃ k, (x.share.toNat - 1) % L = k := ⟨_, rfl⟩
   have hkL : k < L := by rw [← hk]; exact Nat.mod_lt _ hL0
   have hsf : shareF P x = P.sh[k]'(by omega) := by
    unfold shareF
    have e : (x.share.toNat - 1) % P.sh.length = k := by rw [hL]; exact hk
    rw [if_neg (by rintro (h | h); exact h0 h; exact hs h), e, List.getD, List.getElem?_eq_getElem (by omega)]; rfl
   have hck : W.cell? ⟨g, k, none⟩ = some (.string (bs (shareF P x))) := by rw [hsf]; exact cell_blk hg (hcur k (by omega))
   generalize shareF P x = S at *
   have hsl := x.share.toNat_lt
   have hw8 : IntKind.u8.wrap ((x.share.toNat : Int) - 1) = (x.share.toNat : Int) - 1 := by rw [IntKind.wrap_u8]; omega
   have hw64 : IntKind.i64.wrap ((x.share.toNat : Int) - 1) = (x.share.toNat : Int) - 1 := by rw [IntKind.wrap_i64]; omega
   have hs1 : (x.share.toNat : Int) - 1 = ((x.share.toNat - 1 : Nat) : Int) := by omega
   have hrm : ((x.share.toNat : Int) - 1).tmod (L : Int) = (((x.share.toNat - 1) % L : Nat) : Int) := by rw [hs1, Int.tmod_eq_emod_of_nonneg (by omega)]; omega
   rw [hk] at hrm
   have hwk : IntKind.i64.wrap (k : Int) = (k : Int) := by rw [IntKind.wrap_i64]; omega
   have hkLi : (k : Int) < (L : Int) := by omega
   have hL00 : ¬ L = 0 := by omega
   have hLne : ((L : Int) == 0) = false := by simp; omega
   have hx1 := (Ext.refl W).alloc (acto x)
   have c2' := hx1.cell_of c2
   have hck' := hx1.cell_of hck
   have a4 := (acto_c (heap_alloc_new W (acto x))).2.2.2.2.1
   clear h hP hL hs hg hcur hk hsf h0 hx1 hs1
   unfold acto at c2' hck' a4
   go_enter Tryz.func48, Tryz.ntmps48
   go_upto_region 3 with fail
   go_quiet (fail)
   go_wp2
   go_returns
   exact ⟨rfl, ((Ext.refl _).alloc _).drewN _⟩
def sumC (l : List Act5) (k : Nat) : Nat := ((l.take k).map (fun x => x.text.length + x.other.length)).sum
theorem sumC_succ (l : List Act5) (k : Nat) (h : k < l.length) : sumC l (k + 1) = sumC l k + (l[k].text.length + l[k].other.length) := by
 unfold sumC
 rw [List.take_add_one, List.getElem?_eq_getElem h, List.map_append, List.sum_append]
 simp
theorem sumC_le (l : List Act5) (C : Nat) (hb : ∀ x ∈ l, x.text.length ≤ C ∧ x.other.length ≤ C) : ∀ k, sumC l k ≤ k * (2 * C)
 | 0 => by simp [sumC]
 | k + 1 => by
  have ih := sumC_le l C hb k
  by_cases h : k < l.length
  ·rw [sumC_succ l k h]
   have := hb _ (List.getElem_mem h)
   have e : (k + 1) * (2 * C) = k * (2 * C) + 2 * C := by rw [Nat.add_mul, Nat.one_mul]
   omega
  ·have e : sumC l (k + 1) = sumC l k := by unfold sumC; rw [List.take_of_length_le (by omega), List.take_of_length_le (by omega)]
   have e2 : (k + 1) * (2 * C) = k * (2 * C) + 2 * C := by rw [Nat.add_mul, Nat.one_mul]
   omega
theorem sumC_mem (l : List Act5) : ∀ k i (hi : i < l.length), i < k → l[i].text.length + l[i].other.length ≤ sumC l k
 | 0, i, hi, h => by omega
 | k + 1, i, hi, h => by
  by_cases hk : k < l.length
  ·rw [sumC_succ l k hk]
   by_cases hik : i = k
   ·subst hik; omega
   ·have := sumC_mem l k i hi (by omega); omega
  ·have e : sumC l (k + 1) = sumC l k := by unfold sumC; rw [List.take_of_length_le (by omega), List.take_of_length_le (by omega)]
   rw [e]
   exact sumC_mem l k i hi (by omega)
def heavyC (l : List Act5) : Bool := decide (30 < l.length) || decide (2000 < sumC l (min l.length 60))
theorem heavyC_no {l : List Act5} (h : heavyC l = false) : l.length ≤ 30 ∧ ∀ x ∈ l, x.text.length ≤ 2000 ∧ x.other.length ≤ 2000 := by
 simp only [heavyC, Bool.or_eq_false_iff, decide_eq_false_iff_not] at h
 refine ⟨by omega, fun x hx => ?_⟩
 obtain ⟨i, hi, rfl⟩ := List.getElem_of_mem hx
 have := sumC_mem l (min l.length 60) i hi (by omega)
 omega
set_option maxRecDepth 100000 in
set_option maxHeartbeats 4000000 in
theorem heavy15 (l : List Act5) (ad : Option Addr) (cap : Nat) (w : World) (h : SlC w ad l) (hl : l.length ≤ maxLen) (hb : ∀ x ∈ l, x.text.length ≤ 140737488351232 ∧ x.other.length ≤ 140737488351232) :
  Calls Tryz.prog 23 #[.slice ad l.length cap] w fun e w' => e = .returned (.bool (heavyC l)) ∧ Ext w w' := by
 have HL := Lib.hid h
 have HB := Lib.hid hb
 obtain ⟨L, hL⟩ : ∃ L, l.length = L := ⟨_, rfl⟩
 have HLL := Lib.hid hL
 have HM : Hid (L ≤ 9223372036854775807) := Lib.hid (by rw [← hL]; exact hl)
 have HS0 : Hid (sumC l 0 = 0) := Lib.hid (by simp [sumC])
 obtain ⟨M, hM⟩ : ∃ M, min L 60 = M := ⟨_, rfl⟩
 obtain ⟨hv, hhv⟩ : ∃ hv, heavyC l = hv := ⟨_, rfl⟩
 have HH : Hid (hv = (decide (30 < L) || decide (2000 < sumC l M))) := Lib.hid (by rw [← hhv]; unfold heavyC; rw [hL, hM])
 rw [hhv]
 have HMM := Lib.hid hM
 have hM60 : M ≤ 60 := by omega
 rw [hL]
 clear h hl hb hL hM hhv
 go_enter Tryz.func23, Tryz.ntmps23
 go_wp2
 go_loopg [3, 4] M (fun k s3 s4 wr => ∃ i n : Nat, s3 = .int .i64 (n : Int) ∧ s4 = .int .i64 (i : Int) ∧ i + k = M ∧ Hid (n = sumC l i) ∧ Hid (Ext w wr))
 case atStart => exact ⟨0, 0, rfl, rfl, by omega, Lib.hid HS0.out.symm, Lib.hid (Ext.refl w)⟩
 case round =>
  obtain ⟨i, n, rfl, rfl, hik, HN, HX⟩ := hrel
  cases gk with
  | succ q =>
   have h1 : i < l.length := by have := HMM.out; have := HLL.out; omega
   obtain ⟨b, o, hadq, hbq, ha⟩ := HL.out i h1
   subst hadq
   obtain ⟨x, hx⟩ : ∃ x, l[i] = x := ⟨_, rfl⟩
   rw [hx] at ha
   have c1 := HX.out.cell_of ha.c1
   have c2 := HX.out.cell_of ha.c2
   have hxl := HB.out x (by rw [← hx]; exact List.getElem_mem h1)
   have hsu := sumC_succ l i h1
   rw [hx] at hsu
   have HSU := Lib.hid hsu
   have hle := sumC_le l 140737488351232 HB.out i
   have hnb : n ≤ 60 * (2 * 140737488351232) := by have := HN.out; have : i * (2 * 140737488351232) ≤ 60 * (2 * 140737488351232) := Nat.mul_le_mul_right _ (by omega); omega
   have h1i : (i : Int) < (L : Int) := by have := HLL.out; omega
   have h2i : (i : Int) < 60 := by omega
   have hwa : IntKind.i64.wrap ((n : Int) + (x.text.length : Int)) = (n : Int) + (x.text.length : Int) := by rw [IntKind.wrap_i64]; omega
   have hwb : IntKind.i64.wrap ((n : Int) + (x.text.length : Int) + (x.other.length : Int)) = (n : Int) + (x.text.length : Int) + (x.other.length : Int) := by rw [IntKind.wrap_i64]; omega
   clear ha hx hsu hle hnb hbq
   go_upto_region 5 with fail
   go_quiet (fail)
   go_wp2
   go_roundg q
   case measure => omega
   case rel => exact ⟨i + 1, n + (x.text.length + x.other.length), by rw [Int.natCast_add, Int.natCast_add, Int.add_assoc], by go_num, by omega, Lib.hid (by rw [HSU.out, HN.out]), Lib.hid (HX.out.drewN _)⟩
  | zero =>
   obtain rfl : i = M := by omega
   have HR := HH.out
   rw [← HN.out] at HR
   have HRR := Lib.hid HR
   have hex : Hid (Ext w wr) := HX
   have hm := HMM.out
   have hML : i = L ∧ L ≤ 60 ∨ i = 60 ∧ 60 < L := by omega
   have hLm := HM.out
   clear HL HB HN HS0 HH HX HLL HMM HM hm hik HR
   rcases hML with ⟨h1, h2⟩ | ⟨h1, h2⟩
   ·subst h1
    have hlt : decide ((i : Int) < (i : Int)) = false := by simp
    by_cases h30 : 30 < i
    ·have h30i : (30 : Int) < (i : Int) := by omega
     have hd : decide (30 < i) = true := by simpa using h30
     have HD := Lib.hid hd
     clear h30 hd
     go_wp2
     go_returns
     exact ⟨by rw [HRR.out, HD.out]; simp, hex.out⟩
    ·have h30i : decide ((30 : Int) < (i : Int)) = false := by simp; omega
     have hd : decide (30 < i) = false := by simpa using h30
     have HD := Lib.hid hd
     have hcast : decide ((2000 : Int) < (n : Int)) = decide (2000 < n) := by by_cases h : 2000 < n <;> simp [h] <;> omega
     have HCA := Lib.hid hcast
     clear h30 hd hcast
     go_wp2
     go_returns
     exact ⟨by rw [HRR.out, HD.out, ← HCA.out]; simp, hex.out⟩
   ·subst h1
    have h60i : decide ((60 : Int) < 60) = false := by simp
    have hlti : ((60 : Nat) : Int) < (L : Int) := by omega
    have hltj : (60 : Int) < (L : Int) := by omega
    have h30i : (30 : Int) < (L : Int) := by omega
    have hd : decide (30 < L) = true := by simp; omega
    have HD := Lib.hid hd
    clear hd
    go_wp2
    go_returns
    exact ⟨by rw [HRR.out, HD.out]; simp, hex.out⟩
end Go.Proofs.YtclekllaikcglaaGreat

/- Layer 15: begins. -/
set_option linter.unusedVariables false
namespace Go.Proofs.YtclekllaikcglaaGreat
open Go Go.RowKit
def lsF (other : List UInt8) (fit : Bool) (i : Nat) : List (List UInt8) := (List.range i).map fun j => rootF (other ++ [b8 j]) fit
theorem lsF_length (other : List UInt8) (fit : Bool) (i : Nat) : (lsF other fit i).length = i := by simp [lsF]
theorem lsF_succ (other : List UInt8) (fit : Bool) (i : Nat) : lsF other fit (i + 1) = lsF other fit i ++ [rootF (other ++ [b8 i]) fit] := by simp [lsF, List.range_succ]
theorem lsF_fit (text other : List UInt8) (fit : Bool) (i : Nat) : ((rootF text fit).length = 32 ∧ (rootF other fit).length = 32 ∧ (nonceF text fit).length = 12) → ∀ z ∈ lsF other fit i, z.length = 32 := by
 rintro ⟨h1, h2, h3⟩ z hz
 cases fit with
 | true =>
  obtain ⟨j, _, rfl⟩ := List.mem_map.1 hz
  exact padTo_length 32 _
 | false =>
  have e1 : text.length = 32 := h1
  have e3 : text.length = 12 := h3
  omega
theorem ShV.slice {W : World} {v : Value} {sh : List (List UInt8)} (h : ShV W v sh) : ∃ ad cap, v = .slice ad sh.length cap ∧ ∀ i (hi : i < sh.length), ∃ g, ad = some ⟨g, 0, none⟩ ∧ W.cell? ⟨g, i, none⟩ = some (strV sh[i]) := by
 rcases h with ⟨h1, h2⟩ | ⟨g, cap, cur, h1, h2, h3⟩
 ·exact ⟨none, 0, by rw [h1, h2]; rfl, fun i hi => by rw [h2] at hi; simp at hi⟩
 ·exact ⟨_, cap, h1, fun i hi => ⟨g, rfl, cell_blk h2 (h3 i hi)⟩⟩
def PlX (w0 : World) (p : Nat) (e : Ending) (w' : World) : Prop := e = .returned (.bool true) ∧ ∃ b r sv P s, PW w0 [] p b r sv P s s w' ∧ s.Ok ∧ P.Ok
set_option maxRecDepth 100000 in
set_option maxHeartbeats 16000000 in
theorem begins15 (w0 W : World) (p b r : Nat) (sv : Value) (P : PSt) (s : BS) (x : Act5) (h : PW w0 [] p b r sv P s s W) (ok : s.Ok) (hP : P.Ok) (ht : x.text.length ≤ 2000) (ho : x.other.length ≤ 2000) :
  Calls Tryz.prog 46 #[.pointer (some ⟨p, 0, none⟩), actv x] W (PlX w0 p) := by
 unfold PlX actv
 have H1 := Lib.hid (h.more (acto x) (acto_ty x).1 (acto_ty x).2)
 obtain ⟨ab, hab⟩ : ∃ ab, W.heap.size = ab := ⟨_, rfl⟩
 have HB1 : Hid (w0.heap.size ≤ ab) := Lib.hid (by rw [← hab]; exact h.ext.size)
 obtain ⟨m5, hm5⟩ : ∃ m5, x.n.toNat % 5 = m5 := ⟨_, rfl⟩
 have hm5l : m5 < 5 := by omega
 have hrm : (x.n.toNat : Int).tmod 5 = (m5 : Int) := by rw [Int.tmod_eq_emod_of_nonneg (by omega)]; omega
 have hwm : IntKind.u32.wrap (m5 : Int) = (m5 : Int) := by rw [IntKind.wrap_u32]; omega
 have HOK := Lib.hid (And.intro ok hP)
 have HTL := Lib.hid (And.intro ht ho)
 clear h ok hP ht ho hm5
 go_enter Tryz.func46, Tryz.ntmps46
 go_upto_region 2 with fail
 obtain ⟨W1, hW1⟩ : ∃ W1, W.alloc (acto x) = W1 := ⟨_, rfl⟩
 rw [hab, hW1] at H1
 unfold acto at hW1
 try rw [hab]
 try rw [hW1]
 have HA1 : Hid (W1.heap[ab]? = some (acto x)) := Lib.hid (by rw [← hW1, ← hab]; exact heap_alloc_new _ _)
 clear hW1 hab
 have HR0 : Hid (Row W1 W1.heap.size 9 (.slice none 0 0) ((lsF x.other x.fit 0).map strV)) := Lib.hid (Row.nil _ _ _)
 have HE0 : Hid (Ext W1 W1) := Lib.hid (Ext.refl W1)
 go_wp2_with fail
 go_loopg [5, 6] m5 (fun q s5 s6 wr => ∃ i : Nat, s6 = .int .u32 (i : Int) ∧ i + q = m5 ∧ Hid (Row wr W1.heap.size 9 s5 ((lsF x.other x.fit i).map strV)) ∧ Hid (Ext W1 wr))
 case atStart => exact ⟨0, rfl, by omega, HR0, HE0⟩
 case round =>
  obtain ⟨i, rfl, hiq, HR, HE⟩ := hrel
  clear HR0 HE0
  obtain ⟨_, _, a2, a3, _, a5⟩ := acto_c (HE.out.keep HA1.out)
  cases gk with
  | succ q =>
   have hi5 : i < 5 := by omega
   have hii : (i : Int) < (m5 : Int) := by omega
   have hw8 : IntKind.u8.wrap (i : Int) = ((b8 i).toNat : Int) := by rw [b8_toNat _ (by omega), IntKind.wrap_u8]; omega
   have ks := one_str (b8 i)
   have hbl := HTL.out
   have hbx : ¬ 9223372036854775807 < x.other.length + 1 := by omega
   have GF := Lib.hid (fun W => root15F (x.other ++ [b8 i]) x.fit W (by simp; omega))
   have HS : Hid ((lsF x.other x.fit (i + 1)).map strV = (lsF x.other x.fit i).map strV ++ [strV (rootF (x.other ++ [b8 i]) x.fit)]) := Lib.hid (by rw [lsF_succ]; simp)
   have HLN : Hid (((lsF x.other x.fit i).map strV).length = i) := Lib.hid (by rw [List.length_map, lsF_length])
   generalize rootF (x.other ++ [b8 i]) x.fit = ki at *
   generalize b8 i = y at *
   have hsz := HE.out.size
   have hx9 := (Ext.refl wr).alloc (.cells #[.int .u8 (y.toNat : Int)] 5)
   have a5' := hx9.cell_of a5
   have hwi : IntKind.u32.wrap ((i : Int) + 1) = (i : Int) + 1 := by rw [IntKind.wrap_u32]; omega
   clear hbl
   go_wp2_with (first
    | (go_at_call 51; (with_reducible refine (GF.out _).mono ?_); rintro e w2 ⟨rfl, hx2⟩; have hx2s := hx2.size; have HX2 := Lib.hid (hx9.trans hx2))
    | (at_builtin; refine wpl_append rfl _ _ 25 rfl und_strs info_str rfl (by omega) W1.heap.size (by have := HX2.out.size; simp; omega) _ ((lsF x.other x.fit i).map strV) rfl (HR.out.ext (HX2.out.alloc _)) ⟨w2.heap.size, 0, none⟩ 1 1 [strV ki] rfl rfl (cells_one_new _ _ _) (oneCells [ki] (fun _ => rfl)) (by rw [HLN.out]; omega) ?_; intro v' w3 hrow3 hb3 _; have HR3 := Lib.hid hrow3; have HE3 := Lib.hid (((HE.out.trans HX2.out).alloc (.cells #[.string (bs ki)] 9)).trans_below hb3 (Nat.le_refl _)); clear hrow3 hb3))
   go_roundg q
   case measure => omega
   case rel => exact ⟨i + 1, by first | go_num | (congr 1), by omega, Lib.hid (by rw [HS.out]; exact HR3.out), HE3⟩
  | zero =>
  obtain rfl : i = m5 := by omega
  have hlt : decide ((i : Int) < (i : Int)) = false := by simp
  have hl5 := lsF_length x.other x.fit i
  have hlfit := lsF_fit x.text x.other x.fit i
  obtain ⟨al, cl, hv⟩ := slice_look HR.out (by rw [List.length_map, hl5])
  subst hv
  have hsl := Row.sl HR.out
  generalize lsF x.other x.fit i = l at *
  have hsl2 : Sl wr (.slice al l.length cl) (l.map strV) := by rw [hl5]; exact hsl
  have HSL := Lib.hid hsl2
  have hrt := rootF_len x.text x.fit (by have := HTL.out; omega)
  have hrk := rootF_len x.other x.fit (by have := HTL.out; omega)
  obtain ⟨o, er, s', hBR, hok', hsh⟩ := BegR.total s HOK.out.1 (rootF x.text x.fit) (rootF x.other x.fit) (nonceF x.text x.fit) l (by omega) hlfit
  have GT := Lib.hid (fun W => root15F x.text x.fit W (by have := HTL.out; omega))
  have GO := Lib.hid (fun W => root15F x.other x.fit W (by have := HTL.out; omega))
  have GN := Lib.hid (fun W => nonce15F x.text x.fit W (by have := HTL.out; omega))
  have GBP := Lib.hid (fun W (hB : ProgB w0 b s W) (hx : Ext wr W) => hl5 ▸ hBR.prog HOK.out.1 hB (by omega) (by omega) al cl (HSL.out.ext hx))
  have GBR := Lib.hid (fun W (hB : RefS w0.heap.size r s W) (hv : Sl W (.slice al l.length cl) (l.map strV)) => hl5 ▸ hBR.ref HOK.out.1 hB al cl hv)
  have H2 := Lib.hid (H1.out.next HE.out)
  have HOK2 := Lib.hid (And.intro hok' hsh)
  generalize rootF x.text x.fit = rt at *
  generalize rootF x.other x.fit = rk at *
  generalize nonceF x.text x.fit = nn at *
  have HROW : Hid (∀ W', KeepsN progTy wr W' → Sl W' (.slice al l.length cl) (l.map strV)) := Lib.hid (by
   intro W' hk
   rw [hl5]
   have hr := HR.out
   obtain ⟨r1, r2⟩ := hr
   have hq : Row W' W1.heap.size 9 (.slice al i cl) (l.map strV) := ⟨r1, by
    rcases r2 with r2 | ⟨g, cap, cur, hv, hg, hh, rr⟩
    ·exact .inl r2
    ·exact .inr ⟨g, cap, cur, hv, hg, hk g _ hh (by simp [progTy]), rr⟩⟩
   exact Row.sl hq)
  clear hl5 hlfit hsl hsl2 hrt hrk hBR hok' hsh a2 a5 HSL HE HR H1 HA1 hiq hm5l
  go_upto_region 6 with fail
  clear a3 hrm hwm hlt
  refine Loud.wp_region_loud (fun i => decide (i = 8 ∨ i = 13 ∨ i = 18 ∨ i = 20)) 26 (fun w' => w'.heap[p]? = some (plo b r sv P) ∧ w'.heap[ab]? = some (acto x)) (by kernel_rfl) (by kernel_rfl) ⟨H2.out.blk, (H2.out.keep (ab, acto x) (by simp)).1⟩ ?_
  simp only [List.take_succ_cons, List.take_zero]
  iterate 3 (refine Loud.lex_qe rfl rfl ?_; apply Exists.intro; refine ⟨fun wq hq => ?_, Loud.norm fun K hK => ?_⟩; (go_simp; try rfl); go_simp; refine hK _ ?_; clear hK K)
  refine Loud.lex_qe rfl rfl ?_; apply Exists.intro; refine ⟨fun wq hq => ?_, Loud.norm fun K hK => ?_⟩; (have hqc : wq.cell? ⟨p, 0, none⟩ = some (.pointer (some ⟨b, 0, none⟩)) := cell_blk hq.1 rfl; go_simp; try rfl); go_simp; refine hK _ ?_; clear hK K
  iterate 1 (refine Loud.lex_qe rfl rfl ?_; apply Exists.intro; refine ⟨fun wq hq => ?_, Loud.norm fun K hK => ?_⟩; (go_simp; try rfl); go_simp; refine hK _ ?_; clear hK K)
  refine Loud.lex_qe rfl rfl ?_; apply Exists.intro; refine ⟨fun wq hq => ?_, Loud.norm fun K hK => ?_⟩; (have hqc : wq.cell? ⟨ab, 1, none⟩ = some (.string (bs x.text)) := cell_blk hq.2 rfl; go_simp; try rfl); go_simp; refine hK _ ?_; clear hK K
  iterate 1 (refine Loud.lex_qe rfl rfl ?_; apply Exists.intro; refine ⟨fun wq hq => ?_, Loud.norm fun K hK => ?_⟩; (go_simp; try rfl); go_simp; refine hK _ ?_; clear hK K)
  refine Loud.lex_qe rfl rfl ?_; apply Exists.intro; refine ⟨fun wq hq => ?_, Loud.norm fun K hK => ?_⟩; (have hqc : wq.cell? ⟨ab, 5, none⟩ = some (.bool x.fit) := cell_blk hq.2 rfl; go_simp; try rfl); go_simp; refine hK _ ?_; clear hK K
  refine Loud.lex_l rfl rfl (fun K hK => ?_); go_simp; refine (GT.out _).mono ?_; rintro e w1 ⟨rfl, hx1⟩; have H3 := Lib.hid (H2.out.next ((Ext.refl wr).drew.trans hx1)); refine ⟨_, rfl, ?_⟩; go_simp; refine hK _ _ ⟨H3.out.blk, (H3.out.keep (ab, acto x) (by simp)).1⟩ ?_; clear hK K
  iterate 1 (refine Loud.lex_qe rfl rfl ?_; apply Exists.intro; refine ⟨fun wq hq => ?_, Loud.norm fun K hK => ?_⟩; (go_simp; try rfl); go_simp; refine hK _ ?_; clear hK K)
  refine Loud.lex_qe rfl rfl ?_; apply Exists.intro; refine ⟨fun wq hq => ?_, Loud.norm fun K hK => ?_⟩; (have hqc : wq.cell? ⟨ab, 2, none⟩ = some (.string (bs x.other)) := cell_blk hq.2 rfl; go_simp; try rfl); go_simp; refine hK _ ?_; clear hK K
  iterate 1 (refine Loud.lex_qe rfl rfl ?_; apply Exists.intro; refine ⟨fun wq hq => ?_, Loud.norm fun K hK => ?_⟩; (go_simp; try rfl); go_simp; refine hK _ ?_; clear hK K)
  refine Loud.lex_qe rfl rfl ?_; apply Exists.intro; refine ⟨fun wq hq => ?_, Loud.norm fun K hK => ?_⟩; (have hqc : wq.cell? ⟨ab, 5, none⟩ = some (.bool x.fit) := cell_blk hq.2 rfl; go_simp; try rfl); go_simp; refine hK _ ?_; clear hK K
  refine Loud.lex_l rfl rfl (fun K hK => ?_); go_simp; refine (GO.out _).mono ?_; rintro e w2 ⟨rfl, hx2⟩; have H4 := Lib.hid (H3.out.next hx2); refine ⟨_, rfl, ?_⟩; go_simp; refine hK _ _ ⟨H4.out.blk, (H4.out.keep (ab, acto x) (by simp)).1⟩ ?_; clear hK K
  iterate 1 (refine Loud.lex_qe rfl rfl ?_; apply Exists.intro; refine ⟨fun wq hq => ?_, Loud.norm fun K hK => ?_⟩; (go_simp; try rfl); go_simp; refine hK _ ?_; clear hK K)
  refine Loud.lex_qe rfl rfl ?_; apply Exists.intro; refine ⟨fun wq hq => ?_, Loud.norm fun K hK => ?_⟩; (have hqc : wq.cell? ⟨ab, 1, none⟩ = some (.string (bs x.text)) := cell_blk hq.2 rfl; go_simp; try rfl); go_simp; refine hK _ ?_; clear hK K
  iterate 1 (refine Loud.lex_qe rfl rfl ?_; apply Exists.intro; refine ⟨fun wq hq => ?_, Loud.norm fun K hK => ?_⟩; (go_simp; try rfl); go_simp; refine hK _ ?_; clear hK K)
  refine Loud.lex_qe rfl rfl ?_; apply Exists.intro; refine ⟨fun wq hq => ?_, Loud.norm fun K hK => ?_⟩; (have hqc : wq.cell? ⟨ab, 5, none⟩ = some (.bool x.fit) := cell_blk hq.2 rfl; go_simp; try rfl); go_simp; refine hK _ ?_; clear hK K
  refine Loud.lex_l rfl rfl (fun K hK => ?_); go_simp; refine (GN.out _).mono ?_; rintro e w3 ⟨rfl, hx3⟩; have H5 := Lib.hid (H4.out.next hx3); refine ⟨_, rfl, ?_⟩; go_simp; refine hK _ _ ⟨H5.out.blk, (H5.out.keep (ab, acto x) (by simp)).1⟩ ?_; clear hK K
  iterate 1 (refine Loud.lex_qe rfl rfl ?_; apply Exists.intro; refine ⟨fun wq hq => ?_, Loud.norm fun K hK => ?_⟩; (go_simp; try rfl); go_simp; refine hK _ ?_; clear hK K)
  have HX3 : Hid (Ext wr w3) := Lib.hid ((((Ext.refl wr).drew.trans hx1).trans hx2).trans hx3)
  clear hx1 hx2 hx3
  refine Loud.lex_l rfl rfl (fun K hK => ?_); go_simp; refine (GBP.out _ H5.out.prog HX3.out).mono ?_; rintro e w4 ⟨v, rfl, hsv, hp4, hk4⟩; have H6 := Lib.hid (H5.out.stepP hp4 hk4); have HSV := Lib.hid hsv; have HK4 := Lib.hid ((keepsN_ext HX3.out).trans hk4); clear hsv hp4 hk4; refine ⟨_, rfl, ?_⟩; go_simp; refine hK _ _ ⟨H6.out.blk, (H6.out.keep (ab, acto x) (by simp)).1⟩ ?_; clear hK K
  iterate 5 (refine Loud.lex_qe rfl rfl ?_; apply Exists.intro; refine ⟨fun wq hq => ?_, Loud.norm fun K hK => ?_⟩; (go_simp; try rfl); go_simp; refine hK _ ?_; clear hK K)
  refine Loud.lex_nil ?_
  simp only [List.drop_succ_cons, List.drop_zero]
  clear H2 H3 H4 H5 HX3 GBP
  go_upto_region 7 with fail
  refine Loud.wp_region_loud (fun i => decide (i = 8 ∨ i = 13 ∨ i = 18 ∨ i = 20)) 26 (fun w' => w'.heap[p]? = some (plo b r sv P) ∧ w'.heap[ab]? = some (acto x)) (by kernel_rfl) (by kernel_rfl) ⟨H6.out.blk, (H6.out.keep (ab, acto x) (by simp)).1⟩ ?_
  simp only [List.take_succ_cons, List.take_zero]
  iterate 3 (refine Loud.lex_qe rfl rfl ?_; apply Exists.intro; refine ⟨fun wq hq => ?_, Loud.norm fun K hK => ?_⟩; (go_simp; try rfl); go_simp; refine hK _ ?_; clear hK K)
  refine Loud.lex_qe rfl rfl ?_; apply Exists.intro; refine ⟨fun wq hq => ?_, Loud.norm fun K hK => ?_⟩; (have hqc : wq.cell? ⟨p, 1, none⟩ = some (.pointer (some ⟨r, 0, none⟩)) := cell_blk hq.1 rfl; go_simp; try rfl); go_simp; refine hK _ ?_; clear hK K
  iterate 1 (refine Loud.lex_qe rfl rfl ?_; apply Exists.intro; refine ⟨fun wq hq => ?_, Loud.norm fun K hK => ?_⟩; (go_simp; try rfl); go_simp; refine hK _ ?_; clear hK K)
  refine Loud.lex_qe rfl rfl ?_; apply Exists.intro; refine ⟨fun wq hq => ?_, Loud.norm fun K hK => ?_⟩; (have hqc : wq.cell? ⟨ab, 1, none⟩ = some (.string (bs x.text)) := cell_blk hq.2 rfl; go_simp; try rfl); go_simp; refine hK _ ?_; clear hK K
  iterate 1 (refine Loud.lex_qe rfl rfl ?_; apply Exists.intro; refine ⟨fun wq hq => ?_, Loud.norm fun K hK => ?_⟩; (go_simp; try rfl); go_simp; refine hK _ ?_; clear hK K)
  refine Loud.lex_qe rfl rfl ?_; apply Exists.intro; refine ⟨fun wq hq => ?_, Loud.norm fun K hK => ?_⟩; (have hqc : wq.cell? ⟨ab, 5, none⟩ = some (.bool x.fit) := cell_blk hq.2 rfl; go_simp; try rfl); go_simp; refine hK _ ?_; clear hK K
  refine Loud.lex_l rfl rfl (fun K hK => ?_); go_simp; refine (GT.out _).mono ?_; rintro e w5 ⟨rfl, hx1⟩; have H3 := Lib.hid (H6.out.next ((Ext.refl w4).drew.trans hx1)); refine ⟨_, rfl, ?_⟩; go_simp; refine hK _ _ ⟨H3.out.blk, (H3.out.keep (ab, acto x) (by simp)).1⟩ ?_; clear hK K
  iterate 1 (refine Loud.lex_qe rfl rfl ?_; apply Exists.intro; refine ⟨fun wq hq => ?_, Loud.norm fun K hK => ?_⟩; (go_simp; try rfl); go_simp; refine hK _ ?_; clear hK K)
  refine Loud.lex_qe rfl rfl ?_; apply Exists.intro; refine ⟨fun wq hq => ?_, Loud.norm fun K hK => ?_⟩; (have hqc : wq.cell? ⟨ab, 2, none⟩ = some (.string (bs x.other)) := cell_blk hq.2 rfl; go_simp; try rfl); go_simp; refine hK _ ?_; clear hK K
  iterate 1 (refine Loud.lex_qe rfl rfl ?_; apply Exists.intro; refine ⟨fun wq hq => ?_, Loud.norm fun K hK => ?_⟩; (go_simp; try rfl); go_simp; refine hK _ ?_; clear hK K)
  refine Loud.lex_qe rfl rfl ?_; apply Exists.intro; refine ⟨fun wq hq => ?_, Loud.norm fun K hK => ?_⟩; (have hqc : wq.cell? ⟨ab, 5, none⟩ = some (.bool x.fit) := cell_blk hq.2 rfl; go_simp; try rfl); go_simp; refine hK _ ?_; clear hK K
  refine Loud.lex_l rfl rfl (fun K hK => ?_); go_simp; refine (GO.out _).mono ?_; rintro e w6 ⟨rfl, hx2⟩; have H4 := Lib.hid (H3.out.next hx2); refine ⟨_, rfl, ?_⟩; go_simp; refine hK _ _ ⟨H4.out.blk, (H4.out.keep (ab, acto x) (by simp)).1⟩ ?_; clear hK K
  iterate 1 (refine Loud.lex_qe rfl rfl ?_; apply Exists.intro; refine ⟨fun wq hq => ?_, Loud.norm fun K hK => ?_⟩; (go_simp; try rfl); go_simp; refine hK _ ?_; clear hK K)
  refine Loud.lex_qe rfl rfl ?_; apply Exists.intro; refine ⟨fun wq hq => ?_, Loud.norm fun K hK => ?_⟩; (have hqc : wq.cell? ⟨ab, 1, none⟩ = some (.string (bs x.text)) := cell_blk hq.2 rfl; go_simp; try rfl); go_simp; refine hK _ ?_; clear hK K
  iterate 1 (refine Loud.lex_qe rfl rfl ?_; apply Exists.intro; refine ⟨fun wq hq => ?_, Loud.norm fun K hK => ?_⟩; (go_simp; try rfl); go_simp; refine hK _ ?_; clear hK K)
  refine Loud.lex_qe rfl rfl ?_; apply Exists.intro; refine ⟨fun wq hq => ?_, Loud.norm fun K hK => ?_⟩; (have hqc : wq.cell? ⟨ab, 5, none⟩ = some (.bool x.fit) := cell_blk hq.2 rfl; go_simp; try rfl); go_simp; refine hK _ ?_; clear hK K
  refine Loud.lex_l rfl rfl (fun K hK => ?_); go_simp; refine (GN.out _).mono ?_; rintro e w7 ⟨rfl, hx3⟩; have H5 := Lib.hid (H4.out.next hx3); refine ⟨_, rfl, ?_⟩; go_simp; refine hK _ _ ⟨H5.out.blk, (H5.out.keep (ab, acto x) (by simp)).1⟩ ?_; clear hK K
  iterate 1 (refine Loud.lex_qe rfl rfl ?_; apply Exists.intro; refine ⟨fun wq hq => ?_, Loud.norm fun K hK => ?_⟩; (go_simp; try rfl); go_simp; refine hK _ ?_; clear hK K)
  have HX3 : Hid (Ext w4 w7) := Lib.hid ((((Ext.refl w4).drew.trans hx1).trans hx2).trans hx3)
  clear hx1 hx2 hx3
  refine Loud.lex_l rfl rfl (fun K hK => ?_); go_simp; refine (GBR.out _ H5.out.ref (HROW.out _ (HK4.out.trans (keepsN_ext HX3.out)))).mono ?_; rintro e w8 ⟨v2, rfl, hsv2, hp4, hk4⟩; have H7 := Lib.hid (H5.out.stepR hp4 hk4); have HSV2 := Lib.hid hsv2; have HSV1 := Lib.hid ((HSV.out.ext HX3.out).keepR hk4.keeps); clear hsv2 hp4 hk4; refine ⟨_, rfl, ?_⟩; go_simp; refine hK _ _ ⟨H7.out.blk, (H7.out.keep (ab, acto x) (by simp)).1⟩ ?_; clear hK K
  iterate 5 (refine Loud.lex_qe rfl rfl ?_; apply Exists.intro; refine ⟨fun wq hq => ?_, Loud.norm fun K hK => ?_⟩; (go_simp; try rfl); go_simp; refine hK _ ?_; clear hK K)
  refine Loud.lex_nil ?_
  simp only [List.drop_succ_cons, List.drop_zero]
  clear H3 H4 H5 H6 HX3 GBR HSV HROW HK4 GT GO GN
  obtain ⟨ax, cx, hvx, hcx⟩ := HSV1.out.slice
  obtain ⟨ay, cy, hvy, hcy⟩ := HSV2.out
  have HCX := Lib.hid hcx
  have HCY := Lib.hid hcy
  obtain ⟨n, hn⟩ : ∃ n, (o.getD []).length = n := ⟨_, rfl⟩
  have HN := Lib.hid hn
  have HVX := Lib.hid hvx
  rw [hn] at hvx hvy
  subst hvx hvy
  have hn5 : n ≤ 5 := by
   rw [← hn]
   cases o with
   | none => simp
   | some sh => exact (HOK2.out.2 sh rfl).1
  have HE8 : Hid (Ext w8 w8) := Lib.hid (Ext.refl w8)
  clear hcx hcy hn
  go_wp2_with fail
  go_loopg [11] n (fun q s11 wz => ∃ j : Nat, s11 = .int .i64 (j : Int) ∧ j + q = n ∧ Hid (Ext w8 wz))
  case atStart => exact ⟨0, rfl, by omega, HE8⟩
  case round =>
   obtain ⟨j, rfl, hjq, HE⟩ := hrel
   clear HE8
   cases gk with
   | succ q =>
    have hjn : j < (o.getD []).length := by have := HN.out; omega
    have hji : (j : Int) < (n : Int) := by omega
    obtain ⟨gx, hgx, hcx⟩ := HCX.out j hjn
    obtain ⟨gy, hgy, hcy⟩ := HCY.out j hjn
    have hcx2 := HE.out.cell_of hcx
    have hcy2 := HE.out.cell_of hcy
    obtain ⟨z, hz⟩ : ∃ z, (o.getD [])[j] = z := ⟨_, rfl⟩
    rw [hz] at hcx2 hcy2
    change _ = some (Value.string (bs z)) at hcx2
    change _ = some (Value.string (bs z)) at hcy2
    subst hgx hgy
    clear hz hcx hcy
    go_upto_region 13 with fail
    go_quiet (fail)
    go_wp2
    go_roundg q
    case measure => omega
    case rel => exact ⟨j + 1, by go_num, by omega, Lib.hid (HE.out.drewN _)⟩
   | zero =>
   obtain rfl : j = n := by omega
   have hlt : decide ((j : Int) < (j : Int)) = false := by simp
   have H8 := Lib.hid (H7.out.next HE.out)
   by_cases her : er = 0
   ·subst her
    obtain ⟨_, _, d2, _, _, _, hf⟩ := H8.out.cells
    have hf2 := hf 2
    clear hf
    go_wp2_with fail
    go_returns
    have hrow : ShV wr (.slice ax j cx) (o.getD []) := HVX.out ▸ HSV1.out.ext HE.out
    refine ⟨rfl, b, r, .slice ax j cx, ⟨o.getD [], P.hd, P.put, P.n⟩, s', PW.less (H8.out.set (i := 2) (v := .slice ax j cx) (heap_setCell_same (i := 2) _ H8.out.blk) (H8.out.set_prog H8.out.prog _ _) (H8.out.set_ref H8.out.ref _ _) (H8.out.set_row hrow _ _)), HOK2.out.1, ?_⟩
    refine ⟨by show (o.getD []).length ≤ 5; have := HN.out; omega, fun z hz => ?_, HOK.out.2.hdl, HOK.out.2.putl, HOK.out.2.num⟩
    cases o with
    | none => simp at hz
    | some sh => exact (HOK2.out.2 sh rfl).2 z hz
   ·have her1 : (er == 0) = false := by simpa using her
    clear her
    go_wp2_with fail
    go_returns
    exact ⟨rfl, b, r, sv, P, s', H8.out.less, HOK2.out.1, HOK.out.2⟩
end Go.Proofs.YtclekllaikcglaaGreat
