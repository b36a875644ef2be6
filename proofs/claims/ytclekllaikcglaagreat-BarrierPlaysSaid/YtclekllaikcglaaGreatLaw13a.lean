import Derived.Test.YtclekllaikcglaaGreatSortJ
import Derived.Test.YtclekllaikcglaaGreatSeal
import Derived.Test.YtclekllaikcglaaGreatBase
import Derived.Shelf.SlMaps.Clone
import Derived.Deep.CutRange

/- Layer 13: rings between calls; the statements' heavy and works. -/
namespace Go.Proofs.YtclekllaikcglaaGreat
open Go Go.RowKit
structure RI (E : Eps) (n : Nat) : Prop where
 asc : AscE E
 last : ∃ E0 key, E = E0 ++ [(n, key)]
 len : E.length ≤ 64
 key : ∀ p ∈ E, p.2.length = 32
 pos : 0 < n
theorem RI.ne {E : Eps} {n : Nat} (h : RI E n) : E ≠ [] := by
 obtain ⟨E0, key, rfl⟩ := h.last
 simp
theorem RI.le {E : Eps} {n : Nat} (h : RI E n) : ∀ p ∈ E, p.1 ≤ n := by
 obtain ⟨E0, key, rfl⟩ := h.last
 have := h.asc
 unfold AscE at this
 rw [List.pairwise_append] at this
 intro p hp
 rcases List.mem_append.1 hp with hp | hp
 ·exact Nat.le_of_lt (this.2.2 p hp (n, key) (by simp))
 ·simp at hp; subst hp; exact Nat.le_refl _
theorem look_mem : ∀ {E : Eps}, AscE E → ∀ p ∈ E, lookE E p.1 = some p.2
 | [], _, _, hp => by cases hp
 | q :: E, h, p, hp => by
  unfold AscE at h
  rw [List.pairwise_cons] at h
  rw [lookE_cons]
  rcases List.mem_cons.1 hp with rfl | hp
  ·rw [if_pos rfl]
  ·have := h.1 p hp
   rw [if_neg (by omega)]
   exact look_mem h.2 p hp
theorem RI.look {E : Eps} {n : Nat} (h : RI E n) : ∃ s, lookE E n = some s ∧ s.length = 32 := by
 have h2 := h
 obtain ⟨E0, key, rfl⟩ := h.last
 exact ⟨key, look_mem h2.asc (n, key) (by simp), h2.key (n, key) (by simp)⟩
theorem RI.new {E : Eps} {n e : Nat} (h : RI E n) (he : n < e) : lookE E e = none := lookE_not fun p hp => by have := h.le p hp; omega
theorem RI.rot {E : Eps} {n : Nat} {key : List UInt8} (h : RI E n) (hl : E.length < 64) (hk : key.length = 32) : RI (E ++ [(n + 1, key)]) (n + 1) :=
 ⟨h.asc.snoc fun p hp => by have := h.le p hp; omega, ⟨E, key, rfl⟩, by simp; omega, fun p hp => by
  rcases List.mem_append.1 hp with hp | hp
  ·exact h.key p hp
  ·simp at hp; subst hp; exact hk, by omega⟩
theorem RI.gone {E : Eps} {n e : Nat} (h : RI E n) (he : e ≠ n) : RI (goneE E e) n := by
 refine ⟨h.asc.gone e, ?_, Nat.le_trans (List.length_eraseP_le ..) h.len, gone_key h.key e, h.pos⟩
 obtain ⟨E0, key, rfl⟩ := h.last
 by_cases hx : ∃ p ∈ E0, p.1 = e
 ·obtain ⟨p, hp, hpe⟩ := hx
  exact ⟨goneE E0 e, key, by unfold goneE; rw [List.eraseP_append_left (by simp [hpe]) _ hp]⟩
 ·refine ⟨E0, key, ?_⟩
  unfold goneE
  rw [List.eraseP_of_forall_not]
  intro p hp
  rcases List.mem_append.1 hp with hp | hp
  ·intro hc; exact hx ⟨p, hp, by simpa using hc⟩
  ·simp at hp; subst hp; simp; omega
theorem ri_one (key : List UInt8) (h : key.length = 32) : RI [(1, key)] 1 := ⟨by simp [AscE], ⟨[], key, rfl⟩, by simp, fun p hp => by simp at hp; subst hp; exact h, by omega⟩
theorem but_pair {r m : Nat} {w w' : World} (h : But [m] w w') : But [r, m] w w' := h.mono (by simp)
end Go.Proofs.YtclekllaikcglaaGreat

/- Layer 13: a ring's bytes, and a copy. -/
namespace Go.Proofs.YtclekllaikcglaaGreat
open Go Go.RowKit
open Go.ChangeMaps (setBlock)
def entB (p : Nat × List UInt8) : List UInt8 := putB 4 p.1 ++ p.2
def bytesE (E : Eps) : List UInt8 := [b8 E.length] ++ E.flatMap entB
theorem run_lookM0 {P : Program} {w : World} {T kt et : TypeId} {q : IntKind} {b : Nat} {L : Ents} {clk : Nat} (hT : P.underlying T = some (.map kt et)) (hk : P.underlying kt = some (.int q)) (hb : w.heap[b]? = some (mobj q L clk)) (i : Int) {v : Value} (hv : lookM L i = some v) :
  (Instr.lookup T (.map (some b)) (.int q i) false).run P w = .ok v w := by
 obtain ⟨r, h1, h2, -⟩ := run_findKey_int (P := P) (w := w) (L := L) hk i
 unfold mobj at hb
 have hg := MapKept.run_getObj_map (P := P) hb
 rw [hv] at h2
 cases r with
 | none => cases h2
 | some p =>
  obtain ⟨j, v'⟩ := p
  simp at h2
  subst h2
  simp [Instr.lookup, run_underlying hT, hg, run_checkKey_int hk, h1]
def EpA (E : Eps) (w : World) (e : Ending) (w' : World) : Prop := ∃ g cap, e = .returned (.slice (some ⟨g, 0, none⟩) E.length cap) ∧ (∀ k, (hk : k < E.length) → w'.cell? ⟨g, k, none⟩ = some (.int .u32 (E[k].1 : Int))) ∧ g < w'.heap.size ∧ Ext w w'
theorem epochs_a (w : World) (r m : Nat) (E : Eps) (n : Nat) (h : RingAt w r m E n) (hI : RI E n) : Calls Tryz.prog 43 #[.pointer (some ⟨r, 0, none⟩)] w (EpA E w) := by
 refine (ring_Epochs r m E n w h hI.pos hI.asc hI.ne (by have := hI.len; omega)).mono ?_
 rintro e w' ⟨v, rfl, h1, h2⟩
 rcases h1.look with ⟨_, h0⟩ | ⟨g, cap, cur, rfl, _, hh, _⟩
 ·exact absurd (by simpa using h0) hI.ne
 ·refine ⟨g, cap, by simp, fun k hk => ?_, blk_lt hh, h2⟩
  have := Row.cellAt h1 k (by simpa using hk)
  rw [this]; simp
theorem flat_take_succ (E : Eps) (k : Nat) (hk : k < E.length) : (E.take (k + 1)).flatMap entB = (E.take k).flatMap entB ++ (putB 4 E[k].1 ++ E[k].2) := by
 rw [List.take_succ_eq_append_getElem hk, List.flatMap_append]
 simp [entB]
set_option maxRecDepth 100000 in
set_option maxHeartbeats 4000000 in
theorem ring_Bytes (r m : Nat) (E : Eps) (n : Nat) (w : World) (h : RingAt w r m E n) (hI : RI E n) (hn : n < 4294967296) :
  Calls Tryz.prog 57 #[.pointer (some ⟨r, 0, none⟩)] w fun e w' => e = .returned (.string (bs (bytesE E))) ∧ Ext w w' := by
 have GE := Lib.hid (epochs_a w r m E n h hI)
 have HB : Hid (bytesE E = [b8 E.length] ++ E.flatMap entB) := Lib.hid rfl
 generalize bytesE E = B at *
 obtain ⟨L, clk, hL, hBo, c, d⟩ := h
 have HLK := Lib.hid (fun (k : Nat) (hk : k < E.length) => show lookM L (E[k].1 : Int) = some (.string (bs E[k].2)) by
  rw [look_of L E E[k].1 hL, look_mem hI.asc E[k] (List.getElem_mem hk)]; rfl)
 have HLE := Lib.hid (fun (k : Nat) (hk : k < E.length) => hI.le E[k] (List.getElem_mem hk))
 have h64 := hI.len
 have hne : 0 < E.length := List.length_pos_iff.2 hI.ne
 have HC := Lib.hid c
 have HD := Lib.hid d
 have HKEY := Lib.hid hI.key
 obtain ⟨N, hN⟩ : ∃ N, E.length = N := ⟨_, rfl⟩
 have HN := Lib.hid hN
 rw [hN] at h64 hne HB
 have hw8 : IntKind.u8.wrap (N : Int) = ((b8 N).toNat : Int) := by rw [b8_toNat _ (by omega), IntKind.wrap_u8]; omega
 have ks := one_str (b8 N)
 generalize b8 N = bN at *
 have hNe : ((N : Int) == 0) = false := by simp; omega
 clear hL hBo c d hI hN
 go_enter Tryz.func57, Tryz.ntmps57
 go_wp2_with (go_at_call 43; (with_reducible refine GE.out.mono ?_); rintro e w1 ⟨g, cap, rfl, hcs, _, hx1⟩; have HCS := Lib.hid hcs; have HX1 := Lib.hid hx1; rw [HN.out]; clear hcs hx1)
 have HX2 : Hid (Ext w1 (w1.alloc (.cells #[.int .u8 (bN.toNat : Int)] 5))) := Lib.hid ((Ext.refl w1).alloc _)
 clear ks hw8 hNe
 go_loopg [4, 19] N (fun q s4 s19 wr => ∃ (k : Nat) (t : List UInt8), s4 = .string (bs t) ∧ s19 = .int .i64 (k : Int) ∧ k + q = N ∧ t.length ≤ 1 + 36 * k ∧ Hid (t = [bN] ++ (E.take k).flatMap entB) ∧ Ext w1 wr)
 case atStart => exact ⟨0, [bN], rfl, rfl, by omega, by simp, Lib.hid (by simp), HX2.out⟩
 case round =>
  obtain ⟨k, t, rfl, rfl, hkq, htl, HT, hx⟩ := hrel
  clear HX2 GE
  cases gk with
  | zero =>
   obtain rfl : k = N := by omega
   have HR : Hid (t = B) := Lib.hid (by rw [HT.out, HB.out, List.take_of_length_le (by have := HN.out; omega)])
   have hlt : decide ((k : Int) < (k : Int)) = false := by simp
   clear HT
   go_wp2
   go_returns
   rw [HR.out]
   exact ⟨rfl, HX1.out.trans hx⟩
  | succ q =>
   have hkN : k < N := by omega
   have hkE : k < E.length := by have := HN.out; omega
   have ce := hx.cell_of (HCS.out k hkE)
   have hlk := HLK.out k hkE
   have hle := HLE.out k hkE
   have HS : Hid ((E.take (k + 1)).flatMap entB = (E.take k).flatMap entB ++ (putB 4 E[k].1 ++ E[k].2)) := Lib.hid (flat_take_succ E k hkE)
   obtain ⟨e, he⟩ : ∃ e, E[k].1 = e := ⟨_, rfl⟩
   obtain ⟨key, hkey⟩ : ∃ e, E[k].2 = e := ⟨_, rfl⟩
   rw [he, hkey] at hlk
   rw [he, hkey] at HS
   rw [he] at ce hle
   have hd := hx.keep (HX1.out.keep HD.out)
   have hc := hx.keep (HX1.out.keep HC.out)
   have c0 := cell_blk (i := 0) hc rfl
   have HDW := Lib.hid hd
   have HLKE := Lib.hid hlk
   have GP := Lib.hid (fun W => Put32_any e W (by unfold U32; omega))
   have hkNi : (k : Int) < (N : Int) := by omega
   have hpl : (putB 4 e).length = 4 := by simp
   have hkl : key.length = 32 := by rw [← hkey]; exact HKEY.out _ (List.getElem_mem hkE)
   have htb : ¬ 9223372036854775807 < t.length + 36 := by omega
   generalize putB 4 e = pe at *
   clear he hkey hlk hd hc hle hkE
   go_upto_region 8 with fail
   refine Loud.wp_region_weave 11 wr (Loud.sps [.val (.string (bs t)), .val (.int .u32 (e : Int)), .val (.string (bs pe)), .val (.pointer (some ⟨r, 0, none⟩)), .val (.pointer (some ⟨r, 0, none⟩)), .val (.pointer (some ⟨r, 0, none⟩)), .val (.map (some m)), .val (.int .u32 (e : Int)), .val (.string (bs key)), .val (.string (bs (pe ++ key))), .val (.string (bs (t ++ (pe ++ key))))]) (by kernel_rfl) (by kernel_rfl) (by show Ext _ _; repeat (first | exact Ext.refl _ | assumption | (with_reducible refine Ext.drew ?_) | (with_reducible refine Ext.drewN ?_ _) | (with_reducible refine Ext.alloc ?_ _) | (refine Ext.trans ?_ (by assumption)))) (Loud.sps_st _) ?wAx1 ?whAx1 ?whSx1 ?whFx1
   case whAx1 => intro u K hK; simp only [List.take_succ_cons, List.take_zero, Loud.puts]; go_simp; exact hK
   case whSx1 =>
    refine ⟨?wsx1_0, ?wsx1_1, ?wsx1_2, ?wsx1_3, ?wsx1_4, ?wsx1_5, ?wsx1_6, ?wsx1_7, ?wsx1_8, ?wsx1_9, ?wsx1_10, trivial⟩
    all_goals (intro u β wq hq h; repeat (obtain ⟨h1, h⟩ := h; first | (replace h1 := h1 rfl; simp only [go_sem] at h1; try (obtain ⟨h1, h1b⟩ := h1)) | (have hno := (h1 : Region.binds _ _ = true → _); clear hno h1)))
    case wsx1_2 =>
     refine Or.inl ⟨rfl, fun K hK => ?_⟩
     go_simp
     refine (GP.out _).mono ?_; rintro e w1 ⟨rfl, hx1⟩; exact ⟨_, rfl, hK _ 0 _ hx1 rfl⟩
    case wsx1_6 =>
     refine Or.inl ⟨rfl, fun K hK => ?_⟩
     have hqc := hq.cell_of c0
     go_simp
     exact hK _ 0 _ (Ext.refl _) rfl
    case wsx1_8 =>
     refine Or.inl ⟨rfl, fun K hK => ?_⟩
     have hql := run_lookM0 (P := Tryz.prog) und_map und_u32 (hq.keep HDW.out) (e : Int) HLKE.out
     go_simp
     exact hK _ 0 _ (Ext.refl _) rfl
    all_goals (first | refine Or.inl ⟨rfl, fun K hK => ?_⟩ | refine Or.inl ⟨Loud.wanted_of rfl rfl (congrArg some (by assumption)), fun K hK => ?_⟩); go_simp; exact hK _ 0 _ (Ext.refl _) rfl
   intro u β w5 hq h
   have h0 := h 0 (by omega)
   have h1 := h 1 (by omega)
   have h2 := h 2 (by omega)
   have h3 := h 3 (by omega)
   have h4 := h 4 (by omega)
   have h5 := h 5 (by omega)
   have h6 := h 6 (by omega)
   have h7 := h 7 (by omega)
   have h8 := h 8 (by omega)
   have h9 := h 9 (by omega)
   have h10 := h 10 (by omega)
   clear h
   simp only [go_sem] at h0 h1 h2 h3 h4 h5 h6 h7 h8 h9 h10
   simp only [List.drop_succ_cons, List.drop_zero]
   rw [h10]
   have hx5 := hx.trans hq
   clear h0 h1 h2 h3 h4 h5 h6 h7 h8 h9 h10 hq c0 ce hx
   go_wp2
   go_roundg q
   case measure => omega
   case rel => exact ⟨k + 1, _, rfl, by go_num, by omega, by simp; omega, Lib.hid (by rw [HS.out, HT.out]; simp), hx5⟩
end Go.Proofs.YtclekllaikcglaaGreat

/- Layer 13: a ring that is read. -/
namespace Go.Proofs.YtclekllaikcglaaGreat
open Go Go.RowKit
open Go.ChangeMaps (setBlock)
def lastE (E : Eps) : Nat := ((E.getLast?).map (·.1)).getD 0
theorem lastE_snoc (E : Eps) (p : Nat × List UInt8) : lastE (E ++ [p]) = p.1 := by simp [lastE]
def entryAt (s : List UInt8) (k : Nat) : Nat × List UInt8 := (getB (seg s (1 + 36 * k) 4), seg s (5 + 36 * k) 32)
def readN (s : List UInt8) : Nat → Option Eps
 | 0 => some []
 | k + 1 => (readN s k).bind fun E => if (entryAt s k).1 ≤ lastE E then none else some (E ++ [entryAt s k])
def readE (s : List UInt8) : Option Eps := if 1 ≤ (s.getD 0 0).toNat ∧ (s.getD 0 0).toNat ≤ 64 ∧ s.length = 1 + 36 * (s.getD 0 0).toNat then readN s (s.getD 0 0).toNat else none
theorem readN_none (s : List UInt8) (k : Nat) (h : readN s k = none) : ∀ j, readN s (k + j) = none
 | 0 => h
 | j + 1 => by rw [← Nat.add_assoc, readN, readN_none s k h j]; rfl
structure Good (E : Eps) (k : Nat) : Prop where
 len : E.length = k
 asc : AscE E
 le : ∀ p ∈ E, p.1 ≤ lastE E ∧ 0 < p.1
 key : ∀ p ∈ E, p.2.length = 32
 small : lastE E < 4294967296
theorem readN_good (s : List UInt8) : ∀ (k : Nat) (E : Eps), 1 + 36 * k ≤ s.length → readN s k = some E → Good E k
 | 0, E, _, h => by
  injection h with h; subst h
  exact ⟨rfl, by simp [AscE], by simp, by simp, by simp [lastE]⟩
 | k + 1, E, hl, h => by
  rw [readN] at h
  cases h0 : readN s k with
  | none => rw [h0] at h; cases h
  | some E0 =>
   rw [h0] at h
   have ih := readN_good s k E0 (by omega) h0
   simp only [Option.bind_some] at h
   split at h
   ·cases h
   ·rename_i hlt
    injection h with h
    subst h
    have hb := getB_lt (seg s (1 + 36 * k) 4)
    rw [seg_length s _ 4 (by omega)] at hb
    have hent : (entryAt s k).1 = getB (seg s (1 + 36 * k) 4) := rfl
    refine ⟨by simp [ih.len], ih.asc.snoc fun p hp => by have := (ih.le p hp).1; omega, ?_, ?_, ?_⟩
    ·rw [lastE_snoc]
     intro p hp
     rcases List.mem_append.1 hp with hp | hp
     ·have := ih.le p hp
      exact ⟨by omega, this.2⟩
     ·simp at hp; subst hp; exact ⟨Nat.le_refl _, by omega⟩
    ·intro p hp
     rcases List.mem_append.1 hp with hp | hp
     ·exact ih.key p hp
     ·simp at hp; subst hp; exact seg_length s _ 32 (by omega)
    ·rw [lastE_snoc]; exact hb
theorem Good.ri {E : Eps} {k : Nat} (h : Good E k) (hk : 1 ≤ k) (hk2 : k ≤ 64) : RI E (lastE E) := by
 have hne : E ≠ [] := by intro e; subst e; have := h.len; simp at this; omega
 obtain ⟨E0, p, rfl⟩ : ∃ E0 p, E = E0 ++ [p] := ⟨E.dropLast, E.getLast hne, (List.dropLast_concat_getLast hne).symm⟩
 refine ⟨h.asc, ⟨E0, p.2, by rw [lastE_snoc]⟩, by rw [h.len]; exact hk2, h.key, ?_⟩
 rw [lastE_snoc]; exact (h.le p (by simp)).2
theorem Good.new {E : Eps} {k e : Nat} (h : Good E k) (he : lastE E < e) : lookE E e = none := lookE_not fun p hp => by have := (h.le p hp).1; omega
theorem Ext.setB {a w : World} (h : Ext a w) {b : Nat} (hb : a.heap.size ≤ b) (o : Obj) : Ext a (setBlock w b o) :=
 ⟨h.os, h.tape, h.output, by simp [setBlock]; exact h.size, fun k hk => (heap_setB_other _ _ _ (by omega)).trans (h.block hk)⟩
set_option maxRecDepth 100000 in
theorem read_next (A S f n : Nat) (s : List UInt8) (w : World) (h1 : w.heap[A]? = some (.cells #[.int .i64 (f : Int)] 3)) (h2 : w.heap[S]? = some (.cells #[.string (bs s)] 9)) (hf : f + n ≤ s.length) (hs : s.length ≤ 1000000) :
  Calls Tryz.prog 64 #[.int .i64 (n : Int), .pointer (some ⟨A, 0, none⟩), .pointer (some ⟨S, 0, none⟩)] w fun e w' => e = .returned (.string (bs (seg s f n))) ∧ w' = w.setCell ⟨A, 0, none⟩ (.int .i64 ((f + n : Nat) : Int)) := by
 have c1 := cell_blk (i := 0) h1 rfl
 have hne : S ≠ A := by rintro rfl; rw [h1] at h2; cases h2
 have f1 : w.frozen? ⟨A, 0, none⟩ = false := frozen_blk h1
 obtain ⟨t, ht⟩ : ∃ t, f + n = t := ⟨_, rfl⟩
 have hti : (f : Int) + (n : Int) = (t : Int) := by omega
 have htf : (t : Int) - (n : Int) = (f : Int) := by omega
 have hft : (f : Int) ≤ (t : Int) := by omega
 have hts : (t : Int) ≤ (s.length : Int) := by omega
 have c3 : ∀ v, (w.setCell ⟨A, 0, none⟩ v).cell? ⟨S, 0, none⟩ = some (.string (bs s)) := fun v => cell_blk (i := 0) ((heap_setCell_other w ⟨A, 0, none⟩ v hne).trans h2) rfl
 have hx : (bs s).extract f t = bs (seg s f n) := by rw [bs_extract, ← ht, Nat.add_sub_cancel_left]; rfl
 rw [ht]
 have ht9 : t ≤ 1000000 := by omega
 have hn9 : n ≤ 1000000 := by omega
 have hf9 : f ≤ 1000000 := by omega
 generalize seg s f n = y at *
 clear h1 h2 ht hf
 go_enter Tryz.func64, Tryz.ntmps64
 go_wp2
 go_returns
 exact ⟨rfl, rfl⟩
def RdX (s : List UInt8) (w : World) (e : Ending) (w' : World) : Prop :=
 (readE s = none ∧ e = .returned (.tuple #[.pointer none, .int .i64 7]) ∧ Ext w w') ∨
 (∃ E r m, readE s = some E ∧ e = .returned (.tuple #[.pointer (some ⟨r, 0, none⟩), .int .i64 0]) ∧ RI E (lastE E) ∧ lastE E < 4294967296 ∧ RingAt w' r m E (lastE E) ∧ w.heap.size ≤ r ∧ w.heap.size ≤ m ∧ Ext w w')
structure RdAt (w0 : World) (s : List UInt8) (S A r m : Nat) (E : Eps) (k : Nat) (w : World) : Prop where
 ext : Ext w0 w
 sbox : w.heap[S]? = some (.cells #[.string (bs s)] 9)
 abox : w.heap[A]? = some (.cells #[.int .i64 ((1 + 36 * k : Nat) : Int)] 3)
 ring : RingAt w r m E (lastE E)
 good : Good E k
 says : readN s k = some E
set_option maxRecDepth 100000 in
set_option maxHeartbeats 8000000 in
theorem ring_Read (s : List UInt8) (w : World) (hs : s.length ≤ 1000000) : Calls Tryz.prog 38 #[.string (bs s)] w (RdX s w) := by
 have hc1 : (w.alloc (.cells #[.string (bs s)] 9)).cell? ⟨w.heap.size, 0, none⟩ = some (.string (bs s)) := cell_blk (heap_alloc_new _ _) rfl
 obtain ⟨b, hb⟩ : ∃ b, s.getD 0 0 = b := ⟨_, rfl⟩
 have hbn := b.toNat_lt
 by_cases h1 : s.length < 1
 ·have HN : Hid (readE s = none) := Lib.hid (by rw [readE, if_neg (by rw [hb]; omega)])
  have h1i : (s.length : Int) < 1 := by omega
  clear hb h1
  go_enter Tryz.func38, Tryz.ntmps38
  go_wp2_with fail
  go_quiet (fail)
  go_wp2
  go_returns
  exact .inl ⟨HN.out, rfl, ((Ext.refl w).alloc _).drewN _⟩
 have h1d : decide ((s.length : Int) < 1) = false := by simp; omega
 have iS : ∀ W, (Instr.index 9 (.string (bs s)) (.int .i64 0)).run Tryz.prog W = .ok (.int .u8 ((s.getD 0 0).toNat : Int)) W := fun W => run_index_str s 0 (by omega) W
 rw [hb] at iS
 obtain ⟨B, hB⟩ : ∃ B, b.toNat = B := ⟨_, rfl⟩
 rw [hB] at iS hbn
 have HR : Hid (readE s = if 1 ≤ B ∧ B ≤ 64 ∧ s.length = 1 + 36 * B then readN s B else none) := Lib.hid (by rw [readE, hb, hB])
 clear hb hB
 by_cases h2 : B < 1
 ·have HN : Hid (readE s = none) := Lib.hid (by rw [HR.out, if_neg (by omega)])
  have h2i : (B : Int) < 1 := by omega
  clear h1 h2 HR
  go_enter Tryz.func38, Tryz.ntmps38
  go_wp2_with fail
  go_quiet (fail)
  go_wp2
  go_returns
  exact .inl ⟨HN.out, rfl, ((Ext.refl w).alloc _).drewN _⟩
 have h2d : decide ((B : Int) < 1) = false := by simp; omega
 by_cases h3 : 64 < B
 ·have HN : Hid (readE s = none) := Lib.hid (by rw [HR.out, if_neg (by omega)])
  have h3i : (64 : Int) < (B : Int) := by omega
  clear h1 h2 h3 HR
  go_enter Tryz.func38, Tryz.ntmps38
  go_wp2_with fail
  go_quiet (fail)
  go_wp2
  go_returns
  exact .inl ⟨HN.out, rfl, ((Ext.refl w).alloc _).drewN _⟩
 have h3d : decide ((64 : Int) < (B : Int)) = false := by simp; omega
 have hm : (1 : Int) + (B : Int) * 36 = ((1 + 36 * B : Nat) : Int) := by omega
 have hmw : IntKind.i64.wrap ((B : Int) * 36) = (B : Int) * 36 := by rw [IntKind.wrap_i64]; omega
 have hmw2 : IntKind.i64.wrap ((1 : Int) + (B : Int) * 36) = (1 : Int) + (B : Int) * 36 := by rw [IntKind.wrap_i64]; omega
 obtain ⟨M, hM⟩ : ∃ M, 1 + 36 * B = M := ⟨_, rfl⟩
 rw [hM] at hm HR
 by_cases h4 : s.length = M
 ·have hne : ((s.length : Int) != (M : Int)) = false := by simp; omega
  have HB1 : Hid (1 ≤ B ∧ B ≤ 64) := Lib.hid (by omega)
  have HR2 : Hid (readE s = readN s B) := Lib.hid (by rw [HR.out, if_pos ⟨by omega, by omega, h4⟩])
  have H4 := Lib.hid h4
  have HM := Lib.hid hM
  clear HR h1 h2 h3 h4 hM
  have hmm := @run_makeMap Tryz.prog
  go_enter Tryz.func38, Tryz.ntmps38
  go_wp2_with fail
  go_quiet (fail)
  go_wp2_with fail
  obtain ⟨S, hS⟩ : ∃ S, w.heap.size = S := ⟨_, rfl⟩
  obtain ⟨W0, hW0⟩ : ∃ W0, ((((w.alloc (.cells #[.string (bs s)] 9)).drewN nq).alloc (.cells #[.int .i64 1] 3)).alloc (.map #[] 0)).alloc (.cells #[.map (some (w.heap.size + 1 + 1)), .int .u32 0] 99) = W0 := ⟨_, rfl⟩
  have z1 : (((w.alloc (.cells #[.string (bs s)] 9)).drewN nq)).heap.size = S + 1 := by simp [hS]
  have z2 : (((w.alloc (.cells #[.string (bs s)] 9)).drewN nq).alloc (.cells #[.int .i64 1] 3)).heap.size = S + 1 + 1 := by simp [hS]
  have z3 : ((((w.alloc (.cells #[.string (bs s)] 9)).drewN nq).alloc (.cells #[.int .i64 1] 3)).alloc (.map #[] 0)).heap.size = S + 1 + 1 + 1 := by simp [hS]
  have xs0 : (w.alloc (.cells #[.string (bs s)] 9)).heap[S]? = some (.cells #[.string (bs s)] 9) := by rw [← hS]; exact heap_alloc_new _ _
  have xs : W0.heap[S]? = some (.cells #[.string (bs s)] 9) := by rw [← hW0]; exact heap_alloc_old _ _ (heap_alloc_old _ _ (heap_alloc_old _ _ (by rw [heap_drewN]; exact xs0)))
  have xa : W0.heap[S + 1]? = some (.cells #[.int .i64 1] 3) := by rw [← hW0, ← z1]; exact heap_alloc_old _ _ (heap_alloc_old _ _ (heap_alloc_new _ _))
  have xm : W0.heap[S + 1 + 1]? = some (.map #[] 0) := by rw [← hW0, ← z2]; exact heap_alloc_old _ _ (heap_alloc_new _ _)
  have xr : W0.heap[S + 1 + 1 + 1]? = some (.cells #[.map (some (S + 1 + 1)), .int .u32 0] 99) := by rw [← hW0, ← z3, hS]; exact heap_alloc_new _ _
  have xx : Ext w W0 := by rw [← hW0]; exact (((((Ext.refl w).alloc _).drewN _).alloc _).alloc _).alloc _
  rw [hW0, hS]
  obtain ⟨A, hA⟩ : ∃ A, S + 1 = A := ⟨_, rfl⟩
  obtain ⟨m, hm2⟩ : ∃ m, A + 1 = m := ⟨_, rfl⟩
  obtain ⟨r, hr⟩ : ∃ r, m + 1 = r := ⟨_, rfl⟩
  rw [hA] at xa xm xr ⊢
  rw [hm2] at xm xr ⊢
  rw [hr] at xr ⊢
  have HS := Lib.hid hS
  have HD : Hid (S ≠ A ∧ r ≠ A ∧ m ≠ A ∧ m ≠ r ∧ S ≠ r ∧ S ≠ m ∧ S < A ∧ S < m ∧ S < r) := Lib.hid (by omega)
  have HX0 : Hid (RdAt w s S A r m [] 0 W0) := Lib.hid ⟨xx, xs, xa, ⟨[], 0, rfl, Born.nil 0, xr, xm⟩, ⟨rfl, by simp [AscE], by simp, by simp, by simp [lastE]⟩, rfl⟩
  clear hS hW0 z1 z2 z3 xs0 xs xa xm xr xx hA hm2 hr hmm hc1 iS h1d h2d h3d hmw hmw2 hne hm
  go_loopg [7] B (fun q _ wr => ∃ (k : Nat) (E : Eps), k + q = B ∧ Hid (RdAt w s S A r m E k wr))
  case atStart => exact ⟨0, [], by omega, HX0⟩
  case round =>
   obtain ⟨k, E, hkq, HX⟩ := hrel
   clear HX0
   have ca := cell_blk (i := 0) HX.out.abox rfl
   have cs := cell_blk (i := 0) HX.out.sbox rfl
   obtain ⟨f, hf⟩ : ∃ f, 1 + 36 * k = f := ⟨_, rfl⟩
   rw [hf] at ca
   have hsl : s.length = 1 + 36 * B := by rw [H4.out, HM.out]
   cases gk with
   | zero =>
    have hfl : decide ((f : Int) < (s.length : Int)) = false := by simp; omega
    have hfl2 : decide (f < s.length) = false := by simp; omega
    have hkB : k = B := by omega
    have HE : Hid (readE s = some E) := Lib.hid (by rw [HR2.out, ← hkB]; exact HX.out.says)
    have HRI : Hid (RI E (lastE E)) := Lib.hid (HX.out.good.ri (by have := HB1.out; omega) (by have := HB1.out; omega))
    clear hsl hf
    go_wp2_with fail
    go_returns
    exact .inr ⟨E, r, m, HE.out, rfl, HRI.out, HX.out.good.small, HX.out.ring, by have h1 := HS.out; have h2 := HD.out; omega, by have h1 := HS.out; have h2 := HD.out; omega, HX.out.ext⟩
   | succ q =>
    have hfi : (f : Int) < (s.length : Int) := by omega
    have hs36 : f + 36 ≤ s.length := by omega
    obtain ⟨w1, hw1⟩ : ∃ x, wr.setCell ⟨A, 0, none⟩ (.int .i64 ((f + 4 : Nat) : Int)) = x := ⟨_, rfl⟩
    have GN : Hid (Calls Tryz.prog 64 #[.int .i64 4, .pointer (some ⟨A, 0, none⟩), .pointer (some ⟨S, 0, none⟩)] wr fun e w' => e = .returned (.string (bs (seg s f 4))) ∧ w' = wr.setCell ⟨A, 0, none⟩ (.int .i64 ((f + 4 : Nat) : Int))) := Lib.hid (read_next A S f 4 s wr (by have := HX.out.abox; rwa [hf] at this) HX.out.sbox (by omega) hs)
    rw [hw1] at GN
    have x1 : Ext w w1 := by rw [← hw1]; exact HX.out.ext.setCell (by have h1 := HS.out; have h2 := HD.out; show w.heap.size ≤ A; omega) _
    have s1 : w1.heap[S]? = some (.cells #[.string (bs s)] 9) := by rw [← hw1]; exact (heap_setCell_other _ _ _ HD.out.1).trans HX.out.sbox
    have a1 : w1.heap[A]? = some (.cells #[.int .i64 ((f + 4 : Nat) : Int)] 3) := by rw [← hw1]; exact heap_setCell_same (i := 0) _ HX.out.abox
    obtain ⟨L, clk, ra, rb, rc, rd⟩ := HX.out.ring
    have rc1 : w1.heap[r]? = some (.cells #[.map (some m), .int .u32 (lastE E : Int)] 99) := by rw [← hw1]; exact (heap_setCell_other _ _ _ HD.out.2.1).trans rc
    have rd1 : w1.heap[m]? = some (mobj .u32 L clk) := by rw [← hw1]; exact (heap_setCell_other _ _ _ HD.out.2.2.1).trans rd
    clear hw1 rc rd
    have e4 : (seg s f 4).length = 4 := seg_length s f 4 (by omega)
    have g32 : Get32 (seg s f 4) 0 = (getB (seg s f 4), true) := by rw [Get32, if_pos (by omega)]; simp [seg, List.take_take]
    have hent : entryAt s k = (getB (seg s f 4), seg s (f + 4) 32) := by rw [entryAt, hf, show 5 + 36 * k = f + 4 by omega]
    have HEN := Lib.hid hent
    have c4 := fun w => Get32_any (seg s f 4) 0 w (by omega)
    rw [g32] at c4
    have heb := getB_lt (seg s f 4)
    rw [e4] at heb
    clear hent e4 g32
    generalize seg s f 4 = y4 at *
    obtain ⟨e, he⟩ : ∃ e, getB y4 = e := ⟨_, rfl⟩
    rw [he] at c4 heb HEN
    have C4 := Lib.hid c4
    have X1 := Lib.hid x1; have S1 := Lib.hid s1; have A1 := Lib.hid a1; have RC1 := Lib.hid rc1; have RD1 := Lib.hid rd1; have RA := Lib.hid ra; have RB := Lib.hid rb
    have cr1 := cell_blk (i := 1) rc1 rfl
    have HK := Lib.hid hkq
    have H36 := Lib.hid hs36
    have HF := Lib.hid hf
    have HSL := Lib.hid hsl
    have fr1 : w1.frozen? ⟨r, 1, none⟩ = false := frozen_blk rc1
    obtain ⟨l, hl⟩ : ∃ l, lastE E = l := ⟨_, rfl⟩
    rw [hl] at cr1
    clear c4 x1 s1 a1 rc1 rd1 ra rb he hkq hs36 hf hsl
    by_cases hel : e ≤ l
    ·have hi : (e : Int) ≤ (l : Int) := by omega
     have hi2 : decide (e ≤ l) = true := by simp; omega
     have HN : Hid (readE s = none) := Lib.hid (by
      rw [HR2.out, show B = (k + 1) + q by have := HK.out; omega]
      refine readN_none s (k + 1) ?_ q
      rw [readN, HX.out.says]
      simp only [Option.bind_some]
      rw [HEN.out, if_pos (by rw [hl]; exact hel)])
     clear heb
     go_wp2_with (first
      | (go_at_call 64; with_reducible refine GN.out.mono ?_; rintro e w' ⟨rfl, rfl⟩)
      | (go_at_call 65; with_reducible refine (C4.out _).mono ?_; rintro e w' ⟨rfl, rfl⟩))
     go_returns
     exact .inl ⟨HN.out, rfl, X1.out⟩
    ·have hi : ¬ (e : Int) ≤ (l : Int) := by omega
     have hi2 : decide (e ≤ l) = false := by simp; omega
     have hi3 : decide ((e : Int) ≤ (l : Int)) = false := by simp; omega
     obtain ⟨w2, hw2⟩ : ∃ x, w1.setCell ⟨r, 1, none⟩ (.int .u32 (e : Int)) = x := ⟨_, rfl⟩
     have x2 : Ext w w2 := by rw [← hw2]; exact X1.out.setCell (by have h1 := HS.out; have h2 := HD.out; show w.heap.size ≤ r; omega) _
     have s2 : w2.heap[S]? = some (.cells #[.string (bs s)] 9) := by rw [← hw2]; exact (heap_setCell_other _ _ _ HD.out.2.2.2.2.1).trans S1.out
     have a2 : w2.heap[A]? = some (.cells #[.int .i64 ((f + 4 : Nat) : Int)] 3) := by rw [← hw2]; exact (heap_setCell_other _ _ _ (Ne.symm HD.out.2.1)).trans A1.out
     have rc2 : w2.heap[r]? = some (.cells #[.map (some m), .int .u32 (e : Int)] 99) := by rw [← hw2]; exact heap_setCell_same (i := 1) _ RC1.out
     have rd2 : w2.heap[m]? = some (mobj .u32 L clk) := by rw [← hw2]; exact (heap_setCell_other _ _ _ HD.out.2.2.2.1).trans RD1.out
     obtain ⟨w3, hw3⟩ : ∃ x, w2.drew.setCell ⟨A, 0, none⟩ (.int .i64 ((f + 36 : Nat) : Int)) = x := ⟨_, rfl⟩
     have GN2 : Hid (Calls Tryz.prog 64 #[.int .i64 32, .pointer (some ⟨A, 0, none⟩), .pointer (some ⟨S, 0, none⟩)] w2.drew fun e w' => e = .returned (.string (bs (seg s (f + 4) 32))) ∧ w' = w3) := Lib.hid (by
      have := read_next A S (f + 4) 32 s w2.drew a2 s2 (by have := H36.out; omega) hs
      rw [Nat.add_assoc f 4 32, hw3] at this
      exact this)
     have x3 : Ext w w3 := by rw [← hw3]; exact (x2.drew).setCell (by have h1 := HS.out; have h2 := HD.out; show w.heap.size ≤ A; omega) _
     have s3 : w3.heap[S]? = some (.cells #[.string (bs s)] 9) := by rw [← hw3]; exact (heap_setCell_other _ _ _ HD.out.1).trans s2
     have a3 : w3.heap[A]? = some (.cells #[.int .i64 ((f + 36 : Nat) : Int)] 3) := by rw [← hw3]; exact heap_setCell_same (i := 0) (w := w2.drew) _ a2
     have rc3 : w3.heap[r]? = some (.cells #[.map (some m), .int .u32 (e : Int)] 99) := by rw [← hw3]; exact (heap_setCell_other _ _ _ HD.out.2.1).trans rc2
     have rd3 : w3.heap[m]? = some (mobj .u32 L clk) := by rw [← hw3]; exact (heap_setCell_other _ _ _ HD.out.2.2.1).trans rd2
     have dc2 := cell_blk (i := 0) rc2 rfl
     have dc3 := cell_blk (i := 0) rc3 rfl
     have hqd : (w2.drew).cell? ⟨r, 0, none⟩ = some (.map (some m)) := dc2
     have X3 := Lib.hid x3; have S3 := Lib.hid s3; have A3 := Lib.hid a3; have RC3 := Lib.hid rc3; have RD3 := Lib.hid rd3
     have DC2 := Lib.hid hqd; have DC3 := Lib.hid dc3
     obtain ⟨w4, hw4⟩ : ∃ x, setBlock w3 m (mobj .u32 (L ++ [((e : Int), .string (bs (seg s (f + 4) 32)), clk)]) (clk + 1)) = x := ⟨_, rfl⟩
     have hlk : lookM L (e : Int) = none := by rw [look_of L E e RA.out, HX.out.good.new (by rw [hl]; omega)]; rfl
     have hsome : readN s (k + 1) = some (E ++ [(e, seg s (f + 4) 32)]) := by
      rw [readN, HX.out.says]
      simp only [Option.bind_some]
      rw [HEN.out, if_neg (by rw [hl]; exact hel)]
     have HNX : Hid (RdAt w s S A r m (E ++ [(e, seg s (f + 4) 32)]) (k + 1) w4) := by
      refine Lib.hid ⟨?_, ?_, ?_, ⟨L ++ [((e : Int), .string (bs (seg s (f + 4) 32)), clk)], clk + 1, ?_, RB.out.snoc _ _, ?_, ?_⟩, ?_, hsome⟩
      ·rw [← hw4]; exact X3.out.setB (by have h1 := HS.out; have h2 := HD.out; omega) _
      ·rw [← hw4]; exact (heap_setB_other _ _ _ HD.out.2.2.2.2.2.1).trans S3.out
      ·rw [← hw4, show 1 + 36 * (k + 1) = f + 36 by have := HF.out; omega]; exact (heap_setB_other _ _ _ (Ne.symm HD.out.2.2.1)).trans A3.out
      ·rw [List.map_append, List.map_append, RA.out]; rfl
      ·rw [← hw4, lastE_snoc]; exact (heap_setB_other _ _ _ (Ne.symm HD.out.2.2.2.1)).trans RC3.out
      ·rw [← hw4]; exact heap_setB_same _ RD3.out
      ·exact readN_good s (k + 1) _ (by have := HF.out; have := H36.out; omega) hsome
     have HLK := Lib.hid hlk
     clear x2 s2 a2 rc2 rd2 x3 s3 a3 rc3 rd3 hlk hsome dc2 dc3 hqd
     generalize seg s (f + 4) 32 = y5 at *
     go_upto_region 11 with (first
      | (go_at_call 64; with_reducible refine GN.out.mono ?_; rintro e w' ⟨rfl, rfl⟩)
      | (go_at_call 65; with_reducible refine (C4.out _).mono ?_; rintro e w' ⟨rfl, rfl⟩))
     try rw [hw2]
     refine Loud.wp_region_loud (fun i => decide (i = 6)) 7 (fun w' => w'.cell? ⟨r, 0, none⟩ = some (.map (some m))) (by kernel_rfl) (by kernel_rfl) DC2.out ?_
     simp only [List.take_succ_cons, List.take_zero]
     iterate 6 (refine Loud.lex_qe rfl rfl ?_; apply Exists.intro; refine ⟨fun wq hq => ?_, Loud.norm fun K hK => ?_⟩; (go_simp; try rfl); go_simp; refine hK _ ?_; clear hK K)
     refine Loud.lex_l rfl rfl (fun K hK => ?_); go_simp; refine GN2.out.mono ?_; rintro e w' ⟨rfl, rfl⟩; refine ⟨_, rfl, ?_⟩; go_simp; refine hK _ _ DC3.out ?_; clear hK K
     refine Loud.lex_nil ?_
     simp only [List.drop_succ_cons, List.drop_zero]
     go_wp2_with (refine wpl_put rfl (Operand.tmp 59) (Operand.tmp 60) (Operand.tmp 62) 97 rfl und_map und_u32 m L clk rfl RD3.out (e : Int) rfl (.string (bs y5)) rfl HLK.out ?_; intro w7 hw7; rw [hw4] at hw7; subst hw7)
     go_roundg q
     case measure => omega
     case rel => exact ⟨k + 1, _, by have := HK.out; omega, HNX⟩
 ·have hne : ((s.length : Int) != (M : Int)) = true := by simp; omega
  have HN : Hid (readE s = none) := Lib.hid (by rw [HR.out, if_neg (by omega)])
  clear h1 h2 h3 HR h4 hM
  go_enter Tryz.func38, Tryz.ntmps38
  go_wp2_with fail
  go_quiet (fail)
  go_wp2
  go_returns
  exact .inl ⟨HN.out, rfl, ((Ext.refl w).alloc _).drewN _⟩
end Go.Proofs.YtclekllaikcglaaGreat

/- Layer 13: what was written is read; rings that are none. -/
namespace Go.Proofs.YtclekllaikcglaaGreat
open Go Go.RowKit
theorem getB_putB4k (e : Nat) (he : e < 4294967296) : getB (putB 4 e) = e := by
 simp only [putB, List.range, List.range.loop, List.map_cons, List.map_nil]
 simp only [getB, List.foldl_cons, List.foldl_nil]
 rw [UInt8.toNat_ofNat', UInt8.toNat_ofNat', UInt8.toNat_ofNat', UInt8.toNat_ofNat']
 simp only [Nat.reduceSub, Nat.reduceMul, Nat.reducePow]
 omega
theorem entB_length (p : Nat × List UInt8) (h : p.2.length = 32) : (entB p).length = 36 := by simp [entB, h]
theorem flat_entB_length : ∀ (E : Eps), (∀ p ∈ E, p.2.length = 32) → (E.flatMap entB).length = 36 * E.length
 | [], _ => rfl
 | p :: E, h => by
  rw [List.flatMap_cons, List.length_append, entB_length p (h p (by simp)), flat_entB_length E (fun q hq => h q (by simp [hq])), List.length_cons]
  omega
theorem flat_drop : ∀ (k : Nat) (E : Eps), (∀ p ∈ E, p.2.length = 32) → (E.flatMap entB).drop (36 * k) = (E.drop k).flatMap entB
 | 0, E, _ => rfl
 | k + 1, [], _ => by simp
 | k + 1, p :: E, h => by
  have hl := entB_length p (h p (by simp))
  rw [List.flatMap_cons, show 36 * (k + 1) = (entB p).length + 36 * k by omega, ← List.drop_drop, List.drop_left, flat_drop k E (fun q hq => h q (by simp [hq]))]
  rfl
theorem bytesE_length (E : Eps) (h : ∀ p ∈ E, p.2.length = 32) : (bytesE E).length = 1 + 36 * E.length := by
 rw [bytesE, List.length_append, flat_entB_length E h]; rfl
theorem bytesE_entry (E : Eps) (h : ∀ p ∈ E, p.2.length = 32) (h32 : ∀ p ∈ E, p.1 < 4294967296) (k : Nat) (hk : k < E.length) : entryAt (bytesE E) k = E[k] := by
 have hm : E[k] ∈ E := List.getElem_mem hk
 have hd : (bytesE E).drop (1 + 36 * k) = putB 4 E[k].1 ++ (E[k].2 ++ (E.drop (k + 1)).flatMap entB) := by
  rw [bytesE, ← List.drop_drop]
  show (E.flatMap entB).drop (36 * k) = _
  rw [flat_drop k E h, List.drop_eq_getElem_cons hk, List.flatMap_cons, entB, List.append_assoc]
 have h1 : seg (bytesE E) (1 + 36 * k) 4 = putB 4 E[k].1 := by
  rw [seg, hd]; exact List.take_left' (by simp)
 have h2 : seg (bytesE E) (5 + 36 * k) 32 = E[k].2 := by
  rw [seg, show 5 + 36 * k = (1 + 36 * k) + 4 by omega, ← List.drop_drop, hd, List.drop_left' (by simp)]
  exact List.take_left' (h _ hm)
 rw [entryAt, h1, h2, getB_putB4k _ (h32 _ hm)]
def PosE (E : Eps) : Prop := ∀ p ∈ E, 0 < p.1
theorem pos_one (key : List UInt8) : PosE [(1, key)] := fun p hp => by simp at hp; subst hp; exact Nat.one_pos
theorem PosE.rot {E : Eps} (h : PosE E) (n : Nat) (key : List UInt8) : PosE (E ++ [(n + 1, key)]) := fun p hp => by
 rcases List.mem_append.1 hp with hp | hp
 ·exact h p hp
 ·simp at hp; subst hp; exact Nat.succ_pos _
theorem PosE.gone {E : Eps} (h : PosE E) (e : Nat) : PosE (goneE E e) := fun p hp => h p (List.mem_of_mem_eraseP hp)
theorem readN_bytes (E : Eps) (n : Nat) (hI : RI E n) (hpos : PosE E) (hn : n < 4294967296) : ∀ k, k ≤ E.length → readN (bytesE E) k = some (E.take k)
 | 0, _ => rfl
 | k + 1, hk => by
  have hkl : k < E.length := by omega
  rw [readN, readN_bytes E n hI hpos hn k (by omega)]
  simp only [Option.bind_some]
  rw [bytesE_entry E hI.key (fun p hp => by have := hI.le p hp; omega) k hkl, if_neg, List.take_succ_eq_append_getElem hkl]
  cases k with
  | zero => simp [lastE]; have := hpos E[0] (List.getElem_mem hkl); omega
  | succ j =>
   rw [List.take_succ_eq_append_getElem (by omega : j < E.length), lastE_snoc]
   have := (List.pairwise_iff_getElem.1 hI.asc) j (j + 1) (by omega) hkl (by omega)
   omega
theorem readE_bytes (E : Eps) (n : Nat) (hI : RI E n) (hpos : PosE E) (hn : n < 4294967296) : readE (bytesE E) = some E := by
 have hne : 0 < E.length := List.length_pos_iff.2 hI.ne
 have h64 := hI.len
 have h0 : ((bytesE E).getD 0 0).toNat = E.length := by
  show (b8 E.length).toNat = _
  rw [b8_toNat]; omega
 rw [readE, h0, if_pos ⟨hne, h64, bytesE_length E hI.key⟩, readN_bytes E n hI hpos hn E.length (Nat.le_refl _), List.take_length]
end Go.Proofs.YtclekllaikcglaaGreat
