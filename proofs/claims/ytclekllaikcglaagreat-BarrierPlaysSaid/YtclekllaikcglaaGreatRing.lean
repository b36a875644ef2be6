import Derived.Test.YtclekllaikcglaaGreatMap
import Derived.Test.YtclekllaikcglaaGreatBase
import Derived.Test.YtclekllaikcglaaGreatWeave
import Derived.Deep.DeepCutAuto

/- Contracts: layer 13, a ring of keys: New, Newest, Rotate, Keys, Retire. -/
namespace Go.Proofs.YtclekllaikcglaaGreat
open Go Go.RowKit
open Go.ChangeMaps (setBlock)
abbrev Eps := List (Nat × List UInt8)
def entV (p : Nat × List UInt8) : Int × Value := ((p.1 : Int), .string (bs p.2))
def RingAt (w : World) (r m : Nat) (E : Eps) (n : Nat) : Prop :=
 ∃ L clk, L.map (fun e => (e.1, e.2.1)) = E.map entV ∧ Born L clk ∧ w.heap[r]? = some (.cells #[.map (some m), .int .u32 (n : Int)] 99) ∧ w.heap[m]? = some (mobj .u32 L clk)
theorem und_map : Tryz.prog.underlying 97 = some (.map 46 9) := by kernel_rfl
theorem und_u32 : Tryz.prog.underlying 46 = some (.int .u32) := by kernel_rfl
set_option maxRecDepth 100000 in
theorem ring_New_no (key : List UInt8) (w : World) (h : key.length ≠ 32) (_hl : key.length ≤ 140737488351232) : Calls Tryz.prog 28 #[.string (bs key)] w fun e w' => e = .returned (.tuple #[.pointer none, .int .i64 2]) ∧ w = w' := by
 have hne : ((key.length : Int) != 32) = true := by simp; omega
 go_enter Tryz.func28, Tryz.ntmps28
 go_wp2
 go_returns
 exact ⟨rfl, rfl⟩
set_option maxRecDepth 100000 in
theorem ring_New (key : List UInt8) (w : World) (h : key.length = 32) : Calls Tryz.prog 28 #[.string (bs key)] w fun e w' => ∃ r m, e = .returned (.tuple #[.pointer (some ⟨r, 0, none⟩), .int .i64 0]) ∧ w.heap.size ≤ r ∧ w.heap.size ≤ m ∧ r ≠ m ∧ RingAt w' r m [(1, key)] 1 ∧ Ext w w' := by
 have hne : ((key.length : Int) != 32) = false := by simp; omega
 clear h
 go_enter Tryz.func28, Tryz.ntmps28
 have hmm := @run_makeMap Tryz.prog
 have hin : ∀ W : World, W.heap[w.heap.size]? = some (.map #[] 0) → Sem.run Tryz.prog (Instr.mapUpdate 97 (.map (some w.heap.size)) (.int .u32 1) (.string (bs key))) W = .ok () (setBlock W w.heap.size (mobj .u32 [(1, .string (bs key), 0)] 1)) := fun W hW => run_putM (L := []) und_map und_u32 hW 1 _ rfl
 have hin2 := hin _ (heap_alloc_new w _)
 clear hin
 go_wp2
 go_returns
 obtain ⟨W2, hW2⟩ : ∃ W2, setBlock (w.alloc (Obj.map #[] 0)) w.heap.size (mobj IntKind.u32 [(1, Value.string (bs key), 0)] 1) = W2 := ⟨_, rfl⟩
 have k1 : W2.heap[w.heap.size]? = some (mobj .u32 [(1, .string (bs key), 0)] 1) := by rw [← hW2]; exact heap_setB_same _ (heap_alloc_new w _)
 have kx : Ext w W2 := by
  rw [← hW2]
  exact But.ext (S := [w.heap.size]) ((Ext.refl w).alloc (Obj.map #[] 0)) ((But.refl _ _).setB (.inl (by simp)) _) (by simp)
 rw [hW2]
 have hlt := blk_lt k1
 refine ⟨W2.heap.size, w.heap.size, rfl, by omega, by omega, by omega, ⟨[(1, .string (bs key), 0)], 1, rfl, ⟨by simp, by simp⟩, heap_alloc_new _ _, heap_alloc_old _ _ k1⟩, kx.alloc _⟩
def lookE (E : Eps) (k : Nat) : Option (List UInt8) := (E.find? (fun p => p.1 == k)).map (·.2)
theorem look_of : ∀ (L : Ents) (E : Eps) (k : Nat), L.map (fun e => (e.1, e.2.1)) = E.map entV → lookM L (k : Int) = (lookE E k).map strV
 | [], [], _, _ => rfl
 | [], _ :: _, _, h => by cases h
 | _ :: _, [], _, h => by cases h
 | e :: L, p :: E, k, h => by
  obtain ⟨i, v, b⟩ := e
  obtain ⟨n, s⟩ := p
  simp only [List.map_cons, List.cons.injEq] at h
  obtain ⟨h1, h2⟩ := h
  cases h1
  have ih := look_of L E k h2
  unfold lookM lookE at ih ⊢
  by_cases hk : n = k
  ·subst hk
   simp [strV]
  ·rw [List.find?_cons_of_neg (by simp; omega), List.find?_cons_of_neg (by simpa using hk)]
   exact ih
theorem RingAt.keep {w w' : World} {r m : Nat} {E : Eps} {n : Nat} (h : RingAt w r m E n) (h1 : w'.heap[r]? = w.heap[r]?) (h2 : w'.heap[m]? = w.heap[m]?) : RingAt w' r m E n := by
 obtain ⟨L, clk, a, b, c, d⟩ := h
 exact ⟨L, clk, a, b, h1.trans c, h2.trans d⟩
theorem RingAt.ext {w w' : World} {r m : Nat} {E : Eps} {n : Nat} (h : RingAt w r m E n) (hx : Ext w w') : RingAt w' r m E n := by
 obtain ⟨L, clk, a, b, c, d⟩ := h
 exact ⟨L, clk, a, b, hx.keep c, hx.keep d⟩
theorem RingAt.lt {w : World} {r m : Nat} {E : Eps} {n : Nat} (h : RingAt w r m E n) : r < w.heap.size ∧ m < w.heap.size := by
 obtain ⟨L, clk, a, b, c, d⟩ := h
 exact ⟨blk_lt c, blk_lt d⟩
set_option maxRecDepth 100000 in
theorem ring_made (r m : Nat) (E : Eps) (n : Nat) (w : World) (h : RingAt w r m E n) (hn : 0 < n) : Calls Tryz.prog 70 #[.pointer (some ⟨r, 0, none⟩)] w fun e w' => e = .returned (.bool true) ∧ w = w' := by
 obtain ⟨L, clk, a, b, c, d⟩ := h
 have c1 := cell_blk (i := 1) c rfl
 have hni : (0 : Int) < (n : Int) := by omega
 clear a b d
 go_enter Tryz.func70, Tryz.ntmps70
 go_wp2
 go_returns
 exact ⟨rfl, rfl⟩
set_option maxRecDepth 100000 in
theorem ring_Newest (r m : Nat) (E : Eps) (n : Nat) (w : World) (h : RingAt w r m E n) (hn : 0 < n) : Calls Tryz.prog 66 #[.pointer (some ⟨r, 0, none⟩)] w fun e w' => e = .returned (.int .u32 (n : Int)) ∧ w = w' := by
 have G := Lib.hid (ring_made r m E n w h hn)
 obtain ⟨L, clk, a, b, c, d⟩ := h
 have c1 := cell_blk (i := 1) c rfl
 clear a b d
 go_enter Tryz.func66, Tryz.ntmps66
 go_wp2_with (go_at_call 70; refine G.out.mono ?_; rintro e w' ⟨rfl, rfl⟩)
 go_returns
 exact ⟨rfl, rfl⟩
theorem map_ne {w : World} {r m : Nat} {E : Eps} {n : Nat} (h : RingAt w r m E n) : r ≠ m := by
 obtain ⟨L, clk, a, b, c, d⟩ := h
 rintro rfl
 rw [c] at d
 cases d
set_option maxRecDepth 100000 in
set_option maxHeartbeats 1000000 in
theorem ring_Rotate (r m : Nat) (E : Eps) (n : Nat) (key : List UInt8) (w : World) (h : RingAt w r m E n) (hn : 0 < n) (hk : key.length = 32) (hE : E.length < 64) (hm : n < 4294967295) (hno : lookE E (n + 1) = none) :
  Calls Tryz.prog 44 #[.pointer (some ⟨r, 0, none⟩), .string (bs key)] w fun e w' => e = .returned (.tuple #[.int .u32 ((n + 1 : Nat) : Int), .int .i64 0]) ∧ RingAt w' r m (E ++ [(n + 1, key)]) (n + 1) ∧ But [r, m] w w' := by
 have G := Lib.hid (ring_made r m E n w h hn)
 have hrm := map_ne h
 obtain ⟨L, clk, a, b, c, d⟩ := h
 have hlen : L.length = E.length := by simpa using congrArg List.length a
 have hlook : lookM L ((n + 1 : Nat) : Int) = none := by rw [look_of L E (n + 1) a, hno]; rfl
 have c0 := cell_blk (i := 0) c rfl
 have c1 := cell_blk (i := 1) c rfl
 have hf : w.frozen? ⟨r, 1, none⟩ = false := frozen_blk c
 have hl64 : ¬ (64 : Int) ≤ (L.length : Int) := by omega
 have hne : ((key.length : Int) != 32) = false := by simp; omega
 have hnm : ((n : Int) == 4294967295) = false := by simp; omega
 have hLM := fun ty => run_lenM (P := Tryz.prog) (w := w) und_map d (L.length : Int) rfl ty
 obtain ⟨n1, hn1⟩ : ∃ n1 : Nat, n + 1 = n1 := ⟨_, rfl⟩
 have hni : (n : Int) + 1 = (n1 : Int) := by omega
 have hw : IntKind.u32.wrap (n1 : Int) = (n1 : Int) := by rw [IntKind.wrap_u32]; omega
 rw [hn1] at hlook ⊢
 have HA := Lib.hid a; have HB := Lib.hid b; have HC := Lib.hid c; have HD := Lib.hid d
 clear a b c d hk hE hm hno hn hlen hn1
 go_enter Tryz.func44, Tryz.ntmps44
 go_upto_region 9 with (first
  | (go_at_call 70; refine G.out.mono ?_; rintro e w' ⟨rfl, rfl⟩))
 obtain ⟨w1, hw1⟩ : ∃ w1, w.setCell ⟨r, 1, none⟩ (.int .u32 (n1 : Int)) = w1 := ⟨_, rfl⟩
 have e1 : w1.heap[r]? = some (.cells #[.map (some m), .int .u32 (n1 : Int)] 99) := by rw [← hw1]; exact heap_setCell_same (i := 1) _ HC.out
 have e2 : w1.heap[m]? = some (mobj .u32 L clk) := by rw [← hw1]; exact (heap_setCell_other _ _ _ (fun e => hrm e.symm)).trans HD.out
 have e3 : But [r, m] w w1 := by rw [← hw1]; exact (But.refl _ _).setCell (.inl (by simp)) _
 rw [hw1]
 clear hw1 c0 c1 hf hLM
 have c0 := cell_blk (i := 0) e1 rfl
 have c1 := cell_blk (i := 1) e1 rfl
 have E1 := Lib.hid e1; have E2 := Lib.hid e2; have E3 := Lib.hid e3
 clear e1 e2 e3
 refine Loud.wp_region_weave 9 w1 (Loud.sps [.val (.pointer (some ⟨r, 0, none⟩)), .val (.pointer (some ⟨r, 0, none⟩)), .val (.pointer (some ⟨r, 0, none⟩)), .val (.map (some m)), .val (.pointer (some ⟨r, 0, none⟩)), .val (.pointer (some ⟨r, 0, none⟩)), .val (.pointer (some ⟨r, 1, none⟩)), .val (.int .u32 (n1 : Int)), .val (.string (bs key))]) (by kernel_rfl) (by kernel_rfl) (by show Ext _ _; repeat (first | exact Ext.refl _ | assumption | (with_reducible refine Ext.drew ?_) | (with_reducible refine Ext.drewN ?_ _) | (with_reducible refine Ext.alloc ?_ _) | (refine Ext.trans ?_ (by assumption)))) (Loud.sps_st _) ?wAx1 ?whAx1 ?whSx1 ?whFx1
 case whAx1 => intro u K hK; simp only [List.take_succ_cons, List.take_zero, Loud.puts]; go_simp; exact hK
 case whSx1 =>
  refine ⟨?wsx1_0, ?wsx1_1, ?wsx1_2, ?wsx1_3, ?wsx1_4, ?wsx1_5, ?wsx1_6, ?wsx1_7, ?wsx1_8, trivial⟩
  all_goals (intro u β wq hq h; repeat (obtain ⟨h1, h⟩ := h; first | (replace h1 := h1 rfl; simp only [go_sem] at h1; try (obtain ⟨h1, h1b⟩ := h1)) | (have hno := (h1 : Region.binds _ _ = true → _); clear hno h1)))
  case wsx1_3 =>
   refine Or.inl ⟨rfl, fun K hK => ?_⟩
   have hqc := hq.cell_of c0
   go_simp
   exact hK _ 0 _ (Ext.refl _) rfl
  case wsx1_7 =>
   refine Or.inl ⟨rfl, fun K hK => ?_⟩
   have hqc := hq.cell_of c1
   go_simp
   exact hK _ 0 _ (Ext.refl _) rfl
  all_goals (first | refine Or.inl ⟨rfl, fun K hK => ?_⟩ | refine Or.inl ⟨Loud.wanted_of rfl rfl (congrArg some (by assumption)), fun K hK => ?_⟩); go_simp; exact hK _ 0 _ (Ext.refl _) rfl
 intro u β w5 hq h
 have h0 := h 0 (by omega)
 have h1 := h 1 (by omega)
 have h2 := h 2 (by omega)
 have h3 := h 3 (by omega)
 have h4 := h 4 (by omega)
 have h5 := h 5 (by omega)
 have h6 := h 6 (by omega)
 have h7 := h 7 (by omega)
 have h8 := h 8 (by omega)
 clear h
 simp only [go_sem] at h0 h1 h2 h3 h4 h5 h6 h7 h8
 simp only [List.drop_succ_cons, List.drop_zero]
 rw [h8]
 have d1 := hq.keep E1.out
 have d2 := hq.keep E2.out
 have hb5 : But [r, m] w w5 := E3.out.trans (But.of_ext hq)
 obtain ⟨w6, hw6⟩ : ∃ w6, setBlock w5 m (mobj .u32 (L ++ [((n1 : Int), .string (bs key), clk)]) (clk + 1)) = w6 := ⟨_, rfl⟩
 have f1 : w6.heap[r]? = some (.cells #[.map (some m), .int .u32 (n1 : Int)] 99) := by rw [← hw6]; exact (heap_setB_other _ _ _ hrm).trans d1
 have f2 : w6.heap[m]? = some (mobj .u32 (L ++ [((n1 : Int), .string (bs key), clk)]) (clk + 1)) := by rw [← hw6]; exact heap_setB_same _ d2
 have f3 : But [r, m] w w6 := by rw [← hw6]; exact hb5.setB (.inl (by simp)) _
 have g1 := cell_blk (i := 1) f1 rfl
 have F1 := Lib.hid f1; have F2 := Lib.hid f2; have F3 := Lib.hid f3
 have D2 := Lib.hid d2
 clear f1 f2 f3 d1 d2 hb5
 rw [h3, h7]
 go_wp2_with (refine wpl_put rfl (Operand.tmp 36) (Operand.tmp 40) (Operand.tmp 41) 97 rfl und_map und_u32 m L clk rfl D2.out (n1 : Int) rfl (.string (bs key)) rfl hlook ?_; intro w7 hw7; rw [hw6] at hw7; subst hw7)
 go_returns
 refine ⟨rfl, ⟨_, _, ?_, HB.out.snoc _ _, F1.out, F2.out⟩, F3.out⟩
 rw [List.map_append, List.map_append, HA.out]
 rfl
set_option maxRecDepth 100000 in
theorem ring_Rotate_arg (r m : Nat) (E : Eps) (n : Nat) (key : List UInt8) (w : World) (h : RingAt w r m E n) (hn : 0 < n) (hk : key.length ≠ 32) (_hl : key.length ≤ 140737488351232) :
  Calls Tryz.prog 44 #[.pointer (some ⟨r, 0, none⟩), .string (bs key)] w fun e w' => e = .returned (.tuple #[.int .u32 0, .int .i64 2]) ∧ w = w' := by
 have G := Lib.hid (ring_made r m E n w h hn)
 have hne : ((key.length : Int) != 32) = true := by simp; omega
 clear h hk
 go_enter Tryz.func44, Tryz.ntmps44
 go_wp2_with (go_at_call 70; refine G.out.mono ?_; rintro e w' ⟨rfl, rfl⟩)
 go_returns
 exact ⟨rfl, rfl⟩
set_option maxRecDepth 100000 in
theorem ring_Rotate_full (r m : Nat) (E : Eps) (n : Nat) (key : List UInt8) (w : World) (h : RingAt w r m E n) (hn : 0 < n) (hk : key.length = 32) (hE : 64 ≤ E.length ∨ n = 4294967295) :
  Calls Tryz.prog 44 #[.pointer (some ⟨r, 0, none⟩), .string (bs key)] w fun e w' => e = .returned (.tuple #[.int .u32 0, .int .i64 4]) ∧ w = w' := by
 have G := Lib.hid (ring_made r m E n w h hn)
 have hne : ((key.length : Int) != 32) = false := by simp; omega
 obtain ⟨L, clk, a, b, c, d⟩ := h
 have hlen : L.length = E.length := by simpa using congrArg List.length a
 have c0 := cell_blk (i := 0) c rfl
 have c1 := cell_blk (i := 1) c rfl
 have hLM := fun ty => run_lenM (P := Tryz.prog) (w := w) und_map d (L.length : Int) rfl ty
 by_cases h64 : 64 ≤ E.length
 ·have hl64 : decide ((64 : Int) ≤ (L.length : Int)) = true := by simp; omega
  clear a b c d hk hE hlen h64
  go_enter Tryz.func44, Tryz.ntmps44
  go_wp2_with (go_at_call 70; refine G.out.mono ?_; rintro e w' ⟨rfl, rfl⟩)
  go_returns
  exact ⟨rfl, rfl⟩
 ·have hl64 : decide ((64 : Int) ≤ (L.length : Int)) = false := by simp; omega
  have hnm : ((n : Int) == 4294967295) = true := by simp; omega
  clear a b c d hk hE hlen h64
  go_enter Tryz.func44, Tryz.ntmps44
  go_wp2_with (go_at_call 70; refine G.out.mono ?_; rintro e w' ⟨rfl, rfl⟩)
  go_returns
  exact ⟨rfl, rfl⟩
theorem findNow_erase (q : IntKind) (k : Int) : ∀ (L : Ents) (i : Nat), (∃ j v, Instr.findNow (.int q) (.int q k) (L.map (ent q)) i = some (some (i + j, v)) ∧ L.eraseIdx j = L.eraseP (fun e => k == e.1)) ∨
  (Instr.findNow (.int q) (.int q k) (L.map (ent q)) i = some none ∧ L.eraseP (fun e => k == e.1) = L)
 | [], i => .inr ⟨rfl, rfl⟩
 | e :: L, i => by
  by_cases h : k = e.1
  ·refine .inl ⟨0, e.2.1, ?_, ?_⟩
   ·simp [Instr.findNow, Instr.sameNow, ent, h]
   ·simp [h]
  ·have hk : (k == e.1) = false := by simpa using h
   rcases findNow_erase q k L (i + 1) with ⟨j, v, h1, h2⟩ | ⟨h1, h2⟩
   ·refine .inl ⟨j + 1, v, ?_, ?_⟩
    ·simp only [List.map_cons, Instr.findNow, Instr.sameNow, ent, if_true, hk]
     rw [show i + (j + 1) = i + 1 + j by omega]
     exact h1
    ·rw [List.eraseIdx_cons_succ, h2, List.eraseP_cons_of_neg (by simp [hk])]
   ·refine .inr ⟨?_, by rw [List.eraseP_cons_of_neg (by simp [hk]), h2]⟩
    simp only [List.map_cons, Instr.findNow, Instr.sameNow, ent, if_true, hk]
    exact h1
theorem eraseIdx_mapped {α β : Type} (f : α → β) : ∀ (l : List α) (j : Nat), (l.map f).eraseIdx j = (l.eraseIdx j).map f
 | [], _ => rfl
 | _ :: _, 0 => rfl
 | x :: l, j + 1 => by
  show f x :: (l.map f).eraseIdx j = f x :: (l.eraseIdx j).map f
  rw [eraseIdx_mapped f l j]
theorem run_deleteM {P : Program} {w : World} {T kt et ty : TypeId} {q : IntKind} {b : Nat} {L : Ents} {clk : Nat} (hT : P.underlying T = some (.map kt et)) (hk : P.underlying kt = some (.int q)) (hb : w.heap[b]? = some (mobj q L clk)) (i : Int) :
  (Builtin.delete_ #[T, kt] ty #[.map (some b), .int q i]).run P w = .ok (.tuple #[]) (setBlock w b (mobj q (L.eraseP (fun e => i == e.1)) clk)) := by
 unfold mobj at hb
 have hg := MapKept.run_getObj_map (P := P) hb
 have hs : ∀ o : Obj, (setObj b o).run P w = .ok () (setBlock w b o) := by
  intro o
  simp [setObj, Sem.run, hb, setBlock]
 rcases findNow_erase q i L 0 with ⟨j, v, h1, h2⟩ | ⟨h1, h2⟩
 ·rw [Nat.zero_add] at h1
  simp [Builtin.delete_, run_underlying hT, hg, run_checkKey_int hk, Instr.findKey, run_underlying hk, h1, hs, mobj, ← h2, eraseIdx_mapped]
 ·simp [Builtin.delete_, run_underlying hT, hg, run_checkKey_int hk, Instr.findKey, run_underlying hk, h1, hs, mobj, h2]
def goneE (E : Eps) (k : Nat) : Eps := E.eraseP (fun p => p.1 == k)
theorem gone_of : ∀ (L : Ents) (E : Eps) (k : Nat), L.map (fun e => (e.1, e.2.1)) = E.map entV → (L.eraseP (fun e => (k : Int) == e.1)).map (fun e => (e.1, e.2.1)) = (goneE E k).map entV
 | [], [], _, _ => rfl
 | [], _ :: _, _, h => by cases h
 | _ :: _, [], _, h => by cases h
 | e :: L, p :: E, k, h => by
  obtain ⟨i, v, b⟩ := e
  obtain ⟨n, s⟩ := p
  simp only [List.map_cons, List.cons.injEq] at h
  obtain ⟨h1, h2⟩ := h
  cases h1
  have ih := gone_of L E k h2
  unfold goneE at ih ⊢
  by_cases hk : n = k
  ·subst hk
   simpa using h2
  ·rw [List.eraseP_cons_of_neg (by simp; omega), List.eraseP_cons_of_neg (by simpa using hk), List.map_cons, List.map_cons, ih]
   rfl
theorem Born.erase {L : Ents} {clk : Nat} (h : Born L clk) (k : Int) : Born (L.eraseP (fun e => k == e.1)) clk :=
 ⟨h.1.sublist (List.eraseP_sublist.map _), fun e he => h.2 e (List.mem_of_mem_eraseP he)⟩
theorem zero_string (w : World) : Sem.run Tryz.prog (zeroValue 9) w = .ok (.string { data := #[] }) w := by kernel_rfl
set_option maxRecDepth 100000 in
theorem ring_Retire (r m : Nat) (E : Eps) (n ep : Nat) (w : World) (h : RingAt w r m E n) (hn : 0 < n) (he : ep ≠ n) {s : List UInt8} (hs : lookE E ep = some s) :
  Calls Tryz.prog 45 #[.pointer (some ⟨r, 0, none⟩), .int .u32 (ep : Int)] w fun e w' => e = .returned (.int .i64 0) ∧ RingAt w' r m (goneE E ep) n ∧ But [m] w w' := by
 have G := Lib.hid (ring_made r m E n w h hn)
 have hrm := map_ne h
 obtain ⟨L, clk, a, b, c, d⟩ := h
 have c0 := cell_blk (i := 0) c rfl
 have c1 := cell_blk (i := 1) c rfl
 have hlk := run_lookM und_map und_u32 d (ep : Int) (zero_string w)
 rw [look_of L E ep a, hs] at hlk
 simp only [Option.map_some, Option.getD_some, Option.isSome_some, strV] at hlk
 have hdl := fun ty => run_deleteM (ty := ty) und_map und_u32 d (ep : Int)
 have hne : ((ep : Int) == (n : Int)) = false := by simp; omega
 obtain ⟨w6, hw6⟩ : ∃ w6, setBlock w m (mobj .u32 (L.eraseP (fun e => (ep : Int) == e.1)) clk) = w6 := ⟨_, rfl⟩
 rw [hw6] at hdl
 have f1 : w6.heap[r]? = some (.cells #[.map (some m), .int .u32 (n : Int)] 99) := by rw [← hw6]; exact (heap_setB_other _ _ _ hrm).trans c
 have f2 : w6.heap[m]? = some (mobj .u32 (L.eraseP (fun e => (ep : Int) == e.1)) clk) := by rw [← hw6]; exact heap_setB_same _ d
 have f3 : But [m] w w6 := by rw [← hw6]; exact (But.refl _ _).setB (.inl (by simp)) _
 have F := Lib.hid (show RingAt w6 r m (goneE E ep) n from ⟨_, _, gone_of L E ep a, b.erase _, f1, f2⟩)
 have F3 := Lib.hid f3
 clear a b c d f1 f2 f3 hw6 hs he
 go_enter Tryz.func45, Tryz.ntmps45
 go_wp2_with (go_at_call 70; refine G.out.mono ?_; rintro e w' ⟨rfl, rfl⟩)
 go_returns
 exact ⟨rfl, F.out, F3.out⟩
set_option maxRecDepth 100000 in
theorem ring_Retire_new (r m : Nat) (E : Eps) (n : Nat) (w : World) (h : RingAt w r m E n) (hn : 0 < n) :
  Calls Tryz.prog 45 #[.pointer (some ⟨r, 0, none⟩), .int .u32 (n : Int)] w fun e w' => e = .returned (.int .i64 2) ∧ w = w' := by
 have G := Lib.hid (ring_made r m E n w h hn)
 obtain ⟨L, clk, a, b, c, d⟩ := h
 have c0 := cell_blk (i := 0) c rfl
 have c1 := cell_blk (i := 1) c rfl
 have hlk := run_lookM und_map und_u32 d (n : Int) (zero_string w)
 generalize (lookM L (n : Int)).getD (.string { data := #[] }) = v at *
 generalize (lookM L (n : Int)).isSome = is at *
 clear a b c d
 go_enter Tryz.func45, Tryz.ntmps45
 go_wp2_with (go_at_call 70; refine G.out.mono ?_; rintro e w' ⟨rfl, rfl⟩)
 go_returns
 exact ⟨rfl, rfl⟩
set_option maxRecDepth 100000 in
theorem ring_Retire_none (r m : Nat) (E : Eps) (n ep : Nat) (w : World) (h : RingAt w r m E n) (hn : 0 < n) (he : ep ≠ n) (hs : lookE E ep = none) :
  Calls Tryz.prog 45 #[.pointer (some ⟨r, 0, none⟩), .int .u32 (ep : Int)] w fun e w' => e = .returned (.int .i64 3) ∧ w = w' := by
 have G := Lib.hid (ring_made r m E n w h hn)
 obtain ⟨L, clk, a, b, c, d⟩ := h
 have c0 := cell_blk (i := 0) c rfl
 have c1 := cell_blk (i := 1) c rfl
 have hlk := run_lookM und_map und_u32 d (ep : Int) (zero_string w)
 rw [look_of L E ep a, hs] at hlk
 simp only [Option.map_none, Option.getD_none, Option.isSome_none] at hlk
 have hne : ((ep : Int) == (n : Int)) = false := by simp; omega
 clear a b c d hs he
 go_enter Tryz.func45, Tryz.ntmps45
 go_wp2_with (go_at_call 70; refine G.out.mono ?_; rintro e w' ⟨rfl, rfl⟩)
 go_returns
 exact ⟨rfl, rfl⟩
end Go.Proofs.YtclekllaikcglaaGreat

/- Contracts: layer 13, the document's ring: New, Newest, Rotate, at. -/
namespace Go.Proofs.YtclekllaikcglaaGreat
open Go Go.RowKit
def entC (p : Nat × List UInt8) : List Value := [.int .u32 (p.1 : Int), .string (bs p.2)]
theorem flatC_length : ∀ E : Eps, (E.flatMap entC).length = E.length * 2
 | [] => rfl
 | p :: E => by rw [List.flatMap_cons, List.length_append, flatC_length E]; simp [entC]; omega
theorem flatC_at : ∀ (E : Eps) (i : Nat) (h : i < E.length), (E.flatMap entC)[2 * i]? = some (.int .u32 (E[i].1 : Int)) ∧ (E.flatMap entC)[2 * i + 1]? = some (.string (bs E[i].2))
 | [], _, h => by simp at h
 | p :: E, 0, _ => by rw [List.flatMap_cons]; exact ⟨rfl, rfl⟩
 | p :: E, i + 1, h => by
  have ih := flatC_at E i (by simpa using h)
  rw [List.flatMap_cons, show 2 * (i + 1) = 2 * i + 2 by omega]
  exact ⟨ih.1, ih.2⟩
def DocAt (w : World) (B d : Nat) (E : Eps) : Prop :=
 ∃ v, w.heap[d]? = some (.cells #[v] 91) ∧ B ≤ d ∧ w.ownsRow B 93 2 v E.length (E.flatMap entC)
theorem DocAt.look {w : World} {B d : Nat} {E : Eps} (h : DocAt w B d E) (hE : E ≠ []) :
  ∃ g cap, w.heap[d]? = some (.cells #[.slice (some ⟨g, 0, none⟩) E.length cap] 91) ∧ B ≤ d ∧ B ≤ g ∧ g < w.heap.size ∧ g ≠ d ∧ w.ownsRow B 93 2 (.slice (some ⟨g, 0, none⟩) E.length cap) E.length (E.flatMap entC) ∧
   ∀ i (hi : i < E.length), w.cell? ⟨g, i * 2, none⟩ = some (.int .u32 (E[i].1 : Int)) ∧ w.cell? ⟨g, i * 2 + 1, none⟩ = some (.string (bs E[i].2)) := by
 obtain ⟨v, hd, hB, hown⟩ := h
 rcases id hown.2 with ⟨_, h0⟩ | ⟨g, cap, cur, rfl, hg, hh, hn, hc, hs, ht⟩
 ·exact absurd (List.eq_nil_of_length_eq_zero h0) hE
 ·refine ⟨g, cap, hd, hB, hg, blk_lt hh, ?_, hown, fun i hi => ?_⟩
  ·rintro rfl; rw [hd] at hh; cases hh
  ·have hcell : ∀ j x, (E.flatMap entC)[j]? = some x → w.cell? ⟨g, j, none⟩ = some x := by
    intro j x hj
    rw [← ht] at hj
    rw [List.getElem?_take] at hj
    split at hj
    ·exact cell_blk hh (by simpa using hj)
    ·cases hj
   rw [Nat.mul_comm i 2]
   exact ⟨hcell _ _ (flatC_at E i hi).1, hcell _ _ (flatC_at E i hi).2⟩
theorem ownsRow_ext {w w' : World} {B n size : Nat} {e : TypeId} {v : Value} {xs : List Value} (h : w.ownsRow B e size v n xs) (hx : Ext w w') : w'.ownsRow B e size v n xs := by
 refine ⟨h.1, ?_⟩
 rcases h.2 with h0 | ⟨g, cap, cur, hv, hg, hh, r⟩
 ·exact .inl h0
 ·exact .inr ⟨g, cap, cur, hv, hg, hx.keep hh, r⟩
theorem own_look {w : World} {B n size : Nat} {e : TypeId} {v : Value} {xs : List Value} (h : w.ownsRow B e size v (n + 1) xs) : ∃ g cap, v = .slice (some ⟨g, 0, none⟩) (n + 1) cap ∧ B ≤ g := by
 rcases h.2 with ⟨_, h0⟩ | ⟨g, cap, cur, hv, hg, _⟩
 ·cases h0
 ·exact ⟨g, cap, hv, hg⟩
theorem own_set {w : World} {B n size : Nat} {e T : TypeId} {v u : Value} {xs : List Value} {d : Nat} {cs : Array Value} (h : w.ownsRow B e size v n xs) (hd : w.heap[d]? = some (.cells cs T)) (hT : e ≠ T) : (w.setCell ⟨d, 0, none⟩ u).ownsRow B e size v n xs := by
 refine ⟨h.1, ?_⟩
 rcases h.2 with h0 | ⟨g, cap, cur, hv, hg, hh, r⟩
 ·exact .inl h0
 ·refine .inr ⟨g, cap, cur, hv, hg, (heap_setCell_other _ _ _ ?_).trans hh, r⟩
  rintro (rfl : g = d)
  rw [hd] at hh
  injection hh with hh
  injection hh with _ h2
  exact hT h2.symm
theorem DocAt.ext {w w' : World} {B d : Nat} {E : Eps} (h : DocAt w B d E) (hx : Ext w w') : DocAt w' B d E := by
 obtain ⟨v, hd, hB, hown⟩ := h
 refine ⟨v, hx.keep hd, hB, hown.1, ?_⟩
 rcases hown.2 with h0 | ⟨g, cap, cur, hv, hg, hh, r⟩
 ·exact .inl h0
 ·exact .inr ⟨g, cap, cur, hv, hg, hx.keep hh, r⟩
set_option maxRecDepth 100000 in
theorem ref_ring_New (key : List UInt8) (w : World) : Calls Tryz.prog 78 #[.string (bs key)] w fun e w' => ∃ d, e = .returned (.pointer (some ⟨d, 0, none⟩)) ∧ DocAt w' w.heap.size d [(1, key)] ∧ Ext w w' := by
 go_enter Tryz.func78, Tryz.ntmps78
 go_wp2
 go_returns
 refine ⟨_, rfl, ⟨.slice (some ⟨w.heap.size, 0, none⟩) 1 1, ?_, by omega, rfl, .inr ⟨w.heap.size, 1, #[.int .u32 1, .string (bs key)], rfl, Nat.le_refl _, heap_alloc_old _ _ (heap_alloc_new _ _), by simp, by unfold maxLen; omega, rfl, rfl⟩⟩, ((Ext.refl w).alloc _).alloc _⟩
 have := heap_alloc_new (w.alloc (.cells #[.int .u32 1, .string (bs key)] 93)) (.cells #[.slice (some ⟨w.heap.size, 0, none⟩) 1 1] 91)
 rw [World.size_alloc] at this
 exact this
set_option maxRecDepth 100000 in
theorem ref_ring_Newest (B d : Nat) (E : Eps) (n : Nat) (key : List UInt8) (w : World) (h : DocAt w B d (E ++ [(n, key)])) (hl : E.length ≤ 1000) : Calls Tryz.prog 105 #[.pointer (some ⟨d, 0, none⟩)] w fun e w' => e = .returned (.int .u32 (n : Int)) ∧ Ext w w' := by
 obtain ⟨g, cap, hd, _, _, _, _, _, hc⟩ := h.look (by simp)
 have hlen : (E ++ [(n, key)]).length = E.length + 1 := by simp
 have c1 := (hc E.length (by rw [hlen]; omega)).1
 rw [List.getElem_append_right (Nat.le_refl _)] at c1
 simp only [Nat.sub_self, List.getElem_cons_zero] at c1
 rw [hlen] at hd
 obtain ⟨k, hk⟩ : ∃ k, E.length = k := ⟨_, rfl⟩
 rw [hk] at hd c1 hl
 have c0 := cell_blk (i := 0) hd rfl
 have hk1 : ((k + 1 : Nat) : Int) - 1 = (k : Int) := by omega
 have hw : IntKind.i64.wrap (k : Int) = (k : Int) := by rw [IntKind.wrap_i64]; omega
 have hlt : (k : Int) < (k : Int) + 1 := by omega
 clear hc hlen hk h
 go_enter Tryz.func105, Tryz.ntmps105
 go_wp2
 refine Loud.wp_region_weave 14 w (Loud.sps [.val (.pointer (some ⟨d, 0, none⟩)), .val (.pointer (some ⟨d, 0, none⟩)), .val (.pointer (some ⟨d, 0, none⟩)), .val (.slice (some ⟨g, 0, none⟩) (k + 1) cap), .val (.pointer (some ⟨d, 0, none⟩)), .val (.pointer (some ⟨d, 0, none⟩)), .val (.pointer (some ⟨d, 0, none⟩)), .val (.slice (some ⟨g, 0, none⟩) (k + 1) cap), .val (.int .i64 ((k + 1 : Nat) : Int)), .val (.int .i64 (k : Int)), .val (.pointer (some ⟨g, k * 2, none⟩)), .val (.pointer (some ⟨g, k * 2, none⟩)), .val (.int .u32 (n : Int)), .val (.int .u32 (n : Int))]) (by kernel_rfl) (by kernel_rfl) (by show Ext _ _; repeat (first | exact Ext.refl _ | assumption | (with_reducible refine Ext.drew ?_) | (with_reducible refine Ext.drewN ?_ _) | (with_reducible refine Ext.alloc ?_ _) | (refine Ext.trans ?_ (by assumption)))) (Loud.sps_st _) ?wAx1 ?whAx1 ?whSx1 ?whFx1
 case whAx1 => intro u K hK; simp only [List.take_succ_cons, List.take_zero, Loud.puts]; go_simp; exact hK
 case whSx1 =>
  refine ⟨?wsx1_0, ?wsx1_1, ?wsx1_2, ?wsx1_3, ?wsx1_4, ?wsx1_5, ?wsx1_6, ?wsx1_7, ?wsx1_8, ?wsx1_9, ?wsx1_10, ?wsx1_11, ?wsx1_12, ?wsx1_13, trivial⟩
  all_goals (intro u β wq hq h; repeat (obtain ⟨h1, h⟩ := h; first | (replace h1 := h1 rfl; simp only [go_sem] at h1; try (obtain ⟨h1, h1b⟩ := h1)) | (have hno := (h1 : Region.binds _ _ = true → _); clear hno h1)))
  case wsx1_3 =>
   refine Or.inl ⟨rfl, fun K hK => ?_⟩
   have hqc := hq.cell_of c0
   go_simp
   exact hK _ 0 _ (Ext.refl _) rfl
  case wsx1_7 =>
   refine Or.inl ⟨rfl, fun K hK => ?_⟩
   have hqc := hq.cell_of c0
   go_simp
   exact hK _ 0 _ (Ext.refl _) rfl
  case wsx1_12 =>
   refine Or.inl ⟨rfl, fun K hK => ?_⟩
   have hqc := hq.cell_of c1
   go_simp
   exact hK _ 0 _ (Ext.refl _) rfl
  all_goals (first | refine Or.inl ⟨rfl, fun K hK => ?_⟩ | refine Or.inl ⟨Loud.wanted_of rfl rfl (congrArg some (by assumption)), fun K hK => ?_⟩); go_simp; exact hK _ 0 _ (Ext.refl _) rfl
 intro u β w5 hq h
 have h0 := h 0 (by omega)
 have h1 := h 1 (by omega)
 have h2 := h 2 (by omega)
 have h3 := h 3 (by omega)
 have h4 := h 4 (by omega)
 have h5 := h 5 (by omega)
 have h6 := h 6 (by omega)
 have h7 := h 7 (by omega)
 have h8 := h 8 (by omega)
 have h9 := h 9 (by omega)
 have h10 := h 10 (by omega)
 have h11 := h 11 (by omega)
 have h12 := h 12 (by omega)
 have h13 := h 13 (by omega)
 clear h
 simp only [go_sem] at h0 h1 h2 h3 h4 h5 h6 h7 h8 h9 h10 h11 h12 h13
 simp only [List.drop_succ_cons, List.drop_zero]
 rw [h13]
 go_wp2
 go_returns
 exact ⟨rfl, hq⟩
theorem info_entry : (Tryz.prog.info? 93).map (fun i => (i.zero, i.size, i.bytes)) = some (some (.agg #[.int .u32 0, .string { data := #[] }]), 2, 24) := by kernel_rfl
theorem und_entries : Tryz.prog.underlying 89 = some (.slice 93) := by kernel_rfl
theorem info_parts2 {P : Program} {e : TypeId} {z : Value} {size bytes : Nat} (h : (P.info? e).map (fun i => (i.zero, i.size, i.bytes)) = some (some z, size, bytes)) : ∃ i, P.info? e = some i ∧ i.zero = some z ∧ i.size = size ∧ i.bytes = bytes := by
 obtain ⟨i, hi, h2⟩ := Option.map_eq_some_iff.1 h
 simp only [Prod.mk.injEq] at h2
 exact ⟨i, hi, h2.1, h2.2.1, h2.2.2⟩
theorem wpl_appE {ops : Array Oper} {rest : List Oper} {o : Oper} {a : Act} {Q : Exit → Act → World → Prop} {w : World} (B : Nat) (hB : B ≤ w.heap.size) (v : Value) (n : Nat) (xs : List Value) (p : Nat × List UInt8) (hgd : o.guard = none) (s x : Operand)
  (ho : o.op = .call { callee := .builtin .append, args := #[s, x], argTypes := #[89, 89] }) (hs : a.eval s = v) (hown : w.ownsRow B 93 2 v n xs)
  (nb c : Nat) (hx : a.eval x = .slice (some ⟨nb, 0, none⟩) 1 c) (hnb : w.heap[nb]? = some (.cells #[.int .u32 (p.1 : Int), .string (bs p.2)] 93)) (hlen : n ≤ 1000)
  (h : ∀ v' w', w'.ownsRow B 93 2 v' (n + 1) (xs ++ entC p) → Below B w w' → (∀ k, k < w.heap.size → some k ≠ v.ownBlock → w'.heap[k]? = w.heap[k]?) → wpList Tryz.prog ops Q rest (a.put o.dst v') w') : wpList Tryz.prog ops Q (o :: rest) a w := by
 obtain ⟨i0, hi, hz0, hz1, hz2⟩ := info_parts2 info_entry
 have hnc : ∀ j u, (entC p)[j]? = some u → w.cell? ((⟨nb, 0, none⟩ : Addr).add j) = some u := by
  intro j u hj
  rw [Addr.add_lit]
  refine cell_blk hnb ?_
  match j, hj with
  | 0, hj => simpa [entC] using hj
  | 1, hj => simpa [entC] using hj
  | j + 2, hj => simp [entC] at hj
 refine wpList_append_own w hgd s x 89 ho B 93 i0 _ 2 24 und_entries hi hz0 hz1 hz2 rfl (by omega) v n xs hs hown ⟨nb, 0, none⟩ 1 c (entC p) hx rfl hnc ?_ (by unfold maxLen; omega) (by omega) hB ?_
 ·intro u hu
  simp only [entC, List.mem_cons, List.not_mem_nil, or_false] at hu
  rcases hu with rfl | rfl <;> rfl
 ·intro v' w' h2 hg _
  exact h v' w' h2 ((Below.refl B w).grown hg hB (fun k hk => ((World.ownsRow.lt hown) k hk).1)) (fun k hk hne => hg.block k hk hne)
def KeepsD (d : Nat) (w w' : World) : Prop := ∀ b o, w.heap[b]? = some o → b ≠ d → (∀ cs fz, o ≠ .cells cs 93 fz) → w'.heap[b]? = some o
set_option maxRecDepth 100000 in
set_option maxHeartbeats 1000000 in
theorem ref_ring_Rotate (B d : Nat) (E0 : Eps) (n : Nat) (k0 key : List UInt8) (w : World) (h : DocAt w B d (E0 ++ [(n, k0)])) (hB : B ≤ w.heap.size) (hk : key.length = 32) (hE : E0.length + 1 < 64) (hn : n < 4294967295) :
  Calls Tryz.prog 81 #[.pointer (some ⟨d, 0, none⟩), .string (bs key)] w fun e w' => e = .returned (.tuple #[.int .u32 ((n + 1 : Nat) : Int), .int .i64 0]) ∧ DocAt w' B d (E0 ++ [(n, k0)] ++ [(n + 1, key)]) ∧ Below B w w' ∧ KeepsD d w w' := by
 have GN := Lib.hid (ref_ring_Newest B d E0 n k0 w h (by omega))
 have hlen : (E0 ++ [(n, k0)]).length = E0.length + 1 := by simp
 obtain ⟨g, cap, hd, hBd, hBg, hgl, hgd, hown, _⟩ := h.look (by simp)
 generalize E0 ++ [(n, k0)] = E at *
 have hEl : E.length < 64 := by omega
 clear hlen hE
 have HD := Lib.hid hd
 have HO := Lib.hid hown
 have HG : Hid (∃ cs, w.heap[g]? = some (.cells cs 93)) := Lib.hid (by
  rcases hown.2 with ⟨h0, _⟩ | ⟨g', _, cur, hv, _, hh, _⟩
  ·cases h0
  ·injection hv with hv; injection hv with hv; injection hv with hv
   subst hv; exact ⟨cur, hh⟩)
 have hne : ((key.length : Int) != 32) = false := by simp; omega
 have hle : decide ((64 : Int) ≤ (E.length : Int)) = false := by simp; omega
 have hnm : ((n : Int) == 4294967295) = false := by simp; omega
 obtain ⟨n1, hn1⟩ : ∃ n1 : Nat, n + 1 = n1 := ⟨_, rfl⟩
 have hni : (n : Int) + 1 = (n1 : Int) := by omega
 have hw : IntKind.u32.wrap (n1 : Int) = (n1 : Int) := by rw [IntKind.wrap_u32]; omega
 rw [hn1]
 have hdl := blk_lt hd
 have HEL := Lib.hid hEl
 clear hd hown h hk hn hn1 hEl
 go_enter Tryz.func81, Tryz.ntmps81
 go_upto_region 4 with (go_at_call 105; refine GN.out.mono ?_; rintro e w1 ⟨rfl, hx1⟩; have hc0 := cell_blk (i := 0) (hx1.keep HD.out) rfl)
 have hs1 := hx1.size
 go_wp2_with (at_builtin; refine wpl_appE B (by simp; omega) (.slice (some ⟨g, 0, none⟩) E.length cap) E.length (E.flatMap entC) (n1, key) rfl (Operand.tmp 26) (Operand.tmp 31) rfl rfl (ownsRow_ext HO.out (hx1.alloc _)) w1.heap.size 1 rfl (heap_alloc_new w1 _) (by have := HEL.out; omega) ?_; intro v' w3 hrow3 hb3 hk3; have e0 := (hk3 d (by simp; omega) (fun e => hgd (by injection e with e; exact e.symm))).trans ((hx1.alloc (.cells #[.int .u32 (n1 : Int), .string (bs key)] 93)).keep HD.out); have c0 := cell_blk (i := 0) e0 rfl; have f0 : w3.frozen? ⟨d, 0, none⟩ = false := frozen_blk e0; have E0 := Lib.hid e0; obtain ⟨g3, cap3, hv3, hg3⟩ := own_look hrow3; subst hv3; have HR3 := Lib.hid hrow3; clear e0 hrow3)
 go_returns
 refine ⟨rfl, ⟨.slice (some ⟨g3, 0, none⟩) (E.length + 1) cap3, heap_setCell_same _ E0.out, hBd, ?_⟩, ?_, ?_⟩
 ·have := own_set (u := .slice (some ⟨g3, 0, none⟩) (E.length + 1) cap3) HR3.out E0.out (by decide)
  rw [List.length_append, List.flatMap_append]
  simpa using this
 ·exact (((hx1.alloc _).mono hB).trans hb3).setCell hBd _
 ·intro b o hb hbd hty
  have hbg : b ≠ g := by
   rintro rfl
   obtain ⟨cs, hcs⟩ := HG.out
   rw [hb] at hcs
   injection hcs with hcs
   exact hty _ _ hcs
  have hbl := blk_lt hb
  have h1 := (hx1.alloc (.cells #[.int .u32 (n1 : Int), .string (bs key)] 93)).keep hb
  exact (heap_setCell_other _ _ _ hbd).trans ((hk3 b (by simp; omega) (fun e => hbg (by injection e))).trans h1)
end Go.Proofs.YtclekllaikcglaaGreat
