import Derived.Test.YtclekllaikcglaaGreatSortF
import Derived.Test.YtclekllaikcglaaGreatRing
import Derived.Sort.LoopGhostIn
import Derived.Shelf.Abstract
import Derived.Sort.MapsRangeIn

/- The keys of a map of uint32, in order: maps.Keys, slices.Collect, slices.Sorted, Ring.Epochs. -/
namespace Go.Proofs.YtclekllaikcglaaGreat
open Go Go.RowKit
open Go.Sort (PermIn SortedIn ltInt Holds)
open Go.ChangeMaps (setBlock)
attribute [local go_sem] Oper.semAt_some
section
variable {F : Fence} {n : Nat} {P : Program} {w : World} {ops : Array Oper} {rest : List Oper} {o : Oper} {a : Act} {Q : Exit → Act → World → Prop}
theorem wplIn_range (hg : o.guard = none) (m : Operand) (T : TypeId) (hop : o.op = Op.range T m) {kt et : TypeId} {q : IntKind} (hT : P.underlying T = some (.map kt et)) (b : Nat) (L : Ents) (clk : Nat) (hm : a.eval m = .map (some b)) (hb : w.heap[b]? = some (mobj q L clk))
  (h : wpListIn F n P ops Q rest (a.put o.dst (.pointer (some ⟨w.heap.size, 0, none⟩))) (w.alloc (iter b clk []))) : wpListIn F n P ops Q (o :: rest) a w := by
 refine wpListIn_plain hg fun K' hK' => ?_
 unfold Oper.wpIn
 refine ⟨by simp [Oper.about, hop], ?_⟩
 rw [Oper.semAt_plain F _ _ (by rw [hop]; intro c hc'; cases hc')]
 simp [execOp, hop, hm, run_range_map w T kt et b _ clk hT hb, Result.andThen]
 exact hK' _ _ h
theorem run_next_m {q : IntKind} (ty : TypeId) (r b : Nat) (L done : Ents) (clk : Nat) (hr : w.heap[r]? = some (iter b clk done)) (hb : w.heap[b]? = some (mobj q L clk)) (hL : Born L clk) (hd : (done.map (·.2.2)).Nodup) (hsub : ∀ e ∈ done, e ∈ L) :
  (done.Perm L ∧ (Instr.next (.pointer (some ⟨r, 0, none⟩)) false ty).run P w = .ok (.tuple #[.bool false]) w) ∨
  (∃ (e : Int × Value × Nat) (w' : World), e ∈ L ∧ e ∉ done ∧ ((done ++ [e]).map (·.2.2)).Nodup ∧ w'.heap[r]? = some (iter b clk (done ++ [e])) ∧ But [r] w w' ∧ w'.heap.size = w.heap.size ∧ (Instr.next (.pointer (some ⟨r, 0, none⟩)) false ty).run P w = .ok (.tuple #[.bool true, .int q e.1, e.2.1]) w') := by
 have hinj : ∀ e ∈ L, ∀ e' ∈ L, e.2.2 = e'.2.2 → e = e' := by
  intro e he e' he' h
  exact nodup_map_inj (·.2.2) L hL.1 e he e' he' h
 have hmem : ∀ e ∈ L, e.2.2 ∈ done.map (·.2.2) ↔ e ∈ done := by
  intro e he
  constructor
  ·intro h
   obtain ⟨e', h1, h2⟩ := List.mem_map.1 h
   rw [hinj e he e' (hsub e' h1) h2.symm]; exact h1
  ·intro h; exact List.mem_map_of_mem h
 rcases run_next_at (P := P) w ty r b clk clk _ _ clk hr hb (by
   intro x hx
   simp at hx
   obtain ⟨i, v, n, h1, rfl⟩ := hx
   exact hL.2 _ h1) (Nat.le_refl _) with ⟨h0, hrun⟩ | ⟨x, hx, w1, hw1, hrun⟩
 ·refine .inl ⟨?_, hrun⟩
  refine (List.perm_ext_iff_of_nodup (nodup_of_map hd) (nodup_of_map hL.1)).2 fun e => ⟨hsub e, fun he => ?_⟩
  have h1 : leftOf (L.map (ent q)).toArray (done.map (·.2.2)).toArray = #[] := Array.eq_empty_of_size_eq_zero h0
  unfold leftOf at h1
  rw [Array.filter_eq_empty_iff] at h1
  have h2 := h1 (ent q e) (by simp; exact ⟨_, _, _, he, rfl⟩)
  simp only [ent, Bool.not_eq_true', Bool.not_eq_false, Array.contains_eq_mem, List.mem_toArray, decide_eq_true_eq] at h2
  exact (hmem e he).1 h2
 ·unfold leftOf at hx
  simp only [Array.toList_filter, List.mem_filter, List.mem_map, Bool.not_eq_true', Array.contains_eq_mem, decide_eq_false_iff_not, List.mem_toArray] at hx
  obtain ⟨⟨e, he, rfl⟩, hn⟩ := hx
  have hw : But [r] w w1 := by rcases hw1 with rfl | rfl; exact But.refl _ _; exact (But.refl _ _).drew
  have hr1 : w1.heap[r]? = some (iter b clk done) := by rcases hw1 with rfl | rfl <;> exact hr
  refine .inr ⟨e, _, he, ?_, ?_, ?_, hw.setB (Or.inl (by simp)) _, ?_, hrun⟩
  ·intro hed; exact hn ⟨e, hed, rfl⟩
  ·rw [List.map_append, List.nodup_append]
   refine ⟨hd, by simp, ?_⟩
   intro y hy z hz hyz
   simp at hz
   subst hz; subst hyz
   obtain ⟨x, hx, hxe⟩ := List.mem_map.1 hy
   exact hn ⟨x, hx, hxe⟩
  ·rw [heap_setB_same _ hr1]
   simp [iter, ent]
  ·rcases hw1 with rfl | rfl <;> simp [setBlock]
theorem wplIn_next (hg : o.guard = none) (it : Operand) (hop : o.op = Op.next it false) {q : IntKind} (r b : Nat) (L done : Ents) (clk : Nat) (hit : a.eval it = .pointer (some ⟨r, 0, none⟩))
  (hr : w.heap[r]? = some (iter b clk done)) (hb : w.heap[b]? = some (mobj q L clk)) (hL : Born L clk) (hd : (done.map (·.2.2)).Nodup) (hsub : ∀ e ∈ done, e ∈ L)
  (hEnd : done.Perm L → wpListIn F n P ops Q rest (a.put o.dst (.tuple #[.bool false])) w)
  (hMore : ∀ (e : Int × Value × Nat) (w' : World), e ∈ L → e ∉ done → ((done ++ [e]).map (·.2.2)).Nodup → w'.heap[r]? = some (iter b clk (done ++ [e])) → But [r] w w' → w'.heap.size = w.heap.size → wpListIn F n P ops Q rest (a.put o.dst (.tuple #[.bool true, .int q e.1, e.2.1])) w') :
  wpListIn F n P ops Q (o :: rest) a w := by
 refine wpListIn_plain hg fun K' hK' => ?_
 unfold Oper.wpIn
 refine ⟨by simp [Oper.about, hop], ?_⟩
 rw [Oper.semAt_plain F _ _ (by rw [hop]; intro c hc'; cases hc')]
 rcases run_next_m (P := P) o.type r b L done clk hr hb hL hd hsub with ⟨hp, hrun⟩ | ⟨e, w', h1, h2, h3, h4, h5, h6, hrun⟩
 ·simp [execOp, hop, hit, hrun, Result.andThen]
  exact hK' _ _ (hEnd hp)
 ·simp [execOp, hop, hit, hrun, Result.andThen]
  exact hK' _ _ (hMore e w' h1 h2 h3 h4 h5 h6)
theorem run_entry_m {q : IntKind} (r b : Nat) (L done : Ents) (e : Int × Value × Nat) (clk : Nat) (hr : w.heap[r]? = some (iter b clk (done ++ [e]))) (hb : w.heap[b]? = some (mobj q L clk)) (hL : Born L clk) (he : e ∈ L) :
  (Instr.entry (.pointer (some ⟨r, 0, none⟩))).run P w = .ok (.tuple #[.int q e.1, e.2.1]) w :=
 run_entry_at (P := P) w r b clk (done.map (·.2.2)).toArray (L.map (ent q)).toArray clk (ent q e) (by rw [hr]; simp [iter, ent]) hb (by simp; exact ⟨_, _, _, he, rfl⟩) (by
  have : ((L.map (ent q)).toArray.toList.map (·.born)) = L.map (·.2.2) := by simp [ent]
  rw [this]; exact hL.1)
end
theorem but_grown {r : Nat} {w w' : World} (h : But [r] w w') : w.grownBy w' (some r) := ⟨h.os, h.tape, h.output, h.size, fun k hk hn => h.block k hk (by simp; exact fun e => hn (by rw [e]))⟩
theorem keepsWalks_map {W W' : World} {b : Nat} {q : IntKind} {L : Ents} {clk : Nat} (h : KeepsWalks W W') (hb : W.heap[b]? = some (mobj q L clk)) : W'.heap[b]? = some (mobj q L clk) := h.same b _ hb rfl
theorem keepsWalks_iter {W W' : World} {r b : Nat} {done : Ents} {clk : Nat} (h : KeepsWalks W W') (hb : W.heap[r]? = some (iter b clk done)) : W'.heap[r]? = some (iter b clk done) := h.same r _ hb rfl
theorem nodup_len {α : Type} [DecidableEq α] : ∀ (l m : List α), l.Nodup → (∀ x ∈ l, x ∈ m) → l.length ≤ m.length
 | [], _, _, _ => Nat.zero_le _
 | x :: l, m, h, hs => by
  rw [List.nodup_cons] at h
  have hx := hs x (by simp)
  have := nodup_len l (m.erase x) h.2 (fun y hy => (List.mem_erase_of_ne (by rintro rfl; exact h.1 hy)).2 (hs y (by simp [hy])))
  rw [List.length_erase_of_mem hx] at this
  have := List.length_pos_of_mem hx
  simp; omega
theorem len_left {done L : Ents} {e : Int × Value × Nat} (hd : (done.map (·.2.2)).Nodup) (hsub : ∀ e ∈ done, e ∈ L) (he : e ∈ L) (hb : e.2.2 ∉ done.map (·.2.2)) : done.length < L.length := by
 have h1 : ((e :: done).map (·.2.2)).Nodup := by
  rw [List.map_cons, List.nodup_cons]
  exact ⟨hb, hd⟩
 have := nodup_len ((e :: done).map (·.2.2)) (L.map (·.2.2)) h1 (fun x hx => by
  obtain ⟨y, hy, rfl⟩ := List.mem_map.1 hx
  refine List.mem_map_of_mem (f := fun e : Int × Value × Nat => e.2.2) ?_
  rcases List.mem_cons.1 hy with rfl | hy
  ·exact he
  ·exact hsub _ hy)
 simp at this
 omega
set_option maxRecDepth 100000 in
set_option maxHeartbeats 4000000 in
theorem keys1_in (n : Nat) (hn : 1 ≤ n) (l Bm b : Nat) (L : Ents) (clk : Nat) (hL : Born L clk) (J Jx : List Int → World → Prop) (W : World) (hJ : AbidesFrom W.heap.size J)
  (hY : ∀ pre x W1, J pre W1 → pre.length < L.length → YieldAt Fence.wide (n - 1) Tryz.prog l #[.int .u32 x] W1 fun e W' => (e = .returned (.bool true) ∧ J (pre ++ [x]) W' ∧ KeepsWalks W1 W') ∨ (e = .returned (.bool false) ∧ Jx (pre ++ [x]) W'))
  (hm : W.cell? ⟨Bm, 0, none⟩ = some (.map (some b))) (hb : W.heap[b]? = some (mobj .u32 L clk)) (h0 : J [] W) :
  CallsIn Fence.wide n Tryz.prog 96 #[.func (.yield l) #[] #[], .pointer (some ⟨Bm, 0, none⟩)] W fun e W' => (∃ v, e = .returned v) ∧
   ((∃ xs, xs.Perm (L.map (·.1)) ∧ J xs W') ∨ (∃ pre, True ∧ Jx pre W')) := by
 refine callsIn_of_wp Tryz.func96 rfl trivial ?_ rfl
 simp only [Tryz.ntmps96, List.size_toArray, List.length_cons, List.length_nil, Nat.reduceAdd, Nat.reduceSub, Array.replicate_succ, Array.replicate_zero, List.push_toArray, List.append_toArray, List.nil_append, List.cons_append]
 have HB := Lib.hid hb
 have HJ := Lib.hid h0
 clear hb h0
 gi_wp2_with (first
  | (gi_at_range; refine wplIn_range rfl _ _ rfl und_map b L clk rfl HB.out ?_)
  | gi_in)
 obtain ⟨rb, hrb⟩ : ∃ rb, W.heap.size = rb := ⟨_, rfl⟩
 obtain ⟨W0, hW0⟩ : ∃ W0, W.alloc (iter b clk []) = W0 := ⟨_, rfl⟩
 have k1 : W0.heap[rb]? = some (iter b clk []) := by rw [← hW0, ← hrb]; exact heap_alloc_new _ _
 have k2 : W0.heap[b]? = some (mobj .u32 L clk) := by rw [← hW0]; exact heap_alloc_old _ _ HB.out
 have k3 : J [] W0 := hJ [] W W0 none HJ.out (by rw [← hW0]; exact World.grownBy_alloc W _ none) (fun r e => by cases e)
 rw [hW0, hrb]
 have K1 := Lib.hid k1
 have K2 := Lib.hid k2
 have K3 := Lib.hid k3
 rw [hrb] at hJ
 have HA := Lib.hid hJ
 have HY := Lib.hid hY
 clear k1 k2 k3 hJ hY HJ HB hW0 hm hrb
 go_frame
 gi_loopg [3] L.length (fun k _ wr => ∃ done : Ents, done.length + k = L.length ∧ Hid (wr.heap[rb]? = some (iter b clk done)) ∧ Hid (wr.heap[b]? = some (mobj .u32 L clk)) ∧ Hid ((done.map (·.2.2)).Nodup) ∧ Hid (∀ e ∈ done, e ∈ L) ∧ Hid (J (done.map (·.1)) wr))
 case atStart => exact ⟨[], by simp, K1, K2, Lib.hid (by simp), Lib.hid (by simp), K3⟩
 case round =>
  obtain ⟨done, hk, H1, H2, H3, H4, H5⟩ := hrel
  clear K1 K2 K3
  gi_wp2_with (first
   | (gi_at_next; refine wplIn_next rfl _ rfl rb b L done clk rfl H1.out H2.out hL H3.out H4.out ?_ ?_)
   | gi_in)
  case refine_1 =>
   intro hp
   have HP := Lib.hid hp
   clear hp
   gi_wp2
   go_end0
   exact ⟨⟨_, rfl⟩, .inl ⟨_, HP.out.map _, H5.out⟩⟩
  case refine_2 =>
   intro x y c w2 he hnd hnn hr2 hb2 hs2
   have hnn2 : ((done ++ [(x, y, c)]).map (·.2.2)).Nodup := by rw [List.map_append]; exact hnn
   have hcd : c ∉ done.map (·.2.2) := by
    rw [List.nodup_append] at hnn
    intro hc
    exact hnn.2.2 c hc c (by simp) rfl
   have hlen := len_left (e := (x, y, c)) H3.out H4.out he hcd
   have hbr : b ≠ rb := by
    rintro rfl
    have h1 := H1.out
    rw [H2.out] at h1
    cases h1
   have hm2 : w2.heap[b]? = some (mobj .u32 L clk) := hb2.keep H2.out (by simpa using hbr)
   have hen : (Instr.entry (.pointer (some ⟨rb, 0, none⟩))).run Tryz.prog w2 = .ok (.tuple #[.int .u32 x, y]) w2 := run_entry_m (q := .u32) rb b L done (x, y, c) clk hr2 hm2 hL he
   have hJ2 := HA.out _ wr w2 (some rb) H5.out (but_grown hb2) (fun r e => by cases e; exact ⟨Nat.le_refl _, _, H1.out, rfl⟩)
   obtain ⟨fn, tmps, assign, body, hy, hR⟩ := HY.out _ x w2 hJ2 (by simpa using hlen)
   have HR := Lib.hid hR
   have K1 := Lib.hid hr2
   have K2 := Lib.hid hm2
   have K3 := Lib.hid hnn2
   have K4 : Hid (∀ e ∈ done ++ [(x, y, c)], e ∈ L) := Lib.hid (fun e h => by
    rcases List.mem_append.1 h with h | h
    ·exact H4.out e h
    ·simp at h; subst h; exact he)
   clear hR hr2 hm2 hnn2 hnn hcd hJ2 hs2 hb2 hnd he
   have hgk : 0 < gk := by omega
   gi_wp2
   refine HR.out.mono ?_
   rintro e W3 (⟨rfl, hJ3, hk3⟩ | ⟨rfl, hJx3⟩)
   ·have HJ3 := Lib.hid hJ3
    have HK3 := Lib.hid hk3
    clear hJ3 hk3 hen
    gi_wp2
    gi_roundg (gk - 1)
    case measure => omega
    case rel => exact ⟨done ++ [(x, y, c)], by simp; omega, Lib.hid (keepsWalks_iter HK3.out K1.out), Lib.hid (keepsWalks_map HK3.out K2.out), K3, K4, Lib.hid (by rw [List.map_append]; exact HJ3.out)⟩
   ·have HJ3 := Lib.hid hJx3
    clear hJx3 hen
    gi_wp2
    refine bodyPost_ret (results_none rfl _ _ _) rfl ?_
    exact ⟨⟨_, rfl⟩, .inr ⟨_, trivial, HJ3.out⟩⟩
theorem keys_stops (n : Nat) (hn : 1 ≤ n) (Bm b : Nat) (L : Ents) (clk : Nat) (hL : Born L clk) (w : World) (hm : w.cell? ⟨Bm, 0, none⟩ = some (.map (some b))) (hb : w.heap[b]? = some (mobj .u32 L clk)) :
  SeqStopsK Fence.wide n Tryz.prog 96 #[.pointer (some ⟨Bm, 0, none⟩)] (fun x : Int => #[Value.int .u32 x]) KeepsWalks (fun xs => xs.Perm (L.map (·.1))) (fun _ => True) L.length w := fun l J Jx W hW hJ _ hY h0 =>
 keys1_in n hn l Bm b L clk hL J Jx W hJ hY (Ext.cell_of hW hm) (Ext.keep hW hb) h0
set_option maxRecDepth 100000 in
theorem keys_any (b : Nat) (w : World) :
  Calls Tryz.prog 72 #[.map (some b)] w fun e w' => e = .returned (.func (.func 96) #[] #[.pointer (some ⟨w.heap.size, 0, none⟩)]) ∧ w' = w.alloc (.cells #[.map (some b)] 97) := by
 go_enter Tryz.func72, Tryz.ntmps72
 go_wp2
 go_returns
 exact ⟨rfl, rfl⟩
set_option maxRecDepth 100000 in
theorem collect32 (gf : Nat) (lb : Array Value) (N : Nat) (hN : N ≤ 1000) (S : List Int → Prop) (w : World) (eg : ∀ args w, (callFunc gf args).run Tryz.prog w = .ok (.enter gf args) w)
  (hseq : SeqStopsK Fence.wide 2 Tryz.prog gf lb (fun x : Int => #[Value.int .u32 x]) KeepsWalks S (fun _ => True) N w) :
  Calls Tryz.prog 94 #[.func (.func gf) #[] lb] w (APS S w) := by
 have G := Lib.hid (appendSeq32 gf lb N hN S w eg hseq)
 clear hseq eg
 go_enter Tryz.func94, Tryz.ntmps94
 go_wp2_with (go_at_call 116; (with_reducible refine G.out.mono ?_); rintro e w1 ⟨v, xs, rfl, h1, h2, h3⟩; have H1 := Lib.hid h1; have H2 := Lib.hid h2; have H3 := Lib.hid h3; clear h1 h2 h3)
 go_returns
 exact ⟨v, xs, rfl, H1.out, H2.out, H3.out⟩
def SRT (S : List Int → Prop) (w : World) (e : Ending) (w' : World) : Prop := ∃ (v : Value) (xs ys : List Int), e = .returned v ∧ S xs ∧ ys.Perm xs ∧ SortedIn ltInt 0 ys.length ys.toArray ∧ Row w' w.heap.size 46 v (ys.map e32) ∧ Ext w w'
theorem but_ext {w w1 w' : World} {g : Nat} (hx : Ext w w1) (hg : w.heap.size ≤ g) (hb : But [g] w1 w') : Ext w w' := But.ext hx hb (by simpa using hg)
set_option maxRecDepth 100000 in
theorem sorted32 (gf : Nat) (lb : Array Value) (N : Nat) (hN : N ≤ 255) (S : List Int → Prop) (hS : ∀ xs, S xs → xs.length = N) (hN0 : 0 < N) (w : World) (eg : ∀ args w, (callFunc gf args).run Tryz.prog w = .ok (.enter gf args) w)
  (hseq : SeqStopsK Fence.wide 2 Tryz.prog gf lb (fun x : Int => #[Value.int .u32 x]) KeepsWalks S (fun _ => True) N w) :
  Calls Tryz.prog 71 #[.func (.func gf) #[] lb] w (SRT S w) := by
 have G := Lib.hid (collect32 gf lb N (by omega) S w eg hseq)
 have HS := Lib.hid hS
 clear hseq eg hS
 go_enter Tryz.func71, Tryz.ntmps71
 go_wp2_with (go_at_call 94; (with_reducible refine G.out.mono ?_); rintro e w1 ⟨v, xs, rfl, h1, h2, h3⟩; have H1 := Lib.hid h1; have H2 := Lib.hid h2; have H3 := Lib.hid h3; clear h1 h2 h3)
 have hl := HS.out xs H1.out
 subst hl
 rcases H2.out.look with ⟨rfl, h0⟩ | ⟨g, cap, cur, hvv, hB, hh, _⟩
 ·simp at h0; subst h0; simp at hN0
 ·rw [List.length_map] at hvv
  obtain ⟨hH, hg, _⟩ := row_holds (by rw [← hvv]; exact H2.out)
  have GS := Lib.hid (sort32 g 0 cap xs.length xs.toArray w1 hH (by simp) hg (by omega))
  have HB := Lib.hid hB
  subst hvv
  clear hH hg hh hB
  go_wp2_with (go_at_call 95; (with_reducible refine GS.out.mono ?_); rintro e w2 ⟨d', rfl, h1, h2, h3⟩; have P1 := Lib.hid h1; have P2 := Lib.hid h2; have P3 := Lib.hid h3; clear h1 h2 h3)
  go_returns
  have hsz := P3.out.size
  refine ⟨_, xs, d'.toList, rfl, H1.out, ?_, ?_, sw_row H2.out P3.out, but_ext H3.out HB.out P3.out.but⟩
  ·have := P1.out.2.2
   have e1 : d'.extract 0 xs.length = d' := by rw [← hsz]; simp
   have e2 : xs.toArray.extract 0 xs.length = xs.toArray := by simp
   rw [e1, e2] at this
   simpa using this
  ·simpa [hsz] using P2.out
theorem asc_eq (ys : List Int) (E : Eps) (hA : E.Pairwise (fun p q => p.1 < q.1)) (hp : ys.Perm (E.map fun p => (p.1 : Int))) (hs : SortedIn ltInt 0 ys.length ys.toArray) : ys = E.map fun p => (p.1 : Int) := by
 have h1 : ys.Pairwise (fun a b : Int => a ≤ b) := by
  rw [List.pairwise_iff_getElem]
  intro i j hi hj hij
  have := hs i j (by omega) hij hj
  simp only [List.getElem!_toArray] at this
  rw [getElem!_pos ys j hj, getElem!_pos ys i hi] at this
  simp [ltInt] at this
  omega
 have h2 : (E.map fun p => (p.1 : Int)).Pairwise (fun a b : Int => a ≤ b) := by
  rw [List.pairwise_map]
  exact hA.imp (fun h => by omega)
 exact List.Perm.eq_of_pairwise (le := fun a b : Int => a ≤ b) (fun a b _ _ h1 h2 => Int.le_antisymm h1 h2) h1 h2 hp
def EPO (w : World) (E : Eps) (e : Ending) (w' : World) : Prop := ∃ v, e = .returned v ∧ Row w' w.heap.size 46 v (E.map fun p => e32 (p.1 : Int)) ∧ Ext w w'
set_option maxRecDepth 100000 in
theorem ring_Epochs (r m : Nat) (E : Eps) (n : Nat) (w : World) (h : RingAt w r m E n) (hn : 0 < n) (hA : E.Pairwise (fun p q => p.1 < q.1)) (hE : E ≠ []) (hl : E.length ≤ 255) :
  Calls Tryz.prog 43 #[.pointer (some ⟨r, 0, none⟩)] w (EPO w E) := by
 have GM := Lib.hid (ring_made r m E n w h hn)
 obtain ⟨L, clk, hL, hB, c, d⟩ := h
 have hLl : L.length = E.length := by simpa using congrArg List.length hL
 have hk : L.map (·.1) = E.map fun p => (p.1 : Int) := by
  have := congrArg (List.map Prod.fst) hL
  simpa [entV, Function.comp_def] using this
 have c0 := cell_blk (i := 0) c rfl
 have GK := Lib.hid (keys_any m w)
 have hx : Ext w (w.alloc (.cells #[.map (some m)] 97)) := (Ext.refl w).alloc _
 have hk1 : (w.alloc (.cells #[.map (some m)] 97)).cell? ⟨w.heap.size, 0, none⟩ = some (.map (some m)) := cell_blk (heap_alloc_new _ _) rfl
 have GS := Lib.hid (sorted32 96 #[.pointer (some ⟨w.heap.size, 0, none⟩)] L.length (by omega) (fun xs => xs.Perm (L.map (·.1))) (fun xs h => by simpa using h.length_eq)
  (by rw [hLl]; exact List.length_pos_iff.2 hE) _ (enters_of Tryz.func96 (by kernel_rfl) rfl) (keys_stops 2 (by omega) w.heap.size m L clk hB _ hk1 (hx.keep d)))
 have HK := Lib.hid hk
 have HA := Lib.hid hA
 clear hL hB c d hLl hk hA hE hl hk1 hx
 go_enter Tryz.func43, Tryz.ntmps43
 go_wp2_with (first
  | (go_at_call 70; (with_reducible refine GM.out.mono ?_); rintro e w' ⟨rfl, rfl⟩)
  | (go_at_call 72; (with_reducible refine GK.out.mono ?_); rintro e w1 ⟨rfl, rfl⟩)
  | (go_at_call 71; (with_reducible refine GS.out.mono ?_); rintro e w2 ⟨v, xs, ys, rfl, h1, h2, h3, h4, h5⟩; have P1 := Lib.hid (h2.trans h1); have P3 := Lib.hid h3; have P4 := Lib.hid h4; have P5 := Lib.hid h5; clear h1 h2 h3 h4 h5))
 go_returns
 have hp := P1.out
 rw [HK.out] at hp
 have hy := asc_eq ys E HA.out hp P3.out
 subst hy
 refine ⟨_, rfl, ?_, ((Ext.refl w).alloc _).trans P5.out⟩
 have h4 := P4.out.mono (B' := w.heap.size) (by simp)
 rw [List.map_map] at h4
 exact h4
end Go.Proofs.YtclekllaikcglaaGreat
