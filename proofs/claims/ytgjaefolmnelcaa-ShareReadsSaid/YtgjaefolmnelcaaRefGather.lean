/- Contracts: layer 6, the document's gatherer. -/
import Derived.Test.YtgjaefolmnelcaaGather
namespace Go.Proofs.Ytgjaefolmnelcaa
open Go Go.RowKit

theorem info_share : (Try.prog.info? 53).map (fun i => (i.zero, i.size, i.bytes)) = some (some (.agg #[.int .i64 0, .int .i64 0, .string { data := #[] }]), 3, 32) := by kernel_rfl
theorem und_shares : Try.prog.underlying 64 = some (.slice 53) := by kernel_rfl
def gval (x : Nat × Nat × List UInt8) : List Value := [.int .i64 x.1, .int .i64 x.2.1, .string (bs x.2.2)]
def gvals (l : GS) : List Value := l.flatMap gval
theorem gvals_length : ∀ (l : GS), (gvals l).length = l.length * 3
  | [] => rfl
  | x :: l => by
    have := gvals_length l
    simp only [gvals] at this ⊢
    rw [List.flatMap_cons, List.length_append, this]
    simp [gval]; omega
theorem gvals_snoc (l : GS) (x : Nat × Nat × List UInt8) : gvals (l ++ [x]) = gvals l ++ gval x := by simp [gvals]
theorem gvals_at : ∀ (l : GS) (i j : Nat) (_ : i < l.length) (_ : j < 3), (gvals l)[i * 3 + j]? = (gval l[i])[j]?
  | x :: l, 0, j, _, hj => by
    have : gvals (x :: l) = gval x ++ gvals l := by simp [gvals]
    rw [this, List.getElem?_append_left (by simp [gval]; omega)]; simp
  | x :: l, i + 1, j, hi, hj => by
    have ih := gvals_at l i j (by simpa using hi) hj
    have : gvals (x :: l) = gval x ++ gvals l := by simp [gvals]
    rw [this, List.getElem?_append_right (by simp [gval]; omega)]
    have e : (i + 1) * 3 + j - (gval x).length = i * 3 + j := by simp [gval]; omega
    rw [e, ih]; simp
/-- The slice v reads as the shares l. -/
def Sh (w : World) (v : Value) (l : GS) : Prop :=
  ∃ ad cap, v = .slice ad l.length cap ∧ ∀ i (hi : i < l.length), ∃ b, ad = some ⟨b, 0, none⟩ ∧ b < w.heap.size ∧ w.cell? ⟨b, i * 3, none⟩ = some (.int .i64 l[i].1) ∧ w.cell? ⟨b, i * 3 + 1, none⟩ = some (.int .i64 l[i].2.1) ∧ w.cell? ⟨b, i * 3 + 2, none⟩ = some (.string (bs l[i].2.2))
theorem Sh.ext {w w' : World} {v : Value} {l : GS} (h : Sh w v l) (hx : Ext w w') : Sh w' v l := by
  obtain ⟨ad, cap, hv, hc⟩ := h
  refine ⟨ad, cap, hv, fun i hi => ?_⟩
  obtain ⟨b, ha, hb, h0, h1, h2⟩ := hc i hi
  exact ⟨b, ha, Nat.lt_of_lt_of_le hb hx.size, hx.cell_of h0, hx.cell_of h1, hx.cell_of h2⟩
theorem Sh.of_row {w : World} {B : Nat} {v : Value} {l : GS} (h : w.ownsRow B 53 3 v l.length (gvals l)) : Sh w v l := by
  rcases h.2 with ⟨rfl, h2⟩ | ⟨g, cap, cur, rfl, hg, hh, h3, h4, h5, h6⟩
  · exact ⟨none, 0, by rw [h2], fun i hi => absurd hi (by omega)⟩
  · refine ⟨_, cap, rfl, fun i hi => ⟨g, rfl, blk_lt hh, ?_⟩⟩
    have hc : ∀ j, j < 3 → w.cell? ⟨g, i * 3 + j, none⟩ = (gval l[i])[j]? := by
      intro j hj
      have e := gvals_at l i j hi hj
      rw [← h6, List.getElem?_take, if_pos (by omega)] at e
      rw [← e]
      have : ∃ u, (gval l[i])[j]? = some u := ⟨(gval l[i])[j]'(by simp [gval]; omega), List.getElem?_eq_getElem _⟩
      obtain ⟨u, hu⟩ := this
      rw [hu] at e
      rw [e]
      exact cell_blk hh (by simpa using e)
    exact ⟨hc 0 (by omega), hc 1 (by omega), hc 2 (by omega)⟩
/-- The document's gatherer at block br, of new blocks only. -/
def RG (w : World) (B br : Nat) (l : GS) : Prop :=
  B ≤ br ∧ ∃ v, w.heap[br]? = some (.cells #[v] 66) ∧ w.ownsRow B 53 3 v l.length (gvals l) ∧ v.ownBlock ≠ some br
theorem RG.new (w : World) (B : Nat) (hB : B ≤ w.heap.size) : RG (w.alloc (.cells #[.slice none 0 0] 66)) B w.heap.size [] :=
  ⟨hB, _, heap_alloc_new _ _, World.ownsRow_nil _ _ _ _, by simp [Value.ownBlock]⟩
theorem own_keep {w w' : World} {B size : Nat} {e : TypeId} {v : Value} {n : Nat} {xs : List Value} (h : w.ownsRow B e size v n xs) (hb : ∀ k, v.ownBlock = some k → w'.heap[k]? = w.heap[k]?) : w'.ownsRow B e size v n xs := by
  obtain ⟨h1, h2⟩ := h
  refine ⟨h1, ?_⟩
  rcases h2 with h2 | ⟨g, cap, cur, hv, hg, hh, r⟩
  · exact Or.inl h2
  · exact Or.inr ⟨g, cap, cur, hv, hg, by rw [hb g (by subst hv; rfl)]; exact hh, r⟩
theorem RG.but {S : List Nat} {w w' : World} {B br : Nat} {l : GS} (h : RG w B br l) (hb : But S w w') (hS : ∀ x ∈ S, x < B) : RG w' B br l := by
  obtain ⟨hB, v, h1, h2, h3⟩ := h
  refine ⟨hB, v, hb.keep h1 (fun hx => by have := hS _ hx; omega), own_keep h2 (fun k hk => ?_), h3⟩
  have := World.ownsRow.lt h2 k hk
  exact hb.block k this.2 (fun hx => by have := hS _ hx; omega)
theorem RG.ext {w w' : World} {B br : Nat} {l : GS} (h : RG w B br l) (hx : Ext w w') : RG w' B br l := h.but (S := []) (But.of_ext hx) (by simp)
theorem PG.below {B : Nat} {w w' : World} {bg bm c : Nat} {l : GS} (h : PG w bg bm c l) (hb : Below B w w') (h1 : bg < B) (h2 : bm < B) : PG w' bg bm c l := by
  obtain ⟨hn, n, size, k1, k2, k3, k4, k5⟩ := h
  exact ⟨hn, n, size, k1, k2, by rw [hb.block bg h1]; exact k3, by rw [hb.block bm h2]; exact k4, k5⟩

theorem wpl_appendN {P : Program} {ops : Array Oper} {rest : List Oper} {o : Oper} {a : Act} {Q : Exit → Act → World → Prop} {w : World} (hgd : o.guard = none) (s x : Operand) (t : TypeId)
    (ho : o.op = .call { callee := .builtin .append, args := #[s, x], argTypes := #[t, t] }) {e size bytes : Nat} {z : Value}
    (ht : P.underlying t = some (.slice e)) (hinfo : (P.info? e).map (fun i => (i.zero, i.size, i.bytes)) = some (some z, size, bytes)) (hz : z.cells.size = size) (hsz : 0 < size) (hby : 0 < bytes)
    (B : Nat) (hB : B ≤ w.heap.size) (v : Value) (k : Nat) (xs : List Value) (hs : a.eval s = v) (hown : w.ownsRow B e size v k xs)
    (ad : Addr) (m c : Nat) (news : List Value) (hx : a.eval x = .slice (some ad) m c) (hm : news.length = m * size) (hnews : ∀ j u, news[j]? = some u → w.cell? (ad.add j) = some u) (h1 : ∀ u ∈ news, u.oneCell' = true)
    (hlen : (k + m) * bytes ≤ 140737488355328)
    (h : ∀ v' w', w'.ownsRow B e size v' (k + m) (xs ++ news) → w.grownBy w' v.ownBlock → wpList P ops Q rest (a.put o.dst v') w') : wpList P ops Q (o :: rest) a w := by
  obtain ⟨i0, hi, hz0, hz1, hz2⟩ := info_parts hinfo
  have h63 : k + m ≤ maxLen := by
    have : k + m ≤ (k + m) * bytes := Nat.le_mul_of_pos_right _ hby
    unfold maxLen; omega
  exact wpList_append_own w hgd s x t ho B e i0 z size bytes ht hi hz0 hz1 hz2 hz hsz v k xs hs hown ad m c news hx hm hnews h1 h63 hlen hB (fun v' w' h2 hg _ => h v' w' h2 hg)
theorem lex_append {P : Program} {ops : Array Oper} {C : World → Prop} {L : Nat → Bool} {F : Act → World → Prop} {o : Oper} {l : List Oper} {i : Nat} {a : Act} {w : World} (hg : Region.wanted o (yielded ops a.tmps) = true) (hL : L i = true) (s x : Operand) (t : TypeId)
    (ho : o.op = .call { callee := .builtin .append, args := #[s, x], argTypes := #[t, t] }) {e size bytes : Nat} {z : Value}
    (ht : P.underlying t = some (.slice e)) (hinfo : (P.info? e).map (fun i => (i.zero, i.size, i.bytes)) = some (some z, size, bytes)) (hz : z.cells.size = size) (hsz : 0 < size) (hby : 0 < bytes)
    (B : Nat) (hB : B ≤ w.heap.size) (v : Value) (k : Nat) (xs : List Value) (hs : a.eval s = v) (hown : w.ownsRow B e size v k xs)
    (ad : Addr) (m c : Nat) (news : List Value) (hx : a.eval x = .slice (some ad) m c) (hm : news.length = m * size) (hnews : ∀ j u, news[j]? = some u → w.cell? (ad.add j) = some u) (h1 : ∀ u ∈ news, u.oneCell' = true)
    (hlen : (k + m) * bytes ≤ 140737488355328)
    (h : ∀ v' w', w'.ownsRow B e size v' (k + m) (xs ++ news) → w.grownBy w' v.ownBlock → C w' ∧ Loud.wpLex P ops C L F l (i + 1) (a.put o.dst v') w') : Loud.wpLex P ops C L F (o :: l) i a w := by
  obtain ⟨i0, hi, hz0, hz1, hz2⟩ := info_parts hinfo
  have h63 : k + m ≤ maxLen := by
    have : k + m ≤ (k + m) * bytes := Nat.le_mul_of_pos_right _ hby
    unfold maxLen; omega
  obtain ⟨v', w', hr, h2, h3, _⟩ := run_append_own (P := P) w B t o.type e i0 z size bytes ht hi hz0 hz1 hz2 hz hsz v k xs hown ad m c news hm hnews h1 h63 hlen hB
  obtain ⟨h4, h5⟩ := h v' w' h2 h3
  refine Loud.lex_v hg hL v' w' ?_ h4 h5
  unfold execOp
  simp only [ho, resolve, invoke, builtin, Sem.run_bind, Sem.run_pure, Result.andThen_ok, List.map_toArray, List.map_cons, List.map_nil, hs, hx, hr]
theorem grown_trans {a b c : World} {r : Option Nat} (h : a.grownBy b r) (k : b.grownBy c r) : a.grownBy c r :=
  ⟨k.os.trans h.os, k.tape.trans h.tape, k.output.trans h.output, Nat.le_trans h.size k.size, fun i hi hs => (k.block i (Nat.lt_of_lt_of_le hi h.size) hs).trans (h.block i hi hs)⟩
theorem grown_drew (w : World) (r : Option Nat) : w.grownBy w.drew r := ⟨rfl, rfl, rfl, Nat.le_refl _, fun _ _ _ => rfl⟩
theorem grown_below {w w' : World} {r : Option Nat} (h : w.grownBy w' r) {B : Nat} (hB : B ≤ w.heap.size) (hr : ∀ k, r = some k → B ≤ k) : Below B w w' := (Below.refl B w).grown h hB hr
theorem grown_cell {w w' : World} {r : Option Nat} (h : w.grownBy w' r) {b i : Nat} {v : Value} (hc : w.cell? ⟨b, i, none⟩ = some v) (hr : some b ≠ r) : w'.cell? ⟨b, i, none⟩ = some v := h.cell hc hr
theorem cells_three (w : World) (u v x : Value) (t : TypeId) : ∀ j y, [u, v, x][j]? = some y → (w.alloc (.cells #[u, v, x] t)).cell? ((⟨w.heap.size, 0, none⟩ : Addr).add j) = some y := by
  intro j y h
  have := heap_alloc_new w (.cells #[u, v, x] t)
  have := cell_blk (i := j) (w := w.alloc (.cells #[u, v, x] t)) this (by simpa using h)
  rw [show ((⟨w.heap.size, 0, none⟩ : Addr).add j) = ⟨w.heap.size, j, none⟩ by simp [Addr.add]; omega]
  exact this
theorem own_other {w : World} {B size : Nat} {e T : TypeId} {v : Value} {n b : Nat} {xs : List Value} {cs : Array Value} {fz : Nat × Nat} (h : w.ownsRow B e size v n xs) (hb : w.heap[b]? = some (.cells cs T fz)) (hne : e ≠ T) : v.ownBlock ≠ some b := by
  intro ho
  rcases h.2 with ⟨rfl, _⟩ | ⟨g, cap, cur, rfl, _, hh, _⟩
  · cases ho
  · obtain rfl : g = b := by simpa [Value.ownBlock] using ho
    rw [hb] at hh
    simp only [Option.some.injEq, Obj.cells.injEq] at hh
    exact hne hh.2.1.symm
theorem own_look {w : World} {B size : Nat} {e : TypeId} {v : Value} {n : Nat} {xs : List Value} (h : w.ownsRow B e size v n xs) : ∃ ad cap, v = .slice ad n cap := by
  rcases h.2 with ⟨rfl, rfl⟩ | ⟨g, cap, cur, hv, _⟩
  · exact ⟨_, _, rfl⟩
  · exact ⟨_, _, hv⟩
def RAddPost (w : World) (B br : Nat) (l : GS) (s : List UInt8) (e : Ending) (w' : World) : Prop :=
  e = .returned (.int .i64 (addS l s).1) ∧ RG w' B br (addS l s).2 ∧ Below B w w'
set_option maxRecDepth 100000 in
set_option maxHeartbeats 1000000 in
theorem RAdd_form (w : World) (B br : Nat) (l : GS) (s : List UInt8) (hs : s.length ≤ 1099511627776) (hB : B ≤ w.heap.size) (h : RG w B br l) (hr : readS s = none) :
    Calls Try.prog 37 #[.pointer (some ⟨br, 0, none⟩), .string (bs s)] w (RAddPost w B br l s) := by
  have hv : refReadV s = .tuple #[.agg #[.int .i64 0, .int .i64 0, .string { data := #[] }], .int .i64 7] := by unfold refReadV; rw [hr]; rfl
  have G2 := Lib.hid (fun w => hv ▸ RefRead_any s w hs)
  have hp : addS l s = (7, l) := by unfold addS; rw [hr]
  have HP := Lib.hid hp
  have H' := Lib.hid h
  clear h hp hv hr
  go_enter Try.func37, Try.ntmps37
  go_wp2_with (first
    | (go_at_call 34; with_reducible refine (G2.out _).mono ?_; rintro e w1 ⟨rfl, hw1⟩))
  go_returns
  unfold RAddPost
  rw [HP.out]
  exact ⟨rfl, H'.out.ext (hw1.alloc _), (hw1.alloc _).mono hB⟩
theorem any_take {α : Type} (p : α → Bool) (l : List α) (k : Nat) (hk : k < l.length) (h : (l.take k).any p = false) (hp : p l[k] = false) : (l.take (k + 1)).any p = false := by
  rw [List.take_succ_eq_append_getElem hk, List.any_append, h]; simp [hp]
theorem any_at {α : Type} (p : α → Bool) (l : List α) (k : Nat) (hk : k < l.length) (hp : p l[k] = true) : l.any p = true := List.any_eq_true.2 ⟨_, List.getElem_mem hk, hp⟩
set_option maxRecDepth 100000 in
set_option maxHeartbeats 1000000 in
theorem RAdd_some (w : World) (B br : Nat) (l : GS) (s : List UInt8) (hs : s.length ≤ 1099511627776) (hl : l.length ≤ 1048576) (hB : B ≤ w.heap.size) (hll : ∀ x ∈ l, x.2.2.length ≤ 64) (h : RG w B br l) (i n : Nat) (t : List UInt8) (hr : readS s = some (i, n, t)) :
    Calls Try.prog 37 #[.pointer (some ⟨br, 0, none⟩), .string (bs s)] w (RAddPost w B br l s) := by
  obtain ⟨r1, r2, r3, r4, r5, r6⟩ := readS_some hr
  have hv : refReadV s = .tuple #[.agg #[.int .i64 i, .int .i64 n, .string (bs t)], .int .i64 0] := by unfold refReadV; rw [hr]; rfl
  have G2 := Lib.hid (fun w => hv ▸ RefRead_any s w hs)
  have hp : addS l s = if l.any (fun x => x.2.1 != n || x.2.2.length != t.length) then (60, l) else if l.any (fun x => x.1 == i) then (8, l) else (0, l ++ [(i, n, t)]) := by unfold addS; rw [hr]
  have HP := Lib.hid hp
  have H' := Lib.hid h
  have HLL := Lib.hid hll
  obtain ⟨hbr, v, k1, k2, k3⟩ := h
  obtain ⟨ad, cap, rfl, hc⟩ := Sh.of_row k2
  have HC := Lib.hid (show Sh w (.slice ad l.length cap) l from ⟨ad, cap, rfl, hc⟩)
  have K1 := Lib.hid k1; have K2 := Lib.hid k2; have K3 := Lib.hid k3
  have c0 : w.cell? ⟨br, 0, none⟩ = some (.slice ad l.length cap) := cell_blk k1 rfl
  have hbl := blk_lt k1
  clear hll hp hv hr k1 k2 k3 hc
  go_enter Try.func37, Try.ntmps37
  go_wp2_with (first
    | (go_at_call 34; with_reducible refine (G2.out _).mono ?_; rintro e w1 ⟨rfl, hw1⟩))
  have hx2 := hw1.alloc (.cells #[.int .i64 i, .int .i64 n, .string (bs t)] 53)
  have hn2 := heap_alloc_new w1 (.cells #[.int .i64 i, .int .i64 n, .string (bs t)] 53)
  have hz2 := hx2.size
  have e2 : (w1.alloc (.cells #[.int .i64 i, .int .i64 n, .string (bs t)] 53)).heap.size = w1.heap.size + 1 := by simp
  generalize w1.alloc (.cells #[.int .i64 i, .int .i64 n, .string (bs t)] 53) = w2 at hx2 hn2 hz2 e2
  have hz1 := hw1.size
  generalize w1.heap.size = bx at hn2 e2 hz1
  have N2 := Lib.hid hn2
  clear hn2
  go_loopw [7] (fun o wr => ∃ k : Nat, k ≤ l.length ∧ o = .int .i64 k ∧ (l.take k).any (fun x => x.2.1 != n || x.2.2.length != t.length) = false ∧ Ext w2 wr) (fun o _ => l.length - (intOf o).toNat)
  case atStart => exact ⟨0, by omega, rfl, rfl, Ext.refl _⟩
  case round =>
    obtain ⟨k, hk, rfl, hany, hx⟩ := hrel
    have HA := Lib.hid hany
    clear hany
    have cc := (hx2.trans hx).cell_of c0
    have x0 : wr.cell? ⟨bx, 0, none⟩ = some (.int .i64 i) := hx.cell_of (cell_blk N2.out rfl)
    have x1 : wr.cell? ⟨bx, 1, none⟩ = some (.int .i64 n) := hx.cell_of (cell_blk N2.out rfl)
    have x2 : wr.cell? ⟨bx, 2, none⟩ = some (.string (bs t)) := hx.cell_of (cell_blk N2.out rfl)
    by_cases hlt : k < l.length
    · obtain ⟨_, _, e', hc⟩ := HC.out.ext (hx2.trans hx)
      obtain ⟨b, ha, hb, y0, y1, y2⟩ := hc k hlt
      cases e'
      subst ha
      have hll : l[k].2.2.length ≤ 64 := HLL.out _ (List.getElem_mem hlt)
      by_cases hn : l[k].2.1 = n
      · have hne : ((l[k].2.1 : Int) != (n : Int)) = false := by simp [hn]
        by_cases ht : l[k].2.2.length = t.length
        · have hte : ((l[k].2.2.length : Int) != (t.length : Int)) = false := by simp [ht]
          have ha2 := any_take (fun x : Nat × Nat × List UInt8 => x.2.1 != n || x.2.2.length != t.length) l k hlt HA.out (by simp [hn, ht])
          have HA2 := Lib.hid ha2
          clear ha2 hc hn ht
          go_wp2
          go_quiet (fail)
          go_wp2
          go_roundw
          case measure => simp [intOf]; omega
          case rel => exact ⟨k + 1, by omega, by go_num, HA2.out, (by repeat (first | exact Ext.refl _ | assumption | (with_reducible refine Ext.drew ?_) | (with_reducible refine Ext.drewN ?_ _) | (with_reducible refine Ext.alloc ?_ _) | (refine Ext.trans ?_ (by assumption))))⟩
        · have hte : ((l[k].2.2.length : Int) != (t.length : Int)) = true := by simp; omega
          have hp : addS l s = (60, l) := by rw [HP.out, any_at (fun x : Nat × Nat × List UInt8 => x.2.1 != n || x.2.2.length != t.length) l k hlt (by simp [ht])]; rfl
          have HPP := Lib.hid hp
          clear hc hn ht hp
          go_wp2
          go_quiet (fail)
          go_wp2
          go_returns
          unfold RAddPost
          rw [HPP.out]
          have hq := hx2.trans hx
          exact ⟨rfl, H'.out.ext (by repeat (first | exact Ext.refl _ | assumption | (with_reducible refine Ext.drew ?_) | (with_reducible refine Ext.drewN ?_ _) | (with_reducible refine Ext.alloc ?_ _) | (refine Ext.trans ?_ (by assumption)))), (show Ext _ _ from (by repeat (first | exact Ext.refl _ | assumption | (with_reducible refine Ext.drew ?_) | (with_reducible refine Ext.drewN ?_ _) | (with_reducible refine Ext.alloc ?_ _) | (refine Ext.trans ?_ (by assumption))))).mono hB⟩
      · have hne : ((l[k].2.1 : Int) != (n : Int)) = true := by simp; omega
        have hp : addS l s = (60, l) := by rw [HP.out, any_at (fun x : Nat × Nat × List UInt8 => x.2.1 != n || x.2.2.length != t.length) l k hlt (by simp [hn])]; rfl
        have HPP := Lib.hid hp
        clear hc hn hp
        go_wp2
        go_quiet (fail)
        go_wp2
        go_returns
        unfold RAddPost
        rw [HPP.out]
        have hq := hx2.trans hx
        exact ⟨rfl, H'.out.ext (by repeat (first | exact Ext.refl _ | assumption | (with_reducible refine Ext.drew ?_) | (with_reducible refine Ext.drewN ?_ _) | (with_reducible refine Ext.alloc ?_ _) | (refine Ext.trans ?_ (by assumption)))), (show Ext _ _ from (by repeat (first | exact Ext.refl _ | assumption | (with_reducible refine Ext.drew ?_) | (with_reducible refine Ext.drewN ?_ _) | (with_reducible refine Ext.alloc ?_ _) | (refine Ext.trans ?_ (by assumption))))).mono hB⟩
    · obtain rfl : k = l.length := by omega
      have hp : addS l s = if l.any (fun x => x.1 == i) then (8, l) else (0, l ++ [(i, n, t)]) := by
        have hany := HA.out
        rw [List.take_length] at hany
        rw [HP.out, hany]; rfl
      have HPP := Lib.hid hp
      have hx3 := hx2.trans hx
      have HX := Lib.hid hx
      clear hp x0 x1 x2
      go_wp2
      obtain ⟨wo, rfl⟩ : ∃ x, x = wr := ⟨_, rfl⟩
      go_loopw [8] (fun o wr => ∃ k : Nat, k ≤ l.length ∧ o = .int .i64 k ∧ (l.take k).any (fun x => x.1 == i) = false ∧ Ext wo wr) (fun o _ => l.length - (intOf o).toNat)
      case atStart => exact ⟨0, by omega, rfl, rfl, Ext.refl _⟩
      case round =>
        obtain ⟨k, hk, rfl, hany, hx⟩ := hrel
        have HA := Lib.hid hany
        have hx4 := hx3.trans hx
        have cc := hx4.cell_of c0
        have N3 := Lib.hid (hx.keep (HX.out.keep N2.out))
        have x0 : wr.cell? ⟨bx, 0, none⟩ = some (.int .i64 i) := cell_blk N3.out rfl
        have x1 : wr.cell? ⟨bx, 1, none⟩ = some (.int .i64 n) := cell_blk N3.out rfl
        have x2 : wr.cell? ⟨bx, 2, none⟩ = some (.string (bs t)) := cell_blk N3.out rfl
        by_cases hlt : k < l.length
        · obtain ⟨_, _, e', hc⟩ := HC.out.ext hx4
          obtain ⟨b, ha, hb, y0, y1, y2⟩ := hc k hlt
          cases e'
          subst ha
          by_cases hn : l[k].1 = i
          · have hne : ((l[k].1 : Int) == (i : Int)) = true := by simp [hn]
            have hp : addS l s = (8, l) := by rw [HPP.out, any_at (fun x : Nat × Nat × List UInt8 => x.1 == i) l k hlt (by simp [hn])]; rfl
            have HPQ := Lib.hid hp
            clear hc hn hp
            go_wp2
            go_quiet (fail)
            go_wp2
            go_returns
            unfold RAddPost
            rw [HPQ.out]
            exact ⟨rfl, H'.out.ext (by repeat (first | exact Ext.refl _ | assumption | (with_reducible refine Ext.drew ?_) | (with_reducible refine Ext.drewN ?_ _) | (with_reducible refine Ext.alloc ?_ _) | (refine Ext.trans ?_ (by assumption)))), (show Ext _ _ from (by repeat (first | exact Ext.refl _ | assumption | (with_reducible refine Ext.drew ?_) | (with_reducible refine Ext.drewN ?_ _) | (with_reducible refine Ext.alloc ?_ _) | (refine Ext.trans ?_ (by assumption))))).mono hB⟩
          · have hne : ((l[k].1 : Int) == (i : Int)) = false := beq_eq_false_iff_ne.2 (by omega)
            have ha2 := any_take (fun x : Nat × Nat × List UInt8 => x.1 == i) l k hlt HA.out (by simp [hn])
            have HA2 := Lib.hid ha2
            clear ha2 hc hn
            go_wp2
            go_quiet (fail)
            go_wp2
            go_roundw
            case measure => simp [intOf]; omega
            case rel => exact ⟨k + 1, by omega, by go_num, HA2.out, (by repeat (first | exact Ext.refl _ | assumption | (with_reducible refine Ext.drew ?_) | (with_reducible refine Ext.drewN ?_ _) | (with_reducible refine Ext.alloc ?_ _) | (refine Ext.trans ?_ (by assumption))))⟩
        · obtain rfl : k = l.length := by omega
          have hp : addS l s = (0, l ++ [(i, n, t)]) := by
            have hany := HA.out
            rw [List.take_length] at hany
            rw [HPP.out, hany]; rfl
          have HPQ := Lib.hid hp
          clear hp hany
          have hown := World.ownsRow.lt K2.out
          have hsz3 := hx4.size
          have nx : some bx ≠ (Value.slice ad l.length cap).ownBlock := fun e => by have := hown bx e.symm; omega
          have hcq : ∀ wq, wr.grownBy wq (Value.slice ad l.length cap).ownBlock → wq.cell? ⟨br, 0, none⟩ = some (.slice ad l.length cap) := fun wq hq => hq.cell cc (fun e => K3.out e.symm)
          have q0 : ∀ wq, wr.grownBy wq (Value.slice ad l.length cap).ownBlock → wq.cell? ⟨bx, 0, none⟩ = some (.int .i64 i) := fun wq hq => hq.cell x0 nx
          have q1 : ∀ wq, wr.grownBy wq (Value.slice ad l.length cap).ownBlock → wq.cell? ⟨bx, 1, none⟩ = some (.int .i64 n) := fun wq hq => hq.cell x1 nx
          have q2 : ∀ wq, wr.grownBy wq (Value.slice ad l.length cap).ownBlock → wq.cell? ⟨bx, 2, none⟩ = some (.string (bs t)) := fun wq hq => hq.cell x2 nx
          go_wp2
          refine Loud.wp_region_loud (fun i => decide (i = 6 ∨ i = 7)) 8 (fun w' => wr.grownBy w' (Value.slice ad l.length cap).ownBlock) (by kernel_rfl) (by kernel_rfl) (grown_drew _ _) ?_
          simp only [List.take_succ_cons, List.take_zero]
          iterate 6 (refine Loud.lex_qe rfl rfl ?_; apply Exists.intro; refine ⟨fun wq hq => ?_, Loud.norm fun K hK => ?_⟩; (go_simp; try rfl); go_simp; refine hK _ ?_; clear hK K)
          refine Loud.lex_l rfl rfl (fun K hK => ?_); go_simp; refine hK _ _ (grown_trans (grown_drew _ _) (World.grownBy_alloc _ _ _)) ?_; clear hK K
          have k2' : (wr.drew.alloc (.cells #[.int .i64 i, .int .i64 n, .string (bs t)] 53)).ownsRow B 53 3 (.slice ad l.length cap) l.length (gvals l) :=
            own_keep K2.out (fun k hk => ((hx4.drew.alloc _)).block (World.ownsRow.lt K2.out k hk).2)
          refine lex_append rfl rfl _ _ 64 rfl und_shares info_share rfl (by omega) (by omega) B (by simp; omega) _ l.length (gvals l) rfl k2' ⟨wr.heap.size, 0, none⟩ 1 1 (gval (i, n, t)) rfl rfl (cells_three wr.drew _ _ _ _) (by simp [gval, Value.oneCell']) (by omega) ?_
          intro v' w3 hrow3 hg3
          obtain ⟨ad2, cap2, rfl⟩ := own_look hrow3
          have hg3' : wr.grownBy w3 (Value.slice ad l.length cap).ownBlock := grown_trans (grown_trans (grown_drew _ _) (World.grownBy_alloc _ _ _)) hg3
          refine ⟨hg3', ?_⟩
          have k13 : w3.heap[br]? = some (.cells #[.slice ad l.length cap] 66) := by
            rw [hg3'.block br (by omega) (fun e => K3.out e.symm)]
            exact hx4.keep K1.out
          have hlt3 := blk_lt k13
          have hfz3 := frozen_blk (i := 0) k13
          have cc3 : w3.cell? ⟨br, 0, none⟩ = some (.slice ad l.length cap) := cell_blk k13 rfl
          have HG3 := Lib.hid hg3'
          have HR3 := Lib.hid hrow3
          have K13 := Lib.hid k13
          clear hg3 hg3' hrow3 k13
          refine Loud.lex_nil ?_
          simp only [List.drop_succ_cons, List.drop_zero]
          go_wp2
          go_returns
          unfold RAddPost
          rw [HPQ.out]
          have ho2 : (Value.slice ad2 (l.length + 1) cap2).ownBlock ≠ some br := own_other HR3.out K13.out (by decide)
          refine ⟨rfl, ⟨hbr, _, heap_setCell_same _ K13.out, ?_, ho2⟩, ?_⟩
          · have h := own_keep HR3.out (w' := w3.setCell ⟨br, 0, none⟩ (.slice ad2 (l.length + 1) cap2)) (fun k hk => heap_setCell_other _ _ _ (fun e => ho2 (by rw [hk, e])))
            simpa [gvals_snoc] using h
          · have hb1 := grown_below HG3.out (B := B) (by omega) (fun k hk => (hown k hk).1)
            exact Below.setCell (Below.trans (hx4.mono hB) hb1) hbr _
theorem RAdd_any (w : World) (B br : Nat) (l : GS) (s : List UInt8) (hs : s.length ≤ 1099511627776) (hl : l.length ≤ 1048576) (hB : B ≤ w.heap.size) (hll : ∀ x ∈ l, x.2.2.length ≤ 64) (h : RG w B br l) :
    Calls Try.prog 37 #[.pointer (some ⟨br, 0, none⟩), .string (bs s)] w (RAddPost w B br l s) := by
  cases hr : readS s with
  | none => exact RAdd_form w B br l s hs hB h hr
  | some r =>
    obtain ⟨i, n, t⟩ := r
    exact RAdd_some w B br l s hs hl hB hll h i n t hr

/-! ### Secret -/
set_option maxRecDepth 100000 in
set_option maxHeartbeats 1000000 in
theorem RSecret_nil (w : World) (B br : Nat) (h : RG w B br []) :
    Calls Try.prog 40 #[.pointer (some ⟨br, 0, none⟩)] w fun e w' => e = .returned (.string (bs [])) ∧ Ext w w' := by
  obtain ⟨hbr, v, k1, k2, k3⟩ := h
  obtain ⟨ad, cap, rfl, hc⟩ := Sh.of_row k2
  have c0 : w.cell? ⟨br, 0, none⟩ = some (.slice ad 0 cap) := cell_blk k1 rfl
  clear k1 k2 k3 hc
  go_enter Try.func40, Try.ntmps40
  go_wp2
  go_quiet (fail)
  go_wp2
  go_returns
  exact ⟨rfl, (by repeat (first | exact Ext.refl _ | assumption | (with_reducible refine Ext.drew ?_) | (with_reducible refine Ext.drewN ?_ _) | (with_reducible refine Ext.alloc ?_ _) | (refine Ext.trans ?_ (by assumption))))⟩
set_option maxRecDepth 100000 in
set_option maxHeartbeats 1000000 in
theorem RSecret_less (w : World) (B br : Nat) (x : Nat × Nat × List UInt8) (m : GS) (h : RG w B br (x :: m)) (hs : (x :: m).length < x.2.1) :
    Calls Try.prog 40 #[.pointer (some ⟨br, 0, none⟩)] w fun e w' => e = .returned (.string (bs [])) ∧ Ext w w' := by
  obtain ⟨hbr, v, k1, k2, k3⟩ := h
  obtain ⟨ad, cap, rfl, hc⟩ := Sh.of_row k2
  obtain ⟨b, rfl, hb, y0, y1, y2⟩ := hc 0 (by simp)
  have c0 : w.cell? ⟨br, 0, none⟩ = some (.slice (some ⟨b, 0, none⟩) (x :: m).length cap) := cell_blk k1 rfl
  have y1 : w.cell? ⟨b, 1, none⟩ = some (.int .i64 x.2.1) := y1
  have hne : (((x :: m).length : Int) == 0) = false := beq_eq_false_iff_ne.2 (by simp only [List.length_cons]; omega)
  have hp : 0 < (x :: m).length := by simp
  clear k1 k2 k3 hc y0 y2
  generalize (x :: m).length = a at *
  have hlt : ((a : Int) < (x.2.1 : Int)) := by omega
  clear hs
  go_enter Try.func40, Try.ntmps40
  go_wp2
  go_quiet (fail)
  go_wp2
  go_returns
  exact ⟨rfl, (by repeat (first | exact Ext.refl _ | assumption | (with_reducible refine Ext.drew ?_) | (with_reducible refine Ext.drewN ?_ _) | (with_reducible refine Ext.alloc ?_ _) | (refine Ext.trans ?_ (by assumption))))⟩
set_option maxRecDepth 100000 in
set_option maxHeartbeats 1000000 in
theorem RSecret_some (w : World) (B br : Nat) (x : Nat × Nat × List UInt8) (m : GS) (hl : (x :: m).length ≤ 1048576) (h : RG w B br (x :: m)) (hs : ¬ (x :: m).length < x.2.1) (hll : ∀ y ∈ m, y.2.2.length = x.2.2.length) (hx64 : x.2.2.length ≤ 64) :
    Calls Try.prog 40 #[.pointer (some ⟨br, 0, none⟩)] w fun e w' => e = .returned (.string (bs (lastS x.2.2 (m.map (·.2.2))))) ∧ Ext w w' := by
  obtain ⟨hbr, v, k1, k2, k3⟩ := h
  obtain ⟨ad, cap, rfl, hc⟩ := Sh.of_row k2
  have HC := Lib.hid (show Sh w (.slice ad (x :: m).length cap) (x :: m) from ⟨ad, cap, rfl, hc⟩)
  obtain ⟨b, rfl, hb, y0, y1, y2⟩ := hc 0 (by simp)
  have c0 : w.cell? ⟨br, 0, none⟩ = some (.slice (some ⟨b, 0, none⟩) (x :: m).length cap) := cell_blk k1 rfl
  have y1 : w.cell? ⟨b, 1, none⟩ = some (.int .i64 x.2.1) := y1
  have y2 : w.cell? ⟨b, 2, none⟩ = some (.string (bs x.2.2)) := y2
  have hlen : (x :: m).length = m.length + 1 := rfl
  have hne : (((m.length : Int) + 1) == 0) = false := beq_eq_false_iff_ne.2 (by omega)
  have hp : 0 < m.length + 1 := by omega
  have hget : ∀ k (hk : k < m.length), (x :: m)[k + 1]'(by simp; omega) = m[k] := fun k hk => rfl
  have hg2 : ∀ k (hk : k < m.length), (m.map (·.2.2))[k]'(by simpa using hk) = m[k].2.2 := fun k hk => by simp
  rw [hlen] at hl hs HC c0
  have hlt : ((x.2.1 : Int) ≤ (m.length : Int) + 1) := by omega
  clear k1 k2 k3 hc y0 hlen
  have HM := Lib.hid hll
  clear hs hll
  go_enter Try.func40, Try.ntmps40
  go_wp2
  go_quiet (fail)
  go_wp2
  go_loopw [3, 4] (fun o i wr => ∃ k : Nat, k ≤ m.length ∧ i = .int .i64 ((k : Int) + 1) ∧ o = .string (bs (lastS x.2.2 ((m.map (·.2.2)).take k))) ∧ Ext w wr) (fun _ i _ => m.length + 1 - (intOf i).toNat)
  case atStart => exact ⟨0, by omega, rfl, rfl, (by repeat (first | exact Ext.refl _ | assumption | (with_reducible refine Ext.drew ?_) | (with_reducible refine Ext.drewN ?_ _) | (with_reducible refine Ext.alloc ?_ _) | (refine Ext.trans ?_ (by assumption))))⟩
  case round =>
    obtain ⟨k, hk, rfl, rfl, hx⟩ := hrel
    have hll := lastS_length x.2.2 ((m.map (·.2.2)).take k) (fun s hs => by
      obtain ⟨y, hy, rfl⟩ := List.mem_map.1 (List.mem_of_mem_take hs)
      exact HM.out y hy)
    have cc := hx.cell_of c0
    by_cases hlt : k < m.length
    · obtain ⟨_, _, e', hc⟩ := HC.out.ext hx
      obtain ⟨b', hb', hbb, z0, z1, z2⟩ := hc (k + 1) (by simp; omega)
      cases e'
      cases hb'
      rw [hget k hlt] at z2
      have hkl : m[k].2.2.length = x.2.2.length := HM.out _ (List.getElem_mem hlt)
      have GX := Lib.hid (fun w => RefXor_any (lastS x.2.2 ((m.map (·.2.2)).take k)) m[k].2.2 w (by rw [hll, hkl]) (by rw [hll]; omega))
      have hst := lastS_take x.2.2 (m.map (·.2.2)) k (by simpa using hlt)
      rw [hg2 k hlt] at hst
      have HST := Lib.hid hst
      clear hst hc z0 z1 hll hkl
      go_wp2_with (go_at_call 23; with_reducible refine (GX.out _).mono ?_; rintro e w1 ⟨rfl, hx1⟩)
      go_roundw
      case measure => simp [intOf]; omega
      case rel => exact ⟨k + 1, by omega, by go_num, by rw [HST.out], hx.trans hx1⟩
    · obtain rfl : k = m.length := by omega
      have hfin : (m.map (·.2.2)).take m.length = m.map (·.2.2) := by rw [List.take_of_length_le (by simp)]
      rw [hfin]
      go_wp2
      go_returns
      exact ⟨rfl, hx⟩
theorem RSecret_any (w : World) (B br : Nat) (l : GS) (hl : l.length ≤ 1048576) (h : RG w B br l) (n size : Nat) (hs : size ≤ 64) (hall : ∀ x ∈ l, x.2.1 = n ∧ x.2.2.length = size) :
    Calls Try.prog 40 #[.pointer (some ⟨br, 0, none⟩)] w fun e w' => e = .returned (.string (bs ((secretS l).getD []))) ∧ Ext w w' := by
  match l, h, hl, hall with
  | [], h, _, _ => exact RSecret_nil w B br h
  | x :: m, h, hl, hall =>
    simp only [secretS]
    split
    · rename_i hlt; exact RSecret_less w B br x m h hlt
    · rename_i hlt
      have hx := (hall x (by simp)).2
      exact RSecret_some w B br x m hl h hlt (fun y hy => by rw [hx, (hall y (by simp [hy])).2]) (by omega)
end Go.Proofs.Ytgjaefolmnelcaa
