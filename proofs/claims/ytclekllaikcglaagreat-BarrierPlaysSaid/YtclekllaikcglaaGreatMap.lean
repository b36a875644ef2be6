import Derived.Test.YtclekllaikcglaaGreatBase
import Derived.Maps.RangeRun
import Derived.Maps.RangeWalk
import Derived.Maps.OwnSet
import Derived.Carry
import Derived.Sort.AssemblyPlain
import Derived.Sort.Row
import Derived.Deep.QuietTactic
import Derived.Deep.Draws
import Derived.BigQuiet
import Derived.BigCall
import Derived.BigGuard
import Derived.CellFam
import Derived.RegionTactic
import Derived.Deep.Cut
import Derived.Deep.CutRange
import Derived.OpenShut

/- Maps keyed by integers, in whatever block: laws at the operations. -/
namespace Go.Proofs.YtclekllaikcglaaGreat
open Go Go.RowKit
open Go.ChangeMaps (setBlock)
structure But (S : List Nat) (w w' : World) : Prop where
 os : w'.os = w.os
 tape : w'.tape = w.tape
 output : w'.output = w.output
 size : w.heap.size ≤ w'.heap.size
 block : ∀ k, k < w.heap.size → k ∉ S → w'.heap[k]? = w.heap[k]?
theorem But.refl (S : List Nat) (w : World) : But S w w := ⟨rfl, rfl, rfl, Nat.le_refl _, fun _ _ _ => rfl⟩
theorem But.trans {S : List Nat} {a b c : World} (h : But S a b) (k : But S b c) : But S a c :=
 ⟨k.os.trans h.os, k.tape.trans h.tape, k.output.trans h.output, Nat.le_trans h.size k.size, fun i hi hs => (k.block i (Nat.lt_of_lt_of_le hi h.size) hs).trans (h.block i hi hs)⟩
theorem But.of_ext {S : List Nat} {a b : World} (h : Ext a b) : But S a b := ⟨h.os, h.tape, h.output, h.size, fun _ hi _ => h.block hi⟩
theorem But.mono {S S' : List Nat} {a b : World} (h : But S a b) (hs : ∀ x ∈ S, x ∈ S') : But S' a b := ⟨h.os, h.tape, h.output, h.size, fun k hk hn => h.block k hk fun hx => hn (hs k hx)⟩
theorem But.ext {S : List Nat} {a b c : World} (h : Ext a b) (k : But S b c) (hs : ∀ x ∈ S, a.heap.size ≤ x) : Ext a c :=
 ⟨k.os.trans h.os, k.tape.trans h.tape, k.output.trans h.output, Nat.le_trans h.size k.size, fun i hi => (k.block i (Nat.lt_of_lt_of_le hi h.size) fun hx => by have := hs i hx; omega).trans (h.block hi)⟩
theorem But.drew {S : List Nat} {a b : World} (h : But S a b) : But S a b.drew := h.trans (But.of_ext (Ext.refl b).drew)
theorem But.drewN {S : List Nat} {a b : World} (h : But S a b) (n : Nat) : But S a (b.drewN n) := h.trans (But.of_ext ((Ext.refl b).drewN n))
theorem But.setCell {S : List Nat} {a b : World} (h : But S a b) {p : Addr} (hp : p.block ∈ S ∨ a.heap.size ≤ p.block) (u : Value) : But S a (b.setCell p u) := by
 refine ⟨h.os, h.tape, h.output, ?_, fun k hk hn => ?_⟩
 ·simp [World.setCell]; exact h.size
 ·rw [Below.heap_setCell _ _ _ _ (fun e => by subst e; rcases hp with hp | hp; exact hn hp; omega)]
  exact h.block k hk hn
theorem But.keep {S : List Nat} {a b : World} (h : But S a b) {k : Nat} {o : Obj} (hk : a.heap[k]? = some o) (hs : k ∉ S) : b.heap[k]? = some o := by
 rw [h.block k (blk_lt hk) hs]; exact hk
theorem heap_setB_same {w : World} {b : Nat} {x : Obj} (o : Obj) (h : w.heap[b]? = some x) : (setBlock w b o).heap[b]? = some o := by
 have := blk_lt h
 simp [setBlock, this]
theorem heap_setB_other (w : World) (b : Nat) (o : Obj) {k : Nat} (h : k ≠ b) : (setBlock w b o).heap[k]? = w.heap[k]? := by
 simp only [setBlock]
 rw [Array.getElem?_setIfInBounds_ne (by omega)]
theorem But.setB {S : List Nat} {a b : World} (h : But S a b) {r : Nat} (hr : r ∈ S ∨ a.heap.size ≤ r) (o : Obj) : But S a (setBlock b r o) := by
 refine ⟨h.os, h.tape, h.output, ?_, fun k hk hn => ?_⟩
 ·simp [setBlock]; exact h.size
 ·rw [heap_setB_other _ _ _ (fun e => by subst e; rcases hr with hr | hr; exact hn hr; omega)]
  exact h.block k hk hn
theorem nodup_of_map {α β : Type} {f : α → β} : ∀ {l : List α}, (l.map f).Nodup → l.Nodup
 | [], _ => List.nodup_nil
 | x :: l, h => by
  rw [List.map_cons, List.nodup_cons] at h
  exact List.nodup_cons.2 ⟨fun hx => h.1 (List.mem_map_of_mem hx), nodup_of_map h.2⟩
theorem nodup_map_inj {α β : Type} (f : α → β) : ∀ (l : List α), (l.map f).Nodup → ∀ x ∈ l, ∀ y ∈ l, f x = f y → x = y
 | [], _, x, hx, _, _, _ => by cases hx
 | z :: l, h, x, hx, y, hy, e => by
  rw [List.map_cons, List.nodup_cons] at h
  rcases List.mem_cons.1 hx with hx1 | hx1 <;> rcases List.mem_cons.1 hy with hy1 | hy1
  ·rw [hx1, hy1]
  ·subst hx1; exact absurd (e ▸ List.mem_map_of_mem (f := f) hy1) h.1
  ·subst hy1; exact absurd (e ▸ List.mem_map_of_mem (f := f) hx1) h.1
  ·exact nodup_map_inj f l h.2 x hx1 y hy1 e
abbrev Ents := List (Int × Value × Nat)
def ent (q : IntKind) (e : Int × Value × Nat) : MapEntry := { key := .int q e.1, val := e.2.1, born := e.2.2 }
def mobj (q : IntKind) (L : Ents) (clk : Nat) : Obj := .map (L.map (ent q)).toArray clk
def lookM (L : Ents) (k : Int) : Option Value := (L.find? (fun e => k == e.1)).map (·.2.1)
theorem lookM_none {L : Ents} {k : Int} : lookM L k = none ↔ ∀ e ∈ L, e.1 ≠ k := by
 simp only [lookM, Option.map_eq_none_iff, List.find?_eq_none]
 constructor
 ·intro h e he hk; exact h e he (by simp [hk])
 ·intro h e he hk; exact h e he (by simpa using (beq_iff_eq.1 hk).symm)
theorem findNow_ints (q : IntKind) (k : Int) : ∀ (L : Ents) (i : Nat), ∃ r, Instr.findNow (.int q) (.int q k) (L.map (ent q)) i = some r ∧ r.map (·.2) = lookM L k ∧ (∀ j v, r = some (j, v) → i ≤ j ∧ j < i + L.length)
 | [], i => ⟨none, rfl, rfl, fun _ _ h => by cases h⟩
 | e :: L, i => by
  by_cases h : k = e.1
  ·refine ⟨some (i, e.2.1), ?_, ?_, ?_⟩
   ·simp [Instr.findNow, Instr.sameNow, ent, h]
   ·simp [lookM, h]
   ·intro j v hj; cases hj; simp
  ·obtain ⟨r, h1, h2, h3⟩ := findNow_ints q k L (i + 1)
   refine ⟨r, ?_, ?_, fun j v hj => ?_⟩
   ·have hk : (k == e.1) = false := by simpa using h
    simp only [List.map_cons, Instr.findNow, Instr.sameNow, ent, if_true, hk]
    exact h1
   ·have hk : (k == e.1) = false := by simpa using h
    rw [h2]; simp [lookM, hk]
   ·have := h3 j v hj; simp only [List.length_cons]; omega
section
variable {P : Program} {w : World} {T kt et : TypeId} {q : IntKind} {b : Nat} {L : Ents} {clk : Nat}
theorem run_checkKey_int (hk : P.underlying kt = some (.int q)) (empty : Bool) (n : Nat) (i : Int) : (Instr.checkKey empty (n + 1) kt (.int q i)).run P w = .ok () w := by
 simp [Instr.checkKey, run_underlying hk]
theorem run_findKey_int (hk : P.underlying kt = some (.int q)) (i : Int) : ∃ r, (Instr.findKey kt (.int q i) (L.map (ent q))).run P w = .ok r w ∧ r.map (·.2) = lookM L i ∧ (∀ j v, r = some (j, v) → j < L.length) := by
 obtain ⟨r, h1, h2, h3⟩ := findNow_ints q i L 0
 exact ⟨r, by simp [Instr.findKey, run_underlying hk, h1], h2, fun j v h => by have := h3 j v h; omega⟩
theorem run_lookM (hT : P.underlying T = some (.map kt et)) (hk : P.underlying kt = some (.int q)) (hb : w.heap[b]? = some (mobj q L clk)) (i : Int) {z : Value} (hz : (zeroValue et).run P w = .ok z w) :
  (Instr.lookup T (.map (some b)) (.int q i) true).run P w = .ok (.tuple #[(lookM L i).getD z, .bool (lookM L i).isSome]) w := by
 obtain ⟨r, h1, h2, -⟩ := run_findKey_int (P := P) (w := w) (L := L) hk i
 unfold mobj at hb
 have hg := MapKept.run_getObj_map (P := P) hb
 cases r with
 | none => simp [← h2, Instr.lookup, run_underlying hT, hg, run_checkKey_int hk, h1, hz]
 | some p => obtain ⟨j, v⟩ := p; simp [← h2, Instr.lookup, run_underlying hT, hg, run_checkKey_int hk, h1]
theorem run_putM (hT : P.underlying T = some (.map kt et)) (hk : P.underlying kt = some (.int q)) (hb : w.heap[b]? = some (mobj q L clk)) (i : Int) (v : Value) (hn : lookM L i = none) :
  (Instr.mapUpdate T (.map (some b)) (.int q i) v).run P w = .ok () (setBlock w b (mobj q (L ++ [(i, v, clk)]) (clk + 1))) := by
 obtain ⟨r, h1, h2, -⟩ := run_findKey_int (P := P) (w := w) (L := L) hk i
 have hb' := hb
 unfold mobj at hb
 have hg := MapKept.run_getObj_map (P := P) hb
 cases r with
 | some p => simp [hn] at h2
 | none =>
  have hs : ∀ o : Obj, (setObj b o).run P w = .ok () (setBlock w b o) := by
   intro o
   simp [setObj, Sem.run, hb, setBlock]
  simp [Instr.mapUpdate, run_underlying hT, hg, run_checkKey_int hk, h1, hs, mobj, ent]
end
section
variable {P : Program} {ops : Array Oper} {rest : List Oper} {o : Oper} {a : Act} {Q : Exit → Act → World → Prop} {w : World}
theorem wpl_look (hg : o.guard = none) (m x : Operand) (T : TypeId) (hop : o.op = Op.lookup T m x true) {kt et : TypeId} {q : IntKind} {z : Value} (hT : P.underlying T = some (.map kt et)) (hk : P.underlying kt = some (.int q))
  (hz : (zeroValue et).run P w = .ok z w) (b : Nat) (L : Ents) (clk : Nat) (hm : a.eval m = .map (some b)) (hb : w.heap[b]? = some (mobj q L clk)) (i : Int) (hx : a.eval x = .int q i) (r : Option Value) (hr : lookM L i = r)
  (h : wpList P ops Q rest (a.put o.dst (.tuple #[r.getD z, .bool r.isSome])) w) : wpList P ops Q (o :: rest) a w := by
 refine wpList_plain hg fun K' hK' => ?_
 subst hr
 unfold Oper.wp
 simp [execOp, hop, hm, hx, run_lookM hT hk hb i hz, Result.andThen]
 exact hK' _ _ h
theorem wpl_put (hg : o.guard = none) (m x y : Operand) (T : TypeId) (hop : o.op = Op.mapUpdate T m x y) {kt et : TypeId} {q : IntKind} (hT : P.underlying T = some (.map kt et)) (hk : P.underlying kt = some (.int q))
  (b : Nat) (L : Ents) (clk : Nat) (hm : a.eval m = .map (some b)) (hb : w.heap[b]? = some (mobj q L clk)) (i : Int) (hx : a.eval x = .int q i) (v : Value) (hy : a.eval y = v) (hr : lookM L i = none)
  (h : ∀ w', w' = setBlock w b (mobj q (L ++ [(i, v, clk)]) (clk + 1)) → wpList P ops Q rest (a.put o.dst undef) w') : wpList P ops Q (o :: rest) a w := by
 refine wpList_plain hg fun K' hK' => ?_
 unfold Oper.wp
 simp [execOp, hop, hm, hx, hy, run_putM hT hk hb i v hr, Result.andThen]
 exact hK' _ _ (h _ rfl)
theorem wpl_len (hg : o.guard = none) (x : Operand) (t : TypeId) (hop : o.op = Op.call { callee := .builtin .len, args := #[x], argTypes := #[t] }) {kt et : TypeId} {q : IntKind} (hT : P.underlying t = some (.map kt et))
  (b : Nat) (L : Ents) (clk : Nat) (hm : a.eval x = .map (some b)) (hb : w.heap[b]? = some (mobj q L clk)) (n : Int) (hn : (L.length : Int) = n)
  (h : wpList P ops Q rest (a.put o.dst (.int .i64 n)) w) : wpList P ops Q (o :: rest) a w := by
 refine wpList_plain hg fun K' hK' => ?_
 subst hn
 unfold mobj at hb
 have hg := MapKept.run_getObj_map (P := P) hb
 unfold Oper.wp
 simp [execOp, hop, resolve, invoke, builtin, Builtin.len_, hm, hg, run_underlying hT, Result.andThen, goInt]
 exact hK' _ _ h
theorem wpl_clear (hg : o.guard = none) (x : Operand) (t : TypeId) (hop : o.op = Op.call { callee := .builtin .clear, args := #[x], argTypes := #[t] }) {kt et : TypeId} {q : IntKind} (hT : P.underlying t = some (.map kt et))
  (b : Nat) (L : Ents) (clk : Nat) (hm : a.eval x = .map (some b)) (hb : w.heap[b]? = some (mobj q L clk))
  (h : ∀ w', w' = setBlock w b (mobj q [] clk) → wpList P ops Q rest (a.put o.dst (.tuple #[])) w') : wpList P ops Q (o :: rest) a w := by
 refine wpList_plain hg fun K' hK' => ?_
 unfold mobj at hb
 have hg := MapKept.run_getObj_map (P := P) hb
 have hs : ∀ o : Obj, (setObj b o).run P w = .ok () (setBlock w b o) := by
  intro o
  simp [setObj, Sem.run, hb, setBlock]
 unfold Oper.wp
 simp [execOp, hop, resolve, invoke, builtin, Builtin.clear_, hm, hg, hs, run_underlying hT, Result.andThen]
 exact hK' _ _ (h _ rfl)
def iter (b clk : Nat) (done : Ents) : Obj := .mapIter (some b) clk (done.map (·.2.2)).toArray clk
theorem wpl_range (hg : o.guard = none) (m : Operand) (T : TypeId) (hop : o.op = Op.range T m) {kt et : TypeId} {q : IntKind} (hT : P.underlying T = some (.map kt et)) (b : Nat) (L : Ents) (clk : Nat) (hm : a.eval m = .map (some b)) (hb : w.heap[b]? = some (mobj q L clk))
  (h : wpList P ops Q rest (a.put o.dst (.pointer (some ⟨w.heap.size, 0, none⟩))) (w.alloc (iter b clk []))) : wpList P ops Q (o :: rest) a w := by
 refine wpList_plain hg fun K' hK' => ?_
 unfold Oper.wp
 simp [execOp, hop, hm, run_range_map w T kt et b _ clk hT hb, Result.andThen]
 exact hK' _ _ h
def Born (L : Ents) (clk : Nat) : Prop := (L.map (·.2.2)).Nodup ∧ ∀ e ∈ L, e.2.2 < clk
theorem Born.nil (clk : Nat) : Born [] clk := ⟨by simp, by simp⟩
theorem Born.snoc {L : Ents} {clk : Nat} (h : Born L clk) (i : Int) (v : Value) : Born (L ++ [(i, v, clk)]) (clk + 1) := by
 refine ⟨?_, ?_⟩
 ·rw [List.map_append, List.nodup_append]
  refine ⟨h.1, by simp, ?_⟩
  intro x hx y hy
  obtain ⟨e, he, rfl⟩ := List.mem_map.1 hx
  have := h.2 e he
  simp at hy
  omega
 ·intro e he
  rcases List.mem_append.1 he with he | he
  ·have := h.2 e he; omega
  ·simp at he; subst he; simp
theorem wpl_next (hg : o.guard = none) (it : Operand) (hop : o.op = Op.next it false) {q : IntKind} (r b : Nat) (L done : Ents) (clk : Nat) (hit : a.eval it = .pointer (some ⟨r, 0, none⟩))
  (hr : w.heap[r]? = some (iter b clk done)) (hb : w.heap[b]? = some (mobj q L clk)) (hL : Born L clk) (hd : (done.map (·.2.2)).Nodup) (hsub : ∀ e ∈ done, e ∈ L)
  (hEnd : done.Perm L → wpList P ops Q rest (a.put o.dst (.tuple #[.bool false])) w)
  (hMore : ∀ (e : Int × Value × Nat) (w' : World), e ∈ L → ((done ++ [e]).map (·.2.2)).Nodup → w'.heap[r]? = some (iter b clk (done ++ [e])) → But [r] w w' → w'.heap.size = w.heap.size → wpList P ops Q rest (a.put o.dst (.tuple #[.bool true, .int q e.1, e.2.1])) w') :
  wpList P ops Q (o :: rest) a w := by
 refine wpList_plain hg fun K' hK' => ?_
 have hinj : ∀ e ∈ L, ∀ e' ∈ L, e.2.2 = e'.2.2 → e = e' := by
  intro e he e' he' h
  exact nodup_map_inj (·.2.2) L hL.1 e he e' he' h
 have hmem : ∀ e ∈ L, e.2.2 ∈ done.map (·.2.2) ↔ e ∈ done := by
  intro e he
  constructor
  ·intro h
   obtain ⟨e', h1, h2⟩ := List.mem_map.1 h
   rw [hinj e he e' (hsub e' h1) h2.symm]; exact h1
  ·intro h; exact List.mem_map_of_mem h
 unfold Oper.wp
 rcases run_next_at (P := P) w o.type r b clk clk _ _ clk hr hb (by
   intro x hx
   simp at hx
   obtain ⟨i, v, n, h1, rfl⟩ := hx
   exact hL.2 _ h1) (Nat.le_refl _) with ⟨h0, hrun⟩ | ⟨x, hx, w1, hw1, hrun⟩
 ·simp [execOp, hop, hit, hrun, Result.andThen]
  refine hK' _ _ (hEnd ?_)
  have hd' : done.Nodup := nodup_of_map hd
  have hl' : L.Nodup := nodup_of_map hL.1
  refine (List.perm_ext_iff_of_nodup hd' hl').2 fun e => ⟨hsub e, fun he => ?_⟩
  have h1 : leftOf (L.map (ent q)).toArray (done.map (·.2.2)).toArray = #[] := Array.eq_empty_of_size_eq_zero h0
  unfold leftOf at h1
  rw [Array.filter_eq_empty_iff] at h1
  have h2 := h1 (ent q e) (by simp; exact ⟨_, _, _, he, rfl⟩)
  simp only [ent, Bool.not_eq_true', Bool.not_eq_false, Array.contains_eq_mem, List.mem_toArray, decide_eq_true_eq] at h2
  exact (hmem e he).1 h2
 ·unfold leftOf at hx
  simp only [Array.toList_filter, List.mem_filter, List.mem_map, Bool.not_eq_true', Array.contains_eq_mem, decide_eq_false_iff_not, List.mem_toArray] at hx
  obtain ⟨⟨e, he, rfl⟩, hn⟩ := hx
  simp [execOp, hop, hit, hrun, Result.andThen]
  have hw : But [r] w w1 := by rcases hw1 with rfl | rfl; exact But.refl _ _; exact (But.refl _ _).drew
  have hr1 : w1.heap[r]? = some (iter b clk done) := by rcases hw1 with rfl | rfl <;> exact hr
  refine hK' _ _ (hMore e _ he ?_ ?_ (hw.setB (Or.inl (by simp)) _) ?_)
  ·rw [List.map_append, List.nodup_append]
   refine ⟨hd, by simp, ?_⟩
   intro y hy z hz hyz
   simp at hz
   subst hz; subst hyz
   obtain ⟨x, hx, hxe⟩ := List.mem_map.1 hy
   exact hn ⟨x, hx, hxe⟩
  ·rw [heap_setB_same _ hr1]
   simp [iter, ent]
  ·rcases hw1 with rfl | rfl <;> simp [setBlock]
theorem wpl_entry (hg : o.guard = none) (it : Operand) (hop : o.op = Op.entry it) {q : IntKind} (r b : Nat) (L done : Ents) (e : Int × Value × Nat) (clk : Nat) (hit : a.eval it = .pointer (some ⟨r, 0, none⟩))
  (hr : w.heap[r]? = some (iter b clk (done ++ [e]))) (hb : w.heap[b]? = some (mobj q L clk)) (hL : Born L clk) (he : e ∈ L)
  (h : wpList P ops Q rest (a.put o.dst (.tuple #[.int q e.1, e.2.1])) w) : wpList P ops Q (o :: rest) a w := by
 refine wpList_plain hg fun K' hK' => ?_
 have hrun := run_entry_at (P := P) w r b clk (done.map (·.2.2)).toArray (L.map (ent q)).toArray clk (ent q e) (by rw [hr]; simp [iter, ent]) hb (by simp; exact ⟨_, _, _, he, rfl⟩) (by
  have : ((L.map (ent q)).toArray.toList.map (·.born)) = L.map (·.2.2) := by simp [ent]
  rw [this]; exact hL.1)
 unfold Oper.wp
 simp [execOp, hop, hit, hrun, Result.andThen]
 exact hK' _ _ h
end
theorem run_lenM {P : Program} {w : World} {T kt et : TypeId} {q : IntKind} {b : Nat} {L : Ents} {clk : Nat} (hT : P.underlying T = some (.map kt et)) (hb : w.heap[b]? = some (mobj q L clk)) (n : Int) (hn : (L.length : Int) = n) (ty : TypeId) :
  (Builtin.len_ #[T] ty #[.map (some b)]).run P w = .ok (.int .i64 n) w := by
 subst hn
 unfold mobj at hb
 have hg := MapKept.run_getObj_map (P := P) hb
 simp [Builtin.len_, hg, run_underlying hT, goInt]
end Go.Proofs.YtclekllaikcglaaGreat

/- The library's sort at uint32: a row of numbers, and what becomes of it. -/
namespace Go.Proofs.YtclekllaikcglaaGreat
open Go Go.RowKit
open Go.Sort (swp PermIn SortedIn ltInt Holds putRow putRow_self putRow_set putRow_swp holds_putRow frozen?_putRow)
abbrev e32 : Int → Value := Value.int .u32
structure SW (g off n : Nat) (w0 : World) (d : Array Int) (w : World) : Prop where
 holds : Holds e32 w g off d
 size : d.size = n
 but : But [g] w0 w
 shape : ∀ cs T fz, w0.heap[g]? = some (.cells cs T fz) → ∃ cs', w.heap[g]? = some (.cells cs' T fz) ∧ cs'.size = cs.size
theorem SW.start {w : World} {g off : Nat} {d : Array Int} (h : Holds e32 w g off d) : SW g off d.size w d w := ⟨h, rfl, But.refl _ _, fun cs _ _ hc => ⟨cs, hc, rfl⟩⟩
theorem SW.trans {w0 w w' : World} {g off n : Nat} {d d' : Array Int} (h : SW g off n w0 d w) (k : SW g off n w d' w') : SW g off n w0 d' w' :=
 ⟨k.holds, k.size, h.but.trans k.but, fun cs T fz hc => by
  obtain ⟨c1, h1, h2⟩ := h.shape cs T fz hc
  obtain ⟨c2, h3, h4⟩ := k.shape c1 T fz h1
  exact ⟨c2, h3, h4.trans h2⟩⟩
theorem holds_heap {w w' : World} {g off : Nat} {d : Array Int} (h : Holds e32 w g off d) (hw : w'.heap[g]? = w.heap[g]?) : Holds e32 w' g off d := fun j hj => by
 have := h j hj
 simp only [World.cell?, World.frozen?, hw] at this ⊢
 exact this
theorem SW.heap {w0 w w' : World} {g off n : Nat} {d : Array Int} (h : SW g off n w0 d w) (hw : w'.heap[g]? = w.heap[g]?) (hb : But [g] w w') : SW g off n w0 d w' :=
 ⟨holds_heap h.holds hw, h.size, h.but.trans hb, fun cs T fz hc => by rw [hw]; exact h.shape cs T fz hc⟩
theorem SW.drewN {w0 w : World} {g off n : Nat} {d : Array Int} (h : SW g off n w0 d w) (k : Nat) : SW g off n w0 d (w.drewN k) := h.heap rfl ((But.refl _ _).drewN k)
theorem SW.drew {w0 w : World} {g off n : Nat} {d : Array Int} (h : SW g off n w0 d w) : SW g off n w0 d w.drew := h.heap rfl (But.refl _ _).drew
theorem SW.lt {w0 w : World} {g off n : Nat} {d : Array Int} (h : SW g off n w0 d w) (hg : g < w0.heap.size) : g < w.heap.size := Nat.lt_of_lt_of_le hg h.but.size
theorem SW.ext {w0 w w' : World} {g off n : Nat} {d : Array Int} (h : SW g off n w0 d w) (hg : g < w0.heap.size) (hx : Ext w w') : SW g off n w0 d w' := h.heap (hx.block (h.lt hg)) (But.of_ext hx)
theorem SW.cells {w0 w : World} {g off n : Nat} {d : Array Int} (h : SW g off n w0 d w) (G : Nat → Int) (hG : ∀ t, G t = d[t]!) : ∀ t, t < n → w.cell? ⟨g, off + t, none⟩ = some (.int .u32 (G t)) := fun t ht => by
 rw [hG]; exact (h.holds t (by rw [h.size]; exact ht)).1
theorem SW.frz {w0 w : World} {g off n : Nat} {d : Array Int} (h : SW g off n w0 d w) : ∀ t, t < n → w.frozen? ⟨g, off + t, none⟩ = false := fun t ht => (h.holds t (by rw [h.size]; exact ht)).2
theorem shape_put {w : World} {g off : Nat} {d : Array Int} (d' : Array Int) (_hs : d'.size = d.size) : But [g] w (putRow e32 w g off d') ∧ ∀ cs T fz, w.heap[g]? = some (.cells cs T fz) → ∃ cs', (putRow e32 w g off d').heap[g]? = some (.cells cs' T fz) ∧ cs'.size = cs.size := by
 refine ⟨⟨rfl, rfl, rfl, by simp [putRow, Sort.mapBlock], fun k hk hn => ?_⟩, fun cs T fz hc => ?_⟩
 ·simp only [putRow, Sort.mapBlock]
  rw [Array.getElem?_modify, if_neg (by rintro rfl; simp at hn)]
 ·refine ⟨Sort.putCells e32 off d' cs, ?_, by simp [Sort.putCells]⟩
  simp [putRow, Sort.mapBlock, Array.getElem?_modify, hc, Sort.onCells]
theorem SW.swap {w0 w : World} {g off n : Nat} {d : Array Int} (h : SW g off n w0 d w) {i j : Nat} (hi : i < n) (hj : j < n) {x y : Int} (hx : x = d[j]!) (hy : y = d[i]!) :
  SW g off n w0 (swp d i j) ((w.setCell ⟨g, off + i, none⟩ (.int .u32 x)).setCell ⟨g, off + j, none⟩ (.int .u32 y)) := by
 have e := putRow_swp e32 w g off d i j (by rw [h.size]; exact hi) (by rw [h.size]; exact hj)
 rw [putRow_self e32 w g off d h.holds] at e
 subst hx hy
 show SW g off n w0 (swp d i j) ((w.setCell ⟨g, off + i, none⟩ (e32 d[j]!)).setCell ⟨g, off + j, none⟩ (e32 d[i]!))
 rw [e]
 have hs : (swp d i j).size = d.size := by simp [swp]
 have hp := shape_put (w := w) (g := g) (off := off) (swp d i j) hs
 refine ⟨holds_putRow e32 w g off d _ h.holds hs, hs.trans h.size, h.but.trans hp.1, fun cs T fz hc => ?_⟩
 obtain ⟨c1, h1, h2⟩ := h.shape cs T fz hc
 obtain ⟨c2, h3, h4⟩ := hp.2 c1 T fz h1
 exact ⟨c2, h3, h4.trans h2⟩
theorem names_of (d : Array Int) : ∃ G : Nat → Int, ∀ t, G t = d[t]! := ⟨fun t => d[t]!, fun _ => rfl⟩
theorem isNaN32 (x : Int) (w : World) : Calls Tryz.prog 157 #[.int .u32 x] w fun e w' => e = .returned (.bool false) ∧ w' = w := by
 go_enter Tryz.func157, Tryz.ntmps157
 go_wp2
 go_returns
 exact ⟨by simp, rfl⟩
theorem less32 (x y : Int) (w : World) : Calls Tryz.prog 136 #[.int .u32 x, .int .u32 y] w fun e w' => e = .returned (.bool (ltInt x y)) ∧ w' = w := by
 go_enter Tryz.func136, Tryz.ntmps136
 go_wp2_with (go_at_call 157; refine (isNaN32 _ _).mono ?_; rintro e w' ⟨rfl, rfl⟩)
 go_returns
 exact ⟨rfl, rfl⟩
end Go.Proofs.YtclekllaikcglaaGreat

/- The library's insertion sort at uint32. -/
namespace Go.Proofs.YtclekllaikcglaaGreat
open Go Go.RowKit
open Go.Sort (swp PermIn SortedIn ltInt Holds insInner insOuter insertionSort)
section
variable {α : Type} [Inhabited α] (lt : α → α → Bool)
theorem inner_go (a j : Nat) (d : Array α) (hj : a < j) (hl : lt d[j]! d[j - 1]! = true) : insInner lt a j d = insInner lt a (j - 1) (swp d j (j - 1)) := by
 obtain ⟨k, rfl⟩ : ∃ k, j = k + 1 := ⟨j - 1, by omega⟩
 rw [Nat.add_sub_cancel] at hl ⊢
 rw [insInner, if_pos (by simp [hj, hl])]
theorem inner_end (a j : Nat) (d : Array α) (h : ¬ a < j ∨ lt d[j]! d[j - 1]! = false) : insInner lt a j d = d := by
 cases j with
 | zero => rfl
 | succ k =>
  rw [Nat.add_sub_cancel] at h
  rw [insInner, if_neg]
  rcases h with h | h <;> simp [h]
theorem outer_go (a b i : Nat) (d : Array α) (h : i < b) : insOuter lt a b i d = insOuter lt a b (i + 1) (insInner lt a i d) := by rw [insOuter, if_pos h]
theorem outer_end (a b i : Nat) (d : Array α) (h : ¬ i < b) : insOuter lt a b i d = d := by rw [insOuter, if_neg h]
end
set_option maxRecDepth 1000000 in
set_option maxHeartbeats 8000000 in
theorem ins32 (g off cap a b n : Nat) (d : Array Int) (w : World) (hH : Holds e32 w g off d) (hn : d.size = n) (hab : a ≤ b) (hb : b ≤ n) (hsz : n ≤ 1000000) :
  Calls Tryz.prog 130 #[.slice (some ⟨g, off, none⟩) n cap, .int .i64 a, .int .i64 b] w fun e w' => e = .returned (.tuple #[]) ∧ SW g off n w (insertionSort ltInt d a b) w' := by
 have HS := Lib.hid (SW.start hH)
 rw [hn] at HS
 clear hH hn
 go_enter Tryz.func130, Tryz.ntmps130
 go_wp2
 go_loopw [6] (fun vi wr => ∃ (i : Nat) (dk : Array Int), vi = .int .i64 i ∧ a < i ∧ i ≤ b + 1 ∧ SW g off n w dk wr ∧ Hid (insOuter ltInt a b i dk = insertionSort ltInt d a b)) (fun vi _ => b + 1 - (intOf vi).toNat)
 case atStart => exact ⟨a + 1, d, by go_num, by omega, by omega, HS.out, Lib.hid rfl⟩
 case round =>
  obtain ⟨i, dk, rfl, hai, hib, hs, HO⟩ := hrel
  have HK := Lib.hid hs
  clear hs HS
  by_cases hlt : i < b
  ·go_wp2
   go_loopw [7] (fun vj w2 => ∃ (j : Nat) (dj : Array Int), vj = .int .i64 j ∧ a ≤ j ∧ j ≤ i ∧ SW g off n w dj w2 ∧ Hid (insInner ltInt a j dj = insInner ltInt a i dk)) (fun vj _ => (intOf vj).toNat)
   case atStart => exact ⟨i, dk, rfl, by omega, Nat.le_refl _, HK.out, Lib.hid rfl⟩
   case round =>
    obtain ⟨j, dj, rfl, haj, hji, hs, HI⟩ := hrel
    obtain ⟨G, hG⟩ := names_of dj
    have hcw := hs.cells G hG
    have hfw := hs.frz
    have HG := Lib.hid hG
    have HJ := Lib.hid hs
    clear hG hs HK
    have OUT : Hid ((¬ a < j ∨ ltInt dj[j]! dj[j - 1]! = false) → insOuter ltInt a b (i + 1) dj = insertionSort ltInt d a b) := Lib.hid fun h => by
     rw [← HO.out, outer_go _ _ _ _ _ hlt, ← HI.out, inner_end _ _ _ _ h]
    go_wp2
    by_cases hja : a < j
    ·go_quiet (first | (go_at_call 136; refine Calls.quiet_of_same (less32 _ _ _)))
     go_wp2
     ·have hl : ltInt (G j) (G (j - 1)) = true := by assumption
      go_region
      all_goals go_wp2
      go_roundw
      case rel =>
       refine ⟨j - 1, swp dj j (j - 1), by congr 1; omega, by omega, by omega, ?_, Lib.hid ?_⟩
       ·exact ((HJ.out.drewN nq).swap (by omega) (by omega) (HG.out _) (HG.out _)).drew
       ·rw [← HI.out, inner_go ltInt a j dj hja (by rw [← HG.out, ← HG.out]; exact hl)]
      case measure => simp [intOf]; omega
     ·have hl : ltInt (G j) (G (j - 1)) = false := by assumption
      go_roundw
      case rel => exact ⟨i + 1, dj, by go_num, by omega, by omega, HJ.out.drewN nq, Lib.hid (OUT.out (Or.inr (by rw [← HG.out, ← HG.out]; exact hl)))⟩
      case measure => simp [intOf]; omega
    ·have hjd : decide (a < j) = false := by simpa using hja
     go_quiet (first | (go_at_call 136; refine Calls.quiet_of_same (less32 _ _ _)))
     go_wp2
     go_roundw
     case rel => exact ⟨i + 1, dj, by go_num, by omega, by omega, HJ.out.drewN nq, Lib.hid (OUT.out (Or.inl hja))⟩
     case measure => simp [intOf]; omega
  ·have hltd : decide (i < b) = false := by simpa using hlt
   go_wp2
   go_end0
   refine ⟨rfl, ?_⟩
   have := HO.out
   rw [outer_end _ _ _ _ _ hlt] at this
   rw [← this]
   exact HK.out
end Go.Proofs.YtclekllaikcglaaGreat

/- The library's heap sort at uint32, and a range turned round. -/
namespace Go.Proofs.YtclekllaikcglaaGreat
open Go Go.RowKit
open Go.Sort (swp PermIn SortedIn ltInt Holds siftDown heapBuild heapPop heapSort reverseLoop reverseRange)
section
variable {α : Type} [Inhabited α] (lt : α → α → Bool)
def PickC (hi F root : Nat) (d : Array α) (c : Nat) : Prop :=
 (c = 2 * root + 2 ∧ 2 * root + 2 < hi ∧ lt d[F + (2 * root + 1)]! d[F + (2 * root + 2)]! = true) ∨ (c = 2 * root + 1 ∧ (2 * root + 2 < hi → lt d[F + (2 * root + 1)]! d[F + (2 * root + 2)]! = false))
theorem sift_end {hi F root : Nat} (d : Array α) (h : hi ≤ 2 * root + 1) : siftDown lt hi F root d = d := by rw [siftDown, dif_pos h]
theorem sift_step {hi F root c : Nat} (d : Array α) (h : 2 * root + 1 < hi) (hc : PickC lt hi F root d c) :
  siftDown lt hi F root d = if lt d[F + root]! d[F + c]! then siftDown lt hi F c (swp d (F + root) (F + c)) else d := by
 have e : F + (2 * root + 1) + 1 = F + (2 * root + 2) := by omega
 rw [siftDown, dif_neg (by omega), e]
 rcases hc with ⟨rfl, h1, h2⟩ | ⟨rfl, h2⟩
 ·rw [if_pos (by simp [h2]; omega), dif_pos h1]
  cases lt d[F + root]! d[F + (2 * root + 2)]! <;> simp
 ·rw [if_neg (by
   rintro hh
   simp only [Bool.and_eq_true, decide_eq_true_eq] at hh
   rw [h2 (by omega)] at hh
   cases hh.2)]
  cases lt d[F + root]! d[F + (2 * root + 1)]! <;> simp
end
set_option maxRecDepth 1000000 in
set_option maxHeartbeats 8000000 in
theorem sift32 (g off cap lo hi first n : Nat) (d : Array Int) (w0 w : World) (hs : SW g off n w0 d w) (hlo : lo ≤ hi) (hb : first + hi ≤ n) (hsz : n ≤ 1000000) :
  Calls Tryz.prog 152 #[.slice (some ⟨g, off, none⟩) n cap, .int .i64 lo, .int .i64 hi, .int .i64 first] w fun e w' => e = .returned (.tuple #[]) ∧ SW g off n w0 (siftDown ltInt hi first lo d) w' := by
 have HS := Lib.hid hs
 clear hs
 go_enter Tryz.func152, Tryz.ntmps152
 go_wp2
 go_loopg [8] (hi - lo) (fun k s8 wr => ∃ (root : Nat) (dk : Array Int), s8 = .int .i64 root ∧ root ≤ hi ∧ hi - root ≤ k ∧ SW g off n w0 dk wr ∧ Hid (siftDown ltInt hi first root dk = siftDown ltInt hi first lo d))
 case atStart => exact ⟨lo, d, rfl, hlo, Nat.le_refl _, HS.out, Lib.hid rfl⟩
 case round =>
  obtain ⟨root, dk, rfl, hr, hk, hs, HE⟩ := hrel
  have HK := Lib.hid hs
  clear hs HS
  by_cases h0 : hi ≤ 2 * root + 1
  ·have h0z : (hi : Int) ≤ 2 * (root : Int) + 1 := by omega
   go_wp2
   go_end0
   refine ⟨rfl, ?_⟩
   rw [← HE.out, sift_end _ _ h0]
   exact HK.out
  ·have h0z : ¬ ((hi : Int) ≤ 2 * (root : Int) + 1) := by omega
   go_upto_region 3 with fail
   go_cut [36] from 11 to 75 (fun s36 wc => ∃ v : Bool, s36 = .bool v ∧ Hid (v = true → 2 * root + 2 < hi) ∧ Hid (2 * root + 2 < hi → v = ltInt dk[first + (2 * root + 1)]! dk[first + (2 * root + 2)]!) ∧ SW g off n w0 dk wc)
   case first =>
    obtain ⟨G, hG⟩ := names_of dk
    have hcw := HK.out.cells G hG
    have HG := Lib.hid hG
    clear hG
    by_cases h1 : 2 * root + 2 < hi
    ·have h1z : 2 * (root : Int) + 1 + 1 < (hi : Int) := by omega
     go_quiet (first | (go_at_call 136; refine Calls.quiet_of_same (less32 _ _ _)))
     go_wp2_with fail
     go_meet
     case rel =>
      refine ⟨_, rfl, Lib.hid (fun _ => h1), Lib.hid (fun _ => ?_), HK.out.drewN nq⟩
      rw [HG.out, HG.out]
      rfl
    ·have h1z : decide (2 * (root : Int) + 1 + 1 < (hi : Int)) = false := decide_eq_false (by omega)
     go_quiet (first | (go_at_call 136; refine Calls.quiet_of_same (less32 _ _ _)))
     go_wp2_with fail
     go_meet
     case rel => exact ⟨false, rfl, Lib.hid (fun h => by cases h), Lib.hid (fun h => absurd h h1), HK.out.drewN nq⟩
   case rest =>
   obtain ⟨v, rfl, HV1, HV2, hs⟩ := hcut
   have HV := Lib.hid hs
   clear hs HK
   go_upto_if 36 with fail
   go_cut [9] from 11 to 75 (fun s9 wc2 => ∃ c : Nat, s9 = .int .i64 c ∧ c < hi ∧ root < c ∧ Hid (PickC ltInt hi first root dk c) ∧ SW g off n w0 dk wc2)
   case first =>
    cases v
    ·go_wp2
     go_meet
     case rel => exact ⟨2 * root + 1, by simp <;> omega, by omega, by omega, Lib.hid (.inr ⟨rfl, fun h => (HV2.out h).symm⟩), HV.out⟩
    ·have h1 := HV1.out rfl
     go_wp2
     go_meet
     case rel => exact ⟨2 * root + 2, by simp <;> omega, by omega, by omega, Lib.hid (.inl ⟨rfl, h1, (HV2.out h1).symm⟩), HV.out⟩
   case rest =>
    obtain ⟨c, rfl, hc1, hc2, HC, hs⟩ := hcut
    obtain ⟨G, hG⟩ := names_of dk
    have hcw := hs.cells G hG
    have hfw := hs.frz
    have HG := Lib.hid hG
    have HJ := Lib.hid hs
    clear hG hs HV
    go_wp2_with fail
    go_quiet (first | (go_at_call 136; refine Calls.quiet_of_same (less32 _ _ _)))
    go_wp2_with fail
    ·have hl : ltInt (G (first + root)) (G (first + c)) = false := by
      have : (!ltInt (G (first + root)) (G (first + c))) = true := by assumption
      simpa using this
     (try simp only [Exit.inBlock, Exit.then]); refine bodyPost_ret (results_none rfl _ _ _) rfl ?_
     refine ⟨rfl, ?_⟩
     rw [← HE.out, sift_step _ _ (by omega) HC.out, if_neg (by rw [← HG.out, ← HG.out, hl]; simp)]
     exact HJ.out.drewN nq
    ·have hl : ltInt (G (first + root)) (G (first + c)) = true := by
      have : (!ltInt (G (first + root)) (G (first + c))) = false := by assumption
      simpa using this
     go_region
     all_goals go_wp2
     all_goals go_roundg (hi - c)
     case measure => omega
     case rel =>
      refine ⟨c, swp dk (first + root) (first + c), rfl, by omega, Nat.le_refl _, ?_, Lib.hid ?_⟩
      ·exact ((HJ.out.drewN nq).swap (by omega) (by omega) (HG.out _) (HG.out _)).drew
      ·rw [← HE.out, sift_step _ _ (by omega) HC.out, if_pos (by rw [← HG.out, ← HG.out]; exact hl)]
theorem heap_mid {a b : Nat} (hab : a ≤ b) : ((b : Int) - (a : Int) - 1).tdiv 2 = (((b - a - 1) / 2 + 1 : Nat) : Int) - 1 := by
 rcases Nat.eq_or_lt_of_le hab with rfl | h
 ·rw [show ((a : Int) - (a : Int) - 1) = -1 by omega]; simp
 ·rw [Int.tdiv_eq_ediv_of_nonneg (by omega)]; omega
set_option maxRecDepth 1000000 in
set_option maxHeartbeats 8000000 in
theorem heap32 (g off cap a b n : Nat) (d : Array Int) (w : World) (hH : Holds e32 w g off d) (hn : d.size = n) (hab : a ≤ b) (hb : b ≤ n) (hsz : n ≤ 1000000) :
  Calls Tryz.prog 131 #[.slice (some ⟨g, off, none⟩) n cap, .int .i64 a, .int .i64 b] w fun e w' => e = .returned (.tuple #[]) ∧ SW g off n w (heapSort ltInt d a b) w' := by
 have HS := Lib.hid (SW.start hH)
 rw [hn] at HS
 clear hH hn
 have hmid := heap_mid hab
 obtain ⟨m, hm⟩ : ∃ m : Nat, b - a = m := ⟨_, rfl⟩
 have ecast : (b : Int) - (a : Int) = (m : Int) := by omega
 have hheap : Hid (heapSort ltInt d a b = heapPop ltInt a m (heapBuild ltInt m a ((m - 1) / 2 + 1) d)) := Lib.hid (by rw [heapSort, hm])
 rw [hm, ecast] at hmid
 obtain ⟨k0, hk0⟩ : ∃ k0 : Nat, (m - 1) / 2 + 1 = k0 := ⟨_, rfl⟩
 have hk0m : k0 ≤ m + 1 := by omega
 have hk0l : m = 0 ∨ k0 ≤ m := by omega
 rw [hk0] at hmid hheap
 have hmn : a + m ≤ n := by omega
 clear hk0 hm
 go_enter Tryz.func131, Tryz.ntmps131
 go_wp2
 go_loopg [9] k0 (fun k s9 wr => s9 = .int .i64 ((k : Int) - 1) ∧ k ≤ k0 ∧ ∃ dk, SW g off n w dk wr ∧ Hid (heapBuild ltInt m a k dk = heapBuild ltInt m a k0 d))
 case atStart => exact ⟨rfl, Nat.le_refl _, d, HS.out, Lib.hid rfl⟩
 case round =>
  obtain ⟨rfl, hkk, dk, hs, HE⟩ := hrel
  have HK := Lib.hid hs
  clear hs HS hmid
  cases gk with
  | zero =>
   have HB : Hid (heapSort ltInt d a b = heapPop ltInt a m dk) := Lib.hid (by rw [hheap.out, ← HE.out]; rfl)
   clear HE hheap
   go_wp2
   go_loopg [10] m (fun k s10 wr2 => s10 = .int .i64 ((k : Int) - 1) ∧ k ≤ m ∧ ∃ dj, SW g off n w dj wr2 ∧ Hid (heapPop ltInt a k dj = heapPop ltInt a m dk))
   case atStart => exact ⟨rfl, Nat.le_refl _, dk, HK.out, Lib.hid rfl⟩
   case round =>
    obtain ⟨rfl, hk2, dj, hs, HE⟩ := hrel
    have HJ := Lib.hid hs
    clear hs HK
    cases gk with
    | zero =>
     go_wp2
     go_end0
     refine ⟨rfl, ?_⟩
     rw [HB.out, ← HE.out]
     exact HJ.out
    | succ k =>
     obtain ⟨G, hG⟩ := names_of dj
     have hcw := HJ.out.cells G hG
     have hfw := HJ.out.frz
     have HG := Lib.hid hG
     clear hG
     rcases Nat.eq_zero_or_pos k with hk0 | hkp
     ·subst hk0
      go_wp2_with fail
      go_region
      have hs2 := ((HJ.out.swap (i := a) (j := a) (by omega) (by omega) (HG.out _) (HG.out _)).drew)
      have GS := Lib.hid (fun (W : World) (hW : SW g off n w (swp dj a a) W) => sift32 g off cap 0 0 a n _ w W hW (by omega) (by omega) hsz)
      have GS2 := Lib.hid (GS.out _ hs2)
      clear GS hs2
      go_wp2_with (go_at_call 152; refine GS2.out.mono ?_; rintro e w1 ⟨rfl, hs3⟩)
      have HS3 := Lib.hid hs3
      clear hs3
      go_wp2_with fail
      go_roundg 0
      case measure => omega
      case rel => exact ⟨by simp, by omega, _, HS3.out, Lib.hid (by rw [← HE.out]; rfl)⟩
     ·have hkn : a + k < n := by omega
      go_wp2_with fail
      go_region
      have hs2 := ((HJ.out.swap (i := a) (j := a + k) (by omega) (by omega) (HG.out _) (HG.out _)).drew)
      have GS := Lib.hid (fun (W : World) (hW : SW g off n w (swp dj a (a + k)) W) => sift32 g off cap 0 k a n _ w W hW (by omega) (by omega) hsz)
      have GS2 := Lib.hid (GS.out _ hs2)
      clear GS hs2
      go_wp2_with (go_at_call 152; refine GS2.out.mono ?_; rintro e w1 ⟨rfl, hs3⟩)
      have HS3 := Lib.hid hs3
      clear hs3
      go_wp2_with fail
      go_roundg k
      case measure => omega
      case rel => exact ⟨by simp, by omega, _, HS3.out, Lib.hid (by rw [← HE.out]; rfl)⟩
  | succ k =>
   have hkm : k ≤ m := by omega
   have GS := Lib.hid (sift32 g off cap k m a n dk w wr HK.out hkm hmn hsz)
   go_wp2_with (go_at_call 152; refine GS.out.mono ?_; rintro e w1 ⟨rfl, hs3⟩)
   have HS3 := Lib.hid hs3
   clear hs3
   go_wp2_with fail
   go_roundg k
   case measure => omega
   case rel => exact ⟨by simp, by omega, _, HS3.out, Lib.hid (by rw [← HE.out]; rfl)⟩
theorem rev_go {α : Type} [Inhabited α] (i j : Nat) (d : Array α) (h : i < j) : reverseLoop i j d = reverseLoop (i + 1) (j - 1) (swp d i j) := by rw [reverseLoop, if_pos h]
theorem rev_end {α : Type} [Inhabited α] (i j : Nat) (d : Array α) (h : ¬ i < j) : reverseLoop i j d = d := by rw [reverseLoop, if_neg h]
set_option maxRecDepth 1000000 in
set_option maxHeartbeats 8000000 in
theorem rev32 (g off cap a b n : Nat) (d : Array Int) (w0 w : World) (hs : SW g off n w0 d w) (hab : a < b) (hb : b ≤ n) (hsz : n ≤ 1000000) :
  Calls Tryz.prog 134 #[.slice (some ⟨g, off, none⟩) n cap, .int .i64 a, .int .i64 b] w fun e w' => e = .returned (.tuple #[]) ∧ SW g off n w0 (reverseRange d a b) w' := by
 have HS := Lib.hid hs
 clear hs
 obtain ⟨b1, hb1⟩ : ∃ b1 : Nat, b - 1 = b1 := ⟨_, rfl⟩
 have hbi : (b : Int) - 1 = (b1 : Int) := by omega
 have hb1n : b1 < n := by omega
 have HR : Hid (reverseRange d a b = reverseLoop a b1 d) := Lib.hid (by rw [reverseRange, hb1])
 go_enter Tryz.func134, Tryz.ntmps134
 go_wp2
 go_loopg [6, 7] (n + b1 - a) (fun k s6 s7 wr => ∃ (i j : Nat) (dk : Array Int), s6 = .int .i64 i ∧ s7 = .int .i64 j ∧ a ≤ i ∧ j ≤ b1 ∧ i ≤ j + 1 ∧ n + j - i ≤ k ∧ SW g off n w0 dk wr ∧ Hid (reverseLoop i j dk = reverseLoop a b1 d))
 case atStart => exact ⟨a, b1, d, rfl, by first | rfl | (rw [hbi]), Nat.le_refl _, Nat.le_refl _, by omega, Nat.le_refl _, HS.out, Lib.hid rfl⟩
 case round =>
  obtain ⟨i, j, dk, rfl, rfl, h1, h2, h3, h4, hs, HE⟩ := hrel
  obtain ⟨G, hG⟩ := names_of dk
  have hcw := hs.cells G hG
  have hfw := hs.frz
  have HG := Lib.hid hG
  have HJ := Lib.hid hs
  clear hG hs HS hb1 hbi
  by_cases hlt : i < j
  ·go_wp2
   go_region
   all_goals go_wp2
   all_goals go_roundg (n + (j - 1) - (i + 1))
   case measure => omega
   case rel =>
    refine ⟨i + 1, j - 1, swp dk i j, by go_num, by go_num, by omega, by omega, by omega, Nat.le_refl _, ?_, Lib.hid ?_⟩
    ·exact (HJ.out.swap (by omega) (by omega) (HG.out _) (HG.out _)).drew
    ·rw [← HE.out, rev_go i j dk hlt]
  ·have hltd : decide (i < j) = false := by simpa using hlt
   go_wp2
   go_end0
   refine ⟨rfl, ?_⟩
   rw [HR.out, ← HE.out, rev_end _ _ _ hlt]
   exact HJ.out
end Go.Proofs.YtclekllaikcglaaGreat

/- The library's partitions at uint32. -/
namespace Go.Proofs.YtclekllaikcglaaGreat
open Go Go.RowKit
open Go.Sort (swp PermIn SortedIn ltInt Holds scanUp scanDown partLoop partEqLoop partitionEqual partition partEqLoop_eq partLoop_eq scanUp_spec scanDown_spec)
section
variable {α : Type} [Inhabited α]
theorem up_go (p : α → Bool) (d : Array α) (j i : Nat) (h : i ≤ j) (hp : p d[i]! = true) : scanUp p d j i = scanUp p d j (i + 1) := by
 rw [scanUp, if_pos (by simp [h, hp])]
theorem up_end (p : α → Bool) (d : Array α) (j i : Nat) (h : ¬ i ≤ j ∨ p d[i]! = false) : scanUp p d j i = i := by
 rw [scanUp, if_neg (by rcases h with h | h <;> simp [h])]
theorem down_go (p : α → Bool) (d : Array α) (i j : Nat) (h : i ≤ j) (h0 : 0 < j) (hp : p d[j]! = true) : scanDown p d i j = scanDown p d i (j - 1) := by
 cases j with
 | zero => omega
 | succ k => rw [scanDown, if_pos (by simp [h, hp])]; rfl
theorem down_end (p : α → Bool) (d : Array α) (i j : Nat) (h : ¬ i ≤ j ∨ p d[j]! = false) : scanDown p d i j = j := by
 cases j with
 | zero => rfl
 | succ k => rw [scanDown, if_neg (by rcases h with h | h <;> simp [h])]
theorem scans_part (p q : α → Bool) (hq : ∀ x, q x = !p x) (i j : Nat) (d : Array α) (h0 : 0 < i) {i2 j2 : Nat} (h1 : i2 = scanUp p d j i) (h2 : j2 = scanDown q d i2 j) (h : i2 ≤ j2) : i2 < j2 := by
 subst h1
 obtain ⟨u1, _, _, u4⟩ := scanUp_spec p d j _ i rfl
 obtain ⟨v1, _, _, v4⟩ := scanDown_spec q d (scanUp p d j i) j
 generalize scanUp p d j i = i2 at *
 subst h2
 generalize scanDown q d i2 j = j2 at *
 rcases Nat.lt_or_ge i2 j2 with hl | hl
 ·exact hl
 ·obtain rfl : j2 = i2 := by omega
  have f1 := u4 (by omega)
  have f2 := v4 h (by omega)
  rw [hq] at f2
  simp [f1] at f2
end
set_option maxRecDepth 1000000 in
set_option maxHeartbeats 8000000 in
theorem partEq32 (g off cap a b pivot n : Nat) (d : Array Int) (w0 w : World) (hs : SW g off n w0 d w) (hap : a ≤ pivot) (hpb : pivot < b) (hb : b ≤ n) (hsz : n ≤ 1000000) :
  Calls Tryz.prog 137 #[.slice (some ⟨g, off, none⟩) n cap, .int .i64 a, .int .i64 b, .int .i64 pivot] w fun e w' => e = .returned (.int .i64 ((partitionEqual ltInt d a b pivot).1 : Nat)) ∧ SW g off n w0 (partitionEqual ltInt d a b pivot).2 w' := by
 have HR : Hid (partEqLoop ltInt a (a + 1) (b - 1) (swp d a pivot) = partitionEqual ltInt d a b pivot) := Lib.hid rfl
 generalize partitionEqual ltInt d a b pivot = R at *
 obtain ⟨b1, hb1⟩ : ∃ b1 : Nat, b - 1 = b1 := ⟨_, rfl⟩
 have hbi : (b : Int) - 1 = (b1 : Int) := by omega
 have hb1n : b1 < n := by omega
 have hab1 : a ≤ b1 := by omega
 have hpn : pivot < n := by omega
 rw [hb1] at HR
 obtain ⟨G, hG⟩ := names_of d
 have hcw := hs.cells G hG
 have hfw := hs.frz
 obtain ⟨v', hy'⟩ := cell?_setCell_some (w := w) (p := ⟨g, off + a, none⟩) (x := .int .u32 (G pivot)) (q := ⟨g, off + pivot, none⟩) (hcw pivot hpn)
 have hs2 := (hs.swap (i := a) (j := pivot) (by omega) (by omega) (hG _) (hG _)).drew
 have HG := Lib.hid hG
 have HS := Lib.hid hs2
 clear hG hs hs2 hb1
 generalize swp d a pivot = d1 at *
 go_enter Tryz.func137, Tryz.ntmps137
 go_wp2
 go_region
 go_wp2
 go_loopg [9, 10] (b1 + 1 - a) (fun k s9 s10 wr => ∃ (i j : Nat) (dk : Array Int), s9 = .int .i64 i ∧ s10 = .int .i64 j ∧ a < i ∧ i ≤ j + 1 ∧ j ≤ b1 ∧ j + 1 - i < k ∧ SW g off n w0 dk wr ∧ Hid (partEqLoop ltInt a i j dk = R))
 case atStart => exact ⟨a + 1, b1, d1, by go_num, by first | rfl | (rw [hbi]), by omega, by omega, Nat.le_refl _, by omega, HS.out, HR⟩
 case round =>
  clear hcw hfw hy' v' HG HS HR
  obtain ⟨i, j, dk, rfl, rfl, hai, hij, hjb, hk, hs, HE⟩ := hrel
  obtain ⟨G, hG⟩ := names_of dk
  have HG := Lib.hid hG
  have HK := Lib.hid hs
  clear hG hs
  go_step
  go_step
  --up eq 9 29 82 i HK
  go_cut [9] from 29 to 82 (fun s9 wc => ∃ i2 : Nat, s9 = .int .i64 i2 ∧ i ≤ i2 ∧ i2 ≤ j + 1 ∧ Hid (i2 = scanUp (fun x => !ltInt dk[a]! x) dk j i) ∧ SW g off n w0 dk wc)
  case first =>
   go_step
   go_loopg [9] (j + 1 - i) (fun k s9 w1 => ∃ i2 : Nat, s9 = .int .i64 i2 ∧ i ≤ i2 ∧ i2 ≤ j + 1 ∧ j + 1 - i2 ≤ k ∧ Hid (scanUp (fun x => !ltInt dk[a]! x) dk j i2 = scanUp (fun x => !ltInt dk[a]! x) dk j i) ∧ SW g off n w0 dk w1)
   case atStart => exact ⟨i, by first | rfl | go_num, Nat.le_refl _, by omega, Nat.le_refl _, Lib.hid rfl, HK.out⟩
   case round =>
    obtain ⟨i2, rfl, h1, h2, h3, HP, hs⟩ := hrel
    have hcw := hs.cells G HG.out
    have HJ := Lib.hid hs
    clear hs HK
    by_cases hle : i2 ≤ j
    ·go_wp2_with fail
     go_quiet (first | (go_at_call 136; refine Calls.quiet_of_same (less32 _ _ _)))
     go_wp2_with fail
     ·have ht : (!ltInt (G a) (G i2)) = true := by assumption
      go_roundg (j + 1 - (i2 + 1))
      case measure => omega
      case rel => exact ⟨i2 + 1, by go_num, by omega, by omega, Nat.le_refl _, Lib.hid (by rw [← HP.out]; exact (up_go (fun x => !ltInt dk[a]! x) dk j i2 hle (by show (!ltInt dk[a]! dk[i2]!) = true; rw [← HG.out, ← HG.out]; exact ht)).symm), HJ.out.drewN nq⟩
     ·have ht : (!ltInt (G a) (G i2)) = false := by assumption
      go_meet
      case rel => exact ⟨i2, rfl, h1, h2, Lib.hid (by rw [← HP.out]; exact (up_end (fun x => !ltInt dk[a]! x) dk j i2 (.inr (by show (!ltInt dk[a]! dk[i2]!) = false; rw [← HG.out, ← HG.out]; exact ht))).symm), HJ.out.drewN nq⟩
    ·have hled : decide (i2 ≤ j) = false := by simpa using hle
     go_wp2_with fail
     go_quiet (first | (go_at_call 136; refine Calls.quiet_of_same (less32 _ _ _)))
     go_wp2_with fail
     go_meet
     case rel => exact ⟨i2, rfl, h1, h2, Lib.hid (by rw [← HP.out]; exact (up_end (fun x => !ltInt dk[a]! x) dk j i2 (.inl hle)).symm), HJ.out.drewN nq⟩
  case rest =>
  obtain ⟨i2, rfl, hu1, hu2, HI, hs⟩ := hcut
  have HU := Lib.hid hs
  clear hs HK
  --end
  --down eq 10 29 82 HU
  go_step
  go_step
  go_cut [10] from 29 to 82 (fun s10 wc => ∃ j2 : Nat, s10 = .int .i64 j2 ∧ j2 ≤ j ∧ i2 ≤ j2 + 1 ∧ Hid (j2 = scanDown (fun x => ltInt dk[a]! x) dk i2 j) ∧ SW g off n w0 dk wc)
  case first =>
   go_step
   go_loopg [10] j (fun k s10 w1 => ∃ j2 : Nat, s10 = .int .i64 j2 ∧ j2 ≤ j ∧ i2 ≤ j2 + 1 ∧ j2 ≤ k ∧ Hid (scanDown (fun x => ltInt dk[a]! x) dk i2 j2 = scanDown (fun x => ltInt dk[a]! x) dk i2 j) ∧ SW g off n w0 dk w1)
   case atStart => exact ⟨j, by first | rfl | go_num, Nat.le_refl _, hu2, Nat.le_refl _, Lib.hid rfl, HU.out⟩
   case round =>
    obtain ⟨j2, rfl, h1, h2, h3, HP, hs⟩ := hrel
    have hcw := hs.cells G HG.out
    have HJ := Lib.hid hs
    clear hs HU
    by_cases hle : i2 ≤ j2
    ·go_wp2_with fail
     go_quiet (first | (go_at_call 136; refine Calls.quiet_of_same (less32 _ _ _)))
     go_wp2_with fail
     ·have ht : ltInt (G a) (G j2) = true := by assumption
      go_roundg (j2 - 1)
      case measure => omega
      case rel => exact ⟨j2 - 1, by go_num, by omega, by omega, Nat.le_refl _, Lib.hid (by rw [← HP.out]; exact (down_go (fun x => ltInt dk[a]! x) dk i2 j2 hle (by omega) (by show (ltInt dk[a]! dk[j2]!) = true; rw [← HG.out, ← HG.out]; exact ht)).symm), HJ.out.drewN nq⟩
     ·have ht : ltInt (G a) (G j2) = false := by assumption
      go_meet
      case rel => exact ⟨j2, rfl, h1, h2, Lib.hid (by rw [← HP.out]; exact (down_end (fun x => ltInt dk[a]! x) dk i2 j2 (.inr (by show (ltInt dk[a]! dk[j2]!) = false; rw [← HG.out, ← HG.out]; exact ht))).symm), HJ.out.drewN nq⟩
    ·have hled : decide (i2 ≤ j2) = false := by simpa using hle
     go_wp2_with fail
     go_quiet (first | (go_at_call 136; refine Calls.quiet_of_same (less32 _ _ _)))
     go_wp2_with fail
     go_meet
     case rel => exact ⟨j2, rfl, h1, h2, Lib.hid (by rw [← HP.out]; exact (down_end (fun x => ltInt dk[a]! x) dk i2 j2 (.inl hle)).symm), HJ.out.drewN nq⟩
  case rest =>
  obtain ⟨j2, rfl, hd1, hd2, HJ2, hs⟩ := hcut
  have HD := Lib.hid hs
  have hcw := hs.cells G HG.out
  have hfw := hs.frz
  clear hs HU
  --end
  have HPQ : ∀ x, (fun x => ltInt dk[a]! x) x = !(fun x => !ltInt dk[a]! x) x := by intro x; simp
  by_cases hgt : j2 < i2
  ·have HX : Hid (R = (i2, dk)) := Lib.hid (by rw [← HE.out, partEqLoop_eq, ← HI.out, ← HJ2.out, if_pos hgt])
   clear HPQ hcw hfw
   go_wp2
   go_returns
   rw [HX.out]
   exact ⟨rfl, HD.out⟩
  ·have hlt := scans_part _ _ HPQ i j dk (by omega) HI.out HJ2.out (by omega)
   have HX : Hid (partEqLoop ltInt a (i2 + 1) (j2 - 1) (swp dk i2 j2) = R) := Lib.hid (by rw [← HE.out, partEqLoop_eq ltInt a i j dk, ← HI.out, ← HJ2.out, if_neg (by omega)])
   clear HPQ
   go_wp2
   go_region
   all_goals go_wp2
   all_goals go_roundg (j - i)
   case measure => omega
   case rel => exact ⟨i2 + 1, j2 - 1, swp dk i2 j2, by go_num, by go_num, by omega, by omega, by omega, by omega, (HD.out.swap (by omega) (by omega) (HG.out _) (HG.out _)).drew, HX⟩
set_option maxRecDepth 1000000 in
set_option maxHeartbeats 16000000 in
theorem part32 (g off cap a b pivot n : Nat) (d : Array Int) (w0 w : World) (hs : SW g off n w0 d w) (hap : a ≤ pivot) (hpb : pivot < b) (hb : b ≤ n) (hsz : n ≤ 1000000) :
  Calls Tryz.prog 138 #[.slice (some ⟨g, off, none⟩) n cap, .int .i64 a, .int .i64 b, .int .i64 pivot] w fun e w' => ∃ v : Bool, e = .returned (.tuple #[.int .i64 ((partition ltInt d a b pivot).1 : Nat), .bool v]) ∧ SW g off n w0 (partition ltInt d a b pivot).2.2 w' := by
 rw [Sort.partition_arr, Sort.partition_fst]
 obtain ⟨R, hR⟩ : ∃ R, partLoop ltInt a (a + 1) (b - 1) (swp d a pivot) = R := ⟨_, rfl⟩
 rw [hR]
 obtain ⟨b1, hb1⟩ : ∃ b1 : Nat, b - 1 = b1 := ⟨_, rfl⟩
 have hbi : (b : Int) - 1 = (b1 : Int) := by omega
 have hb1n : b1 < n := by omega
 have hab1 : a ≤ b1 := by omega
 have hpn : pivot < n := by omega
 rw [hb1] at hR
 obtain ⟨G, hG⟩ := names_of d
 have hcw := hs.cells G hG
 have hfw := hs.frz
 obtain ⟨v', hy'⟩ := cell?_setCell_some (w := w) (p := ⟨g, off + a, none⟩) (x := .int .u32 (G pivot)) (q := ⟨g, off + pivot, none⟩) (hcw pivot hpn)
 have hs2 := (hs.swap (i := a) (j := pivot) (by omega) (by omega) (hG _) (hG _)).drew
 have HS := Lib.hid hs2
 have HE := Lib.hid hR
 clear hG hs hs2 hb1 hR
 generalize swp d a pivot = dk at *
 go_enter Tryz.func138, Tryz.ntmps138
 go_wp2
 go_region
 go_upto_region 2 with fail
 go_cut [10, 11] from 30 to 167 (fun s10 s11 wc => s10 = .int .i64 ((a + 1 : Nat) : Int) ∧ s11 = .int .i64 (b1 : Int) ∧ SW g off n w0 dk wc)
 case first =>
  go_wp2_with fail
  go_meet
  case rel => exact ⟨by go_num, by first | rfl | (rw [hbi]), HS.out⟩
 case rest =>
 obtain ⟨rfl, rfl, hs⟩ := hcut
 clear hcw hfw hy' v' HS hbi hap hpb hpn hb
 obtain ⟨G, hG⟩ := names_of dk
 have HG := Lib.hid hG
 have HK := Lib.hid hs
 clear hG hs
 obtain ⟨i, hi⟩ : ∃ i, a + 1 = i := ⟨_, rfl⟩
 obtain ⟨j, hj⟩ : ∃ j, b1 = j := ⟨_, rfl⟩
 have hai : a < i := by omega
 have hij : i ≤ j + 1 := by omega
 have hjb : j ≤ b1 := by omega
 rw [hi, hj] at HE
 rw [hi, hj]
 clear hi hj
 go_step
 go_step
 --up pt 10 30 167 i HK
 go_cut [10] from 30 to 167 (fun s9 wc => ∃ i2 : Nat, s9 = .int .i64 i2 ∧ i ≤ i2 ∧ i2 ≤ j + 1 ∧ Hid (i2 = scanUp (fun x => ltInt x dk[a]!) dk j i) ∧ SW g off n w0 dk wc)
 case first =>
  go_step
  go_loopg [10] (j + 1 - i) (fun k s9 w1 => ∃ i2 : Nat, s9 = .int .i64 i2 ∧ i ≤ i2 ∧ i2 ≤ j + 1 ∧ j + 1 - i2 ≤ k ∧ Hid (scanUp (fun x => ltInt x dk[a]!) dk j i2 = scanUp (fun x => ltInt x dk[a]!) dk j i) ∧ SW g off n w0 dk w1)
  case atStart => exact ⟨i, by first | rfl | go_num, Nat.le_refl _, by omega, Nat.le_refl _, Lib.hid rfl, HK.out⟩
  case round =>
   obtain ⟨i2, rfl, h1, h2, h3, HP, hs⟩ := hrel
   have hcw := hs.cells G HG.out
   have HJ := Lib.hid hs
   clear hs HK
   by_cases hle : i2 ≤ j
   ·go_wp2_with fail
    go_quiet (first | (go_at_call 136; refine Calls.quiet_of_same (less32 _ _ _)))
    go_wp2_with fail
    ·have ht : ltInt (G i2) (G a) = true := by assumption
     go_roundg (j + 1 - (i2 + 1))
     case measure => omega
     case rel => exact ⟨i2 + 1, by go_num, by omega, by omega, Nat.le_refl _, Lib.hid (by rw [← HP.out]; exact (up_go (fun x => ltInt x dk[a]!) dk j i2 hle (by show (ltInt dk[i2]! dk[a]!) = true; rw [← HG.out, ← HG.out]; exact ht)).symm), HJ.out.drewN nq⟩
    ·have ht : ltInt (G i2) (G a) = false := by assumption
     go_meet
     case rel => exact ⟨i2, rfl, h1, h2, Lib.hid (by rw [← HP.out]; exact (up_end (fun x => ltInt x dk[a]!) dk j i2 (.inr (by show (ltInt dk[i2]! dk[a]!) = false; rw [← HG.out, ← HG.out]; exact ht))).symm), HJ.out.drewN nq⟩
   ·have hled : decide (i2 ≤ j) = false := by simpa using hle
    go_wp2_with fail
    go_quiet (first | (go_at_call 136; refine Calls.quiet_of_same (less32 _ _ _)))
    go_wp2_with fail
    go_meet
    case rel => exact ⟨i2, rfl, h1, h2, Lib.hid (by rw [← HP.out]; exact (up_end (fun x => ltInt x dk[a]!) dk j i2 (.inl hle)).symm), HJ.out.drewN nq⟩
 case rest =>
 obtain ⟨i2, rfl, hu1, hu2, HI, hs⟩ := hcut
 have HU := Lib.hid hs
 clear hs HK
 --end
 --down pt 11 30 167 HU
 go_step
 go_step
 go_cut [11] from 30 to 167 (fun s10 wc => ∃ j2 : Nat, s10 = .int .i64 j2 ∧ j2 ≤ j ∧ i2 ≤ j2 + 1 ∧ Hid (j2 = scanDown (fun x => !ltInt x dk[a]!) dk i2 j) ∧ SW g off n w0 dk wc)
 case first =>
  go_step
  go_loopg [11] j (fun k s10 w1 => ∃ j2 : Nat, s10 = .int .i64 j2 ∧ j2 ≤ j ∧ i2 ≤ j2 + 1 ∧ j2 ≤ k ∧ Hid (scanDown (fun x => !ltInt x dk[a]!) dk i2 j2 = scanDown (fun x => !ltInt x dk[a]!) dk i2 j) ∧ SW g off n w0 dk w1)
  case atStart => exact ⟨j, by first | rfl | go_num, Nat.le_refl _, hu2, Nat.le_refl _, Lib.hid rfl, HU.out⟩
  case round =>
   obtain ⟨j2, rfl, h1, h2, h3, HP, hs⟩ := hrel
   have hcw := hs.cells G HG.out
   have HJ := Lib.hid hs
   clear hs HU
   by_cases hle : i2 ≤ j2
   ·go_wp2_with fail
    go_quiet (first | (go_at_call 136; refine Calls.quiet_of_same (less32 _ _ _)))
    go_wp2_with fail
    ·have ht : (!ltInt (G j2) (G a)) = true := by assumption
     go_roundg (j2 - 1)
     case measure => omega
     case rel => exact ⟨j2 - 1, by go_num, by omega, by omega, Nat.le_refl _, Lib.hid (by rw [← HP.out]; exact (down_go (fun x => !ltInt x dk[a]!) dk i2 j2 hle (by omega) (by show (!ltInt dk[j2]! dk[a]!) = true; rw [← HG.out, ← HG.out]; exact ht)).symm), HJ.out.drewN nq⟩
    ·have ht : (!ltInt (G j2) (G a)) = false := by assumption
     go_meet
     case rel => exact ⟨j2, rfl, h1, h2, Lib.hid (by rw [← HP.out]; exact (down_end (fun x => !ltInt x dk[a]!) dk i2 j2 (.inr (by show (!ltInt dk[j2]! dk[a]!) = false; rw [← HG.out, ← HG.out]; exact ht))).symm), HJ.out.drewN nq⟩
   ·have hled : decide (i2 ≤ j2) = false := by simpa using hle
    go_wp2_with fail
    go_quiet (first | (go_at_call 136; refine Calls.quiet_of_same (less32 _ _ _)))
    go_wp2_with fail
    go_meet
    case rel => exact ⟨j2, rfl, h1, h2, Lib.hid (by rw [← HP.out]; exact (down_end (fun x => !ltInt x dk[a]!) dk i2 j2 (.inl hle)).symm), HJ.out.drewN nq⟩
 case rest =>
 obtain ⟨j2, rfl, hd1, hd2, HJ2, hs⟩ := hcut
 have HD := Lib.hid hs
 have hcw := hs.cells G HG.out
 have hfw := hs.frz
 clear hs HU
 --end
 have HPQ : ∀ x, (fun x => !ltInt x dk[a]!) x = !(fun x => ltInt x dk[a]!) x := by intro x; rfl
 by_cases hgt : j2 < i2
 ·have HX : Hid (R = (j2, dk)) := Lib.hid (by rw [← HE.out, partLoop_eq, ← HI.out, ← HJ2.out, if_pos hgt])
  clear HPQ
  obtain ⟨v', hy'⟩ := cell?_setCell_some (w := wc) (p := ⟨g, off + j2, none⟩) (x := .int .u32 (G a)) (q := ⟨g, off + a, none⟩) (hcw a (by omega))
  go_wp2
  go_region
  all_goals go_wp2
  go_returns
  rw [HX.out]
  exact ⟨_, rfl, (HD.out.swap (i := j2) (j := a) (by omega) (by omega) (HG.out _) (HG.out _)).drew⟩
 ·have hlt := scans_part _ _ HPQ i j dk (by omega) HI.out HJ2.out (by omega)
  have HX : Hid (partLoop ltInt a (i2 + 1) (j2 - 1) (swp dk i2 j2) = R) := Lib.hid (by rw [← HE.out, partLoop_eq ltInt a i j dk, ← HI.out, ← HJ2.out, if_neg (by omega)])
  clear HPQ
  go_wp2
  go_region
  have hs2 := (HD.out.swap (i := i2) (j := j2) (by omega) (by omega) (HG.out _) (HG.out _)).drew
  have HS2 := Lib.hid hs2
  clear hs2 hcw hfw HD HI HJ2 HE HG
  go_wp2
  go_loopg [10, 11] (j - i) (fun k s9 s10 wr => ∃ (i j : Nat) (dk : Array Int), s9 = .int .i64 i ∧ s10 = .int .i64 j ∧ a < i ∧ i ≤ j + 1 ∧ j ≤ b1 ∧ j + 1 - i < k ∧ SW g off n w0 dk wr ∧ Hid (partLoop ltInt a i j dk = R))
  case atStart => exact ⟨i2 + 1, j2 - 1, _, by go_num, by go_num, by omega, by omega, by omega, by omega, HS2.out, HX⟩
  case round =>
   clear HS2 HX hlt hgt hd1 hd2 hu1 hu2 hjb hij hai
   obtain ⟨i, j, dk, rfl, rfl, hai, hij, hjb, hk, hs, HE⟩ := hrel
   obtain ⟨G, hG⟩ := names_of dk
   have HG := Lib.hid hG
   have HK := Lib.hid hs
   clear hG hs
   go_step
   go_step
   --up pt 10 99 152 i HK
   go_cut [10] from 99 to 152 (fun s9 wc => ∃ i2 : Nat, s9 = .int .i64 i2 ∧ i ≤ i2 ∧ i2 ≤ j + 1 ∧ Hid (i2 = scanUp (fun x => ltInt x dk[a]!) dk j i) ∧ SW g off n w0 dk wc)
   case first =>
    go_step
    go_loopg [10] (j + 1 - i) (fun k s9 w1 => ∃ i2 : Nat, s9 = .int .i64 i2 ∧ i ≤ i2 ∧ i2 ≤ j + 1 ∧ j + 1 - i2 ≤ k ∧ Hid (scanUp (fun x => ltInt x dk[a]!) dk j i2 = scanUp (fun x => ltInt x dk[a]!) dk j i) ∧ SW g off n w0 dk w1)
    case atStart => exact ⟨i, by first | rfl | go_num, Nat.le_refl _, by omega, Nat.le_refl _, Lib.hid rfl, HK.out⟩
    case round =>
     obtain ⟨i2, rfl, h1, h2, h3, HP, hs⟩ := hrel
     have hcw := hs.cells G HG.out
     have HJ := Lib.hid hs
     clear hs HK
     by_cases hle : i2 ≤ j
     ·go_wp2_with fail
      go_quiet (first | (go_at_call 136; refine Calls.quiet_of_same (less32 _ _ _)))
      go_wp2_with fail
      ·have ht : ltInt (G i2) (G a) = true := by assumption
       go_roundg (j + 1 - (i2 + 1))
       case measure => omega
       case rel => exact ⟨i2 + 1, by go_num, by omega, by omega, Nat.le_refl _, Lib.hid (by rw [← HP.out]; exact (up_go (fun x => ltInt x dk[a]!) dk j i2 hle (by show (ltInt dk[i2]! dk[a]!) = true; rw [← HG.out, ← HG.out]; exact ht)).symm), HJ.out.drewN nq⟩
      ·have ht : ltInt (G i2) (G a) = false := by assumption
       go_meet
       case rel => exact ⟨i2, rfl, h1, h2, Lib.hid (by rw [← HP.out]; exact (up_end (fun x => ltInt x dk[a]!) dk j i2 (.inr (by show (ltInt dk[i2]! dk[a]!) = false; rw [← HG.out, ← HG.out]; exact ht))).symm), HJ.out.drewN nq⟩
     ·have hled : decide (i2 ≤ j) = false := by simpa using hle
      go_wp2_with fail
      go_quiet (first | (go_at_call 136; refine Calls.quiet_of_same (less32 _ _ _)))
      go_wp2_with fail
      go_meet
      case rel => exact ⟨i2, rfl, h1, h2, Lib.hid (by rw [← HP.out]; exact (up_end (fun x => ltInt x dk[a]!) dk j i2 (.inl hle)).symm), HJ.out.drewN nq⟩
   case rest =>
   obtain ⟨i2, rfl, hu1, hu2, HI, hs⟩ := hcut
   have HU := Lib.hid hs
   clear hs HK
   --end
   --down pt 11 99 152 HU
   go_step
   go_step
   go_cut [11] from 99 to 152 (fun s10 wc => ∃ j2 : Nat, s10 = .int .i64 j2 ∧ j2 ≤ j ∧ i2 ≤ j2 + 1 ∧ Hid (j2 = scanDown (fun x => !ltInt x dk[a]!) dk i2 j) ∧ SW g off n w0 dk wc)
   case first =>
    go_step
    go_loopg [11] j (fun k s10 w1 => ∃ j2 : Nat, s10 = .int .i64 j2 ∧ j2 ≤ j ∧ i2 ≤ j2 + 1 ∧ j2 ≤ k ∧ Hid (scanDown (fun x => !ltInt x dk[a]!) dk i2 j2 = scanDown (fun x => !ltInt x dk[a]!) dk i2 j) ∧ SW g off n w0 dk w1)
    case atStart => exact ⟨j, by first | rfl | go_num, Nat.le_refl _, hu2, Nat.le_refl _, Lib.hid rfl, HU.out⟩
    case round =>
     obtain ⟨j2, rfl, h1, h2, h3, HP, hs⟩ := hrel
     have hcw := hs.cells G HG.out
     have HJ := Lib.hid hs
     clear hs HU
     by_cases hle : i2 ≤ j2
     ·go_wp2_with fail
      go_quiet (first | (go_at_call 136; refine Calls.quiet_of_same (less32 _ _ _)))
      go_wp2_with fail
      ·have ht : (!ltInt (G j2) (G a)) = true := by assumption
       go_roundg (j2 - 1)
       case measure => omega
       case rel => exact ⟨j2 - 1, by go_num, by omega, by omega, Nat.le_refl _, Lib.hid (by rw [← HP.out]; exact (down_go (fun x => !ltInt x dk[a]!) dk i2 j2 hle (by omega) (by show (!ltInt dk[j2]! dk[a]!) = true; rw [← HG.out, ← HG.out]; exact ht)).symm), HJ.out.drewN nq⟩
      ·have ht : (!ltInt (G j2) (G a)) = false := by assumption
       go_meet
       case rel => exact ⟨j2, rfl, h1, h2, Lib.hid (by rw [← HP.out]; exact (down_end (fun x => !ltInt x dk[a]!) dk i2 j2 (.inr (by show (!ltInt dk[j2]! dk[a]!) = false; rw [← HG.out, ← HG.out]; exact ht))).symm), HJ.out.drewN nq⟩
     ·have hled : decide (i2 ≤ j2) = false := by simpa using hle
      go_wp2_with fail
      go_quiet (first | (go_at_call 136; refine Calls.quiet_of_same (less32 _ _ _)))
      go_wp2_with fail
      go_meet
      case rel => exact ⟨j2, rfl, h1, h2, Lib.hid (by rw [← HP.out]; exact (down_end (fun x => !ltInt x dk[a]!) dk i2 j2 (.inl hle)).symm), HJ.out.drewN nq⟩
   case rest =>
   obtain ⟨j2, rfl, hd1, hd2, HJ2, hs⟩ := hcut
   have HD := Lib.hid hs
   have hcw := hs.cells G HG.out
   have hfw := hs.frz
   clear hs HU
   --end
   have HPQ : ∀ x, (fun x => !ltInt x dk[a]!) x = !(fun x => ltInt x dk[a]!) x := by intro x; rfl
   by_cases hgt : j2 < i2
   ·have HX : Hid (R = (j2, dk)) := Lib.hid (by rw [← HE.out, partLoop_eq, ← HI.out, ← HJ2.out, if_pos hgt])
    clear HPQ
    obtain ⟨v', hy'⟩ := cell?_setCell_some (w := wc) (p := ⟨g, off + j2, none⟩) (x := .int .u32 (G a)) (q := ⟨g, off + a, none⟩) (hcw a (by omega))
    go_wp2
    go_region
    all_goals go_wp2
    go_returns
    rw [HX.out]
    exact ⟨_, rfl, (HD.out.swap (i := j2) (j := a) (by omega) (by omega) (HG.out _) (HG.out _)).drew⟩
   ·have hlt := scans_part _ _ HPQ i j dk (by omega) HI.out HJ2.out (by omega)
    have HX : Hid (partLoop ltInt a (i2 + 1) (j2 - 1) (swp dk i2 j2) = R) := Lib.hid (by rw [← HE.out, partLoop_eq ltInt a i j dk, ← HI.out, ← HJ2.out, if_neg (by omega)])
    clear HPQ
    go_wp2
    go_region
    all_goals go_wp2
    all_goals go_roundg (j - i)
    case measure => omega
    case rel => exact ⟨i2 + 1, j2 - 1, swp dk i2 j2, by go_num, by go_num, by omega, by omega, by omega, by omega, (HD.out.swap (by omega) (by omega) (HG.out _) (HG.out _)).drew, HX⟩
end Go.Proofs.YtclekllaikcglaaGreat

/- math/bits.Len at small numbers, and the sort's random numbers. -/
namespace Go.Proofs.YtclekllaikcglaaGreat
open Go Go.RowKit
set_option maxRecDepth 1000000 in
theorem len64 (x : Nat) (hx : x < 256) (w : World) : Calls Tryz.prog 140 #[.int .u64 (x : Int)] w fun e w' => e = .returned (.int .i64 ((Sort.bitsLen x : Nat) : Int)) ∧ w = w' := by
 have h1 : ¬ (4294967296 : Int) ≤ (x : Int) := by omega
 have h2 : ¬ (65536 : Int) ≤ (x : Int) := by omega
 have h3 : ¬ (256 : Int) ≤ (x : Int) := by omega
 have hw : IntKind.u8.wrap (x : Int) = (x : Int) := by rw [IntKind.wrap_u8]; omega
 go_enter Tryz.func140, Tryz.ntmps140
 go_wp2_with fail
 go_returns
 refine ⟨congrArg (fun n : Nat => Ending.returned (.int .i64 (n : Int))) ?_, rfl⟩
 clear hw h1 h2
 revert x
 decide +kernel
theorem lenU (x : Nat) (hx : x < 256) (w : World) : Calls Tryz.prog 118 #[.int .u64 (x : Int)] w fun e w' => e = .returned (.int .i64 ((Sort.bitsLen x : Nat) : Int)) ∧ w = w' := by
 have G := Lib.hid (len64 x hx w)
 go_enter Tryz.func118, Tryz.ntmps118
 go_wp2_with (go_at_call 140; (with_reducible refine G.out.mono ?_); rintro e w1 ⟨rfl, rfl⟩)
 go_returns
 exact ⟨rfl, rfl⟩
theorem pow32 (x : Nat) (h1 : 1 ≤ x) (hx : x < 256) (w : World) : Calls Tryz.prog 153 #[.int .i64 (x : Int)] w fun e w' => e = .returned (.int .u64 ((2 ^ Sort.bitsLen x : Nat) : Int)) ∧ w = w' := by
 have G := Lib.hid (lenU x hx w)
 have hw : IntKind.u64.wrap (x : Int) = (x : Int) := by rw [IntKind.wrap_u64]; omega
 have hp := Sort.two_pow_bitsLen_le (n := x) (by omega)
 obtain ⟨l, hl⟩ : ∃ l, Sort.bitsLen x = l := ⟨_, rfl⟩
 have hl9 : l ≤ 8 := by
  rcases Nat.lt_or_ge 8 l with h | h
  ·have := Nat.pow_le_pow_right (n := 2) (by omega) h
   rw [hl] at hp
   omega
  ·exact h
 rw [hl] at G ⊢
 have hb : 2 ^ l ≤ 256 := Nat.pow_le_pow_right (n := 2) (by omega) hl9
 have hwp : IntKind.u64.wrap ((2 : Int) ^ l) = ((2 ^ l : Nat) : Int) := by
  have h2 : (2 : Int) ^ l = ((2 ^ l : Nat) : Int) := by simp
  rw [h2, IntKind.wrap_u64]
  clear h2 hp
  generalize 2 ^ l = z at *
  omega
 generalize 2 ^ l = z at *
 clear hp hl hb
 go_enter Tryz.func153, Tryz.ntmps153
 go_wp2_with (go_at_call 118; (with_reducible refine G.out.mono ?_); rintro e w1 ⟨rfl, rfl⟩)
 go_returns
 exact ⟨rfl, rfl⟩
theorem bits64 (op : BinOp) (x y : Int) : ∃ m : Nat, bits op .u64 x y = (m : Int) ∧ m < 18446744073709551616 := by
 have := wf_bits op .u64 x y
 simp only [Lit.wf, IntKind.min, IntKind.max, IntKind.signed, IntKind.bits] at this
 simp at this
 exact ⟨(bits op .u64 x y).toNat, by omega, by omega⟩
theorem step_rnd {w0 w : World} {rb v : Nat} (m : Nat) (hx : But [rb] w0 w) (hc : w.heap[rb]? = some (.cells #[.int .u64 v] 201)) :
  But [rb] w0 (w.setCell ⟨rb, 0, none⟩ (.int .u64 (m : Int))).drew ∧ (w.setCell ⟨rb, 0, none⟩ (.int .u64 (m : Int))).drew.heap[rb]? = some (.cells #[.int .u64 m] 201) :=
 ⟨(hx.setCell (.inl (by simp)) _).drew, by rw [heap_drew, heap_setCell_same (i := 0) _ hc]; rfl⟩
def NX (w0 : World) (rb : Nat) (e : Ending) (w' : World) : Prop := ∃ v : Nat, e = .returned (.int .u64 v) ∧ v < 18446744073709551616 ∧ But [rb] w0 w' ∧ w'.heap[rb]? = some (.cells #[.int .u64 v] 201)
set_option maxRecDepth 1000000 in
theorem next32 (rb v : Nat) (w : World) (hc : w.heap[rb]? = some (.cells #[.int .u64 v] 201)) :
  Calls Tryz.prog 154 #[.pointer (some ⟨rb, 0, none⟩)] w (NX w rb) := by
 have c1 := cell_blk (i := 0) hc rfl
 have f1 : w.frozen? ⟨rb, 0, none⟩ = false := frozen_blk hc
 have HX := Lib.hid (But.refl [rb] w)
 have HC := Lib.hid hc
 clear hc
 go_enter Tryz.func154, Tryz.ntmps154
 go_wp2
 go_region
 obtain ⟨v1, hv1, hl1⟩ := bits64 .xor (v : Int) (IntKind.u64.wrap ((v : Int) * 8192))
 rw [hv1]
 obtain ⟨hx, hc⟩ := step_rnd v1 HX.out HC.out
 clear hv1 HX HC c1 f1
 generalize (w.setCell ⟨rb, 0, none⟩ (.int .u64 (v1 : Int))).drew = w1 at *
 have c1 := cell_blk (i := 0) hc rfl
 have f1 : w1.frozen? ⟨rb, 0, none⟩ = false := frozen_blk hc
 have HX := Lib.hid hx
 have HC := Lib.hid hc
 clear hx hc
 go_wp2
 go_region
 obtain ⟨v2, hv2, hl2⟩ := bits64 .xor (v1 : Int) ((v1 : Int) / 128)
 rw [hv2]
 obtain ⟨hx, hc⟩ := step_rnd v2 HX.out HC.out
 clear hv2 HX HC c1 f1
 generalize (w1.setCell ⟨rb, 0, none⟩ (.int .u64 (v2 : Int))).drew = w2 at *
 have c1 := cell_blk (i := 0) hc rfl
 have f1 : w2.frozen? ⟨rb, 0, none⟩ = false := frozen_blk hc
 have HX := Lib.hid hx
 have HC := Lib.hid hc
 clear hx hc
 go_wp2
 go_region
 obtain ⟨v3, hv3, hl3⟩ := bits64 .xor (v2 : Int) (IntKind.u64.wrap ((v2 : Int) * 131072))
 rw [hv3]
 obtain ⟨hx, hc⟩ := step_rnd v3 HX.out HC.out
 clear hv3 HX HC c1 f1
 generalize (w2.setCell ⟨rb, 0, none⟩ (.int .u64 (v3 : Int))).drew = w3 at *
 have c1 := cell_blk (i := 0) hc rfl
 have HX := Lib.hid hx
 have HC := Lib.hid hc
 clear hx hc
 go_wp2
 go_returns
 exact ⟨v3, rfl, hl3, HX.out, HC.out⟩
end Go.Proofs.YtclekllaikcglaaGreat
