/- Maps keyed by integers, in whatever block: laws at the operations. -/
import Derived.Test.YtclekllaikcglaaGreatBase
import Derived.Maps.RangeRun
import Derived.Maps.RangeWalk
import Derived.Maps.OwnSet
import Derived.Carry
namespace Go.Proofs.YtclekllaikcglaaGreat
open Go Go.RowKit
open Go.ChangeMaps (setBlock)

/-- w' is w but for the blocks of S, and what is new. -/
structure But (S : List Nat) (w w' : World) : Prop where
  os : w'.os = w.os
  tape : w'.tape = w.tape
  output : w'.output = w.output
  size : w.heap.size ≤ w'.heap.size
  block : ∀ k, k < w.heap.size → k ∉ S → w'.heap[k]? = w.heap[k]?
theorem But.refl (S : List Nat) (w : World) : But S w w := ⟨rfl, rfl, rfl, Nat.le_refl _, fun _ _ _ => rfl⟩
theorem But.trans {S : List Nat} {a b c : World} (h : But S a b) (k : But S b c) : But S a c :=
  ⟨k.os.trans h.os, k.tape.trans h.tape, k.output.trans h.output, Nat.le_trans h.size k.size, fun i hi hs => (k.block i (Nat.lt_of_lt_of_le hi h.size) hs).trans (h.block i hi hs)⟩
theorem But.of_ext {S : List Nat} {a b : World} (h : Ext a b) : But S a b := ⟨h.os, h.tape, h.output, h.size, fun _ hi _ => h.block hi⟩
theorem But.mono {S S' : List Nat} {a b : World} (h : But S a b) (hs : ∀ x ∈ S, x ∈ S') : But S' a b := ⟨h.os, h.tape, h.output, h.size, fun k hk hn => h.block k hk fun hx => hn (hs k hx)⟩
theorem But.ext {S : List Nat} {a b c : World} (h : Ext a b) (k : But S b c) (hs : ∀ x ∈ S, a.heap.size ≤ x) : Ext a c :=
  ⟨k.os.trans h.os, k.tape.trans h.tape, k.output.trans h.output, Nat.le_trans h.size k.size, fun i hi => (k.block i (Nat.lt_of_lt_of_le hi h.size) fun hx => by have := hs i hx; omega).trans (h.block hi)⟩
theorem But.drew {S : List Nat} {a b : World} (h : But S a b) : But S a b.drew := h.trans (But.of_ext (Ext.refl b).drew)
theorem But.drewN {S : List Nat} {a b : World} (h : But S a b) (n : Nat) : But S a (b.drewN n) := h.trans (But.of_ext ((Ext.refl b).drewN n))
theorem But.alloc {S : List Nat} {a b : World} (h : But S a b) (o : Obj) : But S a (b.alloc o) := h.trans (But.of_ext ((Ext.refl b).alloc o))
theorem But.setCell {S : List Nat} {a b : World} (h : But S a b) {p : Addr} (hp : p.block ∈ S ∨ a.heap.size ≤ p.block) (u : Value) : But S a (b.setCell p u) := by
  refine ⟨h.os, h.tape, h.output, ?_, fun k hk hn => ?_⟩
  · simp [World.setCell]; exact h.size
  · rw [Below.heap_setCell _ _ _ _ (fun e => by subst e; rcases hp with hp | hp; exact hn hp; omega)]
    exact h.block k hk hn
theorem But.keep {S : List Nat} {a b : World} (h : But S a b) {k : Nat} {o : Obj} (hk : a.heap[k]? = some o) (hs : k ∉ S) : b.heap[k]? = some o := by
  rw [h.block k (blk_lt hk) hs]; exact hk
theorem heap_setB_same {w : World} {b : Nat} {x : Obj} (o : Obj) (h : w.heap[b]? = some x) : (setBlock w b o).heap[b]? = some o := by
  have := blk_lt h
  simp [setBlock, this]
theorem heap_setB_other (w : World) (b : Nat) (o : Obj) {k : Nat} (h : k ≠ b) : (setBlock w b o).heap[k]? = w.heap[k]? := by
  simp only [setBlock]
  rw [Array.getElem?_setIfInBounds_ne (by omega)]
theorem But.setB {S : List Nat} {a b : World} (h : But S a b) {r : Nat} (hr : r ∈ S ∨ a.heap.size ≤ r) (o : Obj) : But S a (setBlock b r o) := by
  refine ⟨h.os, h.tape, h.output, ?_, fun k hk hn => ?_⟩
  · simp [setBlock]; exact h.size
  · rw [heap_setB_other _ _ _ (fun e => by subst e; rcases hr with hr | hr; exact hn hr; omega)]
    exact h.block k hk hn
theorem Row.but {S : List Nat} {w w' : World} {B : Nat} {e : TypeId} {v : Value} {xs : List Value} (h : Row w B e v xs) (hb : But S w w') (hS : ∀ k, v.ownBlock = some k → k ∉ S) : Row w' B e v xs := by
  obtain ⟨h1, h2⟩ := h
  refine ⟨h1, ?_⟩
  rcases h2 with h2 | ⟨g, cap, cur, hv, hg, hh, r⟩
  · exact Or.inl h2
  · exact Or.inr ⟨g, cap, cur, hv, hg, by rw [hb.block g (blk_lt hh) (hS g (by subst hv; rfl))]; exact hh, r⟩

theorem nodup_of_map {α β : Type} {f : α → β} : ∀ {l : List α}, (l.map f).Nodup → l.Nodup
  | [], _ => List.nodup_nil
  | x :: l, h => by
    rw [List.map_cons, List.nodup_cons] at h
    exact List.nodup_cons.2 ⟨fun hx => h.1 (List.mem_map_of_mem hx), nodup_of_map h.2⟩
theorem nodup_map_inj {α β : Type} (f : α → β) : ∀ (l : List α), (l.map f).Nodup → ∀ x ∈ l, ∀ y ∈ l, f x = f y → x = y
  | [], _, x, hx, _, _, _ => by cases hx
  | z :: l, h, x, hx, y, hy, e => by
    rw [List.map_cons, List.nodup_cons] at h
    rcases List.mem_cons.1 hx with hx1 | hx1 <;> rcases List.mem_cons.1 hy with hy1 | hy1
    · rw [hx1, hy1]
    · subst hx1; exact absurd (e ▸ List.mem_map_of_mem (f := f) hy1) h.1
    · subst hy1; exact absurd (e ▸ List.mem_map_of_mem (f := f) hx1) h.1
    · exact nodup_map_inj f l h.2 x hx1 y hy1 e
/-! ### Entries -/
abbrev Ents := List (Int × Value × Nat)
def ent (q : IntKind) (e : Int × Value × Nat) : MapEntry := { key := .int q e.1, val := e.2.1, born := e.2.2 }
def mobj (q : IntKind) (L : Ents) (clk : Nat) : Obj := .map (L.map (ent q)).toArray clk
/-- What lies at a key. -/
def lookM (L : Ents) (k : Int) : Option Value := (L.find? (fun e => k == e.1)).map (·.2.1)
theorem lookM_none {L : Ents} {k : Int} : lookM L k = none ↔ ∀ e ∈ L, e.1 ≠ k := by
  simp only [lookM, Option.map_eq_none_iff, List.find?_eq_none]
  constructor
  · intro h e he hk; exact h e he (by simp [hk])
  · intro h e he hk; exact h e he (by simpa using (beq_iff_eq.1 hk).symm)
theorem findNow_ints (q : IntKind) (k : Int) : ∀ (L : Ents) (i : Nat), ∃ r, Instr.findNow (.int q) (.int q k) (L.map (ent q)) i = some r ∧ r.map (·.2) = lookM L k ∧ (∀ j v, r = some (j, v) → i ≤ j ∧ j < i + L.length)
  | [], i => ⟨none, rfl, rfl, fun _ _ h => by cases h⟩
  | e :: L, i => by
    by_cases h : k = e.1
    · refine ⟨some (i, e.2.1), ?_, ?_, ?_⟩
      · simp [Instr.findNow, Instr.sameNow, ent, h]
      · simp [lookM, h]
      · intro j v hj; cases hj; simp
    · obtain ⟨r, h1, h2, h3⟩ := findNow_ints q k L (i + 1)
      refine ⟨r, ?_, ?_, fun j v hj => ?_⟩
      · have hk : (k == e.1) = false := by simpa using h
        simp only [List.map_cons, Instr.findNow, Instr.sameNow, ent, if_true, hk]
        exact h1
      · have hk : (k == e.1) = false := by simpa using h
        rw [h2]; simp [lookM, hk]
      · have := h3 j v hj; simp only [List.length_cons]; omega

section
variable {P : Program} {w : World} {T kt et : TypeId} {q : IntKind} {b : Nat} {L : Ents} {clk : Nat}
theorem run_checkKey_int (hk : P.underlying kt = some (.int q)) (empty : Bool) (n : Nat) (i : Int) : (Instr.checkKey empty (n + 1) kt (.int q i)).run P w = .ok () w := by
  simp [Instr.checkKey, run_underlying hk]
theorem run_findKey_int (hk : P.underlying kt = some (.int q)) (i : Int) : ∃ r, (Instr.findKey kt (.int q i) (L.map (ent q))).run P w = .ok r w ∧ r.map (·.2) = lookM L i ∧ (∀ j v, r = some (j, v) → j < L.length) := by
  obtain ⟨r, h1, h2, h3⟩ := findNow_ints q i L 0
  exact ⟨r, by simp [Instr.findKey, run_underlying hk, h1], h2, fun j v h => by have := h3 j v h; omega⟩
theorem run_lookM (hT : P.underlying T = some (.map kt et)) (hk : P.underlying kt = some (.int q)) (hb : w.heap[b]? = some (mobj q L clk)) (i : Int) {z : Value} (hz : (zeroValue et).run P w = .ok z w) :
    (Instr.lookup T (.map (some b)) (.int q i) true).run P w = .ok (.tuple #[(lookM L i).getD z, .bool (lookM L i).isSome]) w := by
  obtain ⟨r, h1, h2, -⟩ := run_findKey_int (P := P) (w := w) (L := L) hk i
  unfold mobj at hb
  have hg := MapKept.run_getObj_map (P := P) hb
  cases r with
  | none => simp [← h2, Instr.lookup, run_underlying hT, hg, run_checkKey_int hk, h1, hz]
  | some p => obtain ⟨j, v⟩ := p; simp [← h2, Instr.lookup, run_underlying hT, hg, run_checkKey_int hk, h1]
theorem run_putM (hT : P.underlying T = some (.map kt et)) (hk : P.underlying kt = some (.int q)) (hb : w.heap[b]? = some (mobj q L clk)) (i : Int) (v : Value) (hn : lookM L i = none) :
    (Instr.mapUpdate T (.map (some b)) (.int q i) v).run P w = .ok () (setBlock w b (mobj q (L ++ [(i, v, clk)]) (clk + 1))) := by
  obtain ⟨r, h1, h2, -⟩ := run_findKey_int (P := P) (w := w) (L := L) hk i
  have hb' := hb
  unfold mobj at hb
  have hg := MapKept.run_getObj_map (P := P) hb
  cases r with
  | some p => simp [hn] at h2
  | none =>
    have hs : ∀ o : Obj, (setObj b o).run P w = .ok () (setBlock w b o) := by
      intro o
      simp [setObj, Sem.run, hb, setBlock]
    simp [Instr.mapUpdate, run_underlying hT, hg, run_checkKey_int hk, h1, hs, mobj, ent]
end

/-! ### At the operations -/
section
variable {P : Program} {ops : Array Oper} {rest : List Oper} {o : Oper} {a : Act} {Q : Exit → Act → World → Prop} {w : World}
theorem wpl_look (hg : o.guard = none) (m x : Operand) (T : TypeId) (hop : o.op = Op.lookup T m x true) {kt et : TypeId} {q : IntKind} {z : Value} (hT : P.underlying T = some (.map kt et)) (hk : P.underlying kt = some (.int q))
    (hz : (zeroValue et).run P w = .ok z w) (b : Nat) (L : Ents) (clk : Nat) (hm : a.eval m = .map (some b)) (hb : w.heap[b]? = some (mobj q L clk)) (i : Int) (hx : a.eval x = .int q i) (r : Option Value) (hr : lookM L i = r)
    (h : wpList P ops Q rest (a.put o.dst (.tuple #[r.getD z, .bool r.isSome])) w) : wpList P ops Q (o :: rest) a w := by
  refine wpList_plain hg fun K' hK' => ?_
  subst hr
  unfold Oper.wp
  simp [execOp, hop, hm, hx, run_lookM hT hk hb i hz, Result.andThen]
  exact hK' _ _ h
theorem wpl_put (hg : o.guard = none) (m x y : Operand) (T : TypeId) (hop : o.op = Op.mapUpdate T m x y) {kt et : TypeId} {q : IntKind} (hT : P.underlying T = some (.map kt et)) (hk : P.underlying kt = some (.int q))
    (b : Nat) (L : Ents) (clk : Nat) (hm : a.eval m = .map (some b)) (hb : w.heap[b]? = some (mobj q L clk)) (i : Int) (hx : a.eval x = .int q i) (v : Value) (hy : a.eval y = v) (hr : lookM L i = none)
    (h : ∀ w', w' = setBlock w b (mobj q (L ++ [(i, v, clk)]) (clk + 1)) → wpList P ops Q rest (a.put o.dst undef) w') : wpList P ops Q (o :: rest) a w := by
  refine wpList_plain hg fun K' hK' => ?_
  unfold Oper.wp
  simp [execOp, hop, hm, hx, hy, run_putM hT hk hb i v hr, Result.andThen]
  exact hK' _ _ (h _ rfl)
theorem wpl_len (hg : o.guard = none) (x : Operand) (t : TypeId) (hop : o.op = Op.call { callee := .builtin .len, args := #[x], argTypes := #[t] }) {kt et : TypeId} {q : IntKind} (hT : P.underlying t = some (.map kt et))
    (b : Nat) (L : Ents) (clk : Nat) (hm : a.eval x = .map (some b)) (hb : w.heap[b]? = some (mobj q L clk)) (n : Int) (hn : (L.length : Int) = n)
    (h : wpList P ops Q rest (a.put o.dst (.int .i64 n)) w) : wpList P ops Q (o :: rest) a w := by
  refine wpList_plain hg fun K' hK' => ?_
  subst hn
  unfold mobj at hb
  have hg := MapKept.run_getObj_map (P := P) hb
  unfold Oper.wp
  simp [execOp, hop, resolve, invoke, builtin, Builtin.len_, hm, hg, run_underlying hT, Result.andThen, goInt]
  exact hK' _ _ h
theorem wpl_clear (hg : o.guard = none) (x : Operand) (t : TypeId) (hop : o.op = Op.call { callee := .builtin .clear, args := #[x], argTypes := #[t] }) {kt et : TypeId} {q : IntKind} (hT : P.underlying t = some (.map kt et))
    (b : Nat) (L : Ents) (clk : Nat) (hm : a.eval x = .map (some b)) (hb : w.heap[b]? = some (mobj q L clk))
    (h : ∀ w', w' = setBlock w b (mobj q [] clk) → wpList P ops Q rest (a.put o.dst (.tuple #[])) w') : wpList P ops Q (o :: rest) a w := by
  refine wpList_plain hg fun K' hK' => ?_
  unfold mobj at hb
  have hg := MapKept.run_getObj_map (P := P) hb
  have hs : ∀ o : Obj, (setObj b o).run P w = .ok () (setBlock w b o) := by
    intro o
    simp [setObj, Sem.run, hb, setBlock]
  unfold Oper.wp
  simp [execOp, hop, resolve, invoke, builtin, Builtin.clear_, hm, hg, hs, run_underlying hT, Result.andThen]
  exact hK' _ _ (h _ rfl)
/-- The iterator in block r over the map in block b: what it has handed out. -/
def iter (b clk : Nat) (done : Ents) : Obj := .mapIter (some b) clk (done.map (·.2.2)).toArray clk
theorem wpl_range (hg : o.guard = none) (m : Operand) (T : TypeId) (hop : o.op = Op.range T m) {kt et : TypeId} {q : IntKind} (hT : P.underlying T = some (.map kt et)) (b : Nat) (L : Ents) (clk : Nat) (hm : a.eval m = .map (some b)) (hb : w.heap[b]? = some (mobj q L clk))
    (h : wpList P ops Q rest (a.put o.dst (.pointer (some ⟨w.heap.size, 0, none⟩))) (w.alloc (iter b clk []))) : wpList P ops Q (o :: rest) a w := by
  refine wpList_plain hg fun K' hK' => ?_
  unfold Oper.wp
  simp [execOp, hop, hm, run_range_map w T kt et b _ clk hT hb, Result.andThen]
  exact hK' _ _ h
/-- The entries' births: no two alike, all older than the clock. -/
def Born (L : Ents) (clk : Nat) : Prop := (L.map (·.2.2)).Nodup ∧ ∀ e ∈ L, e.2.2 < clk
theorem Born.nil (clk : Nat) : Born [] clk := ⟨by simp, by simp⟩
theorem Born.snoc {L : Ents} {clk : Nat} (h : Born L clk) (i : Int) (v : Value) : Born (L ++ [(i, v, clk)]) (clk + 1) := by
  refine ⟨?_, ?_⟩
  · rw [List.map_append, List.nodup_append]
    refine ⟨h.1, by simp, ?_⟩
    intro x hx y hy
    obtain ⟨e, he, rfl⟩ := List.mem_map.1 hx
    have := h.2 e he
    simp at hy
    omega
  · intro e he
    rcases List.mem_append.1 he with he | he
    · have := h.2 e he; omega
    · simp at he; subst he; simp
theorem wpl_next (hg : o.guard = none) (it : Operand) (hop : o.op = Op.next it false) {q : IntKind} (r b : Nat) (L done : Ents) (clk : Nat) (hit : a.eval it = .pointer (some ⟨r, 0, none⟩))
    (hr : w.heap[r]? = some (iter b clk done)) (hb : w.heap[b]? = some (mobj q L clk)) (hL : Born L clk) (hd : (done.map (·.2.2)).Nodup) (hsub : ∀ e ∈ done, e ∈ L)
    (hEnd : done.Perm L → wpList P ops Q rest (a.put o.dst (.tuple #[.bool false])) w)
    (hMore : ∀ (e : Int × Value × Nat) (w' : World), e ∈ L → ((done ++ [e]).map (·.2.2)).Nodup → w'.heap[r]? = some (iter b clk (done ++ [e])) → But [r] w w' → w'.heap.size = w.heap.size → wpList P ops Q rest (a.put o.dst (.tuple #[.bool true, .int q e.1, e.2.1])) w') :
    wpList P ops Q (o :: rest) a w := by
  refine wpList_plain hg fun K' hK' => ?_
  have hinj : ∀ e ∈ L, ∀ e' ∈ L, e.2.2 = e'.2.2 → e = e' := by
    intro e he e' he' h
    exact nodup_map_inj (·.2.2) L hL.1 e he e' he' h
  have hmem : ∀ e ∈ L, e.2.2 ∈ done.map (·.2.2) ↔ e ∈ done := by
    intro e he
    constructor
    · intro h
      obtain ⟨e', h1, h2⟩ := List.mem_map.1 h
      rw [hinj e he e' (hsub e' h1) h2.symm]; exact h1
    · intro h; exact List.mem_map_of_mem h
  unfold Oper.wp
  rcases run_next_at (P := P) w o.type r b clk clk _ _ clk hr hb (by
      intro x hx
      simp at hx
      obtain ⟨i, v, n, h1, rfl⟩ := hx
      exact hL.2 _ h1) (Nat.le_refl _) with ⟨h0, hrun⟩ | ⟨x, hx, w1, hw1, hrun⟩
  · simp [execOp, hop, hit, hrun, Result.andThen]
    refine hK' _ _ (hEnd ?_)
    have hd' : done.Nodup := nodup_of_map hd
    have hl' : L.Nodup := nodup_of_map hL.1
    refine (List.perm_ext_iff_of_nodup hd' hl').2 fun e => ⟨hsub e, fun he => ?_⟩
    have h1 : leftOf (L.map (ent q)).toArray (done.map (·.2.2)).toArray = #[] := Array.eq_empty_of_size_eq_zero h0
    unfold leftOf at h1
    rw [Array.filter_eq_empty_iff] at h1
    have h2 := h1 (ent q e) (by simp; exact ⟨_, _, _, he, rfl⟩)
    simp only [ent, Bool.not_eq_true', Bool.not_eq_false, Array.contains_eq_mem, List.mem_toArray, decide_eq_true_eq] at h2
    exact (hmem e he).1 h2
  · unfold leftOf at hx
    simp only [Array.toList_filter, List.mem_filter, List.mem_map, Bool.not_eq_true', Array.contains_eq_mem, decide_eq_false_iff_not, List.mem_toArray] at hx
    obtain ⟨⟨e, he, rfl⟩, hn⟩ := hx
    simp [execOp, hop, hit, hrun, Result.andThen]
    have hw : But [r] w w1 := by rcases hw1 with rfl | rfl; exact But.refl _ _; exact (But.refl _ _).drew
    have hr1 : w1.heap[r]? = some (iter b clk done) := by rcases hw1 with rfl | rfl <;> exact hr
    refine hK' _ _ (hMore e _ he ?_ ?_ (hw.setB (Or.inl (by simp)) _) ?_)
    · rw [List.map_append, List.nodup_append]
      refine ⟨hd, by simp, ?_⟩
      intro y hy z hz hyz
      simp at hz
      subst hz; subst hyz
      obtain ⟨x, hx, hxe⟩ := List.mem_map.1 hy
      exact hn ⟨x, hx, hxe⟩
    · rw [heap_setB_same _ hr1]
      simp [iter, ent]
    · rcases hw1 with rfl | rfl <;> simp [setBlock]
theorem wpl_entry (hg : o.guard = none) (it : Operand) (hop : o.op = Op.entry it) {q : IntKind} (r b : Nat) (L done : Ents) (e : Int × Value × Nat) (clk : Nat) (hit : a.eval it = .pointer (some ⟨r, 0, none⟩))
    (hr : w.heap[r]? = some (iter b clk (done ++ [e]))) (hb : w.heap[b]? = some (mobj q L clk)) (hL : Born L clk) (he : e ∈ L)
    (h : wpList P ops Q rest (a.put o.dst (.tuple #[.int q e.1, e.2.1])) w) : wpList P ops Q (o :: rest) a w := by
  refine wpList_plain hg fun K' hK' => ?_
  have hrun := run_entry_at (P := P) w r b clk (done.map (·.2.2)).toArray (L.map (ent q)).toArray clk (ent q e) (by rw [hr]; simp [iter, ent]) hb (by simp; exact ⟨_, _, _, he, rfl⟩) (by
    have : ((L.map (ent q)).toArray.toList.map (·.born)) = L.map (·.2.2) := by simp [ent]
    rw [this]; exact hL.1)
  unfold Oper.wp
  simp [execOp, hop, hit, hrun, Result.andThen]
  exact hK' _ _ h
end
theorem run_lenM {P : Program} {w : World} {T kt et : TypeId} {q : IntKind} {b : Nat} {L : Ents} {clk : Nat} (hT : P.underlying T = some (.map kt et)) (hb : w.heap[b]? = some (mobj q L clk)) (n : Int) (hn : (L.length : Int) = n) (ty : TypeId) :
    (Builtin.len_ #[T] ty #[.map (some b)]).run P w = .ok (.int .i64 n) w := by
  subst hn
  unfold mobj at hb
  have hg := MapKept.run_getObj_map (P := P) hb
  simp [Builtin.len_, hg, run_underlying hT, goInt]
end Go.Proofs.YtclekllaikcglaaGreat
