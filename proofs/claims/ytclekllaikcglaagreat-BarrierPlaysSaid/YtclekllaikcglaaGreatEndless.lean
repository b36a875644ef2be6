import Derived.RangeFuncNested
import Derived.RangeFuncBound
import Derived.RangeFuncCalls
import Derived.RangeFuncLeaves
import Derived.Shelf.Abstract
import Derived.Shelf.RegionOpen
import Derived.OwnWalkIn
import Derived.TacticsInMore
import Derived.LoopNIn
import Derived.LoopIn
import Derived.Lib.AppendStr
import Derived.Test.YtclekllaikcglaaGreatBase

/- Ranges over an iterator of one's own that goes on until it is told to stop: the caller's invariant bounds the rounds; the iterator may write one cell that lay ahead. -/
namespace Go.Proofs.YtclekllaikcglaaGreat
open Go Go.RowKit Go.Shelf
def Streams (F : Fence) (n : Nat) (P : Program) (g : Nat) (lb : Array Value) (el : Nat → Value) (pc : Addr) (Kp : World → World → Prop) (N : Nat) (w : World) : Prop :=
 ∀ (l : Nat) (J Jx : Nat → World → Prop) (W : World), Ext w W → AbidesFrom W.heap.size J → (∀ k A v, J k A → J k (A.setCell pc v)) → (∀ k A, J k A → k < N) →
  (∀ k A, J k A → YieldAt F (n - 1) P l #[el k] A fun e B => (e = .returned (.bool true) ∧ J (k + 1) B ∧ Kp A B) ∨ (e = .returned (.bool false) ∧ Jx (k + 1) B)) →
  J 0 W → CallsIn F n P g (#[.func (.yield l) #[] #[]] ++ lb) W fun e B => (∃ v, e = .returned v) ∧ ∃ k, Jx (k + 1) B
def RoundEnds (Kp : World → World → Prop) (I Ix : Nat → World → Prop) (id k : Nat) (W : World) : Exit → Act → World → Prop
 | .normal, _, B => KeepsOthers W B ∧ Kp W B ∧ I (k + 1) B
 | .exit j, _, B => KeepsOthers W B ∧ j = id ∧ Ix (k + 1) B
 | _, _, _ => False
theorem wpIn_streams {F : Fence} {n : Nat} {P : Program} {g : Operand} {p : Tmp} {assign body : Code} {Q : Exit → Act → World → Prop} {a : Act} {w : World}
  (hro : F.round = none) (h1 : 1 ≤ n) {gf : Nat} {lb : Array Value} (hg : a.eval g = .func (.func gf) #[] lb) (hFg : F.fn gf) (eg : ∀ args w, (callFunc gf args).run P w = .ok (.enter gf args) w)
  {el : Nat → Value} {pc : Addr} {Kp : World → World → Prop} {N : Nat} (hseq : Streams F (n - 1) P gf lb el pc Kp N w) (hpc : pc.block < w.heap.size)
  (hKt : ∀ {A B C : World}, Kp A B → Kp B C → Kp A C) (hKb : ∀ (A : World) (l : Nat) (o : Obj), w.heap.size ≤ l → Kp A (A.putObj l o))
  (id : Nat) (I Ix : Nat → World → Prop) (hI : OwnFrom w.heap.size I) (hIx : OwnFrom w.heap.size Ix) (hIw : ∀ k A v, I k A → I k (A.setCell pc v)) (hIN : ∀ k A, I k A → k < N) (h0 : I 0 w) (a₁ : Nat → Act)
  (hassign : ∀ (l k : Nat) (W : World) (K : Act → World → Prop), K (a₁ k) W →
   assign.wpIn (F.inRound l) (n - 1 - 1) P (Exit.then K (fun _ _ _ => False)) { tmps := a.tmps.setIfInBounds p (el k), defers := [] } W)
  (hbody : ∀ (l k : Nat) (W : World), I k W → body.wpIn (F.inRound l) (n - 1 - 1) P (RoundEnds Kp I Ix id k W) (a₁ k) W)
  (hstop : ∀ (D k : Nat) (W : World), w.heap.size ≤ D → Ix (k + 1) W → W.heap[D]? = some (.deferred (some [])) → (Code.exit id).wpIn F n P Q { a with defers := { target := .collected D, args := #[] } :: a.defers } W) :
  (Code.rangeFunc g #[p] assign body).wpIn F n P Q a w := by
 refine wpIn_rangeFunc fun fn hfn => ?_
 rw [hro]
 let D := w.heap.size
 let L : LoopState → Option Code → Obj := fun st j => .loop { state := st, pending := j, fn, tmps := a.tmps, params := #[p], assign, body, defers := D }
 let W1 := (w.alloc (.deferred (some []))).alloc (L .ready none)
 have kL : W1.heap[D + 1]? = some (L .ready none) := by
  have := heap_alloc_new (w.alloc (.deferred (some []))) (L .ready none)
  rwa [World.size_alloc] at this
 have kD : W1.heap[D]? = some (.deferred (some [])) := heap_alloc_old _ _ (heap_alloc_new w _)
 have kx : Ext w W1 := ((Ext.refl w).alloc _).alloc _
 refine ⟨D + 1, [{ target := .collected D, args := #[] }], W1, { target := .fn (.func gf) lb, args := #[.func (.yield (D + 1)) #[] #[]] }, W1, gf, #[.func (.yield (D + 1)) #[] #[]] ++ lb, W1,
  run_enterLoop_outer _ _ _ _ _, ?_, ?_, ?_, fun _ => h1, ?_⟩
 ·simp only [resolve, hg]; simp [go_sem]
 ·intro f hf; simp [Target.leads] at hf; subst hf; exact hFg
 ·simp [invoke, go_sem, eg]
 have noC : ∀ {A : World} {row : Option Nat}, (∀ r, row = some r → W1.heap.size ≤ r ∧ ∃ o : Obj, A.heap[r]? = some o ∧ o.isWalk = true) → ∀ r, row = some r → w.heap.size ≤ r ∧ ∃ o : Obj, A.heap[r]? = some o ∧ o.isCells = false := fun hr r e => by
  obtain ⟨hb, o, ho, hw⟩ := hr r e
  have hsz : W1.heap.size = w.heap.size + 2 := by show ((w.alloc _).alloc _).heap.size = _; simp
  exact ⟨by omega, o, ho, Obj.not_cells_of_walk hw⟩
 have other : ∀ {A : World} {v : Value} {k : Nat}, w.heap.size ≤ k → (A.setCell pc v).heap[k]? = A.heap[k]? := fun hk => heap_setCell_other _ _ _ (by omega)
 have hs := hseq (D + 1) (fun k W => I k W ∧ W.heap[D + 1]? = some (L .ready none) ∧ W.heap[D]? = some (.deferred (some [])))
  (fun k W => Ix k W ∧ W.heap[D + 1]? = some (L .done (some (.exit id))) ∧ W.heap[D]? = some (.deferred (some []))) W1 kx
 refine (hs ?_ ?_ (fun k A h => hIN k A h.1) ?_ (And.intro (hI.alloc (s := 0) _ (hI.alloc (s := 0) _ h0)) (And.intro kL kD))).mono ?_
 ·rintro k A B row ⟨h2, h3, h4⟩ hgr hr
  exact ⟨hI k A B row h2 hgr (noC hr), (grownBy_keeps hgr (fun r e => (hr r e).2) h3 rfl).trans h3, (grownBy_keeps hgr (fun r e => (hr r e).2) h4 rfl).trans h4⟩
 ·rintro k A v ⟨h2, h3, h4⟩
  exact ⟨hIw k A v h2, (other (by show w.heap.size ≤ w.heap.size + 1; omega)).trans h3, (other (Nat.le_refl _)).trans h4⟩
 ·rintro k A ⟨h2, h3, h4⟩
  have hlt : D + 1 < A.heap.size := blk_lt h3
  refine ⟨fn, a.tmps.setIfInBounds p (el k), assign, body, (run_yield (args := #[el k]) h3 rfl).trans (by simp), roundIn_of_wpIn hfn ?_⟩
  refine hassign _ k A _ ?_
  refine ⟨_, run_beginRound h3 rfl, ?_⟩
  have b3 : (A.putObj (D + 1) (L .busy none)).heap[D + 1]? = some (L .busy none) := World.putObj_heap_same hlt
  have b4 : (A.putObj (D + 1) (L .busy none)).heap[D]? = some (.deferred (some [])) := (World.putObj_heap_other (by omega)).trans h4
  refine wpIn_mono (hbody _ k _ (hI.putObj (l := D + 1) _ h2 (by show w.heap.size ≤ w.heap.size + 1; omega) h3 rfl)) ?_
  intro e a3 B he
  have he' : KeepsOthers (A.putObj (D + 1) (L .busy none)) B ∧ ((e = .normal ∧ Kp (A.putObj (D + 1) (L .busy none)) B ∧ I (k + 1) B) ∨ (e = .exit id ∧ Ix (k + 1) B)) := by
   cases e with
   | normal => exact ⟨he.1, .inl ⟨rfl, he.2⟩⟩
   | exit j => obtain ⟨h1, rfl, h2⟩ := he; exact ⟨h1, .inr ⟨rfl, h2⟩⟩
   | ret => exact he.elim
   | goto _ => exact he.elim
   | panic _ => exact he.elim
   | outgrown => exact he.elim
  obtain ⟨hk, h5⟩ := he'
  have c3 : B.heap[D + 1]? = some (L .busy none) := hk.same _ _ b3 rfl
  have c4 : B.heap[D]? = some (.deferred (some [])) := hk.same _ _ b4 rfl
  have hlb : D + 1 < B.heap.size := blk_lt c3
  rcases h5 with ⟨rfl, hkp, hi⟩ | ⟨rfl, hx⟩
  ·exact ⟨_, _, run_endRound none c3, .inl ⟨rfl, ⟨hI.putObj (l := D + 1) _ hi (by show w.heap.size ≤ w.heap.size + 1; omega) c3 rfl, World.putObj_heap_same hlb, (World.putObj_heap_other (by omega)).trans c4⟩,
    hKt (hKt (hKb _ _ _ (by show w.heap.size ≤ w.heap.size + 1; omega)) hkp) (hKb _ _ _ (by show w.heap.size ≤ w.heap.size + 1; omega))⟩⟩
  ·exact ⟨_, _, run_endRound (some (.exit id)) c3, .inr ⟨rfl, hIx.putObj (l := D + 1) _ hx (by show w.heap.size ≤ w.heap.size + 1; omega) c3 rfl, World.putObj_heap_same hlb, (World.putObj_heap_other (by omega)).trans c4⟩⟩
 ·rintro e B ⟨⟨v, rfl⟩, k, hx, h3, h4⟩
  exact ⟨some (.exit id), _, run_endLoop h3 (by simp), hstop D k _ (Nat.le_refl _) (hIx.putObj (l := D + 1) _ hx (by show w.heap.size ≤ w.heap.size + 1; omega) h3 rfl) ((World.putObj_heap_other (by omega)).trans h4)⟩
end Go.Proofs.YtclekllaikcglaaGreat
