import Derived.Test.YtclekllaikcglaaGreatLoud
import Derived.Test.YtclekllaikcglaaGreatBase

/- Regions that draw their order: one spec for each operation, that abides new memory; each operation is walked once, in whatever world has what it looks at. -/
namespace Go.Proofs.YtclekllaikcglaaGreat
open Go
namespace Loud
section
variable {P : Program}
def preds (S : Nat → Value → Nat → World → Prop) (u : Nat → Value) (β : Nat → Nat) (w : World) : List Edge → Prop
 | [] => True
 | e :: l => (Region.binds .any e = true → S e.on (u e.on) (β e.on) w) ∧ preds S u β w l
theorem preds_of {S : Nat → Value → Nat → World → Prop} {u : Nat → Value} {β : Nat → Nat} {w : World} : ∀ (l : List Edge), (∀ e ∈ l, Region.binds .any e = true → S e.on (u e.on) (β e.on) w) → preds S u β w l
 | [], _ => trivial
 | e :: l, h => ⟨h e (by simp), preds_of l fun e' he' => h e' (by simp [he'])⟩
def puts : List Oper → Nat → (Nat → Value) → Act → Act
 | [], _, _, a => a
 | o :: l, k, u, a => puts l (k + 1) u (a.put o.dst (u k))
def stepW (P : Program) (ops : Array Oper) (S : Nat → Value → Nat → World → Prop) (o : Oper) (i : Nat) (a : Act) (w : World) : Prop :=
 (Region.wanted o (yielded ops a.tmps) = true ∧ ∀ K : Value → World → Prop, (∀ v b w', Ext w w' → S i v b w' → K v w') → does P o a w K) ∨ (Region.wanted o (yielded ops a.tmps) = false ∧ ∃ b, S i undef b w)
def stepsW (P : Program) (ops : Array Oper) (S : Nat → Value → Nat → World → Prop) (w0 : World) (A : (Nat → Value) → Act) : List Oper → Nat → Prop
 | [], _ => True
 | o :: l, k => (∀ u β w, Ext w0 w → preds S u β w o.after.toList → stepW P ops S o k (A u) w) ∧ stepsW P ops S w0 A l (k + 1)
theorem stepsW_at {ops : Array Oper} {S : Nat → Value → Nat → World → Prop} {w0 : World} {A : (Nat → Value) → Act} : ∀ (l : List Oper) (k i : Nat) (o : Oper), stepsW P ops S w0 A l k → l[i]? = some o →
  ∀ u β w, Ext w0 w → preds S u β w o.after.toList → stepW P ops S o (k + i) (A u) w
 | [], _, _, _, _, h => by simp at h
 | o' :: l, k, 0, o, hs, h => by simp at h; subst h; exact hs.1
 | o' :: l, k, i + 1, o, hs, h => by
  have := stepsW_at l (k + 1) i o hs.2 (by simpa using h)
  rw [show k + (i + 1) = k + 1 + i by omega]; exact this
def distinctB : List Oper → Bool
 | [] => true
 | o :: l => (match o.dst with | none => true | some d => l.all fun o' => o'.dst != some d) && distinctB l
theorem put_put (a : Act) (d : Option Tmp) (v v' : Value) : (a.put d v).put d v' = a.put d v' := by
 cases d <;> simp [Act.put]
theorem puts_comm : ∀ (l : List Oper) (k : Nat) (u : Nat → Value) (a : Act) (d : Option Tmp) (v : Value), (∀ o ∈ l, ∀ x, d = some x → o.dst ≠ some x) → (puts l k u a).put d v = puts l k u (a.put d v)
 | [], _, _, _, _, _, _ => rfl
 | o :: l, k, u, a, d, v, h => by
  unfold puts
  rw [puts_comm l (k + 1) u _ d v fun o' ho' => h o' (by simp [ho'])]
  congr 1
  exact Act.put_comm a (u k) v (fun x hx hd => h o (by simp) x hd hx)
theorem puts_congr : ∀ (l : List Oper) (k : Nat) (u u' : Nat → Value) (a : Act), (∀ i, k ≤ i → u i = u' i) → puts l k u a = puts l k u' a
 | [], _, _, _, _, _ => rfl
 | o :: l, k, u, u', a, h => by
  unfold puts
  rw [h k (Nat.le_refl _)]
  exact puts_congr l (k + 1) u u' _ fun i hi => h i (by omega)
def upd {α : Type} (u : Nat → α) (i : Nat) (v : α) : Nat → α := fun t => if t = i then v else u t
theorem puts_upd : ∀ (l : List Oper) (k i : Nat) (o : Oper) (u : Nat → Value) (a : Act) (v : Value), distinctB l = true → l[i]? = some o → (puts l k u a).put o.dst v = puts l k (upd u (k + i) v) a
 | [], _, _, _, _, _, _, _, h => by simp at h
 | o' :: l, k, 0, o, u, a, v, hd, h => by
  simp at h; subst h
  unfold puts
  simp only [distinctB, Bool.and_eq_true] at hd
  rw [puts_comm l (k + 1) u _ _ v (fun o2 ho2 x hx => by
   have := hd.1
   rw [hx] at this
   have := List.all_eq_true.1 this o2 ho2
   simpa using this), put_put]
  rw [show upd u (k + 0) v k = v by simp [upd]]
  exact puts_congr l (k + 1) _ _ _ fun i hi => by simp [upd]; omega
 | o' :: l, k, i + 1, o, u, a, v, hd, h => by
  unfold puts
  simp only [distinctB, Bool.and_eq_true] at hd
  rw [puts_upd l (k + 1) i o u _ v hd.2 (by simpa using h)]
  rw [show upd u (k + (i + 1)) v k = u k by simp [upd]]
  rw [show k + 1 + i = k + (i + 1) by omega]
theorem puts_same : ∀ (l : List Oper) (k : Nat) (u : Nat → Value) (a : Act), distinctB l = true → (∀ i o, l[i]? = some o → ∀ d, o.dst = some d → u (k + i) = a.tmps.getD d undef) → puts l k u a = a
 | [], _, _, _, _, _ => rfl
 | o :: l, k, u, a, hd, h => by
  unfold puts
  simp only [distinctB, Bool.and_eq_true] at hd
  have e : a.put o.dst (u k) = a := by
   have h0 := h 0 o (by simp)
   cases hdst : o.dst with
   | none => rfl
   | some d =>
    have := h0 d hdst
    rw [Nat.add_zero] at this
    rw [this]
    cases a with
    | mk tm df =>
     simp only [Act.put]
     congr 1
     apply Array.ext_getElem?
     intro j
     rw [Array.getElem?_setIfInBounds]
     split
     ·rename_i hj; subst hj
      split
      ·rename_i hlt; simp [hlt]
      ·rename_i hlt; simp at hlt; simp [hlt]
     ·rfl
  rw [e]
  exact puts_same l (k + 1) u a hd.2 fun i o' ho' d hd' => by
   have := h (i + 1) o' (by simpa using ho') d hd'
   rw [show k + 1 + i = k + (i + 1) by omega]; exact this
def cnt (listed : Array Bool) : Nat → Nat
 | 0 => 0
 | k + 1 => cnt listed k + (if listed.getD k true then 0 else 1)
theorem getD_set_same {listed : Array Bool} {i : Nat} (h : listed.getD i true = false) : (listed.setIfInBounds i true).getD i true = true := by
 rcases Nat.lt_or_ge i listed.size with h' | h'
 ·simp [h']
 ·simp [Array.getElem?_eq_none h'] at h
theorem cnt_ge {listed : Array Bool} {i : Nat} : ∀ k, k ≤ i → cnt (listed.setIfInBounds i true) k = cnt listed k
 | 0, _ => rfl
 | k + 1, h => by
  unfold cnt
  rw [cnt_ge k (by omega), getD_set_ne true (by omega)]
theorem cnt_set {listed : Array Bool} {i : Nat} (hu : listed.getD i true = false) : ∀ k, i < k → cnt listed k = cnt (listed.setIfInBounds i true) k + 1
 | 0, h => by omega
 | k + 1, h => by
  unfold cnt
  by_cases hik : i = k
  ·subst hik
   rw [cnt_ge i (Nat.le_refl _), hu, getD_set_same hu]; simp
  ·rw [cnt_set hu k (by omega), getD_set_ne true hik]; omega
theorem cnt_zero {listed : Array Bool} : ∀ k, cnt listed k = 0 → ∀ j, j < k → listed.getD j true = true
 | 0, _, j, h => by omega
 | k + 1, h0, j, h => by
  unfold cnt at h0
  by_cases hjk : j = k
  ·subst hjk
   cases hl : listed.getD j true with
   | true => rfl
   | false => rw [hl] at h0; simp at h0
  ·exact cnt_zero k (by omega) j (by omega)
theorem cnt_pos {listed : Array Bool} : ∀ k, cnt listed k ≠ 0 → ∃ i, i < k ∧ listed.getD i true = false ∧ ∀ j, j < i → listed.getD j true = true
 | 0, h => absurd rfl h
 | k + 1, h => by
  by_cases h0 : cnt listed k = 0
  ·refine ⟨k, by omega, ?_, cnt_zero k h0⟩
   cases hl : listed.getD k true with
   | false => rfl
   | true => unfold cnt at h; rw [hl, h0] at h; simp at h
  ·obtain ⟨i, h1, h2, h3⟩ := cnt_pos k h0
   exact ⟨i, by omega, h2, h3⟩
theorem cnt_init (m : Nat) : ∀ k, k ≤ m → cnt (Array.replicate m false) k = k
 | 0, _ => rfl
 | k + 1, h => by
  unfold cnt
  rw [cnt_init m k (by omega)]
  have : (Array.replicate m false).getD k true = false := by rw [Array.getD_eq_getD_getElem?, Array.getElem?_replicate, if_pos (by omega)]; rfl
  rw [this]; simp
def endL (m n : Nat) : Array Bool := (List.replicate n true ++ List.replicate (m - n) false).toArray
def weaveB (ops : Array Oper) (n : Nat) : Bool :=
 Region.noSelect ops && decide (n ≤ ops.size) && sinkB .any ops ops.size n && distinctB (ops.toList.take n) &&
  (List.range n).all (fun k => match ops[k]? with | some o => o.after.all fun e => decide (e.on < k) || !Region.binds .any e | none => false) &&
  Region.seqB .any ops (ops.size - n) n (endL ops.size n)
theorem wf_weave {l : List Oper} {Q : Exit → Act → World → Prop} {n : Nat} {w0 : World} {a0 : Act} (S : Nat → Value → Nat → World → Prop) (hB : weaveB l.toArray n = true)
  (hst : ∀ i v b w w', S i v b w → Ext w w' → S i v b w') (A : (Nat → Value) → Act) (hA : ∀ u, puts (l.take n) 0 u a0 = A u)
  (hstep : stepsW P l.toArray S w0 A (l.take n) 0)
  (hfin : ∀ (u : Nat → Value) (β : Nat → Nat) (w : World), Ext w0 w → (∀ i, i < n → S i (u i) (β i) w) → wpList P l.toArray Q (l.drop n) (A u) w) {w : World} (hw0 : Ext w0 w) :
  WF P l (fun w' => Ext w0 w') (fun _ => true) n Q n (Array.replicate l.toArray.size false) a0 w := by
 intro hc _
 simp only [weaveB, Bool.and_eq_true, decide_eq_true_eq] at hB
 obtain ⟨⟨⟨⟨⟨hsel, hn⟩, hs⟩, hdst⟩, hord⟩, hseq⟩ := hB
 have hdst' : distinctB (l.take n) = true := by simpa using hdst
 have main : ∀ (f : Nat) (listed : Array Bool) (u : Nat → Value) (β : Nat → Nat) (w : World), Closed .any l.toArray listed → Ext w0 w → cnt listed n = f → listed.size = l.toArray.size → (∀ j, n ≤ j → listed.getD j false = false) →
   (∀ j, j < n → listed.getD j false = true → S j (u j) (β j) w) → wpH P .any l.toArray (fun w' => Ext w0 w') (fun _ => true) n (Fin P l Q n) f listed (A u) w := by
  intro f
  induction f with
  | zero =>
   intro listed u β w _ hx hcnt hsz hge hS
   have hall := cnt_zero n hcnt
   have hall' : ∀ j, j < n → listed.getD j false = true := fun j hj => by
    have := hall j hj
    have hjl : j < listed.size := by rw [hsz]; omega
    simp [hjl] at this ⊢; exact this
   have : listed = endL l.toArray.size n := by
    apply Array.ext_getElem?
    intro j
    unfold endL
    rcases Nat.lt_or_ge j listed.size with hj | hj
    ·rw [Array.getElem?_eq_getElem hj]
     rcases Nat.lt_or_ge j n with hjn | hjn
     ·have := hall' j hjn
      simp [hj] at this
      rw [this, List.getElem?_toArray, List.getElem?_append_left (by simpa using hjn), List.getElem?_replicate, if_pos hjn]
     ·have := hge j hjn
      simp [hj] at this
      rw [this, List.getElem?_toArray, List.getElem?_append_right (by simpa using hjn), List.getElem?_replicate, if_pos (by simp at *; omega)]
    ·rw [Array.getElem?_eq_none hj, List.getElem?_toArray, List.getElem?_eq_none (by simp at *; omega)]
   subst this
   exact ⟨hseq, hfin u β w hx fun i hi => hS i hi (hall' i hi)⟩
  | succ f ih =>
   intro listed u β w hc hx hcnt hsz hge hS
   obtain ⟨i0, hi0, hu0, hlow⟩ := cnt_pos n (by rw [hcnt]; omega)
   have hi0s : i0 < l.toArray.size := by omega
   refine ⟨fun hr => ?_, fun i hi => ?_⟩
   ·have : i0 ∈ Region.ready .any l.toArray listed := by
     refine mem_ready.2 ⟨hu0, l.toArray[i0], Array.getElem?_eq_getElem hi0s, fun e he hbe => ?_⟩
     have h1 := List.all_eq_true.1 hord i0 (List.mem_range.2 hi0)
     rw [Array.getElem?_eq_getElem hi0s] at h1
     have h2 := Array.all_eq_true'.1 h1 e he
     simp only [hbe, Bool.not_true, Bool.or_false, decide_eq_true_eq] at h2
     have h3 := hlow e.on h2
     have hjl : e.on < listed.size := by rw [hsz]; omega
     simp [hjl] at h3 ⊢; exact h3
    rw [hr] at this; cases this
   ·have hin := sink_spec hs hi0 listed hc hu0 i hi
    refine ⟨hin, ?_⟩
    obtain ⟨hun, o, ho, hall⟩ := mem_ready.1 hi
    have ho' : (l.take n)[i]? = some o := by rw [List.getElem?_take_of_lt hin]; simpa using ho
    have hp : preds S u β w o.after.toList := preds_of _ fun e he hb => by
     have he' : e ∈ o.after := by simpa using he
     have h1 := hall e he' hb
     refine hS e.on ?_ h1
     rcases Nat.lt_or_ge e.on n with h | h
     ·exact h
     ·rw [hge e.on h] at h1; cases h1
    have hstp := stepsW_at _ _ _ _ hstep ho' u β w hx hp
    rw [Nat.zero_add] at hstp
    have next : ∀ v b w', Ext w w' → S i v b w' → wpH P .any l.toArray (fun w' => Ext w0 w') (fun _ => true) n (Fin P l Q n) f (listed.setIfInBounds i true) ((A u).put o.dst v) w' := fun v b w' hx' hSi => by
     have hput : (A u).put o.dst v = A (upd u i v) := by
      rw [← hA, ← hA, puts_upd _ 0 i o u a0 v hdst' ho', Nat.zero_add]
     rw [hput]
     refine ih _ (upd u i v) (upd β i b) w' (hc.set hi) (hx.trans hx') ?_ (by simp [hsz]) (fun j hj => ?_) (fun j hj hl => ?_)
     ·have := cnt_set hun n hin; omega
     ·rw [getD_set_ne false (by omega)]; exact hge j hj
     ·by_cases hji : j = i
      ·subst hji; simp [upd]; exact hSi
      ·rw [getD_set_ne false (Ne.symm hji)] at hl
       simp only [upd, if_neg hji]
       exact hst _ _ _ _ _ (hS j hj hl) hx'
    refine ⟨o, ho, ?_⟩
    rcases hstp with ⟨hw1, hd⟩ | ⟨hw1, b, hSu⟩
    ·exact .inr ⟨hw1, rfl, hd _ fun v b w' hx' hSi => ⟨hx.trans hx', next v b w' hx' hSi⟩⟩
    ·exact .inl ⟨undef, .inl ⟨hw1, rfl⟩, next undef b w (Ext.refl w) hSu⟩
 have hu : ∃ u : Nat → Value, A u = a0 := by
  refine ⟨fun i => ((l.take n)[i]?.bind fun o => o.dst.map fun d => a0.tmps.getD d undef).getD undef, ?_⟩
  rw [← hA]
  refine puts_same _ 0 _ a0 hdst' fun i o ho d hd => ?_
  simp only [Nat.zero_add, ho, hd, Option.bind_some, Option.map_some, Option.getD_some]
 obtain ⟨u, hu⟩ := hu
 have := main n (Array.replicate l.toArray.size false) u (fun _ => 0) w hc hw0 (cnt_init _ _ hn) (by simp) (fun j _ => getD_replicate_false _ _) (fun j _ hj => by rw [getD_replicate_false] at hj; cases hj)
 rw [hu] at this
 exact this
theorem wp_region_weave {id : Nat} {Q : Exit → Act → World → Prop} {a : Act} {w : World} {l : List Oper} (n : Nat) (w0 : World) (S : Nat → Value → Nat → World → Prop) (hm : P.follows .mixedOrders = true) (hB : weaveB l.toArray n = true)
  (hC : Ext w0 w.drew) (hst : ∀ i v b w w', S i v b w → Ext w w' → S i v b w') (A : (Nat → Value) → Act) (hA : ∀ u (K : Act → Prop), K (A u) → K (puts (l.take n) 0 u a))
  (hstep : stepsW P l.toArray S w0 A (l.take n) 0)
  (hfin : ∀ (u : Nat → Value) (β : Nat → Nat) (w : World), Ext w0 w → (∀ i, i < n → S i (u i) (β i) w) → wpList P l.toArray Q (l.drop n) (A u) w) : (Code.region id l.toArray true).wp P Q a w := by
 have hn : n ≤ l.length := by
  simp only [weaveB, Bool.and_eq_true, decide_eq_true_eq] at hB
  have := hB.1.1.1.1.2
  simpa using this
 exact wp_region_fork (fun _ => true) n (fun w' => Ext w0 w') hm hn hC (wf_weave S hB hst A (fun u => hA u (fun x => x = A u) rfl) hstep hfin hC)
end
structure Spec where
 p : Value → Nat → World → Prop
 st : ∀ v b w w', p v b w → Ext w w' → p v b w'
def Spec.val (x : Value) : Spec := ⟨fun v _ _ => v = x, fun _ _ _ _ h _ => h⟩
def Spec.blk (n c : Nat) (o : Obj) : Spec := ⟨fun v b w => v = .slice (some ⟨b, 0, none⟩) n c ∧ w.heap[b]? = some o, fun _ _ _ _ h hx => ⟨h.1, hx.keep h.2⟩⟩
def Spec.any : Spec := ⟨fun _ _ _ => True, fun _ _ _ _ _ _ => trivial⟩
def sps (l : List Spec) (i : Nat) : Value → Nat → World → Prop := (l.getD i Spec.any).p
theorem sps_st (l : List Spec) : ∀ i v b w w', sps l i v b w → Ext w w' → sps l i v b w' := fun i => (l.getD i Spec.any).st
theorem wanted_of {ops : Array Oper} {o : Oper} {tmps : Array Value} {j : Nat} {want : Bool} {d : Tmp} (hg : o.guard = some (j, want)) (hd : (ops[j]?).bind (·.dst) = some d) (hv : tmps[d]? = some (.bool want)) : Region.wanted o (yielded ops tmps) = true := by
 unfold Region.wanted yielded
 rw [hg]
 simp only [hd, Option.bind_some, hv]
 simp
@[go_sem] theorem val_p (x v : Value) (b : Nat) (w : World) : (Spec.val x).p v b w = (v = x) := rfl
@[go_sem] theorem blk_p (n c : Nat) (o : Obj) (v : Value) (b : Nat) (w : World) : (Spec.blk n c o).p v b w = (v = .slice (some ⟨b, 0, none⟩) n c ∧ w.heap[b]? = some o) := rfl
@[go_sem] theorem any_p (v : Value) (b : Nat) (w : World) : Spec.any.p v b w = True := rfl
@[go_sem] theorem sps_zero (s : Spec) (l : List Spec) : sps (s :: l) 0 = s.p := rfl
@[go_sem] theorem sps_succ (s : Spec) (l : List Spec) (i : Nat) : sps (s :: l) (i + 1) = sps l i := rfl
end Loud
end Go.Proofs.YtclekllaikcglaaGreat
