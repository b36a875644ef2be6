import Derived.WalkKit
import Derived.StillTailTactics

/- Regions that draw their order: operations that leave the world alone may come up anywhere; the others stand in a fixed order. One walk of the text's order serves every order. -/
namespace Go.Proofs.YtclekllaikcglaaGreat
open Go
namespace Loud
section
variable {P : Program} {ops : Array Oper} {md : Region.Mode} {C : World → Prop} {L : Nat → Bool} {n : Nat}
def yS (P : Program) (C : World → Prop) (o : Oper) (a : Act) (v : Value) : Prop :=
 ∀ w, C w → (execOp a.eval o).run P w = .ok (.value v) w ∨ ((execOp a.eval o).run P w = .ok .skip w ∧ v = undef)
def upon (P : Program) (R : Value → World → Prop) : Result Next → Prop
 | .ok (.value v) w' => R v w'
 | .ok .skip w' => R undef w'
 | .ok (.enter f args) w' => Calls P f args w' fun e w'' => ∃ v, e = .returned v ∧ R v w''
 | _ => False
def does (P : Program) (o : Oper) (a : Act) (w : World) (R : Value → World → Prop) : Prop := upon P R ((execOp a.eval o).run P w)
theorem does_mono {o : Oper} {a : Act} {w : World} {R R' : Value → World → Prop} (h : ∀ v w, R v w → R' v w) (hh : does P o a w R) : does P o a w R' := by
 unfold does at *
 generalize (execOp a.eval o).run P w = r at *
 cases r with
 | ok x w' =>
  cases x <;> simp only [upon] at hh ⊢
  case enter f args => exact hh.mono fun e w'' ⟨v, he, hr⟩ => ⟨v, he, h _ _ hr⟩
  all_goals exact h _ _ hh
 | halt x w' => simp only [upon] at hh
theorem does_some {o : Oper} {a : Act} {w : World} {R : Value → World → Prop} (hh : does P o a w R) : ∃ v w', R v w' := by
 unfold does at hh
 generalize (execOp a.eval o).run P w = r at *
 cases r with
 | ok x w' =>
  cases x <;> simp only [upon] at hh
  case enter f args => obtain ⟨e, w'', fr, ⟨v, _, hr⟩, _⟩ := hh []; exact ⟨v, w'', hr⟩
  all_goals exact ⟨_, _, hh⟩
 | halt x w' => simp only [upon] at hh
theorem wp_of_does {o : Oper} {a : Act} {w : World} {R : Value → World → Prop} {K : Act → World → Prop} {Q : Exit → Act → World → Prop} (h : ∀ v w', R v w' → K (a.put o.dst v) w') (hh : does P o a w R) : o.wp P a w K Q := by
 unfold does at hh
 unfold Oper.wp
 generalize (execOp a.eval o).run P w = r at *
 cases r with
 | ok x w' =>
  cases x <;> simp only [upon] at hh <;> simp only [Oper.upon]
  case enter f args => exact hh.mono fun e w'' ⟨v, he, hr⟩ => by subst he; exact h _ _ hr
  all_goals exact h _ _ hh
 | halt x w' => simp only [upon] at hh
theorem yS_uniq {o : Oper} {a : Act} {w : World} {u v : Value} (hw : C w) (h1 : yS P C o a u) (h2 : yS P C o a v) : u = v := by
 rcases h1 w hw with h1 | ⟨h1, e1⟩ <;> rcases h2 w hw with h2 | ⟨h2, e2⟩ <;> rw [h1] at h2 <;> simp at h2
 ·exact h2
 ·rw [e1, e2]
def static (P : Program) (ops : Array Oper) (C : World → Prop) (L : Nat → Bool) (o : Oper) (i : Nat) (a : Act) (v : Value) : Prop :=
 (Region.wanted o (yielded ops a.tmps) = false ∧ v = undef) ∨ (Region.wanted o (yielded ops a.tmps) = true ∧ L i = false ∧ yS P C o a v)
def loud (P : Program) (ops : Array Oper) (L : Nat → Bool) (o : Oper) (i : Nat) (a : Act) (w : World) (R : Value → World → Prop) : Prop :=
 Region.wanted o (yielded ops a.tmps) = true ∧ L i = true ∧ does P o a w R
theorem static_put {o : Oper} {i : Nat} {a : Act} {v : Value} {dst : Option Tmp} {u : Value} (hs : ∀ cs b, o.op ≠ .select cs b) (h : ∀ d, dst = some d → d ∉ o.looksAt ops) :
  static P ops C L o i (a.put dst u) v ↔ static P ops C L o i a v := by
 unfold static yS
 rw [wanted_put o a dst u h, execOp_put o hs a dst u h]
theorem loud_put {o : Oper} {i : Nat} {a : Act} {w : World} {R : Value → World → Prop} {dst : Option Tmp} {u : Value} (hs : ∀ cs b, o.op ≠ .select cs b) (h : ∀ d, dst = some d → d ∉ o.looksAt ops) :
  loud P ops L o i (a.put dst u) w R ↔ loud P ops L o i a w R := by
 unfold loud does
 rw [wanted_put o a dst u h, execOp_put o hs a dst u h]
def hOp (P : Program) (ops : Array Oper) (C : World → Prop) (L : Nat → Bool) (i : Nat) (K : Act → World → Prop) (a : Act) (w : World) : Prop :=
 ∃ o, ops[i]? = some o ∧ ((∃ v, static P ops C L o i a v ∧ K (a.put o.dst v) w) ∨ loud P ops L o i a w fun v w' => C w' ∧ K (a.put o.dst v) w')
def wpH (P : Program) (md : Region.Mode) (ops : Array Oper) (C : World → Prop) (L : Nat → Bool) (n : Nat) (F : Array Bool → Act → World → Prop) : Nat → Array Bool → Act → World → Prop
 | 0, listed, a, w => F listed a w
 | f + 1, listed, a, w => Region.ready md ops listed ≠ [] ∧ ∀ i ∈ Region.ready md ops listed, i < n ∧ hOp P ops C L i (wpH P md ops C L n F f (listed.setIfInBounds i true)) a w
def reach (md : Region.Mode) (ops : Array Oper) : Nat → Nat → Nat → Bool
 | 0, _, _ => false
 | m + 1, j, i => match ops[j]? with
  | some o => o.after.any fun e => Region.binds md e && (e.on == i || reach md ops m e.on i)
  | none => false
def Closed (md : Region.Mode) (ops : Array Oper) (listed : Array Bool) : Prop :=
 ∀ j oj, ops[j]? = some oj → listed.getD j false = true → ∀ e ∈ oj.after, Region.binds md e = true → listed.getD e.on false = true
theorem Closed.set {i : Nat} {listed : Array Bool} (h : Closed md ops listed) (hi : i ∈ Region.ready md ops listed) : Closed md ops (listed.setIfInBounds i true) := by
 obtain ⟨_, oi, hoi, hall⟩ := mem_ready.1 hi
 intro j oj hj hl e he hb
 by_cases hij : i = j
 ·subst hij
  have : oj = oi := Option.some.inj (hj.symm.trans hoi)
  subst this
  exact getD_set_true (hall e he hb)
 ·rw [getD_set_ne false hij] at hl
  exact getD_set_true (h j oj hj hl e he hb)
theorem reach_listed {listed : Array Bool} (hc : Closed md ops listed) : ∀ (m j i : Nat), (j ∈ Region.ready md ops listed ∨ listed.getD j false = true) → reach md ops m j i = true → listed.getD i false = true
 | 0, _, _, _, h => by simp [reach] at h
 | m + 1, j, i, hj, h => by
  unfold reach at h
  split at h
  ·rename_i o ho
   obtain ⟨e, he, hb⟩ := Array.any_eq_true'.1 h
   simp only [Bool.and_eq_true, Bool.or_eq_true, beq_iff_eq] at hb
   have hon : listed.getD e.on false = true := by
    rcases hj with hj | hj
    ·obtain ⟨_, o', ho', hall⟩ := mem_ready.1 hj
     have : o' = o := Option.some.inj (ho'.symm.trans ho)
     subst this
     exact hall e he hb.1
    ·exact hc j o ho hj e he hb.1
   rcases hb.2 with hb2 | hb2
   ·rw [← hb2]; exact hon
   ·exact reach_listed hc m e.on i (.inr hon) hb2
  ·cases h
theorem first {i M : Nat} {oi : Oper} {F : Array Bool → Act → World → Prop} (hi : ops[i]? = some oi) (hsel : ∀ (j : Nat) (o : Oper) cs b, ops[j]? = some o → o.op ≠ .select cs b) (hin : i < n)
  (hF : ∀ listed a w, F listed a w → ∀ j ∈ Region.ready md ops listed, n ≤ j)
  (hHN : ∀ listed, Closed md ops listed → listed.getD i true = false → ∀ j ∈ Region.ready md ops listed, j < n) :
  ∀ (f : Nat) (listed : Array Bool) (a : Act) (w : World), Closed md ops listed → C w →
   (∀ j oj, ops[j]? = some oj → j ≠ i → listed.getD j true = false → (∀ e ∈ oj.after, Region.binds md e = true → e.on ≠ i) → oi.apart ops oj = true) →
   (L i = true → ∀ j, j < ops.size → listed.getD j true = false → j ≠ i → L j = true → reach md ops M j i = true) →
   i ∈ Region.ready md ops listed → hOp P ops C L i (wpH P md ops C L n F f (listed.setIfInBounds i true)) a w → wpH P md ops C L n F (f + 1) listed a w := by
 intro f
 induction f with
 | zero =>
  intro listed a w hc hw hfree hnl hr H
  have hun := (mem_ready.1 hr).1
  refine ⟨fun h => (by rw [h] at hr; cases hr), fun j hj => ?_⟩
  have hjn := hHN listed hc hun j hj
  refine ⟨hjn, ?_⟩
  by_cases hji : j = i
  ·subst hji; exact H
  ·exfalso
   have hj' := ready_mono (i := i) hj hji
   obtain ⟨o, _, ⟨v, _, hk⟩ | ⟨_, _, hd⟩⟩ := H
   ·have := hF _ _ _ hk j hj'; omega
   ·obtain ⟨v, w', _, hk⟩ := does_some hd
    have := hF _ _ _ hk j hj'; omega
 | succ f ih =>
  intro listed a w hc hw hfree hnl hr H
  have hun := (mem_ready.1 hr).1
  refine ⟨fun h => (by rw [h] at hr; cases hr), fun j hj => ?_⟩
  have hjn := hHN listed hc hun j hj
  refine ⟨hjn, ?_⟩
  by_cases hji : j = i
  ·subst hji; exact H
  ·have hj' := ready_mono (i := i) hj hji
   obtain ⟨hjun, oj, hoj, hall⟩ := mem_ready.1 hj
   have hnot : ∀ e ∈ oj.after, Region.binds md e = true → e.on ≠ i := fun e he hb heq => by
    have h1 := hall e he hb
    rw [heq, getD_both hun] at h1
    cases h1
   obtain ⟨ap1, ap2, ap3⟩ := Oper.apart_spec (hfree j oj hoj hji hjun hnot)
   have sj : ∀ cs b, oj.op ≠ .select cs b := fun cs b => hsel j oj cs b hoj
   have si : ∀ cs b, oi.op ≠ .select cs b := fun cs b => hsel i oi cs b hi
   have hc' : Closed md ops (listed.setIfInBounds j true) := hc.set hj
   have hfree' : ∀ k ok, ops[k]? = some ok → k ≠ i → (listed.setIfInBounds j true).getD k true = false →
     (∀ e ∈ ok.after, Region.binds md e = true → e.on ≠ i) → oi.apart ops ok = true := fun k ok hk hki hun' hno => by
    refine hfree k ok hk hki ?_ hno
    by_cases hjk : j = k
    ·subst hjk; exact hjun
    ·rw [getD_set_ne true hjk] at hun'; exact hun'
   have hnl' : L i = true → ∀ k, k < ops.size → (listed.setIfInBounds j true).getD k true = false → k ≠ i → L k = true → reach md ops M k i = true := fun hLi k hks hun' hki hLk => by
    refine hnl hLi k hks ?_ hki hLk
    by_cases hjk : j = k
    ·subst hjk; exact hjun
    ·rw [getD_set_ne true hjk] at hun'; exact hun'
   have hr' := ready_mono hr (Ne.symm hji)
   have hcomm : (listed.setIfInBounds i true).setIfInBounds j true = (listed.setIfInBounds j true).setIfInBounds i true := Array.setIfInBounds_comm _ _ (Ne.symm hji)
   obtain ⟨o, ho, H⟩ := H
   have : o = oi := Option.some.inj (ho.symm.trans hi)
   subst this
   rcases H with ⟨v, hs, hk⟩ | hl
   ·-- i is quiet
    have hjo := (hk.2 j hj').2
    obtain ⟨o', ho', hjo⟩ := hjo
    have : o' = oj := Option.some.inj (ho'.symm.trans hoj)
    subst this
    refine ⟨o', hoj, ?_⟩
    rcases hjo with ⟨u, hu, hk2⟩ | hl2
    ·refine .inl ⟨u, (static_put sj ap1).1 hu, ?_⟩
     refine ih _ _ _ hc' hw hfree' hnl' hr' ⟨o, hi, .inl ⟨v, (static_put si ap3).2 hs, ?_⟩⟩
     rw [← hcomm, ← Act.put_comm a v u ap2]; exact hk2
    ·refine .inr ?_
     have hl3 := (loud_put sj ap1).1 hl2
     refine ⟨hl3.1, hl3.2.1, does_mono (fun u w' hx => ⟨hx.1, ?_⟩) hl3.2.2⟩
     refine ih _ _ _ hc' hx.1 hfree' hnl' hr' ⟨o, hi, .inl ⟨v, (static_put si ap3).2 hs, ?_⟩⟩
     rw [← hcomm, ← Act.put_comm a v u ap2]; exact hx.2
   ·-- i turns the world: j is quiet
    have hLj : L j = false := by
     cases hLj : L j with
     | false => rfl
     | true =>
      have h1 := reach_listed hc M j i (.inl hj) (hnl hl.2.1 j (Array.getElem?_eq_some_iff.1 hoj).1 hjun hji hLj)
      rw [getD_both hun] at h1
      cases h1
    have quietj : ∀ (v : Value) (w' : World), wpH P md ops C L n F (f + 1) (listed.setIfInBounds i true) (a.put o.dst v) w' →
      ∃ u, static P ops C L oj j a u ∧ wpH P md ops C L n F f ((listed.setIfInBounds i true).setIfInBounds j true) ((a.put o.dst v).put oj.dst u) w' := fun v w' hx => by
     obtain ⟨o', ho', hjo⟩ := (hx.2 j hj').2
     have : o' = oj := Option.some.inj (ho'.symm.trans hoj)
     subst this
     rcases hjo with ⟨u, hu, hk2⟩ | hl2
     ·exact ⟨u, (static_put sj ap1).1 hu, hk2⟩
     ·rw [hl2.2.1] at hLj; cases hLj
    obtain ⟨v0, w0, hw0, hk0⟩ := does_some hl.2.2
    obtain ⟨u, hu, _⟩ := quietj v0 w0 hk0
    refine ⟨oj, hoj, .inl ⟨u, hu, ?_⟩⟩
    refine ih _ _ _ hc' hw hfree' hnl' hr' ⟨o, hi, .inr ((loud_put si ap3).2 ⟨hl.1, hl.2.1, does_mono (fun v w' hx => ⟨hx.1, ?_⟩) hl.2.2⟩)⟩
    obtain ⟨u', hu', hk2⟩ := quietj v w' hx.2
    have huu : u' = u := by
     rcases hu with ⟨h1, h2⟩ | ⟨h1, _, h2⟩ <;> rcases hu' with ⟨h3, h4⟩ | ⟨h3, _, h4⟩
     ·rw [h2, h4]
     ·rw [h1] at h3; cases h3
     ·rw [h1] at h3; cases h3
     ·exact yS_uniq hx.1 h4 h2
    subst huu
    rw [← hcomm, ← Act.put_comm a v u' ap2]; exact hk2
def wpLex (P : Program) (ops : Array Oper) (C : World → Prop) (L : Nat → Bool) (F : Act → World → Prop) : List Oper → Nat → Act → World → Prop
 | [], _, a, w => F a w
 | o :: l, k, a, w => (∃ v, static P ops C L o k a v ∧ wpLex P ops C L F l (k + 1) (a.put o.dst v) w) ∨ loud P ops L o k a w fun v w' => C w' ∧ wpLex P ops C L F l (k + 1) (a.put o.dst v) w'
def headB (md : Region.Mode) (ops : Array Oper) (L : Nat → Bool) (M n : Nat) : Nat → Nat → Array Bool → Bool
 | 0, _, listed => Region.seqB md ops (ops.size - n) n listed
 | f + 1, k, listed => (Region.ready md ops listed).contains k && Region.free md ops listed k &&
   (List.range ops.size).all (fun j => j == k || listed.getD j true || !(L k && L j) || reach md ops M j k) && headB md ops L M n f (k + 1) (listed.setIfInBounds k true)
def sinkB (md : Region.Mode) (ops : Array Oper) (M n : Nat) : Bool :=
 decide (ops.size ≤ n) || ((List.range n).all (fun k => reach md ops M n k) && (List.range ops.size).all fun t => decide (t ≤ n) || reach md ops M t n)
def okB (md : Region.Mode) (ops : Array Oper) (L : Nat → Bool) (n : Nat) : Bool :=
 Region.noSelect ops && decide (n ≤ ops.size) && sinkB md ops ops.size n && headB md ops L ops.size n n 0 (Array.replicate ops.size false)
theorem sink_spec {M i : Nat} (h : sinkB md ops M n = true) (hin : i < n) (listed : Array Bool) (hc : Closed md ops listed) (hun : listed.getD i true = false) :
  ∀ j ∈ Region.ready md ops listed, j < n := by
 intro j hj
 obtain ⟨_, oj, hoj, _⟩ := mem_ready.1 hj
 have hjs : j < ops.size := (Array.getElem?_eq_some_iff.1 hoj).1
 simp only [sinkB, Bool.or_eq_true, decide_eq_true_eq, Bool.and_eq_true] at h
 rcases h with h | ⟨h1, h2⟩
 ·omega
 ·rcases Nat.lt_or_ge j n with h3 | h3
  ·exact h3
  ·exfalso
   have h4 := List.all_eq_true.1 h1 i (List.mem_range.2 hin)
   have hi : listed.getD i false = true := by
    by_cases hjn : j = n
    ·subst hjn; exact reach_listed hc M j i (.inl hj) h4
    ·have h5 := List.all_eq_true.1 h2 j (List.mem_range.2 hjs)
     simp only [Bool.or_eq_true, decide_eq_true_eq] at h5
     rcases h5 with h5 | h5
     ·omega
     ·exact reach_listed hc M n i (.inr (reach_listed hc M j n (.inl hj) h5)) h4
   rw [getD_both hun] at hi
   cases hi
theorem wpH_lex {F : Act → World → Prop} (hsel : Region.noSelect ops = true) (hs : sinkB md ops ops.size n = true) :
  ∀ (l : List Oper) (k : Nat) (listed : Array Bool) (a : Act) (w : World), (∀ j, j < l.length → l[j]? = ops[k + j]?) → k + l.length = n → Closed md ops listed → C w →
  headB md ops L ops.size n l.length k listed = true → wpLex P ops C L F l k a w →
  wpH P md ops C L n (fun listed' a' w' => Region.seqB md ops (ops.size - n) n listed' = true ∧ F a' w') l.length listed a w
 | [], k, listed, a, w, _, _, _, _, hB, h => ⟨by simpa [headB] using hB, h⟩
 | o :: l, k, listed, a, w, hl, hk, hc, hw, hB, h => by
  have h0 : ops[k]? = some o := by simpa using (hl 0 (by simp)).symm
  simp only [List.length_cons, headB, Bool.and_eq_true] at hB
  obtain ⟨⟨⟨hr, hf⟩, hL⟩, hB'⟩ := hB
  have hkn : k < n := by simp only [List.length_cons] at hk; omega
  have hr' : k ∈ Region.ready md ops listed := by simpa using hr
  have rec_ : ∀ a w, C w → wpLex P ops C L F l (k + 1) a w → wpH P md ops C L n (fun listed' a' w' => Region.seqB md ops (ops.size - n) n listed' = true ∧ F a' w') l.length (listed.setIfInBounds k true) a w := fun a w hw h =>
   wpH_lex hsel hs l (k + 1) _ a w (fun j hj => by have := hl (j + 1) (by simp; omega); simpa [Nat.add_assoc, Nat.add_comm 1 j] using this) (by simp only [List.length_cons] at hk; omega) (hc.set hr') hw hB' h
  refine first (M := ops.size) h0 (Region.noSelect_spec hsel) hkn (fun listed' a' w' hL' => seqB_ready hL'.1) (fun listed' hc' hun' => sink_spec hs hkn listed' hc' hun') l.length listed a w hc hw (Region.free_spec h0 hf) ?_ hr' ⟨o, h0, ?_⟩
  ·intro hLk j hjs hun hjk hLj
   have := List.all_eq_true.1 hL j (List.mem_range.2 hjs)
   simpa [hjk, hun, hLk, hLj] using this
  ·rcases h with ⟨v, hv, h⟩ | h
   ·exact .inl ⟨v, hv, rec_ _ _ hw h⟩
   ·exact .inr ⟨h.1, h.2.1, does_mono (fun v w' hx => ⟨hx.1, rec_ _ _ hx.1 hx.2⟩) h.2.2⟩
theorem wp_region_loud {id : Nat} {Q : Exit → Act → World → Prop} {a : Act} {w : World} {l : List Oper} (L : Nat → Bool) (n : Nat) (C : World → Prop) (hm : P.follows .mixedOrders = true)
  (hB : okB .any l.toArray L n = true) (hC : C w.drew)
  (h : wpLex P l.toArray C L (fun a w => wpList P l.toArray Q (l.drop n) a w) (l.take n) 0 a w.drew) : (Code.region id l.toArray true).wp P Q a w := by
 simp only [okB, Bool.and_eq_true, decide_eq_true_eq] at hB
 obtain ⟨⟨⟨hsel, hn⟩, hs⟩, hlex⟩ := hB
 have hn' : n ≤ l.length := by simpa using hn
 have htl : (l.take n).length = n := by simp; omega
 have hdl : (l.drop n).length = l.toArray.size - n := by simp
 have inv0 : Closed .any l.toArray (Array.replicate l.toArray.size false) := fun j oj _ hl => (by rw [getD_replicate_false] at hl; cases hl)
 have H := wpH_lex (md := .any) (C := C) (L := L) (n := n) hsel hs (l.take n) 0 _ a w.drew (fun j hj => by
  have hj' : j < n := by rw [htl] at hj; exact hj
  simp [hj']) (by simpa using htl) inv0 hC (by rw [htl]; exact hlex) h
 refine wp_region_any hm ?_
 have key : ∀ (f : Nat) (listed : Array Bool) (a : Act) (w : World), C w →
   wpH P .any l.toArray C L n (fun listed' a' w' => Region.seqB .any l.toArray (l.toArray.size - n) n listed' = true ∧ wpList P l.toArray Q (l.drop n) a' w') f listed a w →
   wpAny P .any l.toArray Q (f + (l.drop n).length) listed a w := by
  intro f
  induction f with
  | zero =>
   intro listed a w _ hh
   rw [Nat.zero_add]
   exact wpAny_of_seq (md := .any) (Q' := Q) (l.drop n) n listed a w (fun j => by simp [List.getElem?_drop]) (by rw [hdl]; exact hh.1) hh.2
  | succ f ih =>
   intro listed a w hCw hh
   rw [show f + 1 + (l.drop n).length = (f + (l.drop n).length) + 1 by omega]
   refine ⟨fun h0 => absurd h0 hh.1, fun i hi => ?_⟩
   obtain ⟨_, o, ho, hop⟩ := hh.2 i hi
   unfold wpOp
   simp only [ho]
   rcases hop with ⟨v, hv, hk⟩ | ⟨hw, _, hd⟩
   ·rcases hv with ⟨hw, rfl⟩ | ⟨hw, _, hy⟩
    ·rw [if_neg (by rw [hw]; exact Bool.false_ne_true)]
     exact ih _ _ _ hCw hk
    ·rw [if_pos hw]
     left
     unfold Oper.wp
     rcases hy w hCw with h1 | ⟨h1, h2⟩
     ·rw [h1, Oper.upon_value]; exact ih _ _ _ hCw hk
     ·rw [h1, Oper.upon_skip]; rw [h2] at hk; exact ih _ _ _ hCw hk
   ·rw [if_pos hw]
    exact .inl (wp_of_does (fun v w' hx => ih _ _ _ hx.1 hx.2) hd)
 have := key _ _ _ _ hC H
 rw [htl, hdl, show n + (l.toArray.size - n) = l.toArray.size by simp; omega] at this
 exact this
theorem lex_nil {F : Act → World → Prop} {k : Nat} {a : Act} {w : World} (h : F a w) : wpLex P ops C L F [] k a w := h
theorem lex_q {F : Act → World → Prop} {o : Oper} {l : List Oper} {k : Nat} {a : Act} {w : World} (hg : o.guard = none) (hL : L k = false) (v : Value)
  (hv : ∀ w, C w → (execOp a.eval o).run P w = .ok (.value v) w) (h : wpLex P ops C L F l (k + 1) (a.put o.dst v) w) : wpLex P ops C L F (o :: l) k a w :=
 .inl ⟨v, .inr ⟨by simp [Region.wanted, hg], hL, fun w hw => .inl (hv w hw)⟩, h⟩
theorem lex_v {F : Act → World → Prop} {o : Oper} {l : List Oper} {k : Nat} {a : Act} {w : World} (hg : Region.wanted o (yielded ops a.tmps) = true) (hL : L k = true) (v : Value) (w' : World)
  (hv : (execOp a.eval o).run P w = .ok (.value v) w') (hC : C w') (h : wpLex P ops C L F l (k + 1) (a.put o.dst v) w') : wpLex P ops C L F (o :: l) k a w :=
 .inr ⟨hg, hL, by unfold does; rw [hv]; exact ⟨hC, h⟩⟩
theorem lex_qe {F : Act → World → Prop} {o : Oper} {l : List Oper} {k : Nat} {a : Act} {w : World} (hg : o.guard = none) (hL : L k = false)
  (h : ∃ v, (∀ w, C w → (execOp a.eval o).run P w = .ok (.value v) w) ∧ wpLex P ops C L F l (k + 1) (a.put o.dst v) w) : wpLex P ops C L F (o :: l) k a w :=
 let ⟨v, hv, hh⟩ := h; lex_q hg hL v hv hh
@[go_sem] theorem upon_value (R : Value → World → Prop) (v : Value) (w : World) : upon P R (.ok (.value v) w) = R v w := rfl
@[go_sem] theorem upon_skip (R : Value → World → Prop) (w : World) : upon P R (.ok .skip w) = R undef w := rfl
@[go_sem] theorem upon_enter (R : Value → World → Prop) (f : FuncId) (args : Array Value) (w : World) : upon P R (.ok (.enter f args) w) = Calls P f args w fun e w'' => ∃ v, e = .returned v ∧ R v w'' := rfl
attribute [go_sem] does
theorem lex_l {F : Act → World → Prop} {o : Oper} {l : List Oper} {k : Nat} {a : Act} {w : World} (hg : Region.wanted o (yielded ops a.tmps) = true) (hL : L k = true)
  (h : ∀ K : Act → World → Prop, (∀ a w, C w → wpLex P ops C L F l (k + 1) a w → K a w) → does P o a w fun v w' => K (a.put o.dst v) w') : wpLex P ops C L F (o :: l) k a w :=
 .inr ⟨hg, hL, h (fun a w => C w ∧ wpLex P ops C L F l (k + 1) a w) (fun _ _ hC hh => ⟨hC, hh⟩)⟩
theorem norm {F : Act → World → Prop} {l : List Oper} {k : Nat} {a : Act} {w : World} (h : ∀ K : Act → Prop, (∀ a, wpLex P ops C L F l k a w → K a) → K a) : wpLex P ops C L F l k a w := h _ fun _ h => h
end
end Loud
end Go.Proofs.YtclekllaikcglaaGreat

/- Regions that draw their order: operations taken up in any order that fits, with forks where two that turn the world stand in no fixed order. -/
namespace Go.Proofs.YtclekllaikcglaaGreat
open Go
namespace Loud
section
variable {P : Program} {ops : Array Oper} {md : Region.Mode} {C : World → Prop} {L : Nat → Bool} {n : Nat}
theorem firstS (S : Nat → Prop) {i1 M : Nat} (hS1 : S i1) {F : Array Bool → Act → World → Prop} (hsel : ∀ (j : Nat) (o : Oper) cs b, ops[j]? = some o → o.op ≠ .select cs b) (hin : i1 < n)
  (hF : ∀ listed a w, F listed a w → ∀ j ∈ Region.ready md ops listed, n ≤ j)
  (hHN : ∀ listed, Closed md ops listed → listed.getD i1 true = false → ∀ j ∈ Region.ready md ops listed, j < n) :
  ∀ (f : Nat) (listed : Array Bool) (a : Act) (w : World), Closed md ops listed → C w →
   (∀ i, S i → ∃ o, ops[i]? = some o ∧ i ∈ Region.ready md ops listed ∧
    (∀ j oj, ops[j]? = some oj → j ≠ i → listed.getD j true = false → (∀ e ∈ oj.after, Region.binds md e = true → e.on ≠ i) → o.apart ops oj = true) ∧
    loud P ops L o i a w (fun v w' => C w' ∧ wpH P md ops C L n F f (listed.setIfInBounds i true) (a.put o.dst v) w')) →
   (∀ j, j < ops.size → listed.getD j true = false → ¬ S j → L j = true → ∃ i, S i ∧ reach md ops M j i = true) → wpH P md ops C L n F (f + 1) listed a w := by
 intro f
 induction f with
 | zero =>
  intro listed a w hc hw H hnl
  obtain ⟨o1, h1, hr1, hf1, H1⟩ := H i1 hS1
  have hun := (mem_ready.1 hr1).1
  refine ⟨fun h => (by rw [h] at hr1; cases hr1), fun j hj => ?_⟩
  have hjn := hHN listed hc hun j hj
  refine ⟨hjn, ?_⟩
  by_cases hji : j = i1
  ·subst hji; exact ⟨o1, h1, .inr H1⟩
  ·exfalso
   have hj' := ready_mono (i := i1) hj hji
   obtain ⟨_, _, hd⟩ := H1
   obtain ⟨v, w', _, hk⟩ := does_some hd
   have := hF _ _ _ hk j hj'; omega
 | succ f ih =>
  intro listed a w hc hw H hnl
  obtain ⟨o1, h1, hr1, hf1, H1⟩ := H i1 hS1
  have hun := (mem_ready.1 hr1).1
  refine ⟨fun h => (by rw [h] at hr1; cases hr1), fun j hj => ?_⟩
  have hjn := hHN listed hc hun j hj
  refine ⟨hjn, ?_⟩
  by_cases hjS : S j
  ·obtain ⟨oj, hoj, _, _, Hj⟩ := H j hjS
   exact ⟨oj, hoj, .inr Hj⟩
  have hjne : ∀ i, S i → j ≠ i := fun i hi e => hjS (e ▸ hi)
  obtain ⟨hjun, oj, hoj, hall⟩ := mem_ready.1 hj
  have sj : ∀ cs b, oj.op ≠ .select cs b := fun cs b => hsel j oj cs b hoj
  have hLj : L j = false := by
   cases hLj : L j with
   | false => rfl
   | true =>
    obtain ⟨i, hi, hr⟩ := hnl j (Array.getElem?_eq_some_iff.1 hoj).1 hjun hjS hLj
    obtain ⟨_, _, hri, _⟩ := H i hi
    have h3 := reach_listed hc M j i (.inl hj) hr
    rw [getD_both (mem_ready.1 hri).1] at h3; cases h3
  have hc' : Closed md ops (listed.setIfInBounds j true) := hc.set hj
  -- what is said of one of them
  have one : ∀ (i : Nat) (oi : Oper), ops[i]? = some oi → j ≠ i → listed.getD i true = false → i ∈ Region.ready md ops listed →
    (∀ j oj, ops[j]? = some oj → j ≠ i → listed.getD j true = false → (∀ e ∈ oj.after, Region.binds md e = true → e.on ≠ i) → oi.apart ops oj = true) →
    loud P ops L oi i a w (fun v w' => C w' ∧ wpH P md ops C L n F (f + 1) (listed.setIfInBounds i true) (a.put oi.dst v) w') →
    (∃ u, static P ops C L oj j a u) ∧ ∀ u, static P ops C L oj j a u → loud P ops L oi i (a.put oj.dst u) w (fun v w' => C w' ∧ wpH P md ops C L n F f ((listed.setIfInBounds j true).setIfInBounds i true) ((a.put oj.dst u).put oi.dst v) w') := by
   intro i oi hi hji hiun hri hfree hl
   have hj' := ready_mono hj hji
   have hnot : ∀ e ∈ oj.after, Region.binds md e = true → e.on ≠ i := fun e he hb heq => by
    have h1 := hall e he hb
    rw [heq, getD_both hiun] at h1
    cases h1
   obtain ⟨ap1, ap2, ap3⟩ := Oper.apart_spec (hfree j oj hoj hji hjun hnot)
   have si : ∀ cs b, oi.op ≠ .select cs b := fun cs b => hsel i oi cs b hi
   have hcomm : (listed.setIfInBounds i true).setIfInBounds j true = (listed.setIfInBounds j true).setIfInBounds i true := Array.setIfInBounds_comm _ _ (Ne.symm hji)
   have quietj : ∀ (v : Value) (w' : World), wpH P md ops C L n F (f + 1) (listed.setIfInBounds i true) (a.put oi.dst v) w' →
     ∃ u, static P ops C L oj j a u ∧ wpH P md ops C L n F f ((listed.setIfInBounds i true).setIfInBounds j true) ((a.put oi.dst v).put oj.dst u) w' := fun v w' hx => by
    obtain ⟨o', ho', hjo⟩ := (hx.2 j hj').2
    have : o' = oj := Option.some.inj (ho'.symm.trans hoj)
    subst this
    rcases hjo with ⟨u, hu, hk2⟩ | hl2
    ·exact ⟨u, (static_put sj ap1).1 hu, hk2⟩
    ·rw [hl2.2.1] at hLj; cases hLj
   obtain ⟨v0, w0, hw0, hk0⟩ := does_some hl.2.2
   obtain ⟨u0, hu0, _⟩ := quietj v0 w0 hk0
   refine ⟨⟨u0, hu0⟩, fun u hu => (loud_put si ap3).2 ⟨hl.1, hl.2.1, does_mono (fun v w' hx => ⟨hx.1, ?_⟩) hl.2.2⟩⟩
   obtain ⟨u', hu', hk2⟩ := quietj v w' hx.2
   have huu : u' = u := by
    rcases hu with ⟨h1, h2⟩ | ⟨h1, _, h2⟩ <;> rcases hu' with ⟨h3, h4⟩ | ⟨h3, _, h4⟩
    ·rw [h2, h4]
    ·rw [h1] at h3; cases h3
    ·rw [h1] at h3; cases h3
    ·exact yS_uniq hx.1 h4 h2
   subst huu
   rw [← hcomm, ← Act.put_comm a v u' ap2]; exact hk2
  obtain ⟨⟨u, hu⟩, _⟩ := one i1 o1 h1 (hjne i1 hS1) hun hr1 hf1 H1
  have sub : ∀ k, (listed.setIfInBounds j true).getD k true = false → listed.getD k true = false := fun k hk => by
   by_cases hjk : j = k
   ·subst hjk; exact hjun
   ·rw [getD_set_ne true hjk] at hk; exact hk
  refine ⟨oj, hoj, .inl ⟨u, hu, ?_⟩⟩
  refine ih _ _ _ hc' hw (fun i hi => ?_) (fun k hks hun' hkS hLk => hnl k hks (sub k hun') hkS hLk)
  obtain ⟨o, ho, hr, hf, hl⟩ := H i hi
  exact ⟨o, ho, ready_mono hr (Ne.symm (hjne i hi)), fun k ok hk hki hun' hno => hf k ok hk hki (sub k hun') hno, (one i o ho (hjne i hi) (mem_ready.1 hr).1 hr hf hl).2 u hu⟩
def Fin (P : Program) (l : List Oper) (Q : Exit → Act → World → Prop) (n : Nat) (listed : Array Bool) (a : Act) (w : World) : Prop :=
 Region.seqB .any l.toArray (l.toArray.size - n) n listed = true ∧ wpList P l.toArray Q (l.drop n) a w
def WF (P : Program) (l : List Oper) (C : World → Prop) (L : Nat → Bool) (n : Nat) (Q : Exit → Act → World → Prop) (f : Nat) (listed : Array Bool) (a : Act) (w : World) : Prop :=
 Closed .any l.toArray listed → C w → wpH P .any l.toArray C L n (Fin P l Q n) f listed a w
def baseB (ops : Array Oper) (n : Nat) : Bool := Region.noSelect ops && decide (n ≤ ops.size) && sinkB .any ops ops.size n
def stepB (ops : Array Oper) (L : Nat → Bool) (n k : Nat) (listed : Array Bool) : Bool :=
 baseB ops n && decide (k < n) && (Region.ready .any ops listed).contains k && Region.free .any ops listed k &&
  (!(L k) || (List.range ops.size).all fun j => j == k || listed.getD j true || !(L j) || reach .any ops ops.size j k)
def forkB (ops : Array Oper) (L : Nat → Bool) (n : Nat) (ks : List Nat) (listed : Array Bool) : Bool :=
 baseB ops n && (ks.all fun k => decide (k < n) && (Region.ready .any ops listed).contains k && Region.free .any ops listed k) &&
  ((List.range ops.size).all fun j => ks.contains j || listed.getD j true || !(L j) || ks.any fun k => reach .any ops ops.size j k)
variable {l : List Oper} {Q : Exit → Act → World → Prop} {f : Nat} {listed : Array Bool} {a : Act} {w : World}
theorem wf_step {k : Nat} {o : Oper} (hk : l.toArray[k]? = some o) (hB : stepB l.toArray L n k listed = true)
  (h : (∃ v, static P l.toArray C L o k a v ∧ WF P l C L n Q f (listed.setIfInBounds k true) (a.put o.dst v) w) ∨ loud P l.toArray L o k a w fun v w' => C w' ∧ WF P l C L n Q f (listed.setIfInBounds k true) (a.put o.dst v) w') :
  WF P l C L n Q (f + 1) listed a w := by
 intro hc hw
 simp only [stepB, baseB, Bool.and_eq_true, decide_eq_true_eq] at hB
 obtain ⟨⟨⟨⟨⟨⟨hsel, hn⟩, hs⟩, hkn⟩, hr⟩, hf⟩, hL⟩ := hB
 have hr' : k ∈ Region.ready .any l.toArray listed := by simpa using hr
 refine first (M := l.toArray.size) hk (Region.noSelect_spec hsel) hkn (fun listed' a' w' hL' => seqB_ready hL'.1) (fun listed' hc' hun' => sink_spec hs hkn listed' hc' hun') f listed a w hc hw (Region.free_spec hk hf) ?_ hr' ⟨o, hk, ?_⟩
 ·intro hLk j hjs hun hjk hLj
  rw [hLk] at hL
  simp only [Bool.not_true, Bool.false_or] at hL
  have := List.all_eq_true.1 hL j (List.mem_range.2 hjs)
  simpa [hjk, hun, hLj] using this
 ·rcases h with ⟨v, hv, h⟩ | h
  ·exact .inl ⟨v, hv, h (hc.set hr') hw⟩
  ·exact .inr ⟨h.1, h.2.1, does_mono (fun v w' hx => ⟨hx.1, hx.2 (hc.set hr') hx.1⟩) h.2.2⟩
theorem wf_forks (ks : List Nat) (hne : ks ≠ []) (hB : forkB l.toArray L n ks listed = true)
  (H : ∀ k ∈ ks, ∃ o, l.toArray[k]? = some o ∧ loud P l.toArray L o k a w fun v w' => C w' ∧ WF P l C L n Q f (listed.setIfInBounds k true) (a.put o.dst v) w') :
  WF P l C L n Q (f + 1) listed a w := by
 intro hc hw
 simp only [forkB, baseB, Bool.and_eq_true, decide_eq_true_eq] at hB
 obtain ⟨⟨⟨⟨hsel, hn⟩, hs⟩, hk⟩, hL⟩ := hB
 have hk' : ∀ k ∈ ks, k < n ∧ k ∈ Region.ready .any l.toArray listed ∧ Region.free .any l.toArray listed k = true := fun k hm => by
  have := List.all_eq_true.1 hk k hm
  simp only [Bool.and_eq_true, decide_eq_true_eq] at this
  exact ⟨this.1.1, by simpa using this.1.2, this.2⟩
 obtain ⟨k1, hk1⟩ : ∃ k, k ∈ ks := List.exists_mem_of_ne_nil ks hne
 refine firstS (· ∈ ks) (M := l.toArray.size) hk1 (Region.noSelect_spec hsel) (hk' k1 hk1).1 (fun listed' a' w' hL' => seqB_ready hL'.1) (fun listed' hc' hun' => sink_spec hs (hk' k1 hk1).1 listed' hc' hun') f listed a w hc hw (fun i hi => ?_) ?_
 ·obtain ⟨o, ho, hl⟩ := H i hi
  exact ⟨o, ho, (hk' i hi).2.1, Region.free_spec ho (hk' i hi).2.2, hl.1, hl.2.1, does_mono (fun v w' hx => ⟨hx.1, hx.2 (hc.set (hk' i hi).2.1) hx.1⟩) hl.2.2⟩
 ·intro j hjs hun hjS hLj
  have := List.all_eq_true.1 hL j (List.mem_range.2 hjs)
  simp only [Bool.or_eq_true, hun, hLj, Bool.not_true, Bool.false_eq_true, or_false] at this
  rcases this with h | h
  ·exact absurd (by simpa using h) hjS
  ·obtain ⟨i, hi, hr⟩ := List.any_eq_true.1 h
   exact ⟨i, hi, hr⟩
theorem loud_of {k : Nat} {o : Oper} (hg : Region.wanted o (yielded l.toArray a.tmps) = true) (hL : L k = true)
  (h : ∀ K : Act → World → Prop, (∀ a w, C w → WF P l C L n Q f (listed.setIfInBounds k true) a w → K a w) → does P o a w fun v w' => K (a.put o.dst v) w') :
  loud P l.toArray L o k a w fun v w' => C w' ∧ WF P l C L n Q f (listed.setIfInBounds k true) (a.put o.dst v) w' :=
 ⟨hg, hL, h (fun a w => C w ∧ WF P l C L n Q f (listed.setIfInBounds k true) a w) (fun _ _ hC hh => ⟨hC, hh⟩)⟩
theorem wf_fork (k1 k2 : Nat) {o1 o2 : Oper} (h1 : l.toArray[k1]? = some o1) (h2 : l.toArray[k2]? = some o2) (hB : forkB l.toArray L n [k1, k2] listed = true)
  (hg1 : Region.wanted o1 (yielded l.toArray a.tmps) = true) (hL1 : L k1 = true) (hg2 : Region.wanted o2 (yielded l.toArray a.tmps) = true) (hL2 : L k2 = true)
  (H1 : ∀ K : Act → World → Prop, (∀ a w, C w → WF P l C L n Q f (listed.setIfInBounds k1 true) a w → K a w) → does P o1 a w fun v w' => K (a.put o1.dst v) w')
  (H2 : ∀ K : Act → World → Prop, (∀ a w, C w → WF P l C L n Q f (listed.setIfInBounds k2 true) a w → K a w) → does P o2 a w fun v w' => K (a.put o2.dst v) w') :
  WF P l C L n Q (f + 1) listed a w :=
 wf_forks [k1, k2] (by simp) hB fun k hk => by
  simp only [List.mem_cons, List.not_mem_nil, or_false] at hk
  rcases hk with rfl | rfl
  ·exact ⟨o1, h1, loud_of hg1 hL1 H1⟩
  ·exact ⟨o2, h2, loud_of hg2 hL2 H2⟩
theorem wf_fork3 (k1 k2 k3 : Nat) {o1 o2 o3 : Oper} (h1 : l.toArray[k1]? = some o1) (h2 : l.toArray[k2]? = some o2) (h3 : l.toArray[k3]? = some o3) (hB : forkB l.toArray L n [k1, k2, k3] listed = true)
  (hg1 : Region.wanted o1 (yielded l.toArray a.tmps) = true) (hL1 : L k1 = true) (hg2 : Region.wanted o2 (yielded l.toArray a.tmps) = true) (hL2 : L k2 = true) (hg3 : Region.wanted o3 (yielded l.toArray a.tmps) = true) (hL3 : L k3 = true)
  (H1 : ∀ K : Act → World → Prop, (∀ a w, C w → WF P l C L n Q f (listed.setIfInBounds k1 true) a w → K a w) → does P o1 a w fun v w' => K (a.put o1.dst v) w')
  (H2 : ∀ K : Act → World → Prop, (∀ a w, C w → WF P l C L n Q f (listed.setIfInBounds k2 true) a w → K a w) → does P o2 a w fun v w' => K (a.put o2.dst v) w')
  (H3 : ∀ K : Act → World → Prop, (∀ a w, C w → WF P l C L n Q f (listed.setIfInBounds k3 true) a w → K a w) → does P o3 a w fun v w' => K (a.put o3.dst v) w') :
  WF P l C L n Q (f + 1) listed a w :=
 wf_forks [k1, k2, k3] (by simp) hB fun k hk => by
  simp only [List.mem_cons, List.not_mem_nil, or_false] at hk
  rcases hk with rfl | rfl | rfl
  ·exact ⟨o1, h1, loud_of hg1 hL1 H1⟩
  ·exact ⟨o2, h2, loud_of hg2 hL2 H2⟩
  ·exact ⟨o3, h3, loud_of hg3 hL3 H3⟩
theorem wf_q (k : Nat) {o : Oper} (hk : l.toArray[k]? = some o) (hB : stepB l.toArray L n k listed = true) (hg : o.guard = none) (hL : L k = false)
  (h : ∃ v, (∀ w, C w → (execOp a.eval o).run P w = .ok (.value v) w) ∧ WF P l C L n Q f (listed.setIfInBounds k true) (a.put o.dst v) w) : WF P l C L n Q (f + 1) listed a w :=
 let ⟨v, hv, hh⟩ := h
 wf_step hk hB (.inl ⟨v, .inr ⟨by simp [Region.wanted, hg], hL, fun w hw => .inl (hv w hw)⟩, hh⟩)
theorem wf_l (k : Nat) {o : Oper} (hk : l.toArray[k]? = some o) (hB : stepB l.toArray L n k listed = true) (hg : Region.wanted o (yielded l.toArray a.tmps) = true) (hL : L k = true)
  (h : ∀ K : Act → World → Prop, (∀ a w, C w → WF P l C L n Q f (listed.setIfInBounds k true) a w → K a w) → does P o a w fun v w' => K (a.put o.dst v) w') : WF P l C L n Q (f + 1) listed a w :=
 wf_step hk hB (.inr ⟨hg, hL, h (fun a w => C w ∧ WF P l C L n Q f (listed.setIfInBounds k true) a w) (fun _ _ hC hh => ⟨hC, hh⟩)⟩)
theorem wf_nil (hB : Region.seqB .any l.toArray (l.toArray.size - n) n listed = true) (h : wpList P l.toArray Q (l.drop n) a w) : WF P l C L n Q 0 listed a w := fun _ _ => ⟨hB, h⟩
theorem wf_norm (h : ∀ K : Act → Prop, (∀ a, WF P l C L n Q f listed a w → K a) → K a) : WF P l C L n Q f listed a w := h _ fun _ h => h
theorem wp_region_fork {id : Nat} (L : Nat → Bool) (n : Nat) (C : World → Prop) (hm : P.follows .mixedOrders = true) (hn : n ≤ l.length) (hC : C w.drew)
  (h : WF P l C L n Q n (Array.replicate l.toArray.size false) a w.drew) : (Code.region id l.toArray true).wp P Q a w := by
 have hdl : (l.drop n).length = l.toArray.size - n := by simp
 have inv0 : Closed .any l.toArray (Array.replicate l.toArray.size false) := fun j oj _ hl => (by rw [getD_replicate_false] at hl; cases hl)
 have H := h inv0 hC
 refine wp_region_any hm ?_
 have key : ∀ (f : Nat) (listed : Array Bool) (a : Act) (w : World), C w →
   wpH P .any l.toArray C L n (Fin P l Q n) f listed a w →
   wpAny P .any l.toArray Q (f + (l.drop n).length) listed a w := by
  intro f
  induction f with
  | zero =>
   intro listed a w _ hh
   rw [Nat.zero_add]
   exact wpAny_of_seq (md := .any) (Q' := Q) (l.drop n) n listed a w (fun j => by simp [List.getElem?_drop]) (by rw [hdl]; exact hh.1) hh.2
  | succ f ih =>
   intro listed a w hCw hh
   rw [show f + 1 + (l.drop n).length = (f + (l.drop n).length) + 1 by omega]
   refine ⟨fun h0 => absurd h0 hh.1, fun i hi => ?_⟩
   obtain ⟨_, o, ho, hop⟩ := hh.2 i hi
   unfold wpOp
   simp only [ho]
   rcases hop with ⟨v, hv, hk⟩ | ⟨hw, _, hd⟩
   ·rcases hv with ⟨hw, rfl⟩ | ⟨hw, _, hy⟩
    ·rw [if_neg (by rw [hw]; exact Bool.false_ne_true)]
     exact ih _ _ _ hCw hk
    ·rw [if_pos hw]
     left
     unfold Oper.wp
     rcases hy w hCw with h1 | ⟨h1, h2⟩
     ·rw [h1, Oper.upon_value]; exact ih _ _ _ hCw hk
     ·rw [h1, Oper.upon_skip]; rw [h2] at hk; exact ih _ _ _ hCw hk
   ·rw [if_pos hw]
    exact .inl (wp_of_does (fun v w' hx => ih _ _ _ hx.1 hx.2) hd)
 have := key _ _ _ _ hC H
 rw [hdl, show n + (l.toArray.size - n) = l.toArray.size by simp; omega] at this
 exact this
end
end Loud
end Go.Proofs.YtclekllaikcglaaGreat

/- Regions that draw their order: guarded operations. -/
namespace Go.Proofs.YtclekllaikcglaaGreat
open Go
namespace Loud
section
variable {P : Program} {C : World → Prop} {L : Nat → Bool} {n : Nat} {l : List Oper} {Q : Exit → Act → World → Prop} {f : Nat} {listed : Array Bool} {a : Act} {w : World}
end
end Loud
end Go.Proofs.YtclekllaikcglaaGreat
