import Derived.Test.YtclekllaikcglaaGreatSha
import Derived.Test.YtclekllaikcglaaGreatMap

/- Contracts: layer 2, the program's state behind a block. -/
namespace Go.Proofs.YtclekllaikcglaaGreat
open Go Go.RowKit
structure St where
 a : UInt32
 b : UInt32
 c : UInt32
 d : UInt32
 e : UInt32
 f : UInt32
 g : UInt32
 h : UInt32
def St.v (s : St) : Array Value := #[.int .u32 s.a.toNat, .int .u32 s.b.toNat, .int .u32 s.c.toNat, .int .u32 s.d.toNat, .int .u32 s.e.toNat, .int .u32 s.f.toNat, .int .u32 s.g.toNat, .int .u32 s.h.toNat]
def rndX (s : St) (k w : UInt32) : UInt32 := p32 (p32 (p32 (p32 s.h (turnedS s.e [6, 11, 25])) (x32 s.g (a32 s.e (x32 s.f s.g)))) k) w
def rndY (s : St) : UInt32 := p32 (turnedS s.a [2, 13, 22]) (o32 (a32 s.a s.b) (a32 s.c (o32 s.a s.b)))
def rnd (s : St) (k w : UInt32) : St := ⟨p32 (rndX s k w) (rndY s), s.a, s.b, s.c, p32 s.d (rndX s k w), s.e, s.f, s.g⟩
def addSt (s t : St) : St := ⟨p32 s.a t.a, p32 s.b t.b, p32 s.c t.c, p32 s.d t.d, p32 s.e t.e, p32 s.f t.f, p32 s.g t.g, p32 s.h t.h⟩
def roundsN (s : St) (W : List UInt32) : Nat → St
 | 0 => s
 | n + 1 => rnd (roundsN s W n) (kT.getD n 0) (W.getD n 0)
def St.list (s : St) : List UInt32 := [s.a, s.b, s.c, s.d, s.e, s.f, s.g, s.h]
theorem St.v_list (s : St) : s.v = wcells s.list := rfl
theorem addSt_at (s t : St) (k : Nat) (hk : k < 8) : (addSt s t).list.getD k 0 = p32 (s.list.getD k 0) (t.list.getD k 0) := by
 match k, hk with
 | 0, _ => rfl
 | 1, _ => rfl
 | 2, _ => rfl
 | 3, _ => rfl
 | 4, _ => rfl
 | 5, _ => rfl
 | 6, _ => rfl
 | 7, _ => rfl
theorem mix_at (l m : List UInt32) (k : Nat) (hl : l.length = 8) (hm : m.length = 8) (hk : k < 8) : (m.take k ++ l.drop k)[k]? = some (l.getD k 0) := by
 rw [List.getElem?_append_right (by rw [List.length_take]; omega), List.length_take, Nat.min_eq_left (by omega), List.getElem?_drop]
 simp [List.getD, hl, hk]
theorem mix_set (l m : List UInt32) (k : Nat) (hl : l.length = 8) (hm : m.length = 8) (hk : k < 8) : (m.take k ++ l.drop k).set k (m.getD k 0) = m.take (k + 1) ++ l.drop (k + 1) := by
 rw [List.set_append_right _ _ (by rw [List.length_take]; omega), List.length_take, Nat.min_eq_left (by omega), Nat.sub_self, List.drop_eq_getElem_cons (by omega), List.set_cons_zero, List.take_succ_eq_append_getElem (by omega), List.append_assoc]
 simp [List.getD, hm, hk]
def behindS (s : St) (b : List UInt8) : St := addSt s (roundsN s (words b) 64)
namespace Loud
theorem does_alloc {P : Program} {o : Oper} {a : Act} {w : World} {R : Value → World → Prop} (cs : Array Value) (T : TypeId)
  (hrun : (execOp a.eval o).run P w = .ok (.value (.pointer (some ⟨w.heap.size, 0, none⟩))) (w.alloc (.cells cs T)))
  (h : ∀ b w', w'.heap[b]? = some (.cells cs T) → w.heap.size ≤ b → Ext w w' → R (.pointer (some ⟨b, 0, none⟩)) w') : does P o a w R := by
 unfold does
 rw [hrun]
 exact h w.heap.size _ (heap_alloc_new _ _) (Nat.le_refl _) ((Ext.refl w).alloc _)
end Loud
theorem wpl_copy_cells {P : Program} {ops : Array Oper} {rest : List Oper} {o : Oper} {a : Act} {Q : Exit → Act → World → Prop} {w : World} (hgd : o.guard = none) {d x : Operand} {dT sT elem : TypeId}
  (ho : o.op = .call { callee := .builtin .copy, args := #[d, x], argTypes := #[dT, sT] }) (hu : P.underlying dT = some (.slice elem)) (hs : (P.info? elem).map (·.size) = some 1)
  {g off dLen dCap sLen sCap : Nat} {ad : Addr} {cur : Array Value} {t : TypeId} (cs : List Value) (h1 : a.eval d = .slice (some ⟨g, off, none⟩) dLen dCap) (h2 : a.eval x = .slice (some ad) sLen sCap)
  (hg : w.heap[g]? = some (.cells cur t (0, 0))) (hn : cs.length = Nat.min sLen dLen) (hsrc : ∀ j v, cs[j]? = some v → w.cell? (ad.add j) = some v) (hfit : off + cs.length ≤ cur.size) (hone : ∀ v ∈ cs, v.oneCell' = true)
  (h : ∀ w', w'.heap[g]? = some (.cells (cur.toList.take off ++ cs ++ cur.toList.drop (off + cs.length)).toArray t (0, 0)) → But [g] w w' → wpList P ops Q rest (a.put o.dst (goInt cs.length)) w') : wpList P ops Q (o :: rest) a w := by
 refine wpList_plain hgd fun K hK => ?_
 have hr := run_copy_row (P := P) w dT sT o.type elem g off dLen dCap ad sLen sCap cur t cs hu hs hg hn hsrc hfit hone
 unfold Oper.wp execOp
 simp only [ho, resolve, invoke, builtin, Sem.run_bind, Sem.run_pure, Result.andThen_ok, List.map_toArray, List.map_cons, List.map_nil, h1, h2, hr]
 exact hK _ _ (h _ (setRow_heap w g cur _ t _ hg) ⟨rfl, rfl, rfl, by simp [World.setRow], fun k hk hne => setRow_other w g k _ (fun e => hne (by simp [e]))⟩)
theorem info_u32s : (Tryz.prog.info? 46).map (·.size) = some 1 := by kernel_rfl
def z8 : Array Value := #[.int .u32 0, .int .u32 0, .int .u32 0, .int .u32 0, .int .u32 0, .int .u32 0, .int .u32 0, .int .u32 0]
theorem info_st : (Tryz.prog.info? 175).map (·.size) = some 8 := by kernel_rfl
theorem und_st : Tryz.prog.underlying 175 = some (.array 8 46) := by kernel_rfl
set_option maxRecDepth 100000 in
set_option maxHeartbeats 8000000 in
theorem behind_gen (s : St) (b : List UInt8) (W : List UInt32) (R : Nat → St) (w : World) (hb : b.length = 64) (hW : W.length = 64) (hWV : words b = W) (hR0 : R 0 = s) (hRS : ∀ n, n < 64 → R (n + 1) = rnd (R n) (kT.getD n 0) (W.getD n 0)) :
  Calls Tryz.prog 129 #[.agg s.v, .string (bs b)] w fun e w' => e = .returned (.agg (addSt s (R 64)).v) ∧ Ext w w' := by
 have GW := Lib.hid (fun w => hWV ▸ Words_yes b w hb)
 have GT := Lib.hid table_any
 have HWL := Lib.hid hW
 have HR0 := Lib.hid hR0; have HRS := Lib.hid hRS
 have H1 := Lib.hid kV_one
 have HI := Lib.hid (show (Tryz.prog.info? 197).map (·.size) = some kV.size by rw [kV_size]; exact info_tab)
 have HZ := Lib.hid (show kZ.size = kV.size by rw [kV_size, kZ_size])
 have HKV := Lib.hid kV_size
 clear hb hW hWV hR0 hRS
 unfold St.v
 go_enter Tryz.func129, Tryz.ntmps129
 go_upto_region 1 with fail
 have hs0 : ((w.alloc (.cells #[.int .u32 s.a.toNat, .int .u32 s.b.toNat, .int .u32 s.c.toNat, .int .u32 s.d.toNat, .int .u32 s.e.toNat, .int .u32 s.f.toNat, .int .u32 s.g.toNat, .int .u32 s.h.toNat] 175)).alloc (.cells z8 175)).heap[w.heap.size]? = some (.cells #[.int .u32 s.a.toNat, .int .u32 s.b.toNat, .int .u32 s.c.toNat, .int .u32 s.d.toNat, .int .u32 s.e.toNat, .int .u32 s.f.toNat, .int .u32 s.g.toNat, .int .u32 s.h.toNat] 175) := heap_alloc_old _ _ (heap_alloc_new _ _)
 have hs1 : ((w.alloc (.cells #[.int .u32 s.a.toNat, .int .u32 s.b.toNat, .int .u32 s.c.toNat, .int .u32 s.d.toNat, .int .u32 s.e.toNat, .int .u32 s.f.toNat, .int .u32 s.g.toNat, .int .u32 s.h.toNat] 175)).alloc (.cells z8 175)).heap[w.heap.size + 1]? = some (.cells z8 175) := by
  have := heap_alloc_new (w.alloc (.cells #[.int .u32 s.a.toNat, .int .u32 s.b.toNat, .int .u32 s.c.toNat, .int .u32 s.d.toNat, .int .u32 s.e.toNat, .int .u32 s.f.toNat, .int .u32 s.g.toNat, .int .u32 s.h.toNat] 175)) (.cells z8 175)
  simpa using this
 have hs2 : Ext w ((w.alloc (.cells #[.int .u32 s.a.toNat, .int .u32 s.b.toNat, .int .u32 s.c.toNat, .int .u32 s.d.toNat, .int .u32 s.e.toNat, .int .u32 s.f.toNat, .int .u32 s.g.toNat, .int .u32 s.h.toNat] 175)).alloc (.cells z8 175)) := ((Ext.refl w).alloc _).alloc _
 change Code.wp _ _ _ _ ((w.alloc (.cells #[.int .u32 s.a.toNat, .int .u32 s.b.toNat, .int .u32 s.c.toNat, .int .u32 s.d.toNat, .int .u32 s.e.toNat, .int .u32 s.f.toNat, .int .u32 s.g.toNat, .int .u32 s.h.toNat] 175)).alloc (.cells z8 175))
 generalize (w.alloc (.cells #[.int .u32 s.a.toNat, .int .u32 s.b.toNat, .int .u32 s.c.toNat, .int .u32 s.d.toNat, .int .u32 s.e.toNat, .int .u32 s.f.toNat, .int .u32 s.g.toNat, .int .u32 s.h.toNat] 175)).alloc (.cells z8 175) = w1 at hs0 hs1 hs2
 have hsz1 := hs2.size
 have hlt0 := blk_lt hs0; have hlt1 := blk_lt hs1
 have HS0 := Lib.hid hs0; have HS1 := Lib.hid hs1
 go_cut [5, 6] from 14 to 15 (fun p q wc => ∃ bv bk, p = .pointer (some ⟨bv, 0, none⟩) ∧ q = .pointer (some ⟨bk, 0, none⟩) ∧ wc.heap[bv]? = some (.cells #[.int .u32 s.a.toNat, .int .u32 s.b.toNat, .int .u32 s.c.toNat, .int .u32 s.d.toNat, .int .u32 s.e.toNat, .int .u32 s.f.toNat, .int .u32 s.g.toNat, .int .u32 s.h.toNat] 175) ∧ wc.heap[bk]? = some (.cells kV 197) ∧ w1.heap.size ≤ bv ∧ w1.heap.size ≤ bk ∧ Ext w1 wc)
 case first =>
  have q0 : ∀ wq, Ext w1 wq → wq.cell? ⟨w.heap.size, 0, none⟩ = some (.int .u32 s.a.toNat) := fun wq hq => cell_blk (hq.keep HS0.out) rfl
  have q1 : ∀ wq, Ext w1 wq → wq.cell? ⟨w.heap.size, 1, none⟩ = some (.int .u32 s.b.toNat) := fun wq hq => cell_blk (hq.keep HS0.out) rfl
  have q2 : ∀ wq, Ext w1 wq → wq.cell? ⟨w.heap.size, 2, none⟩ = some (.int .u32 s.c.toNat) := fun wq hq => cell_blk (hq.keep HS0.out) rfl
  have q3 : ∀ wq, Ext w1 wq → wq.cell? ⟨w.heap.size, 3, none⟩ = some (.int .u32 s.d.toNat) := fun wq hq => cell_blk (hq.keep HS0.out) rfl
  have q4 : ∀ wq, Ext w1 wq → wq.cell? ⟨w.heap.size, 4, none⟩ = some (.int .u32 s.e.toNat) := fun wq hq => cell_blk (hq.keep HS0.out) rfl
  have q5 : ∀ wq, Ext w1 wq → wq.cell? ⟨w.heap.size, 5, none⟩ = some (.int .u32 s.f.toNat) := fun wq hq => cell_blk (hq.keep HS0.out) rfl
  have q6 : ∀ wq, Ext w1 wq → wq.cell? ⟨w.heap.size, 6, none⟩ = some (.int .u32 s.g.toNat) := fun wq hq => cell_blk (hq.keep HS0.out) rfl
  have q7 : ∀ wq, Ext w1 wq → wq.cell? ⟨w.heap.size, 7, none⟩ = some (.int .u32 s.h.toNat) := fun wq hq => cell_blk (hq.keep HS0.out) rfl
  refine Loud.wp_region_fork (fun i => decide (i=1∨i=2∨i=3)) 4 (fun w' => Ext w1 w') (by kernel_rfl) (by decide) (by show Ext _ _; repeat (first | exact Ext.refl _ | assumption | (with_reducible refine Ext.drew ?_) | (with_reducible refine Ext.drewN ?_ _) | (with_reducible refine Ext.alloc ?_ _) | (refine Ext.trans ?_ (by assumption)))) ?_
  refine Loud.wf_q 0 rfl (by kernel_rfl) rfl rfl ?_; apply Exists.intro; refine ⟨fun wq hq => ?_, Loud.wf_norm fun K hK => ?_⟩; (go_simp; try rfl); go_simp; refine hK _ ?_; clear hK K
  refine Loud.wf_fork3 1 2 3 rfl rfl rfl (by kernel_rfl) rfl rfl rfl rfl rfl rfl (fun K hK => ?_) (fun K hK => ?_) (fun K hK => ?_)
  ·go_simp; refine (GT.out _).mono ?_; rintro e wc ⟨rfl, hwc⟩; refine ⟨_, rfl, ?_⟩; go_simp; refine hK _ _ (by show Ext _ _; repeat (first | exact Ext.refl _ | assumption | (with_reducible refine Ext.drew ?_) | (with_reducible refine Ext.drewN ?_ _) | (with_reducible refine Ext.alloc ?_ _) | (refine Ext.trans ?_ (by assumption)))) ?_; clear hK K
   refine Loud.wf_fork 2 3 rfl rfl (by kernel_rfl) rfl rfl rfl rfl (fun K hK => ?_) (fun K hK => ?_)
   ·refine Loud.does_alloc z8 175 (by kernel_rfl) (fun bv wv hmv hbv hwv => ?_); refine hK _ _ (by show Ext _ _; repeat (first | exact Ext.refl _ | assumption | (with_reducible refine Ext.drew ?_) | (with_reducible refine Ext.drewN ?_ _) | (with_reducible refine Ext.alloc ?_ _) | (refine Ext.trans ?_ (by assumption)))) ?_; clear hK K
    refine Loud.wf_l 3 rfl (by kernel_rfl) rfl rfl (fun K hK => ?_); refine Loud.does_alloc kZ 197 (by kernel_rfl) (fun bk wk hmk hbk hwk => ?_); refine hK _ _ (by show Ext _ _; repeat (first | exact Ext.refl _ | assumption | (with_reducible refine Ext.drew ?_) | (with_reducible refine Ext.drewN ?_ _) | (with_reducible refine Ext.alloc ?_ _) | (refine Ext.trans ?_ (by assumption)))) ?_; clear hK K
    refine Loud.wf_nil (by kernel_rfl) ?_
    simp only [List.drop_succ_cons, List.drop_zero]
    have hlt := blk_lt hmv
    have hbb : bv ≠ bk := by omega
    have e1 := (show Ext w1 wk from (by repeat (first | exact Ext.refl _ | assumption | (with_reducible refine Ext.drew ?_) | (with_reducible refine Ext.drewN ?_ _) | (with_reducible refine Ext.alloc ?_ _) | (refine Ext.trans ?_ (by assumption)))))
    have z1 := e1.size
    have hv3 := (hwk.keep hmv)
    have hk3 := hmk
    have hge1 : w1.heap.size ≤ bv := by have y0 := hwc.size; have yy := hbv; simp at *; omega
    have hge2 : w1.heap.size ≤ bk := by have y0 := hwc.size; have y1 := hwv.size; have yy := hbk; simp at *; omega
    refine wpList_store_row rfl _ _ _ rfl bv #[.int .u32 s.a.toNat, .int .u32 s.b.toNat, .int .u32 s.c.toNat, .int .u32 s.d.toNat, .int .u32 s.e.toNat, .int .u32 s.f.toNat, .int .u32 s.g.toNat, .int .u32 s.h.toNat] rfl rfl _ _ hv3 info_st rfl (by simp [Value.oneCell']) ?_
    refine wpList_store_row rfl _ _ _ rfl bk kV rfl rfl _ _ (by rw [setRow_other _ _ _ _ (Ne.symm hbb)]; exact hk3) HI.out HZ.out H1.out ?_
    have hv4 : ((wk.setRow bv #[.int .u32 s.a.toNat, .int .u32 s.b.toNat, .int .u32 s.c.toNat, .int .u32 s.d.toNat, .int .u32 s.e.toNat, .int .u32 s.f.toNat, .int .u32 s.g.toNat, .int .u32 s.h.toNat]).setRow bk kV).heap[bv]? = some (.cells #[.int .u32 s.a.toNat, .int .u32 s.b.toNat, .int .u32 s.c.toNat, .int .u32 s.d.toNat, .int .u32 s.e.toNat, .int .u32 s.f.toNat, .int .u32 s.g.toNat, .int .u32 s.h.toNat] 175) := by
     rw [setRow_other _ _ _ _ hbb]; exact setRow_heap _ _ _ _ _ _ hv3
    have hk4 : ((wk.setRow bv #[.int .u32 s.a.toNat, .int .u32 s.b.toNat, .int .u32 s.c.toNat, .int .u32 s.d.toNat, .int .u32 s.e.toNat, .int .u32 s.f.toNat, .int .u32 s.g.toNat, .int .u32 s.h.toNat]).setRow bk kV).heap[bk]? = some (.cells kV 197) := by
     refine setRow_heap _ _ kZ _ _ (0, 0) ?_
     rw [setRow_other _ _ _ _ (Ne.symm hbb)]; exact hk3
    have hx4 : Ext w1 ((wk.setRow bv #[.int .u32 s.a.toNat, .int .u32 s.b.toNat, .int .u32 s.c.toNat, .int .u32 s.d.toNat, .int .u32 s.e.toNat, .int .u32 s.f.toNat, .int .u32 s.g.toNat, .int .u32 s.h.toNat]).setRow bk kV) := below_setRow (below_setRow e1 hge1 _) hge2 _
    generalize (wk.setRow bv #[.int .u32 s.a.toNat, .int .u32 s.b.toNat, .int .u32 s.c.toNat, .int .u32 s.d.toNat, .int .u32 s.e.toNat, .int .u32 s.f.toNat, .int .u32 s.g.toNat, .int .u32 s.h.toNat]).setRow bk kV = w4 at hv4 hk4 hx4
    have HV4 := Lib.hid hv4; have HK4 := Lib.hid hk4
    clear hv4 hk4 hv3 hk3
    go_wp2
    go_meet
    case rel => exact ⟨bv, bk, rfl, rfl, HV4.out, HK4.out, hge1, hge2, hx4⟩
   ·refine Loud.does_alloc kZ 197 (by kernel_rfl) (fun bk wk hmk hbk hwk => ?_); refine hK _ _ (by show Ext _ _; repeat (first | exact Ext.refl _ | assumption | (with_reducible refine Ext.drew ?_) | (with_reducible refine Ext.drewN ?_ _) | (with_reducible refine Ext.alloc ?_ _) | (refine Ext.trans ?_ (by assumption)))) ?_; clear hK K
    refine Loud.wf_l 2 rfl (by kernel_rfl) rfl rfl (fun K hK => ?_); refine Loud.does_alloc z8 175 (by kernel_rfl) (fun bv wv hmv hbv hwv => ?_); refine hK _ _ (by show Ext _ _; repeat (first | exact Ext.refl _ | assumption | (with_reducible refine Ext.drew ?_) | (with_reducible refine Ext.drewN ?_ _) | (with_reducible refine Ext.alloc ?_ _) | (refine Ext.trans ?_ (by assumption)))) ?_; clear hK K
    refine Loud.wf_nil (by kernel_rfl) ?_
    simp only [List.drop_succ_cons, List.drop_zero]
    have hlt := blk_lt hmk
    have hbb : bv ≠ bk := by omega
    have e1 := (show Ext w1 wv from (by repeat (first | exact Ext.refl _ | assumption | (with_reducible refine Ext.drew ?_) | (with_reducible refine Ext.drewN ?_ _) | (with_reducible refine Ext.alloc ?_ _) | (refine Ext.trans ?_ (by assumption)))))
    have z1 := e1.size
    have hv3 := hmv
    have hk3 := (hwv.keep hmk)
    have hge1 : w1.heap.size ≤ bv := by have y0 := hwc.size; have y1 := hwk.size; have yy := hbv; simp at *; omega
    have hge2 : w1.heap.size ≤ bk := by have y0 := hwc.size; have yy := hbk; simp at *; omega
    refine wpList_store_row rfl _ _ _ rfl bv #[.int .u32 s.a.toNat, .int .u32 s.b.toNat, .int .u32 s.c.toNat, .int .u32 s.d.toNat, .int .u32 s.e.toNat, .int .u32 s.f.toNat, .int .u32 s.g.toNat, .int .u32 s.h.toNat] rfl rfl _ _ hv3 info_st rfl (by simp [Value.oneCell']) ?_
    refine wpList_store_row rfl _ _ _ rfl bk kV rfl rfl _ _ (by rw [setRow_other _ _ _ _ (Ne.symm hbb)]; exact hk3) HI.out HZ.out H1.out ?_
    have hv4 : ((wv.setRow bv #[.int .u32 s.a.toNat, .int .u32 s.b.toNat, .int .u32 s.c.toNat, .int .u32 s.d.toNat, .int .u32 s.e.toNat, .int .u32 s.f.toNat, .int .u32 s.g.toNat, .int .u32 s.h.toNat]).setRow bk kV).heap[bv]? = some (.cells #[.int .u32 s.a.toNat, .int .u32 s.b.toNat, .int .u32 s.c.toNat, .int .u32 s.d.toNat, .int .u32 s.e.toNat, .int .u32 s.f.toNat, .int .u32 s.g.toNat, .int .u32 s.h.toNat] 175) := by
     rw [setRow_other _ _ _ _ hbb]; exact setRow_heap _ _ _ _ _ _ hv3
    have hk4 : ((wv.setRow bv #[.int .u32 s.a.toNat, .int .u32 s.b.toNat, .int .u32 s.c.toNat, .int .u32 s.d.toNat, .int .u32 s.e.toNat, .int .u32 s.f.toNat, .int .u32 s.g.toNat, .int .u32 s.h.toNat]).setRow bk kV).heap[bk]? = some (.cells kV 197) := by
     refine setRow_heap _ _ kZ _ _ (0, 0) ?_
     rw [setRow_other _ _ _ _ (Ne.symm hbb)]; exact hk3
    have hx4 : Ext w1 ((wv.setRow bv #[.int .u32 s.a.toNat, .int .u32 s.b.toNat, .int .u32 s.c.toNat, .int .u32 s.d.toNat, .int .u32 s.e.toNat, .int .u32 s.f.toNat, .int .u32 s.g.toNat, .int .u32 s.h.toNat]).setRow bk kV) := below_setRow (below_setRow e1 hge1 _) hge2 _
    generalize (wv.setRow bv #[.int .u32 s.a.toNat, .int .u32 s.b.toNat, .int .u32 s.c.toNat, .int .u32 s.d.toNat, .int .u32 s.e.toNat, .int .u32 s.f.toNat, .int .u32 s.g.toNat, .int .u32 s.h.toNat]).setRow bk kV = w4 at hv4 hk4 hx4
    have HV4 := Lib.hid hv4; have HK4 := Lib.hid hk4
    clear hv4 hk4 hv3 hk3
    go_wp2
    go_meet
    case rel => exact ⟨bv, bk, rfl, rfl, HV4.out, HK4.out, hge1, hge2, hx4⟩
  ·refine Loud.does_alloc z8 175 (by kernel_rfl) (fun bv wv hmv hbv hwv => ?_); refine hK _ _ (by show Ext _ _; repeat (first | exact Ext.refl _ | assumption | (with_reducible refine Ext.drew ?_) | (with_reducible refine Ext.drewN ?_ _) | (with_reducible refine Ext.alloc ?_ _) | (refine Ext.trans ?_ (by assumption)))) ?_; clear hK K
   refine Loud.wf_fork 1 3 rfl rfl (by kernel_rfl) rfl rfl rfl rfl (fun K hK => ?_) (fun K hK => ?_)
   ·go_simp; refine (GT.out _).mono ?_; rintro e wc ⟨rfl, hwc⟩; refine ⟨_, rfl, ?_⟩; go_simp; refine hK _ _ (by show Ext _ _; repeat (first | exact Ext.refl _ | assumption | (with_reducible refine Ext.drew ?_) | (with_reducible refine Ext.drewN ?_ _) | (with_reducible refine Ext.alloc ?_ _) | (refine Ext.trans ?_ (by assumption)))) ?_; clear hK K
    refine Loud.wf_l 3 rfl (by kernel_rfl) rfl rfl (fun K hK => ?_); refine Loud.does_alloc kZ 197 (by kernel_rfl) (fun bk wk hmk hbk hwk => ?_); refine hK _ _ (by show Ext _ _; repeat (first | exact Ext.refl _ | assumption | (with_reducible refine Ext.drew ?_) | (with_reducible refine Ext.drewN ?_ _) | (with_reducible refine Ext.alloc ?_ _) | (refine Ext.trans ?_ (by assumption)))) ?_; clear hK K
    refine Loud.wf_nil (by kernel_rfl) ?_
    simp only [List.drop_succ_cons, List.drop_zero]
    have hlt := Nat.lt_of_lt_of_le (blk_lt hmv) hwc.size
    have hbb : bv ≠ bk := by omega
    have e1 := (show Ext w1 wk from (by repeat (first | exact Ext.refl _ | assumption | (with_reducible refine Ext.drew ?_) | (with_reducible refine Ext.drewN ?_ _) | (with_reducible refine Ext.alloc ?_ _) | (refine Ext.trans ?_ (by assumption)))))
    have z1 := e1.size
    have hv3 := (hwk.keep (hwc.keep hmv))
    have hk3 := hmk
    have hge1 : w1.heap.size ≤ bv := by  have yy := hbv; simp at *; omega
    have hge2 : w1.heap.size ≤ bk := by have y0 := hwv.size; have y1 := hwc.size; have yy := hbk; simp at *; omega
    refine wpList_store_row rfl _ _ _ rfl bv #[.int .u32 s.a.toNat, .int .u32 s.b.toNat, .int .u32 s.c.toNat, .int .u32 s.d.toNat, .int .u32 s.e.toNat, .int .u32 s.f.toNat, .int .u32 s.g.toNat, .int .u32 s.h.toNat] rfl rfl _ _ hv3 info_st rfl (by simp [Value.oneCell']) ?_
    refine wpList_store_row rfl _ _ _ rfl bk kV rfl rfl _ _ (by rw [setRow_other _ _ _ _ (Ne.symm hbb)]; exact hk3) HI.out HZ.out H1.out ?_
    have hv4 : ((wk.setRow bv #[.int .u32 s.a.toNat, .int .u32 s.b.toNat, .int .u32 s.c.toNat, .int .u32 s.d.toNat, .int .u32 s.e.toNat, .int .u32 s.f.toNat, .int .u32 s.g.toNat, .int .u32 s.h.toNat]).setRow bk kV).heap[bv]? = some (.cells #[.int .u32 s.a.toNat, .int .u32 s.b.toNat, .int .u32 s.c.toNat, .int .u32 s.d.toNat, .int .u32 s.e.toNat, .int .u32 s.f.toNat, .int .u32 s.g.toNat, .int .u32 s.h.toNat] 175) := by
     rw [setRow_other _ _ _ _ hbb]; exact setRow_heap _ _ _ _ _ _ hv3
    have hk4 : ((wk.setRow bv #[.int .u32 s.a.toNat, .int .u32 s.b.toNat, .int .u32 s.c.toNat, .int .u32 s.d.toNat, .int .u32 s.e.toNat, .int .u32 s.f.toNat, .int .u32 s.g.toNat, .int .u32 s.h.toNat]).setRow bk kV).heap[bk]? = some (.cells kV 197) := by
     refine setRow_heap _ _ kZ _ _ (0, 0) ?_
     rw [setRow_other _ _ _ _ (Ne.symm hbb)]; exact hk3
    have hx4 : Ext w1 ((wk.setRow bv #[.int .u32 s.a.toNat, .int .u32 s.b.toNat, .int .u32 s.c.toNat, .int .u32 s.d.toNat, .int .u32 s.e.toNat, .int .u32 s.f.toNat, .int .u32 s.g.toNat, .int .u32 s.h.toNat]).setRow bk kV) := below_setRow (below_setRow e1 hge1 _) hge2 _
    generalize (wk.setRow bv #[.int .u32 s.a.toNat, .int .u32 s.b.toNat, .int .u32 s.c.toNat, .int .u32 s.d.toNat, .int .u32 s.e.toNat, .int .u32 s.f.toNat, .int .u32 s.g.toNat, .int .u32 s.h.toNat]).setRow bk kV = w4 at hv4 hk4 hx4
    have HV4 := Lib.hid hv4; have HK4 := Lib.hid hk4
    clear hv4 hk4 hv3 hk3
    go_wp2
    go_meet
    case rel => exact ⟨bv, bk, rfl, rfl, HV4.out, HK4.out, hge1, hge2, hx4⟩
   ·refine Loud.does_alloc kZ 197 (by kernel_rfl) (fun bk wk hmk hbk hwk => ?_); refine hK _ _ (by show Ext _ _; repeat (first | exact Ext.refl _ | assumption | (with_reducible refine Ext.drew ?_) | (with_reducible refine Ext.drewN ?_ _) | (with_reducible refine Ext.alloc ?_ _) | (refine Ext.trans ?_ (by assumption)))) ?_; clear hK K
    refine Loud.wf_l 1 rfl (by kernel_rfl) rfl rfl (fun K hK => ?_); go_simp; refine (GT.out _).mono ?_; rintro e wc ⟨rfl, hwc⟩; refine ⟨_, rfl, ?_⟩; go_simp; refine hK _ _ (by show Ext _ _; repeat (first | exact Ext.refl _ | assumption | (with_reducible refine Ext.drew ?_) | (with_reducible refine Ext.drewN ?_ _) | (with_reducible refine Ext.alloc ?_ _) | (refine Ext.trans ?_ (by assumption)))) ?_; clear hK K
    refine Loud.wf_nil (by kernel_rfl) ?_
    simp only [List.drop_succ_cons, List.drop_zero]
    have hlt := blk_lt hmv
    have hbb : bv ≠ bk := by omega
    have e1 := (show Ext w1 wc from (by repeat (first | exact Ext.refl _ | assumption | (with_reducible refine Ext.drew ?_) | (with_reducible refine Ext.drewN ?_ _) | (with_reducible refine Ext.alloc ?_ _) | (refine Ext.trans ?_ (by assumption)))))
    have z1 := e1.size
    have hv3 := (hwc.keep (hwk.keep hmv))
    have hk3 := (hwc.keep hmk)
    have hge1 : w1.heap.size ≤ bv := by  have yy := hbv; simp at *; omega
    have hge2 : w1.heap.size ≤ bk := by have y0 := hwv.size; have yy := hbk; simp at *; omega
    refine wpList_store_row rfl _ _ _ rfl bv #[.int .u32 s.a.toNat, .int .u32 s.b.toNat, .int .u32 s.c.toNat, .int .u32 s.d.toNat, .int .u32 s.e.toNat, .int .u32 s.f.toNat, .int .u32 s.g.toNat, .int .u32 s.h.toNat] rfl rfl _ _ hv3 info_st rfl (by simp [Value.oneCell']) ?_
    refine wpList_store_row rfl _ _ _ rfl bk kV rfl rfl _ _ (by rw [setRow_other _ _ _ _ (Ne.symm hbb)]; exact hk3) HI.out HZ.out H1.out ?_
    have hv4 : ((wc.setRow bv #[.int .u32 s.a.toNat, .int .u32 s.b.toNat, .int .u32 s.c.toNat, .int .u32 s.d.toNat, .int .u32 s.e.toNat, .int .u32 s.f.toNat, .int .u32 s.g.toNat, .int .u32 s.h.toNat]).setRow bk kV).heap[bv]? = some (.cells #[.int .u32 s.a.toNat, .int .u32 s.b.toNat, .int .u32 s.c.toNat, .int .u32 s.d.toNat, .int .u32 s.e.toNat, .int .u32 s.f.toNat, .int .u32 s.g.toNat, .int .u32 s.h.toNat] 175) := by
     rw [setRow_other _ _ _ _ hbb]; exact setRow_heap _ _ _ _ _ _ hv3
    have hk4 : ((wc.setRow bv #[.int .u32 s.a.toNat, .int .u32 s.b.toNat, .int .u32 s.c.toNat, .int .u32 s.d.toNat, .int .u32 s.e.toNat, .int .u32 s.f.toNat, .int .u32 s.g.toNat, .int .u32 s.h.toNat]).setRow bk kV).heap[bk]? = some (.cells kV 197) := by
     refine setRow_heap _ _ kZ _ _ (0, 0) ?_
     rw [setRow_other _ _ _ _ (Ne.symm hbb)]; exact hk3
    have hx4 : Ext w1 ((wc.setRow bv #[.int .u32 s.a.toNat, .int .u32 s.b.toNat, .int .u32 s.c.toNat, .int .u32 s.d.toNat, .int .u32 s.e.toNat, .int .u32 s.f.toNat, .int .u32 s.g.toNat, .int .u32 s.h.toNat]).setRow bk kV) := below_setRow (below_setRow e1 hge1 _) hge2 _
    generalize (wc.setRow bv #[.int .u32 s.a.toNat, .int .u32 s.b.toNat, .int .u32 s.c.toNat, .int .u32 s.d.toNat, .int .u32 s.e.toNat, .int .u32 s.f.toNat, .int .u32 s.g.toNat, .int .u32 s.h.toNat]).setRow bk kV = w4 at hv4 hk4 hx4
    have HV4 := Lib.hid hv4; have HK4 := Lib.hid hk4
    clear hv4 hk4 hv3 hk3
    go_wp2
    go_meet
    case rel => exact ⟨bv, bk, rfl, rfl, HV4.out, HK4.out, hge1, hge2, hx4⟩
  ·refine Loud.does_alloc kZ 197 (by kernel_rfl) (fun bk wk hmk hbk hwk => ?_); refine hK _ _ (by show Ext _ _; repeat (first | exact Ext.refl _ | assumption | (with_reducible refine Ext.drew ?_) | (with_reducible refine Ext.drewN ?_ _) | (with_reducible refine Ext.alloc ?_ _) | (refine Ext.trans ?_ (by assumption)))) ?_; clear hK K
   refine Loud.wf_fork 1 2 rfl rfl (by kernel_rfl) rfl rfl rfl rfl (fun K hK => ?_) (fun K hK => ?_)
   ·go_simp; refine (GT.out _).mono ?_; rintro e wc ⟨rfl, hwc⟩; refine ⟨_, rfl, ?_⟩; go_simp; refine hK _ _ (by show Ext _ _; repeat (first | exact Ext.refl _ | assumption | (with_reducible refine Ext.drew ?_) | (with_reducible refine Ext.drewN ?_ _) | (with_reducible refine Ext.alloc ?_ _) | (refine Ext.trans ?_ (by assumption)))) ?_; clear hK K
    refine Loud.wf_l 2 rfl (by kernel_rfl) rfl rfl (fun K hK => ?_); refine Loud.does_alloc z8 175 (by kernel_rfl) (fun bv wv hmv hbv hwv => ?_); refine hK _ _ (by show Ext _ _; repeat (first | exact Ext.refl _ | assumption | (with_reducible refine Ext.drew ?_) | (with_reducible refine Ext.drewN ?_ _) | (with_reducible refine Ext.alloc ?_ _) | (refine Ext.trans ?_ (by assumption)))) ?_; clear hK K
    refine Loud.wf_nil (by kernel_rfl) ?_
    simp only [List.drop_succ_cons, List.drop_zero]
    have hlt := Nat.lt_of_lt_of_le (blk_lt hmk) hwc.size
    have hbb : bv ≠ bk := by omega
    have e1 := (show Ext w1 wv from (by repeat (first | exact Ext.refl _ | assumption | (with_reducible refine Ext.drew ?_) | (with_reducible refine Ext.drewN ?_ _) | (with_reducible refine Ext.alloc ?_ _) | (refine Ext.trans ?_ (by assumption)))))
    have z1 := e1.size
    have hv3 := hmv
    have hk3 := (hwv.keep (hwc.keep hmk))
    have hge1 : w1.heap.size ≤ bv := by have y0 := hwk.size; have y1 := hwc.size; have yy := hbv; simp at *; omega
    have hge2 : w1.heap.size ≤ bk := by  have yy := hbk; simp at *; omega
    refine wpList_store_row rfl _ _ _ rfl bv #[.int .u32 s.a.toNat, .int .u32 s.b.toNat, .int .u32 s.c.toNat, .int .u32 s.d.toNat, .int .u32 s.e.toNat, .int .u32 s.f.toNat, .int .u32 s.g.toNat, .int .u32 s.h.toNat] rfl rfl _ _ hv3 info_st rfl (by simp [Value.oneCell']) ?_
    refine wpList_store_row rfl _ _ _ rfl bk kV rfl rfl _ _ (by rw [setRow_other _ _ _ _ (Ne.symm hbb)]; exact hk3) HI.out HZ.out H1.out ?_
    have hv4 : ((wv.setRow bv #[.int .u32 s.a.toNat, .int .u32 s.b.toNat, .int .u32 s.c.toNat, .int .u32 s.d.toNat, .int .u32 s.e.toNat, .int .u32 s.f.toNat, .int .u32 s.g.toNat, .int .u32 s.h.toNat]).setRow bk kV).heap[bv]? = some (.cells #[.int .u32 s.a.toNat, .int .u32 s.b.toNat, .int .u32 s.c.toNat, .int .u32 s.d.toNat, .int .u32 s.e.toNat, .int .u32 s.f.toNat, .int .u32 s.g.toNat, .int .u32 s.h.toNat] 175) := by
     rw [setRow_other _ _ _ _ hbb]; exact setRow_heap _ _ _ _ _ _ hv3
    have hk4 : ((wv.setRow bv #[.int .u32 s.a.toNat, .int .u32 s.b.toNat, .int .u32 s.c.toNat, .int .u32 s.d.toNat, .int .u32 s.e.toNat, .int .u32 s.f.toNat, .int .u32 s.g.toNat, .int .u32 s.h.toNat]).setRow bk kV).heap[bk]? = some (.cells kV 197) := by
     refine setRow_heap _ _ kZ _ _ (0, 0) ?_
     rw [setRow_other _ _ _ _ (Ne.symm hbb)]; exact hk3
    have hx4 : Ext w1 ((wv.setRow bv #[.int .u32 s.a.toNat, .int .u32 s.b.toNat, .int .u32 s.c.toNat, .int .u32 s.d.toNat, .int .u32 s.e.toNat, .int .u32 s.f.toNat, .int .u32 s.g.toNat, .int .u32 s.h.toNat]).setRow bk kV) := below_setRow (below_setRow e1 hge1 _) hge2 _
    generalize (wv.setRow bv #[.int .u32 s.a.toNat, .int .u32 s.b.toNat, .int .u32 s.c.toNat, .int .u32 s.d.toNat, .int .u32 s.e.toNat, .int .u32 s.f.toNat, .int .u32 s.g.toNat, .int .u32 s.h.toNat]).setRow bk kV = w4 at hv4 hk4 hx4
    have HV4 := Lib.hid hv4; have HK4 := Lib.hid hk4
    clear hv4 hk4 hv3 hk3
    go_wp2
    go_meet
    case rel => exact ⟨bv, bk, rfl, rfl, HV4.out, HK4.out, hge1, hge2, hx4⟩
   ·refine Loud.does_alloc z8 175 (by kernel_rfl) (fun bv wv hmv hbv hwv => ?_); refine hK _ _ (by show Ext _ _; repeat (first | exact Ext.refl _ | assumption | (with_reducible refine Ext.drew ?_) | (with_reducible refine Ext.drewN ?_ _) | (with_reducible refine Ext.alloc ?_ _) | (refine Ext.trans ?_ (by assumption)))) ?_; clear hK K
    refine Loud.wf_l 1 rfl (by kernel_rfl) rfl rfl (fun K hK => ?_); go_simp; refine (GT.out _).mono ?_; rintro e wc ⟨rfl, hwc⟩; refine ⟨_, rfl, ?_⟩; go_simp; refine hK _ _ (by show Ext _ _; repeat (first | exact Ext.refl _ | assumption | (with_reducible refine Ext.drew ?_) | (with_reducible refine Ext.drewN ?_ _) | (with_reducible refine Ext.alloc ?_ _) | (refine Ext.trans ?_ (by assumption)))) ?_; clear hK K
    refine Loud.wf_nil (by kernel_rfl) ?_
    simp only [List.drop_succ_cons, List.drop_zero]
    have hlt := blk_lt hmk
    have hbb : bv ≠ bk := by omega
    have e1 := (show Ext w1 wc from (by repeat (first | exact Ext.refl _ | assumption | (with_reducible refine Ext.drew ?_) | (with_reducible refine Ext.drewN ?_ _) | (with_reducible refine Ext.alloc ?_ _) | (refine Ext.trans ?_ (by assumption)))))
    have z1 := e1.size
    have hv3 := (hwc.keep hmv)
    have hk3 := (hwc.keep (hwv.keep hmk))
    have hge1 : w1.heap.size ≤ bv := by have y0 := hwk.size; have yy := hbv; simp at *; omega
    have hge2 : w1.heap.size ≤ bk := by  have yy := hbk; simp at *; omega
    refine wpList_store_row rfl _ _ _ rfl bv #[.int .u32 s.a.toNat, .int .u32 s.b.toNat, .int .u32 s.c.toNat, .int .u32 s.d.toNat, .int .u32 s.e.toNat, .int .u32 s.f.toNat, .int .u32 s.g.toNat, .int .u32 s.h.toNat] rfl rfl _ _ hv3 info_st rfl (by simp [Value.oneCell']) ?_
    refine wpList_store_row rfl _ _ _ rfl bk kV rfl rfl _ _ (by rw [setRow_other _ _ _ _ (Ne.symm hbb)]; exact hk3) HI.out HZ.out H1.out ?_
    have hv4 : ((wc.setRow bv #[.int .u32 s.a.toNat, .int .u32 s.b.toNat, .int .u32 s.c.toNat, .int .u32 s.d.toNat, .int .u32 s.e.toNat, .int .u32 s.f.toNat, .int .u32 s.g.toNat, .int .u32 s.h.toNat]).setRow bk kV).heap[bv]? = some (.cells #[.int .u32 s.a.toNat, .int .u32 s.b.toNat, .int .u32 s.c.toNat, .int .u32 s.d.toNat, .int .u32 s.e.toNat, .int .u32 s.f.toNat, .int .u32 s.g.toNat, .int .u32 s.h.toNat] 175) := by
     rw [setRow_other _ _ _ _ hbb]; exact setRow_heap _ _ _ _ _ _ hv3
    have hk4 : ((wc.setRow bv #[.int .u32 s.a.toNat, .int .u32 s.b.toNat, .int .u32 s.c.toNat, .int .u32 s.d.toNat, .int .u32 s.e.toNat, .int .u32 s.f.toNat, .int .u32 s.g.toNat, .int .u32 s.h.toNat]).setRow bk kV).heap[bk]? = some (.cells kV 197) := by
     refine setRow_heap _ _ kZ _ _ (0, 0) ?_
     rw [setRow_other _ _ _ _ (Ne.symm hbb)]; exact hk3
    have hx4 : Ext w1 ((wc.setRow bv #[.int .u32 s.a.toNat, .int .u32 s.b.toNat, .int .u32 s.c.toNat, .int .u32 s.d.toNat, .int .u32 s.e.toNat, .int .u32 s.f.toNat, .int .u32 s.g.toNat, .int .u32 s.h.toNat]).setRow bk kV) := below_setRow (below_setRow e1 hge1 _) hge2 _
    generalize (wc.setRow bv #[.int .u32 s.a.toNat, .int .u32 s.b.toNat, .int .u32 s.c.toNat, .int .u32 s.d.toNat, .int .u32 s.e.toNat, .int .u32 s.f.toNat, .int .u32 s.g.toNat, .int .u32 s.h.toNat]).setRow bk kV = w4 at hv4 hk4 hx4
    have HV4 := Lib.hid hv4; have HK4 := Lib.hid hk4
    clear hv4 hk4 hv3 hk3
    go_wp2
    go_meet
    case rel => exact ⟨bv, bk, rfl, rfl, HV4.out, HK4.out, hge1, hge2, hx4⟩
 case rest =>
  obtain ⟨bv, bk, rfl, rfl, hv, hk, hgv, hgk, hxc⟩ := hcut
  have hvk : bv ≠ bk := fun e => by rw [e, hk] at hv; simp at hv
  have hvl := blk_lt hv; have hkl := blk_lt hk
  have HV := Lib.hid hv; have HK := Lib.hid hk
  clear hv hk
  go_wp2_with (go_at_call 150; with_reducible refine (GW.out wc).mono ?_; rintro e w2 ⟨rfl, hw2, hx2⟩; have HW2 := Lib.hid hw2; clear hw2)
  obtain ⟨gw, hgw⟩ : ∃ g, g = wc.heap.size := ⟨_, rfl⟩
  rw [← hgw] at HW2
  rw [← hgw]
  have hgv2 : gw ≠ bv := by omega
  have HG := Lib.hid hgw
  clear hgw
  have hx12 : Ext w1 w2 := hxc.trans hx2
  have hv2 : w2.heap[bv]? = some (.cells (R 0).v 175) := by rw [HR0.out]; exact hx2.keep HV.out
  have HV2 := Lib.hid hv2
  clear hv2
  go_loopw [19] (fun i wr => ∃ k : Nat, k ≤ 64 ∧ i = .int .i64 k ∧ wr.heap[bv]? = some (.cells (R k).v 175) ∧ But [bv] w2 wr) (fun i _ => 64 - (intOf i).toNat)
  case atStart => exact ⟨0, by omega, rfl, HV2.out, But.refl _ _⟩
  case round =>
   obtain ⟨k, hk, rfl, hrv, hbut⟩ := hrel
   have HRV := Lib.hid hrv
   have HB := Lib.hid hbut
   clear hrv
   by_cases hlt : k < 64
   ·have hrk := HRS.out k hlt
    have HRK := Lib.hid hrk
    have hvc := HRV.out
    generalize R k = r at HRK hvc
    have HR1 := Lib.hid hvc
    have hWk : W.length = 64 := HWL.out
    have cw : wr.cell? ⟨gw, k, none⟩ = some (.int .u32 ((W.getD k 0).toNat : Int)) := by
     refine cell_blk (hbut.keep HW2.out (by simp; omega)) ?_
     rw [wcells_at W k (by omega), List.getD_eq_getElem?_getD, List.getElem?_eq_getElem (by omega)]; rfl
    have ck : ∀ wq, Ext wr wq → wq.cell? ⟨bk, k, none⟩ = some (.int .u32 ((kT.getD k 0).toNat : Int)) := by
     intro wq hq
     have hkT : k < kT.length := by rw [kT_length]; exact hlt
     refine hq.cell_of (cell_blk (hbut.keep (hx2.keep HK.out) (by simp; omega)) ?_)
     rw [kV, wcells_at kT k hkT, List.getD_eq_getElem?_getD, List.getElem?_eq_getElem hkT]; rfl
    have v0 : ∀ wq, Ext wr wq → wq.cell? ⟨bv, 0, none⟩ = some (.int .u32 r.a.toNat) := fun wq hq => hq.cell_of (cell_blk hvc rfl)
    have v1 : ∀ wq, Ext wr wq → wq.cell? ⟨bv, 1, none⟩ = some (.int .u32 r.b.toNat) := fun wq hq => hq.cell_of (cell_blk hvc rfl)
    have v2 : ∀ wq, Ext wr wq → wq.cell? ⟨bv, 2, none⟩ = some (.int .u32 r.c.toNat) := fun wq hq => hq.cell_of (cell_blk hvc rfl)
    have v3 : ∀ wq, Ext wr wq → wq.cell? ⟨bv, 3, none⟩ = some (.int .u32 r.d.toNat) := fun wq hq => hq.cell_of (cell_blk hvc rfl)
    have v4 : ∀ wq, Ext wr wq → wq.cell? ⟨bv, 4, none⟩ = some (.int .u32 r.e.toNat) := fun wq hq => hq.cell_of (cell_blk hvc rfl)
    have v5 : ∀ wq, Ext wr wq → wq.cell? ⟨bv, 5, none⟩ = some (.int .u32 r.f.toNat) := fun wq hq => hq.cell_of (cell_blk hvc rfl)
    have v6 : ∀ wq, Ext wr wq → wq.cell? ⟨bv, 6, none⟩ = some (.int .u32 r.g.toNat) := fun wq hq => hq.cell_of (cell_blk hvc rfl)
    have v7 : ∀ wq, Ext wr wq → wq.cell? ⟨bv, 7, none⟩ = some (.int .u32 r.h.toNat) := fun wq hq => hq.cell_of (cell_blk hvc rfl)
    have d0 := v0 wr (Ext.refl _); have d4 := v4 wr (Ext.refl _)
    have hgwl : gw < wr.heap.size := blk_lt (hbut.keep HW2.out (by simp; omega))
    have hbl := blk_lt hvc
    clear hvc hrk hWk
    go_wp2
    go_quiet (fail)
    go_wp2
    have hk64 : (k : Int) < 64 := by omega
    refine Loud.wp_region_fork (fun i => decide (i=3∨i=4)) 24 (fun w' => Ext wr w') (by kernel_rfl) (by decide) (by show Ext _ _; repeat (first | exact Ext.refl _ | assumption | (with_reducible refine Ext.drew ?_) | (with_reducible refine Ext.drewN ?_ _) | (with_reducible refine Ext.alloc ?_ _) | (refine Ext.trans ?_ (by assumption)))) ?_
    refine Loud.wf_q 0 rfl (by kernel_rfl) rfl rfl ?_; apply Exists.intro; refine ⟨fun wq hq => ?_, Loud.wf_norm fun K hK => ?_⟩; (go_simp; try rfl); go_simp; refine hK _ ?_; clear hK K
    refine Loud.wf_q 1 rfl (by kernel_rfl) rfl rfl ?_; apply Exists.intro; refine ⟨fun wq hq => ?_, Loud.wf_norm fun K hK => ?_⟩; (go_simp; try rfl); go_simp; refine hK _ ?_; clear hK K
    refine Loud.wf_q 2 rfl (by kernel_rfl) rfl rfl ?_; apply Exists.intro; refine ⟨fun wq hq => ?_, Loud.wf_norm fun K hK => ?_⟩; (go_simp; try rfl); go_simp; refine hK _ ?_; clear hK K
    refine Loud.wf_l 3 rfl (by kernel_rfl) rfl rfl (fun K hK => ?_); go_simp; refine hK _ _ (by show Ext _ _; repeat (first | exact Ext.refl _ | assumption | (with_reducible refine Ext.drew ?_) | (with_reducible refine Ext.drewN ?_ _) | (with_reducible refine Ext.alloc ?_ _) | (refine Ext.trans ?_ (by assumption)))) ?_; clear hK K
    refine Loud.wf_l 4 rfl (by kernel_rfl) rfl rfl (fun K hK => ?_); go_simp; refine (turned3 _ 6 11 25 _ _ (heap_alloc_new _ _)).mono ?_; rintro e w6 ⟨rfl, hw6⟩; refine ⟨_, rfl, ?_⟩; go_simp; refine hK _ _ (by show Ext _ _; repeat (first | exact Ext.refl _ | assumption | (with_reducible refine Ext.drew ?_) | (with_reducible refine Ext.drewN ?_ _) | (with_reducible refine Ext.alloc ?_ _) | (refine Ext.trans ?_ (by assumption)))) ?_; clear hK K
    refine Loud.wf_q 5 rfl (by kernel_rfl) rfl rfl ?_; apply Exists.intro; refine ⟨fun wq hq => ?_, Loud.wf_norm fun K hK => ?_⟩; (go_simp; try rfl); go_simp; refine hK _ ?_; clear hK K
    refine Loud.wf_q 6 rfl (by kernel_rfl) rfl rfl ?_; apply Exists.intro; refine ⟨fun wq hq => ?_, Loud.wf_norm fun K hK => ?_⟩; (go_simp; try rfl); go_simp; refine hK _ ?_; clear hK K
    refine Loud.wf_q 7 rfl (by kernel_rfl) rfl rfl ?_; apply Exists.intro; refine ⟨fun wq hq => ?_, Loud.wf_norm fun K hK => ?_⟩; (go_simp; try rfl); go_simp; refine hK _ ?_; clear hK K
    refine Loud.wf_q 8 rfl (by kernel_rfl) rfl rfl ?_; apply Exists.intro; refine ⟨fun wq hq => ?_, Loud.wf_norm fun K hK => ?_⟩; (go_simp; try rfl); go_simp; refine hK _ ?_; clear hK K
    refine Loud.wf_q 9 rfl (by kernel_rfl) rfl rfl ?_; apply Exists.intro; refine ⟨fun wq hq => ?_, Loud.wf_norm fun K hK => ?_⟩; (go_simp; try rfl); go_simp; refine hK _ ?_; clear hK K
    refine Loud.wf_q 10 rfl (by kernel_rfl) rfl rfl ?_; apply Exists.intro; refine ⟨fun wq hq => ?_, Loud.wf_norm fun K hK => ?_⟩; (go_simp; try rfl); go_simp; refine hK _ ?_; clear hK K
    refine Loud.wf_q 11 rfl (by kernel_rfl) rfl rfl ?_; apply Exists.intro; refine ⟨fun wq hq => ?_, Loud.wf_norm fun K hK => ?_⟩; (go_simp; try rfl); go_simp; refine hK _ ?_; clear hK K
    refine Loud.wf_q 12 rfl (by kernel_rfl) rfl rfl ?_; apply Exists.intro; refine ⟨fun wq hq => ?_, Loud.wf_norm fun K hK => ?_⟩; (go_simp; try rfl); go_simp; refine hK _ ?_; clear hK K
    refine Loud.wf_q 13 rfl (by kernel_rfl) rfl rfl ?_; apply Exists.intro; refine ⟨fun wq hq => ?_, Loud.wf_norm fun K hK => ?_⟩; (go_simp; try rfl); go_simp; refine hK _ ?_; clear hK K
    refine Loud.wf_q 14 rfl (by kernel_rfl) rfl rfl ?_; apply Exists.intro; refine ⟨fun wq hq => ?_, Loud.wf_norm fun K hK => ?_⟩; (go_simp; try rfl); go_simp; refine hK _ ?_; clear hK K
    refine Loud.wf_q 15 rfl (by kernel_rfl) rfl rfl ?_; apply Exists.intro; refine ⟨fun wq hq => ?_, Loud.wf_norm fun K hK => ?_⟩; (go_simp; try rfl); go_simp; refine hK _ ?_; clear hK K
    refine Loud.wf_q 16 rfl (by kernel_rfl) rfl rfl ?_; apply Exists.intro; refine ⟨fun wq hq => ?_, Loud.wf_norm fun K hK => ?_⟩; (go_simp; try rfl); go_simp; refine hK _ ?_; clear hK K
    refine Loud.wf_q 17 rfl (by kernel_rfl) rfl rfl ?_; apply Exists.intro; refine ⟨fun wq hq => ?_, Loud.wf_norm fun K hK => ?_⟩; (go_simp; try rfl); go_simp; refine hK _ ?_; clear hK K
    refine Loud.wf_q 18 rfl (by kernel_rfl) rfl rfl ?_; apply Exists.intro; refine ⟨fun wq hq => ?_, Loud.wf_norm fun K hK => ?_⟩; (go_simp; try rfl); go_simp; refine hK _ ?_; clear hK K
    refine Loud.wf_q 19 rfl (by kernel_rfl) rfl rfl ?_; apply Exists.intro; refine ⟨fun wq hq => ?_, Loud.wf_norm fun K hK => ?_⟩; (go_simp; try rfl); go_simp; refine hK _ ?_; clear hK K
    refine Loud.wf_q 20 rfl (by kernel_rfl) rfl rfl ?_; apply Exists.intro; refine ⟨fun wq hq => ?_, Loud.wf_norm fun K hK => ?_⟩; (go_simp; try rfl); go_simp; refine hK _ ?_; clear hK K
    refine Loud.wf_q 21 rfl (by kernel_rfl) rfl rfl ?_; apply Exists.intro; refine ⟨fun wq hq => ?_, Loud.wf_norm fun K hK => ?_⟩; (go_simp; try rfl); go_simp; refine hK _ ?_; clear hK K
    refine Loud.wf_q 22 rfl (by kernel_rfl) rfl rfl ?_; apply Exists.intro; refine ⟨fun wq hq => ?_, Loud.wf_norm fun K hK => ?_⟩; (go_simp; try rfl); go_simp; refine hK _ ?_; clear hK K
    refine Loud.wf_q 23 rfl (by kernel_rfl) rfl rfl ?_; apply Exists.intro; refine ⟨fun wq hq => ?_, Loud.wf_norm fun K hK => ?_⟩; (go_simp; try rfl); go_simp; refine hK _ ?_; clear hK K
    refine Loud.wf_nil (by kernel_rfl) ?_
    simp only [List.drop_succ_cons, List.drop_zero]
    have x6 : Ext wr w6 := (by repeat (first | exact Ext.refl _ | assumption | (with_reducible refine Ext.drew ?_) | (with_reducible refine Ext.drewN ?_ _) | (with_reducible refine Ext.alloc ?_ _) | (refine Ext.trans ?_ (by assumption))))
    go_wp2
    refine Loud.wp_region_fork (fun i => decide (i=1∨i=2)) 17 (fun w' => Ext wr w') (by kernel_rfl) (by decide) (by show Ext _ _; repeat (first | exact Ext.refl _ | assumption | (with_reducible refine Ext.drew ?_) | (with_reducible refine Ext.drewN ?_ _) | (with_reducible refine Ext.alloc ?_ _) | (refine Ext.trans ?_ (by assumption)))) ?_
    refine Loud.wf_q 0 rfl (by kernel_rfl) rfl rfl ?_; apply Exists.intro; refine ⟨fun wq hq => ?_, Loud.wf_norm fun K hK => ?_⟩; (go_simp; try rfl); go_simp; refine hK _ ?_; clear hK K
    refine Loud.wf_l 1 rfl (by kernel_rfl) rfl rfl (fun K hK => ?_); go_simp; refine hK _ _ (by show Ext _ _; repeat (first | exact Ext.refl _ | assumption | (with_reducible refine Ext.drew ?_) | (with_reducible refine Ext.drewN ?_ _) | (with_reducible refine Ext.alloc ?_ _) | (refine Ext.trans ?_ (by assumption)))) ?_; clear hK K
    refine Loud.wf_l 2 rfl (by kernel_rfl) rfl rfl (fun K hK => ?_); go_simp; refine (turned3 _ 2 13 22 w6.heap.size ((w6.alloc (.cells #[.int .i64 2, .int .i64 13, .int .i64 22] 3)).drew) (heap_alloc_new w6 _)).mono ?_; rintro e w7 ⟨rfl, hw7⟩; refine ⟨_, rfl, ?_⟩; go_simp; refine hK _ _ (by show Ext _ _; repeat (first | exact Ext.refl _ | assumption | (with_reducible refine Ext.drew ?_) | (with_reducible refine Ext.drewN ?_ _) | (with_reducible refine Ext.alloc ?_ _) | (refine Ext.trans ?_ (by assumption)))) ?_; clear hK K
    refine Loud.wf_q 3 rfl (by kernel_rfl) rfl rfl ?_; apply Exists.intro; refine ⟨fun wq hq => ?_, Loud.wf_norm fun K hK => ?_⟩; (go_simp; try rfl); go_simp; refine hK _ ?_; clear hK K
    refine Loud.wf_q 4 rfl (by kernel_rfl) rfl rfl ?_; apply Exists.intro; refine ⟨fun wq hq => ?_, Loud.wf_norm fun K hK => ?_⟩; (go_simp; try rfl); go_simp; refine hK _ ?_; clear hK K
    refine Loud.wf_q 5 rfl (by kernel_rfl) rfl rfl ?_; apply Exists.intro; refine ⟨fun wq hq => ?_, Loud.wf_norm fun K hK => ?_⟩; (go_simp; try rfl); go_simp; refine hK _ ?_; clear hK K
    refine Loud.wf_q 6 rfl (by kernel_rfl) rfl rfl ?_; apply Exists.intro; refine ⟨fun wq hq => ?_, Loud.wf_norm fun K hK => ?_⟩; (go_simp; try rfl); go_simp; refine hK _ ?_; clear hK K
    refine Loud.wf_q 7 rfl (by kernel_rfl) rfl rfl ?_; apply Exists.intro; refine ⟨fun wq hq => ?_, Loud.wf_norm fun K hK => ?_⟩; (go_simp; try rfl); go_simp; refine hK _ ?_; clear hK K
    refine Loud.wf_q 8 rfl (by kernel_rfl) rfl rfl ?_; apply Exists.intro; refine ⟨fun wq hq => ?_, Loud.wf_norm fun K hK => ?_⟩; (go_simp; try rfl); go_simp; refine hK _ ?_; clear hK K
    refine Loud.wf_q 9 rfl (by kernel_rfl) rfl rfl ?_; apply Exists.intro; refine ⟨fun wq hq => ?_, Loud.wf_norm fun K hK => ?_⟩; (go_simp; try rfl); go_simp; refine hK _ ?_; clear hK K
    refine Loud.wf_q 10 rfl (by kernel_rfl) rfl rfl ?_; apply Exists.intro; refine ⟨fun wq hq => ?_, Loud.wf_norm fun K hK => ?_⟩; (go_simp; try rfl); go_simp; refine hK _ ?_; clear hK K
    refine Loud.wf_q 11 rfl (by kernel_rfl) rfl rfl ?_; apply Exists.intro; refine ⟨fun wq hq => ?_, Loud.wf_norm fun K hK => ?_⟩; (go_simp; try rfl); go_simp; refine hK _ ?_; clear hK K
    refine Loud.wf_q 12 rfl (by kernel_rfl) rfl rfl ?_; apply Exists.intro; refine ⟨fun wq hq => ?_, Loud.wf_norm fun K hK => ?_⟩; (go_simp; try rfl); go_simp; refine hK _ ?_; clear hK K
    refine Loud.wf_q 13 rfl (by kernel_rfl) rfl rfl ?_; apply Exists.intro; refine ⟨fun wq hq => ?_, Loud.wf_norm fun K hK => ?_⟩; (go_simp; try rfl); go_simp; refine hK _ ?_; clear hK K
    refine Loud.wf_q 14 rfl (by kernel_rfl) rfl rfl ?_; apply Exists.intro; refine ⟨fun wq hq => ?_, Loud.wf_norm fun K hK => ?_⟩; (go_simp; try rfl); go_simp; refine hK _ ?_; clear hK K
    refine Loud.wf_q 15 rfl (by kernel_rfl) rfl rfl ?_; apply Exists.intro; refine ⟨fun wq hq => ?_, Loud.wf_norm fun K hK => ?_⟩; (go_simp; try rfl); go_simp; refine hK _ ?_; clear hK K
    refine Loud.wf_q 16 rfl (by kernel_rfl) rfl rfl ?_; apply Exists.intro; refine ⟨fun wq hq => ?_, Loud.wf_norm fun K hK => ?_⟩; (go_simp; try rfl); go_simp; refine hK _ ?_; clear hK K
    refine Loud.wf_nil (by kernel_rfl) ?_
    simp only [List.drop_succ_cons, List.drop_zero]
    have x7 : Ext wr w7 := (by repeat (first | exact Ext.refl _ | assumption | (with_reducible refine Ext.drew ?_) | (with_reducible refine Ext.drewN ?_ _) | (with_reducible refine Ext.alloc ?_ _) | (refine Ext.trans ?_ (by assumption))))
    go_wp2
    refine Loud.wp_region_fork (fun i => decide (i=7)) 2 (fun w' => Ext w7 w') (by kernel_rfl) (by decide) (by show Ext _ _; repeat (first | exact Ext.refl _ | assumption | (with_reducible refine Ext.drew ?_) | (with_reducible refine Ext.drewN ?_ _) | (with_reducible refine Ext.alloc ?_ _) | (refine Ext.trans ?_ (by assumption)))) ?_
    refine Loud.wf_q 0 rfl (by kernel_rfl) rfl rfl ?_; apply Exists.intro; refine ⟨fun wq hq => ?_, Loud.wf_norm fun K hK => ?_⟩; (go_simp; try rfl); go_simp; refine hK _ ?_; clear hK K
    refine Loud.wf_q 1 rfl (by kernel_rfl) rfl rfl ?_; apply Exists.intro; refine ⟨fun wq hq => ?_, Loud.wf_norm fun K hK => ?_⟩; (go_simp; try rfl); go_simp; refine hK _ ?_; clear hK K
    refine Loud.wf_nil (by kernel_rfl) ?_
    simp only [List.drop_succ_cons, List.drop_zero]
    have hv7 := x7.keep HR1.out
    refine wpl_copy_cells rfl rfl und_u32s info_u32s (g := bv) (off := 1) (ad := ⟨bv, 0, none⟩) [.int .u32 r.a.toNat, .int .u32 r.b.toNat, .int .u32 r.c.toNat, .int .u32 r.d.toNat, .int .u32 r.e.toNat, .int .u32 r.f.toNat, .int .u32 r.g.toNat] rfl rfl (w := w7.drew) hv7 rfl ?_ (by simp [St.v]) (by simp [Value.oneCell']) ?_
    ·intro j v hj
     have hj7 : j < 7 := by have := (List.getElem?_eq_some_iff.1 hj).1; simpa using this
     rw [show ((⟨bv, 0, none⟩ : Addr).add j) = ⟨bv, j, none⟩ by simp [Addr.add]; omega]
     refine cell_blk (w := w7.drew) hv7 ?_
     match j, hj7, hj with
     | 0, _, hj => exact hj
     | 1, _, hj => exact hj
     | 2, _, hj => exact hj
     | 3, _, hj => exact hj
     | 4, _, hj => exact hj
     | 5, _, hj => exact hj
     | 6, _, hj => exact hj
    intro w8 hv8 hb8
    have hv8 : w8.heap[bv]? = some (.cells #[.int .u32 r.a.toNat, .int .u32 r.a.toNat, .int .u32 r.b.toNat, .int .u32 r.c.toNat, .int .u32 r.d.toNat, .int .u32 r.e.toNat, .int .u32 r.f.toNat, .int .u32 r.g.toNat] 175) := hv8
    have c84 : w8.cell? ⟨bv, 4, none⟩ = some (.int .u32 r.d.toNat) := cell_blk hv8 rfl
    have c80 : w8.cell? ⟨bv, 0, none⟩ = some (.int .u32 r.a.toNat) := cell_blk hv8 rfl
    have f84 : w8.frozen? ⟨bv, 4, none⟩ = false := frozen_blk hv8
    have f80 : w8.frozen? ⟨bv, 0, none⟩ = false := frozen_blk hv8
    have l8 := blk_lt hv8
    have HV8 := Lib.hid hv8
    have HB8 := Lib.hid ((HB.out.trans (But.of_ext x7)).trans ((But.of_ext (Ext.refl w7).drew).trans hb8))
    clear hv8 hb8 hv7
    go_wp2
    go_roundw
    case measure => simp [intOf]; omega
    case rel =>
     refine ⟨k + 1, by omega, by go_num, ?_, (HB8.out.setCell (by simp) _).setCell (by simp) _⟩
     rw [HRK.out]
     have h4 := heap_setCell_same (i := 4) (.int .u32 ((p32 r.d (rndX r (kT.getD k 0) (W.getD k 0))).toNat : Int)) HV8.out
     have h0 := heap_setCell_same (i := 0) (.int .u32 ((p32 (rndX r (kT.getD k 0) (W.getD k 0)) (rndY r)).toNat : Int)) h4
     simpa [rnd, rndX, rndY, St.v] using h0
   ·obtain rfl : k = 64 := by omega
    have hs3 : wr.heap[w.heap.size]? = some (.cells (wcells ((addSt s (R 64)).list.take 0 ++ s.list.drop 0)) 175) := HB.out.keep (hx12.keep HS0.out) (by simp; omega)
    have hr3 : wr.heap[w.heap.size + 1]? = some (.cells z8 175) := HB.out.keep (hx12.keep HS1.out) (by simp; omega)
    have hall : Ext w wr := But.ext (hs2.trans hx12) HB.out (by simp; omega)
    have hv3 := HRV.out
    generalize hRt : R 64 = t at hs3 hv3
    have HRT := Lib.hid hRt
    clear hRt
    have HS3 := Lib.hid hs3; have HR3 := Lib.hid hr3; have HV3 := Lib.hid hv3
    have hne2 : w.heap.size ≠ bv := by omega
    have hbvl := blk_lt hv3
    clear hs3 hr3 hv3
    go_wp2
    obtain ⟨wo, rfl⟩ : ∃ x, x = wr := ⟨_, rfl⟩
    go_loopw [80] (fun i wr => ∃ k : Nat, k ≤ 8 ∧ i = .int .i64 k ∧ wr.heap[w.heap.size]? = some (.cells (wcells ((addSt s t).list.take k ++ s.list.drop k)) 175) ∧ But [w.heap.size] wo wr) (fun i _ => 8 - (intOf i).toNat)
    case atStart => exact ⟨0, by omega, rfl, HS3.out, But.refl _ _⟩
    case round =>
     obtain ⟨k, hk8, rfl, hrs, hbs⟩ := hrel
     have HSS := Lib.hid hrs
     have HBS := Lib.hid hbs
     have hvv := HBS.out.keep HV3.out (by simp; omega)
     by_cases hlt : k < 8
     ·have r1 : ∀ wq, Ext wr wq → wq.cell? ⟨w.heap.size, k, none⟩ = some (.int .u32 ((s.list.getD k 0).toNat : Int)) := by
       intro wq hq
       refine hq.cell_of (cell_blk HSS.out ?_)
       simp only [wcells, List.getElem?_toArray]
       rw [List.getElem?_map, mix_at s.list (addSt s t).list k rfl rfl hlt]; rfl
      have r2 : ∀ wq, Ext wr wq → wq.cell? ⟨bv, k, none⟩ = some (.int .u32 ((t.list.getD k 0).toNat : Int)) := by
       intro wq hq
       refine hq.cell_of (cell_blk hvv ?_)
       rw [St.v_list, wcells_at t.list k (by exact hlt)]
       have hkt : k < t.list.length := hlt
       rw [List.getD_eq_getElem?_getD, List.getElem?_eq_getElem hkt]; rfl
      have e1 := r1 wr (Ext.refl _)
      have fz := frozen_blk (i := k) HSS.out
      have lz := blk_lt HSS.out
      have lv := blk_lt hvv
      have hk8' : (k : Int) < 8 := by omega
      have HADD := Lib.hid (addSt_at s t k hlt)
      have HMS := Lib.hid (mix_set s.list (addSt s t).list k rfl rfl hlt)
      generalize s.list.getD k 0 = x at r1 e1 HADD
      generalize t.list.getD k 0 = y at r2 HADD
      clear hrs hbs hvv
      go_wp2
      refine Loud.wp_region_fork (fun i => decide (i=9)) 7 (fun w' => Ext wr w') (by kernel_rfl) (by decide) (by show Ext _ _; repeat (first | exact Ext.refl _ | assumption | (with_reducible refine Ext.drew ?_) | (with_reducible refine Ext.drewN ?_ _) | (with_reducible refine Ext.alloc ?_ _) | (refine Ext.trans ?_ (by assumption)))) ?_
      refine Loud.wf_q 0 rfl (by kernel_rfl) rfl rfl ?_; apply Exists.intro; refine ⟨fun wq hq => ?_, Loud.wf_norm fun K hK => ?_⟩; (go_simp; try rfl); go_simp; refine hK _ ?_; clear hK K
      refine Loud.wf_q 1 rfl (by kernel_rfl) rfl rfl ?_; apply Exists.intro; refine ⟨fun wq hq => ?_, Loud.wf_norm fun K hK => ?_⟩; (go_simp; try rfl); go_simp; refine hK _ ?_; clear hK K
      refine Loud.wf_q 2 rfl (by kernel_rfl) rfl rfl ?_; apply Exists.intro; refine ⟨fun wq hq => ?_, Loud.wf_norm fun K hK => ?_⟩; (go_simp; try rfl); go_simp; refine hK _ ?_; clear hK K
      refine Loud.wf_q 3 rfl (by kernel_rfl) rfl rfl ?_; apply Exists.intro; refine ⟨fun wq hq => ?_, Loud.wf_norm fun K hK => ?_⟩; (go_simp; try rfl); go_simp; refine hK _ ?_; clear hK K
      refine Loud.wf_q 4 rfl (by kernel_rfl) rfl rfl ?_; apply Exists.intro; refine ⟨fun wq hq => ?_, Loud.wf_norm fun K hK => ?_⟩; (go_simp; try rfl); go_simp; refine hK _ ?_; clear hK K
      refine Loud.wf_q 5 rfl (by kernel_rfl) rfl rfl ?_; apply Exists.intro; refine ⟨fun wq hq => ?_, Loud.wf_norm fun K hK => ?_⟩; (go_simp; try rfl); go_simp; refine hK _ ?_; clear hK K
      refine Loud.wf_q 6 rfl (by kernel_rfl) rfl rfl ?_; apply Exists.intro; refine ⟨fun wq hq => ?_, Loud.wf_norm fun K hK => ?_⟩; (go_simp; try rfl); go_simp; refine hK _ ?_; clear hK K
      refine Loud.wf_nil (by kernel_rfl) ?_
      simp only [List.drop_succ_cons, List.drop_zero]
      go_wp2
      go_roundw
      case measure => simp [intOf]; omega
      case rel =>
       refine ⟨_, _, _, _, _, _, _, _, _, _, _, _, _, ⟨k + 1, by omega, by go_num, ?_, (HBS.out.setCell (by simp) _).drew⟩, rfl⟩
       show (wr.setCell _ _).heap[_]? = _
       rw [heap_setCell_same (w := wr) _ HSS.out, wcells_set, ← HMS.out, HADD.out]
     ·obtain rfl : k = 8 := by omega
      have hrs : wr.heap[w.heap.size]? = some (.cells (addSt s t).v 175) := hrs
      have hr4 := HBS.out.keep HR3.out (by simp)
      have hst8 : (Tryz.prog.info? 175).map (·.size) = some (addSt s t).v.size := info_st
      have hone : (addSt s t).v.all (·.oneCell') = true := by simp [St.v, Value.oneCell']
      have hfin := setRow_heap wr (w.heap.size + 1) z8 (addSt s t).v _ _ hr4
      have hxf : Ext w (wr.setRow (w.heap.size + 1) (addSt s t).v) := below_setRow (But.ext hall HBS.out (by simp)) (by omega) _
      have H4 := Lib.hid hr4; have HRS2 := Lib.hid hrs; have HST8 := Lib.hid hst8; have HON := Lib.hid hone; have HFIN := Lib.hid hfin; have HXF := Lib.hid hxf
      clear hr4 hrs hbs hvv hst8 hone hfin hxf
      go_wp2_with (first
       | (refine wpList_load_row rfl _ _ rfl w.heap.size rfl _ (addSt s t).v _ _ HRS2.out und_st rfl HST8.out ?_)
       | (refine wpList_store_row rfl _ _ _ rfl (w.heap.size + 1) (addSt s t).v rfl rfl _ _ H4.out HST8.out rfl HON.out ?_))
      refine bodyPost_ret (results_cell_row rfl _ _ (w.heap.size + 1) _ (addSt s t).v _ _ rfl HFIN.out und_st rfl HST8.out) rfl ?_
      exact ⟨by rw [HRT.out]; rfl, HXF.out⟩
theorem behind_any (s : St) (b : List UInt8) (w : World) (hb : b.length = 64) :
  Calls Tryz.prog 129 #[.agg s.v, .string (bs b)] w fun e w' => e = .returned (.agg (behindS s b).v) ∧ Ext w w' :=
 behind_gen s b (words b) (roundsN s (words b)) w hb (words_length b) rfl rfl (fun _ _ => rfl)
end Go.Proofs.YtclekllaikcglaaGreat

/- Contracts: layer 2, the document's step. -/
namespace Go.Proofs.YtclekllaikcglaaGreat
open Go Go.RowKit
def n32 (x : UInt32) : UInt32 := ~~~x
theorem ch_eq (e f g : UInt32) : x32 (a32 e f) (a32 (n32 e) g) = x32 g (a32 e (x32 f g)) := by
 simp only [x32, a32, n32]
 apply UInt32.toBitVec_inj.1
 simp only [UInt32.toBitVec_xor, UInt32.toBitVec_and, UInt32.toBitVec_not]
 ext i hi
 simp only [BitVec.getElem_xor, BitVec.getElem_and, BitVec.getElem_not]
 cases e.toBitVec[i] <;> cases f.toBitVec[i] <;> cases g.toBitVec[i] <;> rfl
theorem maj_eq (a b c : UInt32) : x32 (x32 (a32 a b) (a32 a c)) (a32 b c) = o32 (a32 a b) (a32 c (o32 a b)) := by
 simp only [x32, a32, o32]
 apply UInt32.toBitVec_inj.1
 simp only [UInt32.toBitVec_xor, UInt32.toBitVec_and, UInt32.toBitVec_or]
 ext i hi
 simp only [BitVec.getElem_xor, BitVec.getElem_and, BitVec.getElem_or]
 cases a.toBitVec[i] <;> cases b.toBitVec[i] <;> cases c.toBitVec[i] <;> rfl
set_option maxRecDepth 100000 in
set_option maxHeartbeats 1000000 in
theorem RefThree_any (x : UInt32) (a b c : Int) (ha : -9223372036854775808 ≤ a ∧ a ≤ 9223372036854775807) (hb : -9223372036854775808 ≤ b ∧ b ≤ 9223372036854775807) (hc : -9223372036854775808 ≤ c ∧ c ≤ 9223372036854775807) (w : World) :
  Calls Tryz.prog 165 #[.int .u32 x.toNat, .int .i64 a, .int .i64 b, .int .i64 c] w fun e w' => e = .returned (.int .u32 (turnedS x [a, b, c]).toNat) ∧ w = w' := by
 rw [turnedS3]
 have T1 := Lib.hid (fun w => RefTurn_any x a w ha.1 ha.2)
 have T2 := Lib.hid (fun w => RefTurn_any x b w hb.1 hb.2)
 have T3 := Lib.hid (fun w => RefTurn_any x c w hc.1 hc.2)
 clear ha hb hc
 go_enter Tryz.func165, Tryz.ntmps165
 go_wp2_with (first
  | (go_at_call 168; with_reducible refine (T1.out _).mono ?_; rintro e w' ⟨rfl, rfl⟩)
  | (go_at_call 168; with_reducible refine (T2.out _).mono ?_; rintro e w' ⟨rfl, rfl⟩)
  | (go_at_call 168; with_reducible refine (T3.out _).mono ?_; rintro e w' ⟨rfl, rfl⟩))
 go_returns
 exact ⟨rfl, rfl⟩
set_option maxRecDepth 100000 in
set_option maxHeartbeats 2000000 in
theorem RefK_any (w : World) : Calls Tryz.prog 163 #[] w fun e w' => ∃ g, e = .returned (.slice (some ⟨g, 0, none⟩) 64 64) ∧ w'.heap[g]? = some (.cells kV 46) ∧ Ext w w' := by
 go_enter Tryz.func163, Tryz.ntmps163
 go_wp2_with (refine wpList_allocTo rfl _ rfl (.slice (some ⟨w.heap.size, 0, none⟩) 64 64) (.cells kV 46) (by kernel_rfl) ?_)
 go_returns
 exact ⟨w.heap.size, rfl, heap_alloc_new _ _, (Ext.refl w).alloc _⟩
end Go.Proofs.YtclekllaikcglaaGreat

/- Contracts: layer 2, the program's hash that takes bytes as they come. -/
namespace Go.Proofs.YtclekllaikcglaaGreat
open Go Go.RowKit
def soak (s : St) (t : List UInt8) : St × List UInt8 :=
 if _h : 64 ≤ t.length then soak (behindS s (t.take 64)) (t.drop 64) else (s, t)
termination_by t.length
decreasing_by simp; omega
theorem soak_less (s : St) (t : List UInt8) (h : t.length < 64) : soak s t = (s, t) := by rw [soak, dif_neg (by omega)]
theorem soak_more (s : St) (t : List UInt8) (h : 64 ≤ t.length) : soak s t = soak (behindS s (t.take 64)) (t.drop 64) := by rw [soak, dif_pos h]
theorem soak_rest (n : Nat) : ∀ (s : St) (t : List UInt8), t.length ≤ n → (soak s t).2.length < 64 := by
 induction n with
 | zero => intro s t h; rw [soak_less s t (by omega)]; simp; omega
 | succ n ih =>
  intro s t h
  by_cases h64 : 64 ≤ t.length
  ·rw [soak_more s t h64]; exact ih _ _ (by simp; omega)
  ·rw [soak_less s t (by omega)]; simp; omega
theorem soak_append (n : Nat) : ∀ (s : St) (t x : List UInt8), t.length ≤ n → soak s (t ++ x) = soak (soak s t).1 ((soak s t).2 ++ x) := by
 induction n with
 | zero => intro s t x h; rw [soak_less s t (by omega)]
 | succ n ih =>
  intro s t x h
  by_cases h64 : 64 ≤ t.length
  ·rw [soak_more s t h64, soak_more s (t ++ x) (by simp; omega)]
   rw [List.take_append_of_le_length h64, List.drop_append_of_le_length h64]
   exact ih _ _ _ (by simp; omega)
  ·rw [soak_less s t (by omega)]
def iv : St := ⟨1779033703, 3144134277, 1013904242, 2773480762, 1359893119, 2600822924, 528734635, 1541459225⟩
def hcells (s : St) (rest : List UInt8) (len : Nat) : Array Value :=
 #[.int .u32 s.a.toNat, .int .u32 s.b.toNat, .int .u32 s.c.toNat, .int .u32 s.d.toNat, .int .u32 s.e.toNat, .int .u32 s.f.toNat, .int .u32 s.g.toNat, .int .u32 s.h.toNat, .string (bs rest), .int .u64 len, .bool true]
def PH (w : World) (bh : Nat) (s : St) (rest : List UInt8) (len : Nat) : Prop := w.heap[bh]? = some (.cells (hcells s rest len) 177)
set_option maxRecDepth 100000 in
set_option maxHeartbeats 1000000 in
theorem HNew_any (w : World) :
  Calls Tryz.prog 113 #[] w fun e w' => ∃ bh, e = .returned (.pointer (some ⟨bh, 0, none⟩)) ∧ w.heap.size ≤ bh ∧ PH w' bh iv [] 0 ∧ Ext w w' := by
 go_enter Tryz.func113, Tryz.ntmps113
 go_wp2
 go_returns
 exact ⟨w.heap.size, rfl, Nat.le_refl _, heap_alloc_new _ _, (by repeat (first | exact Ext.refl _ | assumption | (with_reducible refine Ext.drew ?_) | (with_reducible refine Ext.drewN ?_ _) | (with_reducible refine Ext.alloc ?_ _) | (refine Ext.trans ?_ (by assumption))))⟩
theorem wpl_store_at {P : Program} {ops : Array Oper} {rest : List Oper} {o : Oper} {a : Act} {Q : Exit → Act → World → Prop} {w : World} (hgd : o.guard = none) {ty : TypeId} {x y : Operand}
  (ho : o.op = .store ty x y) {g off : Nat} {cells cur : Array Value} {t : TypeId} (h1 : a.eval x = .pointer (some ⟨g, off, none⟩)) (h2 : a.eval y = .agg cells)
  (hg : w.heap[g]? = some (.cells cur t (0, 0))) (hi : (P.info? ty).map (·.size) = some cells.size) (hfit : off + cells.size ≤ cur.size) (hone : cells.all (·.oneCell') = true)
  (h : ∀ w', w'.heap[g]? = some (.cells (cur.toList.take off ++ cells.toList ++ cur.toList.drop (off + cells.size)).toArray t (0, 0)) → But [g] w w' → wpList P ops Q rest (a.put o.dst undef) w') : wpList P ops Q (o :: rest) a w := by
 refine wpList_plain hgd fun K hK => ?_
 have hst := run_storeCells_at P g off t cells.toList 0 cur w hg (by simpa using hfit) (fun v hv => (Array.all_eq_true_iff_forall_mem.1 hone) v (by simpa using hv))
 obtain ⟨i, hq, hs⟩ : ∃ i, P.info? ty = some i ∧ cells.size = i.size := by
  cases hq : P.info? ty with
  | none => simp [hq] at hi
  | some i => exact ⟨i, rfl, by simp [hq] at hi; omega⟩
 have hr : (storeVar ty ⟨g, off, none⟩ (.agg cells)).run P w = .ok () (w.setRow g (cur.toList.take (off + 0) ++ cells.toList ++ cur.toList.drop (off + 0 + cells.toList.length)).toArray) := by
  simp [storeVar, sizeOf, typeInfo, hq, Value.cells, hs, hst]
 unfold Oper.wp execOp
 simp only [ho, h1, h2, Instr.storeAt, Instr.sureAddr, Sem.run_bind, Sem.run_pure, Result.andThen_ok, hr]
 refine hK _ _ (h _ ?_ ⟨rfl, rfl, rfl, by simp [World.setRow], fun k hk hne => setRow_other w g k _ (fun e => hne (by simp [e]))⟩)
 have := setRow_heap w g cur (cur.toList.take (off + 0) ++ cells.toList ++ cur.toList.drop (off + 0 + cells.toList.length)).toArray t _ hg
 simpa using this
set_option maxRecDepth 100000 in
set_option maxHeartbeats 2000000 in
theorem HAdd_any (w : World) (bh : Nat) (s : St) (rest : List UInt8) (len : Nat) (x : List UInt8) (hx : x.length ≤ 1099511627776) (hr : rest.length < 64) (hlen : len + x.length ≤ 4611686018427387904) (h : PH w bh s rest len) :
  Calls Tryz.prog 114 #[.pointer (some ⟨bh, 0, none⟩), .string (bs x)] w fun e w' => e = .returned (.tuple #[]) ∧ PH w' bh (soak s (rest ++ x)).1 (soak s (rest ++ x)).2 (len + x.length) ∧ But [bh] w w' := by
 have H := Lib.hid h
 have c10 : w.cell? ⟨bh, 10, none⟩ = some (.bool true) := cell_blk h rfl
 have c9 : w.cell? ⟨bh, 9, none⟩ = some (.int .u64 len) := cell_blk h rfl
 have c8 : w.cell? ⟨bh, 8, none⟩ = some (.string (bs rest)) := cell_blk h rfl
 have f9 : w.frozen? ⟨bh, 9, none⟩ = false := frozen_blk h
 have hl := blk_lt h
 have w1 : IntKind.u64.wrap (x.length : Int) = (x.length : Int) := by rw [IntKind.wrap_u64]; omega
 have w2 : IntKind.u64.wrap ((len : Int) + (x.length : Int)) = ((len + x.length : Nat) : Int) := by rw [IntKind.wrap_u64]; omega
 have s5 : ¬ 9223372036854775807 < rest.length + x.length := by omega
 have hA : (rest ++ x).length = rest.length + x.length := by simp
 obtain ⟨res, hres⟩ : ∃ r, soak s (rest ++ x) = r := ⟨_, rfl⟩
 have HR := Lib.hid hres
 have HA := Lib.hid hA
 have GB := Lib.hid (fun (t : St) (b : List UInt8) (w : World) (hb : b.length = 64) => behind_any t b w hb)
 clear h hres hA
 go_enter Tryz.func114, Tryz.ntmps114
 go_wp2
 have hp1 : PH (w.setCell ⟨bh, 9, none⟩ (.int .u64 ((len : Int) + (x.length : Int)))) bh s rest (len + x.length) := heap_setCell_same _ H.out
 have hb1 : But [bh] w (w.setCell ⟨bh, 9, none⟩ (.int .u64 ((len : Int) + (x.length : Int)))) := (But.refl _ _).setCell (by simp) _
 generalize w.setCell ⟨bh, 9, none⟩ (.int .u64 ((len : Int) + (x.length : Int))) = w3 at hp1 hb1
 have P1 := Lib.hid hp1
 have HL := Lib.hid (show (rest ++ x).length ≤ 1099511627776 + 64 by rw [HA.out]; omega)
 clear hp1 c8 c9 c10 f9 s5
 go_loopw [1] (fun o wr => ∃ (st : St) (cur : List UInt8), o = .string (bs cur) ∧ soak st cur = res ∧ PH wr bh st rest (len + x.length) ∧ But [bh] w wr ∧ cur.length ≤ 1099511627776 + 64) (fun o _ => match o with | .string b => b.size | _ => 0)
 case atStart => exact ⟨s, _, rfl, HR.out, P1.out, hb1, HL.out⟩
 case round =>
  obtain ⟨st, cur, rfl, hsk, hp, hb, hcl⟩ := hrel
  have HP := Lib.hid hp
  have HB := Lib.hid hb
  have HS := Lib.hid hsk
  have hbl := blk_lt hp
  clear hp hb hsk
  by_cases hlt : 64 ≤ cur.length
  ·have hlt' : (64 : Int) ≤ (cur.length : Int) := by omega
   have d0 : ∀ wq, Ext wr wq → wq.cell? ⟨bh, 0, none⟩ = some (.int .u32 st.a.toNat) := fun wq hq => hq.cell_of (cell_blk HP.out rfl)
   have d1 : ∀ wq, Ext wr wq → wq.cell? ⟨bh, 1, none⟩ = some (.int .u32 st.b.toNat) := fun wq hq => hq.cell_of (cell_blk HP.out rfl)
   have d2 : ∀ wq, Ext wr wq → wq.cell? ⟨bh, 2, none⟩ = some (.int .u32 st.c.toNat) := fun wq hq => hq.cell_of (cell_blk HP.out rfl)
   have d3 : ∀ wq, Ext wr wq → wq.cell? ⟨bh, 3, none⟩ = some (.int .u32 st.d.toNat) := fun wq hq => hq.cell_of (cell_blk HP.out rfl)
   have d4 : ∀ wq, Ext wr wq → wq.cell? ⟨bh, 4, none⟩ = some (.int .u32 st.e.toNat) := fun wq hq => hq.cell_of (cell_blk HP.out rfl)
   have d5 : ∀ wq, Ext wr wq → wq.cell? ⟨bh, 5, none⟩ = some (.int .u32 st.f.toNat) := fun wq hq => hq.cell_of (cell_blk HP.out rfl)
   have d6 : ∀ wq, Ext wr wq → wq.cell? ⟨bh, 6, none⟩ = some (.int .u32 st.g.toNat) := fun wq hq => hq.cell_of (cell_blk HP.out rfl)
   have d7 : ∀ wq, Ext wr wq → wq.cell? ⟨bh, 7, none⟩ = some (.int .u32 st.h.toNat) := fun wq hq => hq.cell_of (cell_blk HP.out rfl)
   have he : (bs cur).extract 64 cur.length = bs (cur.drop 64) := by rw [bs_extract, List.take_of_length_le (by simp)]
   have h64 : (cur.take 64).length = 64 := by rw [List.length_take]; omega
   have HSM := Lib.hid (soak_more st cur hlt)
   go_wp2
   refine Loud.wp_region_fork (fun i => decide (i=7)) 8 (fun w' => Ext wr w') (by kernel_rfl) (by decide) (by show Ext _ _; repeat (first | exact Ext.refl _ | assumption | (with_reducible refine Ext.drew ?_) | (with_reducible refine Ext.drewN ?_ _) | (with_reducible refine Ext.alloc ?_ _) | (refine Ext.trans ?_ (by assumption)))) ?_
   refine Loud.wf_q 0 rfl (by kernel_rfl) rfl rfl ?_; apply Exists.intro; refine ⟨fun wq hq => ?_, Loud.wf_norm fun K hK => ?_⟩; (go_simp; try rfl); go_simp; refine hK _ ?_; clear hK K
   refine Loud.wf_q 1 rfl (by kernel_rfl) rfl rfl ?_; apply Exists.intro; refine ⟨fun wq hq => ?_, Loud.wf_norm fun K hK => ?_⟩; (go_simp; try rfl); go_simp; refine hK _ ?_; clear hK K
   refine Loud.wf_q 2 rfl (by kernel_rfl) rfl rfl ?_; apply Exists.intro; refine ⟨fun wq hq => ?_, Loud.wf_norm fun K hK => ?_⟩; (go_simp; try rfl); go_simp; refine hK _ ?_; clear hK K
   refine Loud.wf_q 3 rfl (by kernel_rfl) rfl rfl ?_; apply Exists.intro; refine ⟨fun wq hq => ?_, Loud.wf_norm fun K hK => ?_⟩; (go_simp; try rfl); go_simp; refine hK _ ?_; clear hK K
   refine Loud.wf_q 4 rfl (by kernel_rfl) rfl rfl ?_; apply Exists.intro; refine ⟨fun wq hq => ?_, Loud.wf_norm fun K hK => ?_⟩; (go_simp; try rfl); go_simp; refine hK _ ?_; clear hK K
   refine Loud.wf_q 5 rfl (by kernel_rfl) rfl rfl ?_; apply Exists.intro; refine ⟨fun wq hq => ?_, Loud.wf_norm fun K hK => ?_⟩; (go_simp; try rfl); go_simp; refine hK _ ?_; clear hK K
   refine Loud.wf_q 6 rfl (by kernel_rfl) rfl rfl ?_; apply Exists.intro; refine ⟨fun wq hq => ?_, Loud.wf_norm fun K hK => ?_⟩; (go_simp; try rfl); go_simp; refine hK _ ?_; clear hK K
   refine Loud.wf_l 7 rfl (by kernel_rfl) rfl rfl (fun K hK => ?_); go_simp; refine (GB.out st _ _ h64).mono ?_; rintro e w4 ⟨rfl, hw4⟩; refine ⟨_, rfl, ?_⟩; go_simp; refine hK _ _ (by show Ext _ _; repeat (first | exact Ext.refl _ | assumption | (with_reducible refine Ext.drew ?_) | (with_reducible refine Ext.drewN ?_ _) | (with_reducible refine Ext.alloc ?_ _) | (refine Ext.trans ?_ (by assumption)))) ?_; clear hK K
   refine Loud.wf_nil (by kernel_rfl) ?_
   simp only [List.drop_succ_cons, List.drop_zero]
   have x4 : Ext wr w4 := (by repeat (first | exact Ext.refl _ | assumption | (with_reducible refine Ext.drew ?_) | (with_reducible refine Ext.drewN ?_ _) | (with_reducible refine Ext.alloc ?_ _) | (refine Ext.trans ?_ (by assumption))))
   have hp4 := x4.keep HP.out
   have hp4 : w4.heap[bh]? = some (.cells (hcells st rest (len + x.length)) 177) := hp4
   have HP4 := Lib.hid hp4
   have HF8 := Lib.hid (show 0 + (behindS st (cur.take 64)).v.size ≤ (hcells st rest (len + x.length)).size by simp [St.v, hcells])
   have HO8 := Lib.hid (show (behindS st (cur.take 64)).v.all (·.oneCell') = true by simp [St.v, Value.oneCell'])
   have HI8 := Lib.hid (show (Tryz.prog.info? 175).map (·.size) = some (behindS st (cur.take 64)).v.size from info_st)
   clear hp4
   go_wp2_with (refine wpl_store_at rfl rfl (g := bh) (off := 0) rfl rfl HP4.out HI8.out HF8.out HO8.out ?_; intro w5 h5 b5; have HP5 := Lib.hid h5; have HB5 := Lib.hid ((HB.out.trans (But.of_ext x4)).trans b5); clear h5 b5)
   go_roundw
   case measure => simp; omega
   case rel => exact ⟨behindS st (cur.take 64), cur.drop 64, rfl, by rw [← HSM.out]; exact HS.out, HP5.out, HB5.out, by simp; omega⟩
  ·have hp5 := HP.out
   have c8 : wr.cell? ⟨bh, 8, none⟩ = some (.string (bs rest)) := cell_blk hp5 rfl
   have f8 : wr.frozen? ⟨bh, 8, none⟩ = false := frozen_blk hp5
   have hlt' : (cur.length : Int) < 64 := by omega
   have HSM := Lib.hid (soak_less st cur (by omega))
   clear hp5
   go_wp2
   go_returns
   have hres := HS.out
   rw [HSM.out] at hres
   subst hres
   exact ⟨rfl, by rw [HR.out]; exact heap_setCell_same _ HP.out, HB.out.setCell (by simp) _⟩
end Go.Proofs.YtclekllaikcglaaGreat
