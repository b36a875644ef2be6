/- Contracts: layer 2, the program's hash that takes bytes as they come. -/
import Derived.Test.YtipdgiikifmjdaaShaC
namespace Go.Proofs.Ytipdgiikifmjdaa
open Go Go.RowKit

/-- The state behind all whole blocks, and what is left. -/
def soak (s : St) (t : List UInt8) : St × List UInt8 :=
  if _h : 64 ≤ t.length then soak (behindS s (t.take 64)) (t.drop 64) else (s, t)
termination_by t.length
decreasing_by simp; omega
theorem soak_less (s : St) (t : List UInt8) (h : t.length < 64) : soak s t = (s, t) := by rw [soak, dif_neg (by omega)]
theorem soak_more (s : St) (t : List UInt8) (h : 64 ≤ t.length) : soak s t = soak (behindS s (t.take 64)) (t.drop 64) := by rw [soak, dif_pos h]
theorem soak_rest (n : Nat) : ∀ (s : St) (t : List UInt8), t.length ≤ n → (soak s t).2.length < 64 := by
  induction n with
  | zero => intro s t h; rw [soak_less s t (by omega)]; simp; omega
  | succ n ih =>
    intro s t h
    by_cases h64 : 64 ≤ t.length
    · rw [soak_more s t h64]; exact ih _ _ (by simp; omega)
    · rw [soak_less s t (by omega)]; simp; omega
theorem soak_append (n : Nat) : ∀ (s : St) (t x : List UInt8), t.length ≤ n → soak s (t ++ x) = soak (soak s t).1 ((soak s t).2 ++ x) := by
  induction n with
  | zero => intro s t x h; rw [soak_less s t (by omega)]
  | succ n ih =>
    intro s t x h
    by_cases h64 : 64 ≤ t.length
    · rw [soak_more s t h64, soak_more s (t ++ x) (by simp; omega)]
      rw [List.take_append_of_le_length h64, List.drop_append_of_le_length h64]
      exact ih _ _ _ (by simp; omega)
    · rw [soak_less s t (by omega)]
def iv : St := ⟨1779033703, 3144134277, 1013904242, 2773480762, 1359893119, 2600822924, 528734635, 1541459225⟩
def hcells (s : St) (rest : List UInt8) (len : Nat) : Array Value :=
  #[.int .u32 s.a.toNat, .int .u32 s.b.toNat, .int .u32 s.c.toNat, .int .u32 s.d.toNat, .int .u32 s.e.toNat, .int .u32 s.f.toNat, .int .u32 s.g.toNat, .int .u32 s.h.toNat, .string (bs rest), .int .u64 len, .bool true]
/-- The program's hash at block bh. -/
def PH (w : World) (bh : Nat) (s : St) (rest : List UInt8) (len : Nat) : Prop := w.heap[bh]? = some (.cells (hcells s rest len) 68)
set_option maxRecDepth 100000 in
set_option maxHeartbeats 1000000 in
theorem HNew_any (w : World) :
    Calls Try.prog 16 #[] w fun e w' => ∃ bh, e = .returned (.pointer (some ⟨bh, 0, none⟩)) ∧ w.heap.size ≤ bh ∧ PH w' bh iv [] 0 ∧ Ext w w' := by
  go_enter Try.func16, Try.ntmps16
  go_wp2
  go_returns
  exact ⟨w.heap.size, rfl, Nat.le_refl _, heap_alloc_new _ _, (by repeat (first | exact Ext.refl _ | assumption | (with_reducible refine Ext.drew ?_) | (with_reducible refine Ext.drewN ?_ _) | (with_reducible refine Ext.alloc ?_ _) | (refine Ext.trans ?_ (by assumption))))⟩
set_option maxRecDepth 100000 in
set_option maxHeartbeats 1000000 in
theorem HAdd_nil (w : World) (x : List UInt8) :
    Calls Try.prog 17 #[.pointer none, .string (bs x)] w fun e w' => e = .returned (.tuple #[]) ∧ w = w' := by
  go_enter Try.func17, Try.ntmps17
  go_wp2
  go_returns
  exact ⟨rfl, rfl⟩
set_option maxRecDepth 100000 in
set_option maxHeartbeats 1000000 in
theorem HLen_nil (w : World) :
    Calls Try.prog 18 #[.pointer none] w fun e w' => e = .returned (.int .u64 0) ∧ w = w' := by
  go_enter Try.func18, Try.ntmps18
  go_wp2
  go_returns
  exact ⟨rfl, rfl⟩
set_option maxRecDepth 100000 in
set_option maxHeartbeats 1000000 in
theorem HLen_any (w : World) (bh : Nat) (s : St) (rest : List UInt8) (len : Nat) (h : PH w bh s rest len) :
    Calls Try.prog 18 #[.pointer (some ⟨bh, 0, none⟩)] w fun e w' => e = .returned (.int .u64 len) ∧ w = w' := by
  have c9 : w.cell? ⟨bh, 9, none⟩ = some (.int .u64 len) := cell_blk h rfl
  clear h
  go_enter Try.func18, Try.ntmps18
  go_wp2
  go_returns
  exact ⟨rfl, rfl⟩
set_option maxRecDepth 100000 in
set_option maxHeartbeats 1000000 in
theorem HSum_nil (w : World) :
    Calls Try.prog 19 #[.pointer none] w fun e w' => e = .returned (.string { data := #[] }) ∧ w = w' := by
  go_enter Try.func19, Try.ntmps19
  go_wp2
  go_returns
  exact ⟨rfl, rfl⟩
theorem wpl_store_at {P : Program} {ops : Array Oper} {rest : List Oper} {o : Oper} {a : Act} {Q : Exit → Act → World → Prop} {w : World} (hgd : o.guard = none) {ty : TypeId} {x y : Operand}
    (ho : o.op = .store ty x y) {g off : Nat} {cells cur : Array Value} {t : TypeId} (h1 : a.eval x = .pointer (some ⟨g, off, none⟩)) (h2 : a.eval y = .agg cells)
    (hg : w.heap[g]? = some (.cells cur t (0, 0))) (hi : (P.info? ty).map (·.size) = some cells.size) (hfit : off + cells.size ≤ cur.size) (hone : cells.all (·.oneCell') = true)
    (h : ∀ w', w'.heap[g]? = some (.cells (cur.toList.take off ++ cells.toList ++ cur.toList.drop (off + cells.size)).toArray t (0, 0)) → But [g] w w' → wpList P ops Q rest (a.put o.dst undef) w') : wpList P ops Q (o :: rest) a w := by
  refine wpList_plain hgd fun K hK => ?_
  have hst := run_storeCells_at P g off t cells.toList 0 cur w hg (by simpa using hfit) (fun v hv => (Array.all_eq_true_iff_forall_mem.1 hone) v (by simpa using hv))
  obtain ⟨i, hq, hs⟩ : ∃ i, P.info? ty = some i ∧ cells.size = i.size := by
    cases hq : P.info? ty with
    | none => simp [hq] at hi
    | some i => exact ⟨i, rfl, by simp [hq] at hi; omega⟩
  have hr : (storeVar ty ⟨g, off, none⟩ (.agg cells)).run P w = .ok () (w.setRow g (cur.toList.take (off + 0) ++ cells.toList ++ cur.toList.drop (off + 0 + cells.toList.length)).toArray) := by
    simp [storeVar, sizeOf, typeInfo, hq, Value.cells, hs, hst]
  unfold Oper.wp execOp
  simp only [ho, h1, h2, Instr.storeAt, Instr.sureAddr, Sem.run_bind, Sem.run_pure, Result.andThen_ok, hr]
  refine hK _ _ (h _ ?_ ⟨rfl, rfl, rfl, by simp [World.setRow], fun k hk hne => setRow_other w g k _ (fun e => hne (by simp [e]))⟩)
  have := setRow_heap w g cur (cur.toList.take (off + 0) ++ cells.toList ++ cur.toList.drop (off + 0 + cells.toList.length)).toArray t _ hg
  simpa using this
set_option maxRecDepth 100000 in
set_option maxHeartbeats 2000000 in
theorem HAdd_any (w : World) (bh : Nat) (s : St) (rest : List UInt8) (len : Nat) (x : List UInt8) (hx : x.length ≤ 1099511627776) (hr : rest.length < 64) (hlen : len + x.length ≤ 4611686018427387904) (h : PH w bh s rest len) :
    Calls Try.prog 17 #[.pointer (some ⟨bh, 0, none⟩), .string (bs x)] w fun e w' => e = .returned (.tuple #[]) ∧ PH w' bh (soak s (rest ++ x)).1 (soak s (rest ++ x)).2 (len + x.length) ∧ But [bh] w w' := by
  have H := Lib.hid h
  have c10 : w.cell? ⟨bh, 10, none⟩ = some (.bool true) := cell_blk h rfl
  have c9 : w.cell? ⟨bh, 9, none⟩ = some (.int .u64 len) := cell_blk h rfl
  have c8 : w.cell? ⟨bh, 8, none⟩ = some (.string (bs rest)) := cell_blk h rfl
  have f9 : w.frozen? ⟨bh, 9, none⟩ = false := frozen_blk h
  have hl := blk_lt h
  have w1 : IntKind.u64.wrap (x.length : Int) = (x.length : Int) := by rw [IntKind.wrap_u64]; omega
  have w2 : IntKind.u64.wrap ((len : Int) + (x.length : Int)) = ((len + x.length : Nat) : Int) := by rw [IntKind.wrap_u64]; omega
  have s5 : ¬ 9223372036854775807 < rest.length + x.length := by omega
  have hA : (rest ++ x).length = rest.length + x.length := by simp
  obtain ⟨res, hres⟩ : ∃ r, soak s (rest ++ x) = r := ⟨_, rfl⟩
  have HR := Lib.hid hres
  have HA := Lib.hid hA
  have GB := Lib.hid (fun (t : St) (b : List UInt8) (w : World) (hb : b.length = 64) => behind_any t b w hb)
  clear h hres hA
  go_enter Try.func17, Try.ntmps17
  go_wp2
  have hp1 : PH (w.setCell ⟨bh, 9, none⟩ (.int .u64 ((len : Int) + (x.length : Int)))) bh s rest (len + x.length) := heap_setCell_same _ H.out
  have hb1 : But [bh] w (w.setCell ⟨bh, 9, none⟩ (.int .u64 ((len : Int) + (x.length : Int)))) := (But.refl _ _).setCell (by simp) _
  generalize w.setCell ⟨bh, 9, none⟩ (.int .u64 ((len : Int) + (x.length : Int))) = w3 at hp1 hb1
  have P1 := Lib.hid hp1
  have HL := Lib.hid (show (rest ++ x).length ≤ 1099511627776 + 64 by rw [HA.out]; omega)
  clear hp1 c8 c9 c10 f9 s5
  go_loopw [1] (fun o wr => ∃ (st : St) (cur : List UInt8), o = .string (bs cur) ∧ soak st cur = res ∧ PH wr bh st rest (len + x.length) ∧ But [bh] w wr ∧ cur.length ≤ 1099511627776 + 64) (fun o _ => match o with | .string b => b.size | _ => 0)
  case atStart => exact ⟨s, _, rfl, HR.out, P1.out, hb1, HL.out⟩
  case round =>
    obtain ⟨st, cur, rfl, hsk, hp, hb, hcl⟩ := hrel
    have HP := Lib.hid hp
    have HB := Lib.hid hb
    have HS := Lib.hid hsk
    have hbl := blk_lt hp
    clear hp hb hsk
    by_cases hlt : 64 ≤ cur.length
    · have hlt' : (64 : Int) ≤ (cur.length : Int) := by omega
      have d0 : ∀ wq, Ext wr wq → wq.cell? ⟨bh, 0, none⟩ = some (.int .u32 st.a.toNat) := fun wq hq => hq.cell_of (cell_blk HP.out rfl)
      have d1 : ∀ wq, Ext wr wq → wq.cell? ⟨bh, 1, none⟩ = some (.int .u32 st.b.toNat) := fun wq hq => hq.cell_of (cell_blk HP.out rfl)
      have d2 : ∀ wq, Ext wr wq → wq.cell? ⟨bh, 2, none⟩ = some (.int .u32 st.c.toNat) := fun wq hq => hq.cell_of (cell_blk HP.out rfl)
      have d3 : ∀ wq, Ext wr wq → wq.cell? ⟨bh, 3, none⟩ = some (.int .u32 st.d.toNat) := fun wq hq => hq.cell_of (cell_blk HP.out rfl)
      have d4 : ∀ wq, Ext wr wq → wq.cell? ⟨bh, 4, none⟩ = some (.int .u32 st.e.toNat) := fun wq hq => hq.cell_of (cell_blk HP.out rfl)
      have d5 : ∀ wq, Ext wr wq → wq.cell? ⟨bh, 5, none⟩ = some (.int .u32 st.f.toNat) := fun wq hq => hq.cell_of (cell_blk HP.out rfl)
      have d6 : ∀ wq, Ext wr wq → wq.cell? ⟨bh, 6, none⟩ = some (.int .u32 st.g.toNat) := fun wq hq => hq.cell_of (cell_blk HP.out rfl)
      have d7 : ∀ wq, Ext wr wq → wq.cell? ⟨bh, 7, none⟩ = some (.int .u32 st.h.toNat) := fun wq hq => hq.cell_of (cell_blk HP.out rfl)
      have he : (bs cur).extract 64 cur.length = bs (cur.drop 64) := by rw [bs_extract, List.take_of_length_le (by simp)]
      have h64 : (cur.take 64).length = 64 := by rw [List.length_take]; omega
      have HSM := Lib.hid (soak_more st cur hlt)
      go_wp2
      refine Loud.wp_region_fork (fun i => decide (i=7)) 8 (fun w' => Ext wr w') (by kernel_rfl) (by decide) (by show Ext _ _; repeat (first | exact Ext.refl _ | assumption | (with_reducible refine Ext.drew ?_) | (with_reducible refine Ext.drewN ?_ _) | (with_reducible refine Ext.alloc ?_ _) | (refine Ext.trans ?_ (by assumption)))) ?_
      refine Loud.wf_q 0 rfl (by kernel_rfl) rfl rfl ?_; apply Exists.intro; refine ⟨fun wq hq => ?_, Loud.wf_norm fun K hK => ?_⟩; (go_simp; try rfl); go_simp; refine hK _ ?_; clear hK K
      refine Loud.wf_q 1 rfl (by kernel_rfl) rfl rfl ?_; apply Exists.intro; refine ⟨fun wq hq => ?_, Loud.wf_norm fun K hK => ?_⟩; (go_simp; try rfl); go_simp; refine hK _ ?_; clear hK K
      refine Loud.wf_q 2 rfl (by kernel_rfl) rfl rfl ?_; apply Exists.intro; refine ⟨fun wq hq => ?_, Loud.wf_norm fun K hK => ?_⟩; (go_simp; try rfl); go_simp; refine hK _ ?_; clear hK K
      refine Loud.wf_q 3 rfl (by kernel_rfl) rfl rfl ?_; apply Exists.intro; refine ⟨fun wq hq => ?_, Loud.wf_norm fun K hK => ?_⟩; (go_simp; try rfl); go_simp; refine hK _ ?_; clear hK K
      refine Loud.wf_q 4 rfl (by kernel_rfl) rfl rfl ?_; apply Exists.intro; refine ⟨fun wq hq => ?_, Loud.wf_norm fun K hK => ?_⟩; (go_simp; try rfl); go_simp; refine hK _ ?_; clear hK K
      refine Loud.wf_q 5 rfl (by kernel_rfl) rfl rfl ?_; apply Exists.intro; refine ⟨fun wq hq => ?_, Loud.wf_norm fun K hK => ?_⟩; (go_simp; try rfl); go_simp; refine hK _ ?_; clear hK K
      refine Loud.wf_q 6 rfl (by kernel_rfl) rfl rfl ?_; apply Exists.intro; refine ⟨fun wq hq => ?_, Loud.wf_norm fun K hK => ?_⟩; (go_simp; try rfl); go_simp; refine hK _ ?_; clear hK K
      refine Loud.wf_l 7 rfl (by kernel_rfl) rfl rfl (fun K hK => ?_); go_simp; refine (GB.out st _ _ h64).mono ?_; rintro e w4 ⟨rfl, hw4⟩; refine ⟨_, rfl, ?_⟩; go_simp; refine hK _ _ (by show Ext _ _; repeat (first | exact Ext.refl _ | assumption | (with_reducible refine Ext.drew ?_) | (with_reducible refine Ext.drewN ?_ _) | (with_reducible refine Ext.alloc ?_ _) | (refine Ext.trans ?_ (by assumption)))) ?_; clear hK K
      refine Loud.wf_nil (by kernel_rfl) ?_
      simp only [List.drop_succ_cons, List.drop_zero]
      have x4 : Ext wr w4 := (by repeat (first | exact Ext.refl _ | assumption | (with_reducible refine Ext.drew ?_) | (with_reducible refine Ext.drewN ?_ _) | (with_reducible refine Ext.alloc ?_ _) | (refine Ext.trans ?_ (by assumption))))
      have hp4 := x4.keep HP.out
      have hp4 : w4.heap[bh]? = some (.cells (hcells st rest (len + x.length)) 68) := hp4
      have HP4 := Lib.hid hp4
      have HF8 := Lib.hid (show 0 + (behindS st (cur.take 64)).v.size ≤ (hcells st rest (len + x.length)).size by simp [St.v, hcells])
      have HO8 := Lib.hid (show (behindS st (cur.take 64)).v.all (·.oneCell') = true by simp [St.v, Value.oneCell'])
      have HI8 := Lib.hid (show (Try.prog.info? 66).map (·.size) = some (behindS st (cur.take 64)).v.size from info_st)
      clear hp4
      go_wp2_with (refine wpl_store_at rfl rfl (g := bh) (off := 0) rfl rfl HP4.out HI8.out HF8.out HO8.out ?_; intro w5 h5 b5; have HP5 := Lib.hid h5; have HB5 := Lib.hid ((HB.out.trans (But.of_ext x4)).trans b5); clear h5 b5)
      go_roundw
      case measure => simp; omega
      case rel => exact ⟨behindS st (cur.take 64), cur.drop 64, rfl, by rw [← HSM.out]; exact HS.out, HP5.out, HB5.out, by simp; omega⟩
    · have hp5 := HP.out
      have c8 : wr.cell? ⟨bh, 8, none⟩ = some (.string (bs rest)) := cell_blk hp5 rfl
      have f8 : wr.frozen? ⟨bh, 8, none⟩ = false := frozen_blk hp5
      have hlt' : (cur.length : Int) < 64 := by omega
      have HSM := Lib.hid (soak_less st cur (by omega))
      clear hp5
      go_wp2
      go_returns
      have hres := HS.out
      rw [HSM.out] at hres
      subst hres
      exact ⟨rfl, by rw [HR.out]; exact heap_setCell_same _ HP.out, HB.out.setCell (by simp) _⟩
end Go.Proofs.Ytipdgiikifmjdaa
