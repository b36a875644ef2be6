/- Contracts: layer 4, boxes. -/
import Derived.Test.YtgncnplgjhaojaaAes
import Derived.Laws.Rows
import Derived.Deep.DeepCutAuto
namespace Go.Proofs.Ytgncnplgjhaojaa
open Go Go.RowKit

theorem info_b256 : (Try.prog.info? 53).map (·.size) = some 256 := by kernel_rfl
theorem und_b256 : Try.prog.underlying 53 = some (.array 256 5) := by kernel_rfl
def z256 : Array Value := bcells (List.replicate 256 0)
theorem zero_b256 (w : World) : Sem.run Try.prog (zeroValue 53) w = .ok (.agg z256) w := by kernel_rfl
theorem heap_alloc2b (w : World) (o1 o2 : Obj) : ((w.alloc o1).alloc o2).heap[w.heap.size + 1]? = some o2 := by
  have := heap_alloc_new (w.alloc o1) o2
  rwa [World.size_alloc] at this
theorem does_load_row {P : Program} {o : Oper} {a : Act} {w : World} {K : Value → World → Prop} {ty : TypeId} {x : Operand} (ho : o.op = .load ty x)
    {g : Nat} (hx : a.eval x = .pointer (some ⟨g, 0, none⟩)) {t : TypeId} {cs : Array Value} {fr : Nat × Nat} {d : TypeDesc} (hg : w.heap[g]? = some (.cells cs t fr))
    (hu : P.underlying ty = some d) (hd : (match d with | .struct _ | .array _ _ => true | _ => false) = true) (hi : (P.info? ty).map (·.size) = some cs.size) (h : K (.agg cs) w) : Loud.does P o a w K := by
  unfold Loud.does execOp
  simp only [ho, hx, Instr.loadAt, Instr.sureAddr, Sem.run_bind, Sem.run_pure, Result.andThen_ok, run_loadVar_row w g t ty cs fr d hg hu hd hi]
  exact h
theorem setRow_same (w : World) (g : Nat) (cs : Array Value) (t : TypeId) (hg : w.heap[g]? = some (.cells cs t (0, 0))) : w.setRow g cs = w := by
  have hh : (w.setRow g cs).heap = w.heap := by
    apply Array.ext_getElem?
    intro k
    by_cases hk : k = g
    · subst hk
      rw [setRow_heap w k cs cs t _ hg, hg]
    · exact setRow_other w g k cs hk
  cases w
  simp only [World.setRow] at hh ⊢
  rw [hh]
theorem does_store_row_same {P : Program} {o : Oper} {a : Act} {w : World} {K : Value → World → Prop} {ty : TypeId} {x y : Operand} (ho : o.op = .store ty x y)
    {g : Nat} (hx : a.eval x = .pointer (some ⟨g, 0, none⟩)) {cs : Array Value} (hy : a.eval y = .agg cs) {t : TypeId} (hg : w.heap[g]? = some (.cells cs t (0, 0)))
    (hi : (P.info? ty).map (·.size) = some cs.size) (h1 : cs.all (·.oneCell') = true) (h : K undef w) : Loud.does P o a w K := by
  have hr := run_storeVar_row (P := P) w g t ty cs cs hg hi rfl h1
  rw [setRow_same w g cs t hg] at hr
  unfold Loud.does execOp
  simp only [ho, hx, hy, Instr.storeAt, Instr.sureAddr, Sem.run_bind, Sem.run_pure, Result.andThen_ok, hr]
  exact h
theorem results_two_rows {P : Program} {fn : Func} {p q : Tmp} {ty : TypeId} (h : fn.results = #[.cell p ty, .cell q ty]) (tmps : Array Value) (w : World) (g1 g2 : Nat) (t1 t2 : TypeId) (cs1 cs2 : Array Value) (f1 f2 : Nat × Nat) (d : TypeDesc)
    (hp : tmps.getD p undef = .pointer (some ⟨g1, 0, none⟩)) (hq : tmps.getD q undef = .pointer (some ⟨g2, 0, none⟩)) (hg1 : w.heap[g1]? = some (.cells cs1 t1 f1)) (hg2 : w.heap[g2]? = some (.cells cs2 t2 f2))
    (hu : P.underlying ty = some d) (hd : (match d with | .struct _ | .array _ _ => true | _ => false) = true) (hi1 : (P.info? ty).map (·.size) = some cs1.size) (hi2 : (P.info? ty).map (·.size) = some cs2.size) :
    (results fn tmps).run P w = .ok (.tuple #[.agg cs1, .agg cs2]) w := by
  have hp' : tmps[p]?.getD undef = .pointer (some ⟨g1, 0, none⟩) := by simpa using hp
  have hq' : tmps[q]?.getD undef = .pointer (some ⟨g2, 0, none⟩) := by simpa using hq
  simp [results, h, hp', hq', asAddr, run_loadVar_row w g1 t1 ty cs1 f1 d hg1 hu hd hi1, run_loadVar_row w g2 t2 ty cs2 f2 d hg2 hu hd hi2]
theorem bcells_all (l : List UInt8) : (bcells l).all (·.oneCell') = true := by
  rw [Array.all_eq_true_iff_forall_mem]
  intro v hv
  rw [bcells_toList] at hv
  obtain ⟨b, _, rfl⟩ := List.mem_map.1 (by simpa using hv)
  rfl
theorem run_index_one {P : Program} {t e n : Nat} {d : TypeDesc} (ht : P.underlying t = some (.array n e)) (he : P.underlying e = some d) (hd : (match d with | .struct _ | .array _ _ => true | _ => false) = false) (hi : (P.info? e).map (·.size) = some 1) (cs : Array Value) (v : Value) (k : Nat) (hk : k < n) (hc : cs[k]? = some v) (w : World) :
    (Instr.index t (.agg cs) (.int .i64 (k : Int))).run P w = .ok v w := by
  obtain ⟨i0, hi0, hs⟩ : ∃ i0, P.info? e = some i0 ∧ i0.size = 1 := by
    cases hq : P.info? e with
    | none => simp [hq] at hi
    | some i => exact ⟨i, rfl, by simpa [hq] using hi⟩
  have hagg : (isAgg e).run P w = .ok false w := by
    unfold isAgg
    rw [Sem.run_bind, run_underlying he w]
    cases d <;> simp_all
  simp [Instr.index, asIntOf, run_underlying ht, hk, sizeOf, typeInfo, hi0, hs, part, hagg, hc]
set_option maxRecDepth 100000 in
set_option maxHeartbeats 4000000 in
theorem boxes_any (w : World) : Calls Try.prog 33 #[] w fun e w' => e = .returned (.tuple #[.agg (bcells boxT), .agg (bcells unT)]) ∧ Ext w w' := by
  have hz := zero_b256
  have h99 : ∀ y : UInt8, bits .xor .u8 (y.toNat : Int) 99 = ((x8 y 99).toNat : Int) := fun y => bxor8 y 99
  have G1 := Lib.hid turned_1; have G2 := Lib.hid turned_2; have G3 := Lib.hid turned_3; have G4 := Lib.hid turned_4
  have T3 : Hid (∀ (p : UInt8) (W : World), Calls Try.prog 11 #[.int .u8 (p.toNat : Int), .int .u8 3] W fun e w' => e = .returned (.int .u8 ((gm p 3).toNat : Int)) ∧ W = w') := Lib.hid fun p W => times_any p 3 W
  have T6 : Hid (∀ (p : UInt8) (W : World), Calls Try.prog 11 #[.int .u8 (p.toNat : Int), .int .u8 246] W fun e w' => e = .returned (.int .u8 ((gm p 246).toNat : Int)) ∧ W = w') := Lib.hid fun p W => times_any p 246 W
  go_enter Try.func33, Try.ntmps33
  go_upto_region 2 with fail
  obtain ⟨w0, hw0⟩ : ∃ w0, (w.alloc (Obj.cells z256 53)).alloc (Obj.cells z256 53) = w0 := ⟨_, rfl⟩
  have k0 : w0.heap[w.heap.size]? = some (.cells (bcells (boxK 0)) 53) := by rw [← hw0]; exact heap_alloc_old _ _ (heap_alloc_new _ _)
  have k1 : w0.heap[w.heap.size + 1]? = some (.cells (bcells (unK 0)) 53) := by rw [← hw0]; exact heap_alloc2b _ _ _
  have kx : Ext w w0 := by rw [← hw0]; exact ((Ext.refl w).alloc _).alloc _
  rw [hw0]
  clear hw0 hz
  go_wp2
  go_loopw [2, 3, 6] (fun p q i wr => ∃ k : Nat, k ≤ 255 ∧ p = .int .u8 ((pT.getD k 0).toNat : Int) ∧ q = .int .u8 ((qT.getD k 0).toNat : Int) ∧ i = .int .i64 k ∧ wr.heap[w.heap.size]? = some (.cells (bcells (boxK k)) 53) ∧ wr.heap[w.heap.size + 1]? = some (.cells (bcells (unK 0)) 53) ∧ Ext w wr) (fun _ _ i _ => 255 - (intOf i).toNat)
  case atStart => exact ⟨0, by omega, rfl, rfl, rfl, k0, k1, kx⟩
  case round =>
    clear k0 k1 kx
    obtain ⟨k, hk, rfl, rfl, rfl, hb, hu, hx⟩ := hrel
    have HB := Lib.hid hb; have HU := Lib.hid hu; clear hb hu
    by_cases hlt : k < 255
    · have hp := Lib.hid (pT_step ⟨k, hlt⟩)
      have hq := Lib.hid (qT_step ⟨k, hlt⟩)
      simp only at hp hq
      have hbl := boxK_length k
      have HK : Hid (boxK (k + 1) = (boxK k).set (pT.getD k 0).toNat (boxV (qT.getD k 0))) := Lib.hid rfl
      generalize pT.getD k 0 = p at *
      generalize qT.getD k 0 = q at *
      generalize boxK k = b at *
      have hpl := p.toNat_lt
      have hpb : p.toNat < b.length := by omega
      have HBL := Lib.hid hbl
      clear hbl
      go_wp2_with (first
        | (go_at_call 48; with_reducible refine (G1.out _ _).mono ?_; rintro e w1 ⟨rfl, hx1⟩)
        | (go_at_call 48; with_reducible refine (G2.out _ _).mono ?_; rintro e w2 ⟨rfl, hx2⟩)
        | (go_at_call 48; with_reducible refine (G3.out _ _).mono ?_; rintro e w3 ⟨rfl, hx3⟩)
        | (go_at_call 48; with_reducible refine (G4.out _ _).mono ?_; rintro e w4 ⟨rfl, hx4⟩; have hx' : Ext wr w4 := hx1.trans (hx2.trans (hx3.trans hx4)); have HB4 := Lib.hid (hx'.keep HB.out); have HU4 := Lib.hid (hx'.keep HU.out); have hc4 := cell_blk HB4.out (bcells_at b p.toNat hpb); have hf4 := frozen_blk (i := p.toNat) HB4.out)
        | (go_at_call 11; with_reducible refine (T3.out _ _).mono ?_; rintro e w' ⟨rfl, rfl⟩)
        | (go_at_call 11; with_reducible refine (T6.out _ _).mono ?_; rintro e w' ⟨rfl, rfl⟩))
      go_roundw
      case measure => simp [intOf]; omega
      case rel =>
        refine ⟨k + 1, by omega, by rw [hp.out], by rw [hq.out], by go_num, ?_, ?_, (hx.trans hx').setCell (Nat.le_refl _) _⟩
        · rw [heap_setCell_same _ HB4.out, bcells_set, HK.out]; rfl
        · rw [heap_setCell_other _ _ _ (by show w.heap.size + 1 ≠ w.heap.size; omega)]; exact HU4.out
    · obtain rfl : k = 255 := by omega
      have hbl := boxK_length 255
      have HBA := Lib.hid boxK_all
      generalize boxK 255 = b at *
      generalize pT.getD 255 0 = p at *
      generalize qT.getD 255 0 = q at *
      obtain ⟨c0, hc0⟩ : ∃ c0, wr.cell? ⟨w.heap.size, 0, none⟩ = some c0 := ⟨_, cell_blk HB.out (bcells_at b 0 (by omega))⟩
      have hf0 := frozen_blk (i := 0) HB.out
      have HBL := Lib.hid hbl
      clear hbl
      go_upto_region 8 with fail
      obtain ⟨w8, hw8⟩ : ∃ w8, wr.setCell ⟨w.heap.size, 0, none⟩ (.int .u8 99) = w8 := ⟨_, rfl⟩
      have hb8 : w8.heap[w.heap.size]? = some (.cells (bcells boxT) 53) := by
        rw [← hw8, heap_setCell_same _ HB.out, show (Value.int .u8 99) = Value.int .u8 ((99 : UInt8).toNat : Int) from rfl, bcells_set, HBA.out]
      have hu8 : w8.heap[w.heap.size + 1]? = some (.cells (bcells (unK 0)) 53) := by
        rw [← hw8, heap_setCell_other _ _ _ (by show w.heap.size + 1 ≠ w.heap.size; omega)]; exact HU.out
      have hx8 : Ext w w8 := by rw [← hw8]; exact hx.setCell (Nat.le_refl _) _
      rw [hw8]
      clear hw8 HB HU hx hc0 hf0
      have hsz : (Try.prog.info? 53).map (·.size) = some (bcells boxT).size := by rw [bcells_size, boxT_length]; exact info_b256
      have HI := Lib.hid hsz
      have HB8 := Lib.hid hb8
      clear hsz hb8
      go_wp2_with (refine wpList_load_row rfl _ _ rfl w.heap.size rfl _ _ _ _ HB8.out und_b256 rfl HI.out ?_)
      obtain ⟨bt, hbt⟩ : ∃ bt, bcells boxT = bt := ⟨_, rfl⟩
      rw [hbt]
      have HBT := Lib.hid hbt
      clear hbt
      go_loopw [31] (fun i wr => ∃ k : Nat, k ≤ 256 ∧ i = .int .i64 k ∧ wr.heap[w.heap.size]? = some (.cells (bcells boxT) 53) ∧ wr.heap[w.heap.size + 1]? = some (.cells (bcells (unK k)) 53) ∧ Ext w wr) (fun i _ => 256 - (intOf i).toNat)
      case atStart => exact ⟨0, by omega, rfl, HB8.out, hu8, hx8⟩
      case round =>
        clear hu8 hx8
        obtain ⟨k, hk, rfl, hb, hu, hx⟩ := hrel
        have HB := Lib.hid hb; have HU := Lib.hid hu; clear hb hu
        by_cases hlt : k < 256
        · have hbg : bt[k]? = some (.int .u8 ((boxT.getD k 0).toNat : Int)) := by
            rw [← HBT.out, bcells_get?]
            have : k < boxT.length := by rw [boxT_length]; exact hlt
            simp [List.getD, this]
          have hul := unK_length k
          have HK : Hid (unK (k + 1) = (unK k).set (boxT.getD k 0).toNat (b8 k)) := Lib.hid rfl
          generalize boxT.getD k 0 = p at *
          generalize unK k = u at *
          have hpl := p.toNat_lt
          have hpu : p.toNat < u.length := by omega
          obtain ⟨c0, hc0⟩ : ∃ c0, wr.cell? ⟨w.heap.size + 1, p.toNat, none⟩ = some c0 := ⟨_, cell_blk HU.out (bcells_at u p.toNat hpu)⟩
          have hf0 := frozen_blk (i := p.toNat) HU.out
          have hix : Sem.run Try.prog (Instr.index 53 (.agg bt) (.int .i64 (k : Int))) wr = .ok (.int .u8 (p.toNat : Int)) wr := run_index_one und_b256 und_u8 rfl (by kernel_rfl) bt _ k hlt hbg wr
          have hw8 : IntKind.u8.wrap (k : Int) = ((b8 k).toNat : Int) := by rw [b8_toNat _ (by omega), IntKind.wrap_u8]; omega
          clear hul
          go_wp2
          go_roundw
          case measure => simp [intOf]; omega
          case rel =>
            refine ⟨k + 1, by omega, by go_num, ?_, ?_, hx.setCell (by show w.heap.size ≤ w.heap.size + 1; omega) _⟩
            · rw [heap_setCell_other _ _ _ (by show w.heap.size ≠ w.heap.size + 1; omega)]; exact HB.out
            · rw [heap_setCell_same _ HU.out, bcells_set, HK.out]
        · obtain rfl : k = 256 := by omega
          rw [unK_all] at HU
          have hsu : (Try.prog.info? 53).map (·.size) = some (bcells unT).size := by rw [bcells_size, unT_length]; exact info_b256
          have HJ := Lib.hid hsu
          clear hsu
          go_upto_region 13 with fail
          refine Loud.wp_region_weave 4 wr (Loud.sps [.val (.agg (bcells boxT)), .val (.agg (bcells unT)), .any, .any]) (by kernel_rfl) (by kernel_rfl) (by show Ext _ _; repeat (first | exact Ext.refl _ | assumption | (with_reducible refine Ext.drew ?_) | (with_reducible refine Ext.drewN ?_ _) | (with_reducible refine Ext.alloc ?_ _) | (refine Ext.trans ?_ (by assumption)))) (Loud.sps_st _) ?wAx1 ?whAx1 ?whSx1 ?whFx1
          case whAx1 => intro u K hK; simp only [List.take_succ_cons, List.take_zero, Loud.puts]; go_simp; exact hK
          case whSx1 =>
            simp only [List.take_succ_cons, List.take_zero, Loud.stepsW]
            refine ⟨?wsx1_0, ?wsx1_1, ?wsx1_2, ?wsx1_3, trivial⟩
            case wsx1_0 =>
              intro u β wq hq h
              repeat (obtain ⟨h1, h⟩ := h; first | (replace h1 := h1 rfl; simp only [go_sem] at h1; try (obtain ⟨h1, h1b⟩ := h1)) | (have hno := (h1 : Region.binds _ _ = true → _); clear hno h1))
              refine Or.inl ⟨rfl, fun K hK => ?_⟩
              exact does_load_row rfl rfl (hq.keep HB.out) und_b256 rfl HI.out (hK _ 0 _ (Ext.refl _) rfl)
            case wsx1_1 =>
              intro u β wq hq h
              repeat (obtain ⟨h1, h⟩ := h; first | (replace h1 := h1 rfl; simp only [go_sem] at h1; try (obtain ⟨h1, h1b⟩ := h1)) | (have hno := (h1 : Region.binds _ _ = true → _); clear hno h1))
              refine Or.inl ⟨rfl, fun K hK => ?_⟩
              exact does_load_row rfl rfl (hq.keep HU.out) und_b256 rfl HJ.out (hK _ 0 _ (Ext.refl _) rfl)
            case wsx1_2 =>
              intro u β wq hq h
              repeat (obtain ⟨h1, h⟩ := h; first | (replace h1 := h1 rfl; simp only [go_sem] at h1; try (obtain ⟨h1, h1b⟩ := h1)) | (have hno := (h1 : Region.binds _ _ = true → _); clear hno h1))
              refine Or.inl ⟨rfl, fun K hK => ?_⟩
              exact does_store_row_same rfl rfl h1 (hq.keep HB.out) HI.out (bcells_all _) (hK _ 0 _ (Ext.refl _) trivial)
            case wsx1_3 =>
              intro u β wq hq h
              repeat (obtain ⟨h1, h⟩ := h; first | (replace h1 := h1 rfl; simp only [go_sem] at h1; try (obtain ⟨h1, h1b⟩ := h1)) | (have hno := (h1 : Region.binds _ _ = true → _); clear hno h1))
              refine Or.inl ⟨rfl, fun K hK => ?_⟩
              exact does_store_row_same rfl rfl h1 (hq.keep HU.out) HJ.out (bcells_all _) (hK _ 0 _ (Ext.refl _) trivial)
          intro u β w9 hq h
          have h0 := h 0 (by omega)
          have h1 := h 1 (by omega)
          have h2 := h 2 (by omega)
          have h3 := h 3 (by omega)
          clear h
          simp only [go_sem] at h0 h1 h2 h3
          simp only [List.drop_succ_cons, List.drop_zero]
          go_wp2
          refine bodyPost_ret (results_two_rows rfl _ _ w.heap.size (w.heap.size + 1) _ _ (bcells boxT) (bcells unT) _ _ _ rfl rfl (hq.keep HB.out) (hq.keep HU.out) und_b256 rfl HI.out HJ.out) rfl ?_
          exact ⟨rfl, hx.trans hq⟩
end Go.Proofs.Ytgncnplgjhaojaa
