/- Contracts: layer 4, a cipher's round keys. -/
import Derived.Test.YtgncnplgjhaojaaBlock
namespace Go.Proofs.Ytgncnplgjhaojaa
open Go Go.RowKit

theorem run_loadVar_part {P : Program} (w : World) (g off : Nat) (ty : TypeId) (cs : List Value) (d : TypeDesc) (hc : ∀ j v, cs[j]? = some v → w.cell? ⟨g, off + j, none⟩ = some v)
    (hu : P.underlying ty = some d) (hd : (match d with | .struct _ | .array _ _ => true | _ => false) = true) (hi : (P.info? ty).map (·.size) = some cs.length) :
    (loadVar ty ⟨g, off, none⟩).run P w = .ok (.agg cs.toArray) w := by
  have hl : (loadCells ⟨g, off, none⟩ cs.length).run P w = .ok cs.toArray w :=
    run_loadCells_list (P := P) w ⟨g, off, none⟩ cs (fun j v hv => by
      have hadd : (⟨g, off, none⟩ : Addr).add j = ⟨g, off + j, none⟩ := by unfold Addr.add; split <;> simp_all
      rw [hadd]; exact hc j v hv)
  cases hq : P.info? ty with
  | none => simp [hq] at hi
  | some i =>
    have hs : i.size = cs.length := by simpa [hq] using hi
    have hagg : (isAgg ty).run P w = .ok true w := by
      unfold isAgg
      rw [Sem.run_bind, run_underlying hu w]
      cases d <;> simp_all
    simp [loadVar, Sem.run_bind, hagg, sizeOf, typeInfo, hq, hs, hl]
theorem wpl_load_part {P : Program} {ops : Array Oper} {rest : List Oper} {o : Oper} {a : Act} {w : World} {Q : Exit → Act → World → Prop} (hgd : o.guard = none) {ty : TypeId} {x : Operand} (ho : o.op = .load ty x)
    {g off : Nat} (hx : a.eval x = .pointer (some ⟨g, off, none⟩)) (cs : List Value) (d : TypeDesc) (hc : ∀ j v, cs[j]? = some v → w.cell? ⟨g, off + j, none⟩ = some v)
    (hu : P.underlying ty = some d) (hd : (match d with | .struct _ | .array _ _ => true | _ => false) = true) (hi : (P.info? ty).map (·.size) = some cs.length)
    (h : wpList P ops Q rest (a.put o.dst (.agg cs.toArray)) w) : wpList P ops Q (o :: rest) a w := by
  refine wpList_plain hgd fun K hK => ?_
  unfold Oper.wp execOp
  simp only [ho, hx, Instr.loadAt, Instr.sureAddr, Sem.run_bind, Sem.run_pure, Result.andThen_ok, run_loadVar_part w g off ty cs d hc hu hd hi]
  exact hK _ _ h
theorem run_index_agg {P : Program} {t e n m : Nat} {d : TypeDesc} (ht : P.underlying t = some (.array n e)) (he : P.underlying e = some d) (hd : (match d with | .struct _ | .array _ _ => true | _ => false) = true) (hi : (P.info? e).map (·.size) = some m) (cs : Array Value) (k : Nat) (hk : k < n) (w : World) :
    (Instr.index t (.agg cs) (.int .i64 (k : Int))).run P w = .ok (.agg (cs.extract (k * m) (k * m + m))) w := by
  obtain ⟨i0, hi0, hs⟩ : ∃ i0, P.info? e = some i0 ∧ i0.size = m := by
    cases hq : P.info? e with
    | none => simp [hq] at hi
    | some i => exact ⟨i, rfl, by simpa [hq] using hi⟩
  have hagg : (isAgg e).run P w = .ok true w := by
    unfold isAgg
    rw [Sem.run_bind, run_underlying he w]
    cases d <;> simp_all
  simp [Instr.index, asIntOf, run_underlying ht, hk, sizeOf, typeInfo, hi0, hs, part, hagg]
theorem bcells_extract (l : List UInt8) (i j : Nat) : (bcells l).extract i j = bcells ((l.drop i).take (j - i)) := by
  simp [bcells, List.map_take, List.map_drop]
theorem und_keys : Try.prog.underlying 57 = some (.array 11 56) := by kernel_rfl
theorem info_keys : (Try.prog.info? 57).map (·.size) = some 176 := by kernel_rfl
theorem info_str : (Try.prog.info? 9).map (fun i => (i.zero, i.size, i.bytes)) = some (some (.string { data := #[] }), 1, 16) := by kernel_rfl
theorem und_strs : Try.prog.underlying 31 = some (.slice 9) := by kernel_rfl
/-- A cipher's round keys, as texts. -/
def rkL (K : List UInt8) : List (List UInt8) := (List.range 11).map (rkey K)
theorem rkL_length (K : List UInt8) : (rkL K).length = 11 := by simp [rkL]
set_option maxRecDepth 100000 in
set_option maxHeartbeats 4000000 in
theorem Rounds_any (c : Nat) (K : List UInt8) (w : World) (hci : CI w c K) :
    Calls Try.prog 20 #[.pointer (some ⟨c, 0, none⟩)] w (RetRow w 9 ((rkL K).map strV)) := by
  have hmd := hci.made
  have hK := Lib.hid hci.1
  have HC := Lib.hid hci
  have hz := zero_b16'
  have hload : ∀ j v, (K.map byteV)[j]? = some v → w.cell? ⟨c, 0 + j, none⟩ = some v := by
    intro j v hv
    rw [List.getElem?_map] at hv
    obtain ⟨x, hx, rfl⟩ := Option.map_eq_some_iff.1 hv
    obtain ⟨hj, rfl⟩ := List.getElem?_eq_some_iff.1 hx
    rw [Nat.zero_add]
    exact hci.key j hj
  have HLD := Lib.hid hload
  have HIK := Lib.hid (show (Try.prog.info? 57).map (·.size) = some (K.map byteV).length by rw [List.length_map, hci.1]; exact info_keys)
  clear hci hload
  go_enter Try.func20, Try.ntmps20
  go_wp2_with (refine wpl_load_part rfl rfl (g := c) (off := 0) rfl (K.map byteV) _ HLD.out und_keys rfl HIK.out ?_)
  obtain ⟨KA, hKA⟩ : ∃ KA, (K.map byteV).toArray = KA := ⟨_, rfl⟩
  rw [hKA]
  have HKA := Lib.hid hKA
  clear hKA
  go_loopw [2, 18] (fun o i wr => ∃ k : Nat, k ≤ 11 ∧ i = .int .i64 k ∧ Row wr w.heap.size 9 o (((rkL K).take k).map strV) ∧ Ext w wr) (fun _ i _ => 11 - (intOf i).toNat)
  case atStart => exact ⟨0, by omega, rfl, Row.nil _ _ _, Ext.refl _⟩
  case round =>
    obtain ⟨k, hk, rfl, hrow, hx⟩ := hrel
    have hsz := hx.size
    by_cases hlt : k < 11
    · have hix : Sem.run Try.prog (Instr.index 57 (.agg KA) (.int .i64 (k : Int))) wr = .ok (.agg (bcells (rkey K k))) wr := by
        have h := run_index_agg (P := Try.prog) und_keys und_b16 rfl info_b16 KA k hlt wr
        rw [h, ← HKA.out, show (K.map byteV).toArray = bcells K from rfl, bcells_extract]
        congr 3
        unfold rkey
        rw [show k * 16 + 16 - k * 16 = 16 by omega, show k * 16 = 16 * k by omega]
      have hrl := rkey_length K hK.out k (by omega)
      have HS : Hid (((rkL K).take (k + 1)).map strV = ((rkL K).take k).map strV ++ [strV (rkey K k)]) := Lib.hid (by
        rw [List.take_succ_eq_append_getElem (by rw [rkL_length]; exact hlt), List.map_append, List.map_cons, List.map_nil]
        simp [rkL])
      have HL : Hid ((((rkL K).take k).map strV).length = k) := Lib.hid (by rw [List.length_map, List.length_take, rkL_length]; omega)
      generalize (rkL K).take k = pre at *
      generalize rkey K k = rk at *
      have hIt := Lib.hid (show (Try.prog.info? 56).map (·.size) = some (bcells rk).size by rw [bcells_size, hrl]; exact info_b16)
      have hZt := Lib.hid (show (bcells z16).size = (bcells rk).size by rw [bcells_size, bcells_size, hrl, z16_length])
      go_upto_region 6 with (refine wpList_store_row rfl _ _ _ rfl wr.heap.size (bcells rk) rfl rfl _ _ (heap_alloc_new wr _) hIt.out hZt.out (bcells_all _) ?_)
      obtain ⟨w4, hw4⟩ : ∃ w4, (wr.alloc (Obj.cells (bcells z16) 56)).setRow wr.heap.size (bcells rk) = w4 := ⟨_, rfl⟩
      have hb8 : w4.heap[wr.heap.size]? = some (.cells (bcells rk) 56 (0, 0)) := by rw [← hw4]; exact setRow_get (heap_alloc_new wr _)
      have hx4 : Ext wr w4 := by rw [← hw4]; exact below_setRow ((Ext.refl wr).alloc _) (Nat.le_refl _) _
      rw [hw4]
      clear hw4
      have kc := fun c => to_str_of (c := c) (n := 16) hb8 hrl
      clear hb8
      have hsz4 := hx4.size
      go_wp2_with (at_builtin; refine wpl_append rfl _ _ 31 rfl und_strs info_str rfl (by omega) w.heap.size (by simp; omega) _ (pre.map strV) rfl (hrow.ext (hx4.alloc _)) ⟨w4.heap.size, 0, none⟩ 1 1 [strV rk] rfl rfl (cells_one_new _ _ _) (oneCells [rk] (fun _ => rfl)) (by rw [HL.out]; omega) ?_; intro v' w3 hrow3 hb3 _)
      go_roundw
      case measure => simp [intOf]; omega
      case rel => exact ⟨k + 1, by omega, by go_num, by rw [HS.out]; exact hrow3, ((hx.trans hx4).alloc _).trans_below hb3⟩
    · obtain rfl : k = 11 := by omega
      rw [List.take_of_length_le (by rw [rkL_length]; omega)] at hrow
      go_wp2
      go_returns
      exact ⟨_, rfl, hrow, hx⟩
end Go.Proofs.Ytgncnplgjhaojaa
