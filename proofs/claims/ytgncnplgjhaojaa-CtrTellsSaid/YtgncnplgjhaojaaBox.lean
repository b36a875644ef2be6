/- Contracts: layer 4, a byte's box, and what it is a box of. -/
import Derived.Test.YtgncnplgjhaojaaBoxes
import Derived.Test.YtgncnplgjhaojaaMem
namespace Go.Proofs.Ytgncnplgjhaojaa
open Go Go.RowKit

theorem setRow_get {w : World} {g : Nat} {old cs : Array Value} {t : TypeId} (hg : w.heap[g]? = some (.cells old t (0, 0))) : (w.setRow g cs).heap[g]? = some (.cells cs t (0, 0)) := setRow_heap w g old cs t _ hg
set_option maxRecDepth 100000 in
set_option maxHeartbeats 2000000 in
theorem Box_any (b : UInt8) (w : World) : Calls Try.prog 13 #[.int .u8 (b.toNat : Int)] w fun e w' => e = .returned (.int .u8 ((boxO b).toNat : Int)) ∧ Ext w w' := by
  have GB := Lib.hid boxes_any
  have hz := zero_b256
  have HI := Lib.hid (show (Try.prog.info? 53).map (·.size) = some (bcells boxT).size by rw [bcells_size, boxT_length]; exact info_b256)
  have HJ := Lib.hid (show (Try.prog.info? 53).map (·.size) = some (bcells unT).size by rw [bcells_size, unT_length]; exact info_b256)
  have HI2 := Lib.hid (show z256.size = (bcells boxT).size by rw [bcells_size, boxT_length, z256, bcells_size, List.length_replicate])
  have HJ2 := Lib.hid (show z256.size = (bcells unT).size by rw [bcells_size, unT_length, z256, bcells_size, List.length_replicate])
  go_enter Try.func13, Try.ntmps13
  go_upto_region 2 with (first
    | (go_at_call 33; with_reducible refine (GB.out _).mono ?_; rintro e w1 ⟨rfl, hx1⟩)
    | (refine wpList_store_row rfl _ _ _ rfl w1.heap.size (bcells boxT) rfl rfl _ _ (heap_alloc_old _ _ (heap_alloc_new _ _)) HI.out HI2.out (bcells_all _) ?_)
    | (refine wpList_store_row rfl _ _ _ rfl (w1.heap.size + 1) (bcells unT) rfl rfl _ z256 ((setRow_other _ w1.heap.size (w1.heap.size + 1) _ (by omega)).trans (heap_alloc2b w1 _ _)) HJ.out HJ2.out (bcells_all _) ?_))
  obtain ⟨w2, hw2⟩ : ∃ w2, ((((w1.alloc (Obj.cells z256 53)).alloc (Obj.cells z256 53)).setRow w1.heap.size (bcells boxT)).setRow (w1.heap.size + 1) (bcells unT)) = w2 := ⟨_, rfl⟩
  have hb : w2.heap[w1.heap.size]? = some (.cells (bcells boxT) 53) := by
    rw [← hw2, setRow_other _ _ _ _ (by omega)]
    exact setRow_get (heap_alloc_old _ _ (heap_alloc_new _ _))
  have hx2 : Ext w1 w2 := by
    rw [← hw2]
    exact below_setRow (below_setRow (((Ext.refl w1).alloc _).alloc _) (Nat.le_refl _) _) (by omega) _
  rw [hw2]
  clear hw2
  have hbl := b.toNat_lt
  have hc := cell_blk (i := b.toNat) hb (by rw [bcells_get?, boxO_at]; rfl)
  clear hb
  go_wp2
  go_returns
  exact ⟨rfl, hx1.trans hx2⟩
set_option maxRecDepth 100000 in
set_option maxHeartbeats 2000000 in
theorem Unbox_any (b : UInt8) (w : World) : Calls Try.prog 15 #[.int .u8 (b.toNat : Int)] w fun e w' => e = .returned (.int .u8 ((unO b).toNat : Int)) ∧ Ext w w' := by
  have GB := Lib.hid boxes_any
  have hz := zero_b256
  have HI := Lib.hid (show (Try.prog.info? 53).map (·.size) = some (bcells boxT).size by rw [bcells_size, boxT_length]; exact info_b256)
  have HJ := Lib.hid (show (Try.prog.info? 53).map (·.size) = some (bcells unT).size by rw [bcells_size, unT_length]; exact info_b256)
  have HI2 := Lib.hid (show z256.size = (bcells boxT).size by rw [bcells_size, boxT_length, z256, bcells_size, List.length_replicate])
  have HJ2 := Lib.hid (show z256.size = (bcells unT).size by rw [bcells_size, unT_length, z256, bcells_size, List.length_replicate])
  go_enter Try.func15, Try.ntmps15
  go_upto_region 2 with (first
    | (go_at_call 33; with_reducible refine (GB.out _).mono ?_; rintro e w1 ⟨rfl, hx1⟩)
    | (refine wpList_store_row rfl _ _ _ rfl w1.heap.size (bcells boxT) rfl rfl _ _ (heap_alloc_old _ _ (heap_alloc_new _ _)) HI.out HI2.out (bcells_all _) ?_)
    | (refine wpList_store_row rfl _ _ _ rfl (w1.heap.size + 1) (bcells unT) rfl rfl _ z256 ((setRow_other _ w1.heap.size (w1.heap.size + 1) _ (by omega)).trans (heap_alloc2b w1 _ _)) HJ.out HJ2.out (bcells_all _) ?_))
  obtain ⟨w2, hw2⟩ : ∃ w2, ((((w1.alloc (Obj.cells z256 53)).alloc (Obj.cells z256 53)).setRow w1.heap.size (bcells boxT)).setRow (w1.heap.size + 1) (bcells unT)) = w2 := ⟨_, rfl⟩
  have hb : w2.heap[w1.heap.size + 1]? = some (.cells (bcells unT) 53) := by
    rw [← hw2]
    exact setRow_get ((setRow_other _ w1.heap.size (w1.heap.size + 1) _ (by omega)).trans (heap_alloc2b w1 _ _))
  have hx2 : Ext w1 w2 := by
    rw [← hw2]
    exact below_setRow (below_setRow (((Ext.refl w1).alloc _).alloc _) (Nat.le_refl _) _) (by omega) _
  rw [hw2]
  clear hw2
  have hbl := b.toNat_lt
  have hc := cell_blk (i := b.toNat) hb (by rw [bcells_get?, unO_at]; rfl)
  clear hb
  go_wp2
  go_returns
  exact ⟨rfl, hx1.trans hx2⟩
end Go.Proofs.Ytgncnplgjhaojaa
