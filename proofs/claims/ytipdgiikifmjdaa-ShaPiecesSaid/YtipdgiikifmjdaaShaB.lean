/- Contracts: layer 2, the program's state behind a block. -/
import Derived.Test.YtipdgiikifmjdaaSha
import Derived.Deep.DeepCutAuto
import Derived.Laws.Tables
namespace Go.Proofs.Ytipdgiikifmjdaa
open Go Go.RowKit

/-- k 0 to k 63. -/
def kN : List Nat := [1116352408, 1899447441, 3049323471, 3921009573, 961987163, 1508970993, 2453635748, 2870763221, 3624381080, 310598401, 607225278, 1426881987, 1925078388, 2162078206, 2614888103, 3248222580, 3835390401, 4022224774, 264347078, 604807628, 770255983, 1249150122, 1555081692, 1996064986, 2554220882, 2821834349, 2952996808, 3210313671, 3336571891, 3584528711, 113926993, 338241895, 666307205, 773529912, 1294757372, 1396182291, 1695183700, 1986661051, 2177026350, 2456956037, 2730485921, 2820302411, 3259730800, 3345764771, 3516065817, 3600352804, 4094571909, 275423344, 430227734, 506948616, 659060556, 883997877, 958139571, 1322822218, 1537002063, 1747873779, 1955562222, 2024104815, 2227730452, 2361852424, 2428436474, 2756734187, 3204031479, 3329325298]
def kT : List UInt32 := kN.map UInt32.ofNat
theorem kT_length : kT.length = 64 := rfl
def kV : Array Value := wcells kT
def kZ : Array Value := wcells zw
theorem kV_size : kV.size = 64 := by rw [kV, wcells_size, kT_length]
theorem kZ_size : kZ.size = 64 := by rw [kZ, wcells_size]; rfl
theorem kV_one : kV.all (·.oneCell') = true := by kernel_rfl
theorem info_tab : (Try.prog.info? 81).map (·.size) = some 64 := by kernel_rfl
theorem und_tab : Try.prog.underlying 81 = some (.array 64 29) := by kernel_rfl
set_option maxRecDepth 100000 in
set_option maxHeartbeats 1000000 in
theorem table_any (w : World) : Calls Try.prog 47 #[] w fun e w' => e = .returned (.agg kV) ∧ Ext w w' := by
  have hK1 := kV_one
  have hK2 := kV_size
  have hK3 := kZ_size
  have hi : (Try.prog.info? 81).map (·.size) = some kV.size := by rw [hK2]; exact info_tab
  have H1 := Lib.hid hK1; have HI := Lib.hid hi; have H3 := Lib.hid (hK3.trans hK2.symm)
  clear hK1 hK2 hK3 hi
  go_enter Try.func47, Try.ntmps47
  go_wp2_with (first
    | (refine wpList_allocTo rfl _ rfl _ (.cells kZ 81) (by kernel_rfl) ?_)
    | (refine wpList_readTo rfl _ rfl (.agg kV) (by kernel_rfl) ?_)
    | (refine wpList_store_row rfl _ _ _ rfl w.heap.size kV rfl rfl _ _ (heap_alloc_new _ _) HI.out H3.out H1.out ?_))
  refine bodyPost_ret (results_cell_row rfl _ _ w.heap.size _ kV _ _ rfl (setRow_heap _ _ _ _ _ _ (heap_alloc_new _ _)) und_tab rfl HI.out) rfl ?_
  exact ⟨rfl, below_setRow ((Ext.refl w).alloc _) (Nat.le_refl _) _⟩
end Go.Proofs.Ytipdgiikifmjdaa
