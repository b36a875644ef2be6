/- Contracts: layer 2, the document's step. -/
import Derived.Test.YtipdgiikifmjdaaShaR
import Derived.Test.YtipdgiikifmjdaaShaC
namespace Go.Proofs.Ytipdgiikifmjdaa
open Go Go.RowKit

def n32 (x : UInt32) : UInt32 := ~~~x
theorem ch_eq (e f g : UInt32) : x32 (a32 e f) (a32 (n32 e) g) = x32 g (a32 e (x32 f g)) := by
  simp only [x32, a32, n32]
  apply UInt32.toBitVec_inj.1
  simp only [UInt32.toBitVec_xor, UInt32.toBitVec_and, UInt32.toBitVec_not]
  ext i hi
  simp only [BitVec.getElem_xor, BitVec.getElem_and, BitVec.getElem_not]
  cases e.toBitVec[i] <;> cases f.toBitVec[i] <;> cases g.toBitVec[i] <;> rfl
theorem maj_eq (a b c : UInt32) : x32 (x32 (a32 a b) (a32 a c)) (a32 b c) = o32 (a32 a b) (a32 c (o32 a b)) := by
  simp only [x32, a32, o32]
  apply UInt32.toBitVec_inj.1
  simp only [UInt32.toBitVec_xor, UInt32.toBitVec_and, UInt32.toBitVec_or]
  ext i hi
  simp only [BitVec.getElem_xor, BitVec.getElem_and, BitVec.getElem_or]
  cases a.toBitVec[i] <;> cases b.toBitVec[i] <;> cases c.toBitVec[i] <;> rfl
set_option maxRecDepth 100000 in
set_option maxHeartbeats 1000000 in
theorem RefThree_any (x : UInt32) (a b c : Int) (ha : -9223372036854775808 ≤ a ∧ a ≤ 9223372036854775807) (hb : -9223372036854775808 ≤ b ∧ b ≤ 9223372036854775807) (hc : -9223372036854775808 ≤ c ∧ c ≤ 9223372036854775807) (w : World) :
    Calls Try.prog 44 #[.int .u32 x.toNat, .int .i64 a, .int .i64 b, .int .i64 c] w fun e w' => e = .returned (.int .u32 (turnedS x [a, b, c]).toNat) ∧ w = w' := by
  rw [turnedS3]
  have T1 := Lib.hid (fun w => RefTurn_any x a w ha.1 ha.2)
  have T2 := Lib.hid (fun w => RefTurn_any x b w hb.1 hb.2)
  have T3 := Lib.hid (fun w => RefTurn_any x c w hc.1 hc.2)
  clear ha hb hc
  go_enter Try.func44, Try.ntmps44
  go_wp2_with (first
    | (go_at_call 35; with_reducible refine (T1.out _).mono ?_; rintro e w' ⟨rfl, rfl⟩)
    | (go_at_call 35; with_reducible refine (T2.out _).mono ?_; rintro e w' ⟨rfl, rfl⟩)
    | (go_at_call 35; with_reducible refine (T3.out _).mono ?_; rintro e w' ⟨rfl, rfl⟩))
  go_returns
  exact ⟨rfl, rfl⟩
set_option maxRecDepth 100000 in
set_option maxHeartbeats 2000000 in
theorem RefK_any (w : World) : Calls Try.prog 43 #[] w fun e w' => ∃ g, e = .returned (.slice (some ⟨g, 0, none⟩) 64 64) ∧ w'.heap[g]? = some (.cells kV 29) ∧ Ext w w' := by
  go_enter Try.func43, Try.ntmps43
  go_wp2_with (refine wpList_allocTo rfl _ rfl (.slice (some ⟨w.heap.size, 0, none⟩) 64 64) (.cells kV 29) (by kernel_rfl) ?_)
  go_returns
  exact ⟨w.heap.size, rfl, heap_alloc_new _ _, (Ext.refl w).alloc _⟩
end Go.Proofs.Ytipdgiikifmjdaa
