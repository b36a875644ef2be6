/- The statements of layer 4: works. -/
import Derived.Test.YtbacamepmilmhaaBlock
namespace Go.Proofs.Ytbacamepmilmhaa
open Go Go.RowKit

def exHex : ByteArray := { data := #[51, 57, 50, 53, 56, 52, 49, 100, 48, 50, 100, 99, 48, 57, 102, 98, 100, 99, 49, 49, 56, 53, 57, 55, 49, 57, 54, 97, 48, 98, 51, 50] }
set_option maxRecDepth 100000 in
theorem exKey_hex : Unhex [50, 98, 55, 101, 49, 53, 49, 54, 50, 56, 97, 101, 100, 50, 97, 54, 97, 98, 102, 55, 49, 53, 56, 56, 48, 57, 99, 102, 52, 102, 51, 99] = (exKey, true) := by decide +kernel
set_option maxRecDepth 100000 in
theorem exBlk_hex : Unhex [51, 50, 52, 51, 102, 54, 97, 56, 56, 56, 53, 97, 51, 48, 56, 100, 51, 49, 51, 49, 57, 56, 97, 50, 101, 48, 51, 55, 48, 55, 51, 52] = (exBlk, true) := by decide +kernel
end Go.Proofs.Ytbacamepmilmhaa
namespace Go.Proofs.Ytbacamepmilmhaa
open Go Go.RowKit

theorem run_index_str (l : List UInt8) (k : Nat) (hk : k < l.length) (w : World) : (Instr.index 9 (.string (bs l)) (.int .i64 (k : Int))).run Try.prog w = .ok (.int .u8 ((l.getD k 0).toNat : Int)) w := by
  have h1 := run_index_string (P := Try.prog) w 9 (bs l) .i64 (k : Int) und_string
  rw [dif_pos ⟨by omega, by rw [bs_size]; omega⟩] at h1
  simp only [bs_get, Int.toNat_natCast] at h1
  rw [h1]
  simp [List.getD, hk]
theorem rounds_look {w : World} {B : Nat} {T : TypeId} {v : Value} {K : List UInt8} (h : Row w B T v ((rkL K).map strV)) :
    ∃ g cap, v = .slice (some ⟨g, 0, none⟩) 11 cap ∧ ∀ i, i < 11 → w.cell? ⟨g, i, none⟩ = some (.string (bs (rkey K i))) := by
  have hl : ((rkL K).map strV).length = 11 := by rw [List.length_map, rkL_length]
  rcases h.look with ⟨_, h2⟩ | ⟨g, cap, cur, rfl, _⟩
  · rw [h2] at hl; cases hl
  · refine ⟨g, cap, by rw [hl], fun i hi => ?_⟩
    have := Row.cellAt h i (by omega)
    rw [this]
    simp [rkL, strV]
end Go.Proofs.Ytbacamepmilmhaa
