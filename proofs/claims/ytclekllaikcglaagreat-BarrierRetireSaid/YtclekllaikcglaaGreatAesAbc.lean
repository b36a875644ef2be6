/- The document's example of a block ciphered. -/
import Derived.Test.YtclekllaikcglaaGreatBlock
namespace Go.Proofs.YtclekllaikcglaaGreat
open Go Go.RowKit

def exKey : List UInt8 := [43, 126, 21, 22, 40, 174, 210, 166, 171, 247, 21, 136, 9, 207, 79, 60]
def exBlk : List UInt8 := [50, 67, 246, 168, 136, 90, 48, 141, 49, 49, 152, 162, 224, 55, 7, 52]
def exW : List UInt32 := [729683222, 682545830, 2885096840, 164581180, 2700803607, 2287217841, 597899577, 711751173, 4072838642, 2056698179, 1496678522, 1935275647, 1031817085, 1192689214, 505642564, 1836746811, 4014253377, 2823969663, 3060868411, 3674975488, 3570517752, 2089000327, 3404904636, 301536700, 1837671290, 285949693, 3690563137, 3389035517, 1314191118, 1600113139, 2225491890, 1319558223, 3939660577, 3045964498, 824964448, 2139957551, 2893506291, 435870753, 684796225, 1465647214, 3491035560, 3387827593, 3779005640, 3059944614]
def exR : List UInt8 := [1, 1, 1, 1, 1, 2, 2, 2, 2, 4, 4, 4, 4, 8, 8, 8, 8, 16, 16, 16, 16, 32, 32, 32, 32, 64, 64, 64, 64, 128, 128, 128, 128, 27, 27, 27, 27, 54, 54, 54, 54, 108, 108, 108, 108]
def exK : List UInt8 := [43, 126, 21, 22, 40, 174, 210, 166, 171, 247, 21, 136, 9, 207, 79, 60, 160, 250, 254, 23, 136, 84, 44, 177, 35, 163, 57, 57, 42, 108, 118, 5, 242, 194, 149, 242, 122, 150, 185, 67, 89, 53, 128, 122, 115, 89, 246, 127, 61, 128, 71, 125, 71, 22, 254, 62, 30, 35, 126, 68, 109, 122, 136, 59, 239, 68, 165, 65, 168, 82, 91, 127, 182, 113, 37, 59, 219, 11, 173, 0, 212, 209, 198, 248, 124, 131, 157, 135, 202, 242, 184, 188, 17, 249, 21, 188, 109, 136, 163, 122, 17, 11, 62, 253, 219, 249, 134, 65, 202, 0, 147, 253, 78, 84, 247, 14, 95, 95, 201, 243, 132, 166, 79, 178, 78, 166, 220, 79, 234, 210, 115, 33, 181, 141, 186, 210, 49, 43, 245, 96, 127, 141, 41, 47, 172, 119, 102, 243, 25, 250, 220, 33, 40, 209, 41, 65, 87, 92, 0, 110, 208, 20, 249, 168, 201, 238, 37, 137, 225, 63, 12, 200, 182, 99, 12, 166]
def exS : List (List UInt8) := [[25, 61, 227, 190, 160, 244, 226, 43, 154, 198, 141, 42, 233, 248, 72, 8], [164, 156, 127, 242, 104, 159, 53, 43, 107, 91, 234, 67, 2, 106, 80, 73], [170, 143, 95, 3, 97, 221, 227, 239, 130, 210, 74, 210, 104, 50, 70, 154], [72, 108, 78, 238, 103, 29, 157, 13, 77, 227, 177, 56, 214, 95, 88, 231], [224, 146, 127, 232, 200, 99, 99, 192, 217, 177, 53, 80, 133, 184, 190, 1], [241, 0, 111, 85, 193, 146, 76, 239, 124, 200, 139, 50, 93, 181, 213, 12], [38, 14, 46, 23, 61, 65, 183, 125, 232, 100, 114, 169, 253, 210, 139, 37], [90, 65, 66, 177, 25, 73, 220, 31, 163, 224, 25, 101, 122, 140, 4, 12], [234, 131, 92, 240, 4, 69, 51, 45, 101, 93, 152, 173, 133, 150, 176, 197], [235, 64, 242, 30, 89, 46, 56, 132, 139, 161, 19, 231, 27, 195, 66, 210], [57, 37, 132, 29, 2, 220, 9, 251, 220, 17, 133, 151, 25, 106, 11, 50]]
def wsF (key : List UInt8) (i : Nat) (p : List UInt32 × UInt8) : List UInt32 × UInt8 :=
  if i < 4 then (p.1 ++ [keyW key i], p.2)
  else if i % 4 = 0 then (p.1 ++ [x32 (p.1.getD (i - 4) 0) (x32 (boxW (rotr (p.1.getD (i - 1) 0) (-8))) (shl24 p.2))], tw p.2)
  else (p.1 ++ [x32 (p.1.getD (i - 4) 0) (p.1.getD (i - 1) 0)], p.2)
theorem wsN_succ (key : List UInt8) (i : Nat) : wsN key (i + 1) = wsF key i (wsN key i) := rfl
set_option maxRecDepth 100000 in
theorem exW_step : ∀ k : Fin 44, wsF exKey k.val (exW.take k.val, exR.getD k.val 0) = (exW.take (k.val + 1), exR.getD (k.val + 1) 0) := by decide +kernel
theorem exW_all : ∀ k, k ≤ 44 → wsN exKey k = (exW.take k, exR.getD k 0) := by
  intro k
  induction k with
  | zero => intro _; rfl
  | succ k ih =>
    intro h
    rw [wsN_succ, ih (by omega)]
    exact exW_step ⟨k, by omega⟩
theorem exW_is : ksW exKey = exW := by
  unfold ksW
  rw [exW_all 44 (by omega)]
  decide +kernel
def kbL (W : List UInt32) : Nat → List UInt8
  | 0 => List.replicate 176 0
  | k + 1 => splice (kbL W k) (4 * k) (putB 4 (W.getD k 0).toNat)
theorem kbK_kbL (key : List UInt8) : ∀ k, kbK key k = kbL (ksW key) k
  | 0 => rfl
  | k + 1 => by rw [kbK, kbL, kbK_kbL key k]
set_option maxRecDepth 100000 in
theorem exK_is : rks exKey = exK := by
  unfold rks
  rw [kbK_kbL, exW_is]
  decide +kernel
set_option maxRecDepth 100000 in
theorem exS_step : ∀ r : Fin 10, roundS exK (exS.getD r.val []) (r.val + 1) = exS.getD (r.val + 1) [] := by decide +kernel
theorem exS_all : ∀ r, r ≤ 10 → blkN exK exBlk r = exS.getD r [] := by
  intro r
  induction r with
  | zero => intro _; decide +kernel
  | succ r ih =>
    intro h
    rw [blkN, ih (by omega)]
    exact exS_step ⟨r, by omega⟩
theorem ex_sum : encL (rks exKey) exBlk = [57, 37, 132, 29, 2, 220, 9, 251, 220, 17, 133, 151, 25, 106, 11, 50] := by
  rw [exK_is, encL, exS_all 10 (by omega)]
  decide +kernel
end Go.Proofs.YtclekllaikcglaaGreat
namespace Go.Proofs.YtclekllaikcglaaGreat
open Go Go.RowKit

def exHex : ByteArray := { data := #[51, 57, 50, 53, 56, 52, 49, 100, 48, 50, 100, 99, 48, 57, 102, 98, 100, 99, 49, 49, 56, 53, 57, 55, 49, 57, 54, 97, 48, 98, 51, 50] }
set_option maxRecDepth 100000 in
theorem exKey_hex : Unhex [50, 98, 55, 101, 49, 53, 49, 54, 50, 56, 97, 101, 100, 50, 97, 54, 97, 98, 102, 55, 49, 53, 56, 56, 48, 57, 99, 102, 52, 102, 51, 99] = (exKey, true) := by decide +kernel
set_option maxRecDepth 100000 in
theorem exBlk_hex : Unhex [51, 50, 52, 51, 102, 54, 97, 56, 56, 56, 53, 97, 51, 48, 56, 100, 51, 49, 51, 49, 57, 56, 97, 50, 101, 48, 51, 55, 48, 55, 51, 52] = (exBlk, true) := by decide +kernel
end Go.Proofs.YtclekllaikcglaaGreat
namespace Go.Proofs.YtclekllaikcglaaGreat
open Go Go.RowKit

theorem run_index_str (l : List UInt8) (k : Nat) (hk : k < l.length) (w : World) : (Instr.index 9 (.string (bs l)) (.int .i64 (k : Int))).run Tryz.prog w = .ok (.int .u8 ((l.getD k 0).toNat : Int)) w := by
  have h1 := run_index_string (P := Tryz.prog) w 9 (bs l) .i64 (k : Int) und_string
  rw [dif_pos ⟨by omega, by rw [bs_size]; omega⟩] at h1
  simp only [bs_get, Int.toNat_natCast] at h1
  rw [h1]
  simp [List.getD, hk]
theorem rounds_look {w : World} {B : Nat} {T : TypeId} {v : Value} {K : List UInt8} (h : Row w B T v ((rkL K).map strV)) :
    ∃ g cap, v = .slice (some ⟨g, 0, none⟩) 11 cap ∧ ∀ i, i < 11 → w.cell? ⟨g, i, none⟩ = some (.string (bs (rkey K i))) := by
  have hl : ((rkL K).map strV).length = 11 := by rw [List.length_map, rkL_length]
  rcases h.look with ⟨_, h2⟩ | ⟨g, cap, cur, rfl, _⟩
  · rw [h2] at hl; cases hl
  · refine ⟨g, cap, by rw [hl], fun i hi => ?_⟩
    have := Row.cellAt h i (by omega)
    rw [this]
    simp [rkL, strV]
end Go.Proofs.YtclekllaikcglaaGreat
