import Derived.Test.YtclekllaikcglaaGreatMap
import Derived.Deep.CutRange

/- The library's partial insertion sort at uint32. -/
namespace Go.Proofs.YtclekllaikcglaaGreat
open Go Go.RowKit
open Go.Sort (swp PermIn SortedIn ltInt Holds scanSorted shiftDown shiftUp partialIns partialInsertionSort partialIns_succ fixDown fixUp)
section
variable {α : Type} [Inhabited α] (lt : α → α → Bool)
theorem sorted_go (d : Array α) (b i : Nat) (h : i < b) (hl : lt d[i]! d[i - 1]! = false) : scanSorted lt d b i = scanSorted lt d b (i + 1) := by
 rw [scanSorted, if_pos (by simp [h, hl])]
theorem sorted_end (d : Array α) (b i : Nat) (h : ¬ i < b ∨ lt d[i]! d[i - 1]! = true) : scanSorted lt d b i = i := by
 rw [scanSorted, if_neg (by rcases h with h | h <;> simp [h])]
theorem shDown_go (j : Nat) (d : Array α) (h : 1 ≤ j) (hl : lt d[j]! d[j - 1]! = true) : shiftDown lt j d = shiftDown lt (j - 1) (swp d j (j - 1)) := by
 cases j with
 | zero => omega
 | succ k => rw [Nat.add_sub_cancel] at hl ⊢; rw [shiftDown, if_neg (by simp [hl])]
theorem shDown_end (j : Nat) (d : Array α) (h : j = 0 ∨ lt d[j]! d[j - 1]! = false) : shiftDown lt j d = d := by
 cases j with
 | zero => rfl
 | succ k =>
  rw [Nat.add_sub_cancel] at h
  rcases h with h | h
  ·omega
  ·rw [shiftDown, if_pos (by simp [h])]
theorem shUp_go (b j : Nat) (d : Array α) (h : j < b) (hl : lt d[j]! d[j - 1]! = true) : shiftUp lt b j d = shiftUp lt b (j + 1) (swp d j (j - 1)) := by
 rw [shiftUp, if_pos h, if_neg (by simp [hl])]
theorem shUp_end (b j : Nat) (d : Array α) (h : ¬ j < b ∨ lt d[j]! d[j - 1]! = false) : shiftUp lt b j d = d := by
 by_cases hb : j < b
 ·rw [shiftUp, if_pos hb, if_pos (by rcases h with h | h; exact absurd hb h; simp [h])]
 ·rw [shiftUp, if_neg hb]
end
set_option maxRecDepth 1000000 in
set_option maxHeartbeats 16000000 in
theorem partIns32 (g off cap a b n : Nat) (d : Array Int) (w0 w : World) (hs : SW g off n w0 d w) (hab : a < b) (hb : b ≤ n) (hsz : n ≤ 1000000) :
  Calls Tryz.prog 135 #[.slice (some ⟨g, off, none⟩) n cap, .int .i64 a, .int .i64 b] w fun e w' => e = .returned (.bool (partialInsertionSort ltInt d a b).2) ∧ SW g off n w0 (partialInsertionSort ltInt d a b).1 w' := by
 have HR : Hid (partialIns ltInt a b 5 (a + 1) d = partialInsertionSort ltInt d a b) := Lib.hid rfl
 generalize partialInsertionSort ltInt d a b = R at *
 have HS := Lib.hid hs
 clear hs
 go_enter Tryz.func135, Tryz.ntmps135
 go_wp2
 go_loopg [7, 8] 5 (fun k s7 s8 wr => ∃ (i j : Nat) (dk : Array Int), s7 = .int .i64 i ∧ s8 = .int .i64 j ∧ j + k = 5 ∧ a < i ∧ i ≤ b ∧ SW g off n w0 dk wr ∧ Hid (partialIns ltInt a b k i dk = R))
 case atStart => exact ⟨a + 1, 0, d, by go_num, by go_num, rfl, by omega, by omega, HS.out, HR⟩
 case round =>
  clear HS HR
  obtain ⟨i, j, dk, rfl, rfl, hjk, hai, hib, hs, HE⟩ := hrel
  obtain ⟨G, hG⟩ := names_of dk
  have HG := Lib.hid hG
  have HK := Lib.hid hs
  clear hG hs
  cases gk with
  | zero =>
   obtain rfl : j = 5 := by omega
   have HX : Hid (R = (dk, false)) := Lib.hid HE.out.symm
   go_wp2
   go_returns
   rw [HX.out]
   exact ⟨rfl, HK.out⟩
  | succ k =>
  have hj5 : j < 5 := by omega
  go_upto_if 14 with fail
  go_cut [7] from 13 to 132 (fun s7 wc => s7 = .int .i64 i ∧ wc = wr)
  case first =>
   go_wp2
   go_meet
   case rel => exact ⟨rfl, rfl⟩
  case rest =>
  obtain ⟨rfl, rfl⟩ := hcut
  go_step
  go_step
  go_step
  go_step
  go_cut [7] from 13 to 132 (fun s7 wc => ∃ i2 : Nat, s7 = .int .i64 i2 ∧ i ≤ i2 ∧ i2 ≤ b ∧ Hid (i2 = scanSorted ltInt dk b i) ∧ SW g off n w0 dk wc)
  case first =>
   go_step
   go_loopg [7] (b - i) (fun k s7 w1 => ∃ i2 : Nat, s7 = .int .i64 i2 ∧ i ≤ i2 ∧ i2 ≤ b ∧ b - i2 ≤ k ∧ Hid (scanSorted ltInt dk b i2 = scanSorted ltInt dk b i) ∧ SW g off n w0 dk w1)
   case atStart => exact ⟨i, rfl, Nat.le_refl _, hib, Nat.le_refl _, Lib.hid rfl, HK.out⟩
   case round =>
    obtain ⟨i2, rfl, h1, h2, h3, HP, hs⟩ := hrel
    have hcw := hs.cells G HG.out
    have HJ := Lib.hid hs
    clear hs HK
    by_cases hlt : i2 < b
    ·go_wp2_with fail
     go_quiet (first | (go_at_call 136; refine Calls.quiet_of_same (less32 _ _ _)))
     go_wp2_with fail
     ·have ht : ltInt (G i2) (G (i2 - 1)) = false := by
       have : (!ltInt (G i2) (G (i2 - 1))) = true := by assumption
       simpa using this
      go_roundg (b - (i2 + 1))
      case measure => omega
      case rel => exact ⟨i2 + 1, by go_num, by omega, by omega, Nat.le_refl _, Lib.hid (by rw [← HP.out]; exact (sorted_go ltInt dk b i2 hlt (by rw [← HG.out, ← HG.out]; exact ht)).symm), HJ.out.drewN nq⟩
     ·have ht : ltInt (G i2) (G (i2 - 1)) = true := by
       have : (!ltInt (G i2) (G (i2 - 1))) = false := by assumption
       simpa using this
      go_meet
      case rel => exact ⟨i2, rfl, h1, h2, Lib.hid (by rw [← HP.out]; exact (sorted_end ltInt dk b i2 (.inr (by rw [← HG.out, ← HG.out]; exact ht))).symm), HJ.out.drewN nq⟩
    ·have hltd : decide (i2 < b) = false := by simpa using hlt
     go_wp2_with fail
     go_quiet (first | (go_at_call 136; refine Calls.quiet_of_same (less32 _ _ _)))
     go_wp2_with fail
     go_meet
     case rel => exact ⟨i2, rfl, h1, h2, Lib.hid (by rw [← HP.out]; exact (sorted_end ltInt dk b i2 (.inl hlt)).symm), HJ.out.drewN nq⟩
  case rest =>
  obtain ⟨i2, rfl, h1, h2, HI, hs⟩ := hcut
  have hcw := hs.cells G HG.out
  have hfw := hs.frz
  have HU := Lib.hid hs
  clear hs HK
  have HX : Hid (R = if i2 = b then (dk, true) else if b - a < 50 then (dk, false) else partialIns ltInt a b k i2 (fixUp ltInt b i2 (fixDown ltInt a i2 (swp dk i2 (i2 - 1))))) := Lib.hid (by rw [← HE.out, partialIns_succ, ← HI.out])
  clear HE
  by_cases he : i2 = b
  ·have HE2 := Lib.hid he
   have he1 : ((i2 : Int) == (b : Int)) = true := by simp; omega
   clear he
   go_wp2
   go_returns
   rw [HX.out, if_pos HE2.out]
   exact ⟨rfl, HU.out⟩
  ·have he1 : ((i2 : Int) == (b : Int)) = false := by simp; omega
   by_cases h50 : b - a < 50
   ·have h50i : (b : Int) - (a : Int) < 50 := by omega
    go_wp2
    go_returns
    rw [HX.out, if_neg he, if_pos h50]
    exact ⟨rfl, HU.out⟩
   ·have h50i : ¬ (b : Int) - (a : Int) < 50 := by omega
    have HX2 : Hid (partialIns ltInt a b k i2 (fixUp ltInt b i2 (fixDown ltInt a i2 (swp dk i2 (i2 - 1)))) = R) := Lib.hid (by rw [HX.out, if_neg he, if_neg h50])
    clear HX
    have hlt2 : i2 < b := by omega
    clear he h50
    have hs2 := (HU.out.swap (i := i2) (j := i2 - 1) (by omega) (by omega) (HG.out _) (HG.out _)).drew
    have HS2 := Lib.hid hs2
    clear hs2
    go_upto_region 11 with fail
    go_region
    generalize swp dk i2 (i2 - 1) = d2 at *
    clear hcw hfw HU HG HI
    go_step
    go_step
    go_step
    go_cut [7, 8] from 13 to 132 (fun s7 s8 wc => s7 = .int .i64 i2 ∧ s8 = .int .i64 j ∧ ∃ d3, SW g off n w0 d3 wc ∧ Hid (fixDown ltInt a i2 d2 = d3))
    case first =>
     by_cases h2a : 2 ≤ i2 - a
     ·have h2z : 2 ≤ (i2 : Int) - (a : Int) := by omega
      have HF : Hid (fixDown ltInt a i2 d2 = shiftDown ltInt (i2 - 1) d2) := Lib.hid (by rw [fixDown, if_pos (by omega)])
      go_wp2_with fail
      go_loopg [9] (i2 - 1) (fun k s9 w1 => ∃ (q : Nat) (dq : Array Int), s9 = .int .i64 q ∧ q ≤ i2 - 1 ∧ q ≤ k ∧ SW g off n w0 dq w1 ∧ Hid (shiftDown ltInt q dq = fixDown ltInt a i2 d2))
      case atStart => exact ⟨i2 - 1, d2, by go_num, Nat.le_refl _, Nat.le_refl _, HS2.out, Lib.hid HF.out.symm⟩
      case round =>
       obtain ⟨q, dq, rfl, h3, h4, hs, HQ⟩ := hrel
       obtain ⟨G, hG⟩ := names_of dq
       have hcw := hs.cells G hG
       have hfw := hs.frz
       have HG := Lib.hid hG
       have HJ := Lib.hid hs
       clear hG hs HS2
       by_cases hq : 1 ≤ q
       ·go_wp2_with fail
        go_quiet (first | (go_at_call 136; refine Calls.quiet_of_same (less32 _ _ _)))
        go_wp2_with fail
        ·have ht : ltInt (G q) (G (q - 1)) = false := by
          have : (!ltInt (G q) (G (q - 1))) = true := by assumption
          simpa using this
         go_meet
         case rel => exact ⟨rfl, rfl, dq, HJ.out.drewN nq, Lib.hid (by rw [← HQ.out, shDown_end _ _ _ (.inr (by rw [← HG.out, ← HG.out]; exact ht))])⟩
        ·have ht : ltInt (G q) (G (q - 1)) = true := by
          have : (!ltInt (G q) (G (q - 1))) = false := by assumption
          simpa using this
         go_region
         all_goals go_wp2_with fail
         all_goals go_roundg (q - 1)
         case measure => omega
         case rel => exact ⟨q - 1, swp dq q (q - 1), by go_num, by omega, Nat.le_refl _, ((HJ.out.drewN nq).swap (by omega) (by omega) (HG.out _) (HG.out _)).drew, Lib.hid (by rw [← HQ.out, shDown_go _ _ _ hq (by rw [← HG.out, ← HG.out]; exact ht)])⟩
       ·obtain rfl : q = 0 := by omega
        go_wp2_with fail
        go_meet
        case rel => exact ⟨rfl, rfl, dq, HJ.out, Lib.hid (by rw [← HQ.out, shDown_end _ _ _ (.inl rfl)])⟩
     ·have h2z : ¬ 2 ≤ (i2 : Int) - (a : Int) := by omega
      go_wp2_with fail
      go_meet
      case rel => exact ⟨rfl, rfl, d2, HS2.out, Lib.hid (by rw [fixDown, if_neg (by omega)])⟩
    case rest =>
    obtain ⟨rfl, rfl, d3, hs, HF⟩ := hcut
    have HX3 : Hid (partialIns ltInt a b k i2 (fixUp ltInt b i2 d3) = R) := Lib.hid (by rw [← HF.out]; exact HX2.out)
    have HS3 := Lib.hid hs
    clear hs HS2 HF HX2
    by_cases h2b : 2 ≤ b - i2
    ·have h2z : 2 ≤ (b : Int) - (i2 : Int) := by omega
     have HF : Hid (fixUp ltInt b i2 d3 = shiftUp ltInt b (i2 + 1) d3) := Lib.hid (by rw [fixUp, if_pos (by omega)])
     go_wp2_with fail
     go_loopg [10] (b - i2) (fun k s10 w1 => ∃ (q : Nat) (dq : Array Int), s10 = .int .i64 q ∧ i2 < q ∧ q ≤ b ∧ b - q ≤ k ∧ SW g off n w0 dq w1 ∧ Hid (shiftUp ltInt b q dq = fixUp ltInt b i2 d3))
     case atStart => exact ⟨i2 + 1, d3, by go_num, by omega, by omega, by omega, HS3.out, Lib.hid HF.out.symm⟩
     case round =>
      obtain ⟨q, dq, rfl, h3, h4, h5, hs, HQ⟩ := hrel
      obtain ⟨G, hG⟩ := names_of dq
      have hcw := hs.cells G hG
      have hfw := hs.frz
      have HG := Lib.hid hG
      have HJ := Lib.hid hs
      clear hG hs HS3
      by_cases hq : q < b
      ·go_wp2_with fail
       go_quiet (first | (go_at_call 136; refine Calls.quiet_of_same (less32 _ _ _)))
       go_wp2_with fail
       ·have ht : ltInt (G q) (G (q - 1)) = false := by
         have : (!ltInt (G q) (G (q - 1))) = true := by assumption
         simpa using this
        go_roundg k
        case measure => omega
        case rel => exact ⟨i2, j + 1, dq, rfl, by go_num, by omega, by omega, by omega, HJ.out.drewN nq, Lib.hid (by rw [← HX3.out, ← HQ.out, shUp_end _ _ _ _ (.inr (by rw [← HG.out, ← HG.out]; exact ht))])⟩
       ·have ht : ltInt (G q) (G (q - 1)) = true := by
         have : (!ltInt (G q) (G (q - 1))) = false := by assumption
         simpa using this
        go_region
        all_goals go_wp2_with fail
        all_goals go_roundg (b - (q + 1))
        case measure => omega
        case rel => exact ⟨q + 1, swp dq q (q - 1), by go_num, by omega, by omega, Nat.le_refl _, ((HJ.out.drewN nq).swap (by omega) (by omega) (HG.out _) (HG.out _)).drew, Lib.hid (by rw [← HQ.out, shUp_go _ _ _ _ hq (by rw [← HG.out, ← HG.out]; exact ht)])⟩
      ·have hqd : decide (q < b) = false := by simpa using hq
       go_wp2_with fail
       go_roundg k
       case measure => omega
       case rel => exact ⟨i2, j + 1, dq, rfl, by go_num, by omega, by omega, by omega, HJ.out, Lib.hid (by rw [← HX3.out, ← HQ.out, shUp_end _ _ _ _ (.inl hq)])⟩
    ·have h2z : ¬ 2 ≤ (b : Int) - (i2 : Int) := by omega
     go_wp2_with fail
     go_roundg k
     case measure => omega
     case rel => exact ⟨i2, j + 1, d3, rfl, by go_num, by omega, by omega, by omega, HS3.out, Lib.hid (by rw [← HX3.out, fixUp, if_neg (by omega)])⟩
end Go.Proofs.YtclekllaikcglaaGreat
