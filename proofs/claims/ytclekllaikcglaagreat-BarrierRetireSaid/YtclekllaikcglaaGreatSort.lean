/- The library's sort at uint32: a row of numbers, and what becomes of it. -/
import Derived.Test.YtclekllaikcglaaGreatMap
import Derived.Test.YtclekllaikcglaaGreatWord
import Derived.Sort.AssemblyPlain
import Derived.Sort.Row
import Derived.Deep.QuietTactic
import Derived.Deep.Draws
import Derived.BigQuiet
import Derived.BigCall
import Derived.BigGuard
import Derived.CellFam
import Derived.RegionTactic
import Derived.Deep.Cut
import Derived.Deep.CutRange
namespace Go.Proofs.YtclekllaikcglaaGreat
open Go Go.RowKit
open Go.Sort (swp PermIn SortedIn ltInt Holds putRow putRow_self putRow_set putRow_swp holds_putRow frozen?_putRow)

abbrev e32 : Int → Value := Value.int .u32
/-- The row in block g, from off on, was n numbers in w0, and is d in w; all else is as it was. -/
structure SW (g off n : Nat) (w0 : World) (d : Array Int) (w : World) : Prop where
  holds : Holds e32 w g off d
  size : d.size = n
  but : But [g] w0 w
  shape : ∀ cs T fz, w0.heap[g]? = some (.cells cs T fz) → ∃ cs', w.heap[g]? = some (.cells cs' T fz) ∧ cs'.size = cs.size
theorem SW.start {w : World} {g off : Nat} {d : Array Int} (h : Holds e32 w g off d) : SW g off d.size w d w := ⟨h, rfl, But.refl _ _, fun cs _ _ hc => ⟨cs, hc, rfl⟩⟩
theorem SW.trans {w0 w w' : World} {g off n : Nat} {d d' : Array Int} (h : SW g off n w0 d w) (k : SW g off n w d' w') : SW g off n w0 d' w' :=
  ⟨k.holds, k.size, h.but.trans k.but, fun cs T fz hc => by
    obtain ⟨c1, h1, h2⟩ := h.shape cs T fz hc
    obtain ⟨c2, h3, h4⟩ := k.shape c1 T fz h1
    exact ⟨c2, h3, h4.trans h2⟩⟩
theorem holds_heap {w w' : World} {g off : Nat} {d : Array Int} (h : Holds e32 w g off d) (hw : w'.heap[g]? = w.heap[g]?) : Holds e32 w' g off d := fun j hj => by
  have := h j hj
  simp only [World.cell?, World.frozen?, hw] at this ⊢
  exact this
theorem SW.heap {w0 w w' : World} {g off n : Nat} {d : Array Int} (h : SW g off n w0 d w) (hw : w'.heap[g]? = w.heap[g]?) (hb : But [g] w w') : SW g off n w0 d w' :=
  ⟨holds_heap h.holds hw, h.size, h.but.trans hb, fun cs T fz hc => by rw [hw]; exact h.shape cs T fz hc⟩
theorem SW.drewN {w0 w : World} {g off n : Nat} {d : Array Int} (h : SW g off n w0 d w) (k : Nat) : SW g off n w0 d (w.drewN k) := h.heap rfl ((But.refl _ _).drewN k)
theorem SW.drew {w0 w : World} {g off n : Nat} {d : Array Int} (h : SW g off n w0 d w) : SW g off n w0 d w.drew := h.heap rfl (But.refl _ _).drew
theorem SW.lt {w0 w : World} {g off n : Nat} {d : Array Int} (h : SW g off n w0 d w) (hg : g < w0.heap.size) : g < w.heap.size := Nat.lt_of_lt_of_le hg h.but.size
theorem SW.ext {w0 w w' : World} {g off n : Nat} {d : Array Int} (h : SW g off n w0 d w) (hg : g < w0.heap.size) (hx : Ext w w') : SW g off n w0 d w' := h.heap (hx.block (h.lt hg)) (But.of_ext hx)
theorem SW.cells {w0 w : World} {g off n : Nat} {d : Array Int} (h : SW g off n w0 d w) (G : Nat → Int) (hG : ∀ t, G t = d[t]!) : ∀ t, t < n → w.cell? ⟨g, off + t, none⟩ = some (.int .u32 (G t)) := fun t ht => by
  rw [hG]; exact (h.holds t (by rw [h.size]; exact ht)).1
theorem SW.frz {w0 w : World} {g off n : Nat} {d : Array Int} (h : SW g off n w0 d w) : ∀ t, t < n → w.frozen? ⟨g, off + t, none⟩ = false := fun t ht => (h.holds t (by rw [h.size]; exact ht)).2
theorem shape_put {w : World} {g off : Nat} {d : Array Int} (d' : Array Int) (hs : d'.size = d.size) : But [g] w (putRow e32 w g off d') ∧ ∀ cs T fz, w.heap[g]? = some (.cells cs T fz) → ∃ cs', (putRow e32 w g off d').heap[g]? = some (.cells cs' T fz) ∧ cs'.size = cs.size := by
  refine ⟨⟨rfl, rfl, rfl, by simp [putRow, Sort.mapBlock], fun k hk hn => ?_⟩, fun cs T fz hc => ?_⟩
  · simp only [putRow, Sort.mapBlock]
    rw [Array.getElem?_modify, if_neg (by rintro rfl; simp at hn)]
  · refine ⟨Sort.putCells e32 off d' cs, ?_, by simp [Sort.putCells]⟩
    simp [putRow, Sort.mapBlock, Array.getElem?_modify, hc, Sort.onCells]
theorem SW.swap {w0 w : World} {g off n : Nat} {d : Array Int} (h : SW g off n w0 d w) {i j : Nat} (hi : i < n) (hj : j < n) {x y : Int} (hx : x = d[j]!) (hy : y = d[i]!) :
    SW g off n w0 (swp d i j) ((w.setCell ⟨g, off + i, none⟩ (.int .u32 x)).setCell ⟨g, off + j, none⟩ (.int .u32 y)) := by
  have e := putRow_swp e32 w g off d i j (by rw [h.size]; exact hi) (by rw [h.size]; exact hj)
  rw [putRow_self e32 w g off d h.holds] at e
  subst hx hy
  show SW g off n w0 (swp d i j) ((w.setCell ⟨g, off + i, none⟩ (e32 d[j]!)).setCell ⟨g, off + j, none⟩ (e32 d[i]!))
  rw [e]
  have hs : (swp d i j).size = d.size := by simp [swp]
  have hp := shape_put (w := w) (g := g) (off := off) (swp d i j) hs
  refine ⟨holds_putRow e32 w g off d _ h.holds hs, hs.trans h.size, h.but.trans hp.1, fun cs T fz hc => ?_⟩
  obtain ⟨c1, h1, h2⟩ := h.shape cs T fz hc
  obtain ⟨c2, h3, h4⟩ := hp.2 c1 T fz h1
  exact ⟨c2, h3, h4.trans h2⟩
theorem names_of (d : Array Int) : ∃ G : Nat → Int, ∀ t, G t = d[t]! := ⟨fun t => d[t]!, fun _ => rfl⟩
/-! ### cmp.Less -/
theorem isNaN32 (x : Int) (w : World) : Calls Tryz.prog 157 #[.int .u32 x] w fun e w' => e = .returned (.bool false) ∧ w' = w := by
  go_enter Tryz.func157, Tryz.ntmps157
  go_wp2
  go_returns
  exact ⟨by simp, rfl⟩
theorem less32 (x y : Int) (w : World) : Calls Tryz.prog 136 #[.int .u32 x, .int .u32 y] w fun e w' => e = .returned (.bool (ltInt x y)) ∧ w' = w := by
  go_enter Tryz.func136, Tryz.ntmps136
  go_wp2_with (go_at_call 157; refine (isNaN32 _ _).mono ?_; rintro e w' ⟨rfl, rfl⟩)
  go_returns
  exact ⟨rfl, rfl⟩
end Go.Proofs.YtclekllaikcglaaGreat
namespace Go.Proofs.YtclekllaikcglaaGreat
open Go Go.RowKit
open Go.Sort (swp PermIn SortedIn ltInt Holds insInner insOuter insertionSort)

section
variable {α : Type} [Inhabited α] (lt : α → α → Bool)
theorem inner_go (a j : Nat) (d : Array α) (hj : a < j) (hl : lt d[j]! d[j - 1]! = true) : insInner lt a j d = insInner lt a (j - 1) (swp d j (j - 1)) := by
  obtain ⟨k, rfl⟩ : ∃ k, j = k + 1 := ⟨j - 1, by omega⟩
  rw [Nat.add_sub_cancel] at hl ⊢
  rw [insInner, if_pos (by simp [hj, hl])]
theorem inner_end (a j : Nat) (d : Array α) (h : ¬ a < j ∨ lt d[j]! d[j - 1]! = false) : insInner lt a j d = d := by
  cases j with
  | zero => rfl
  | succ k =>
    rw [Nat.add_sub_cancel] at h
    rw [insInner, if_neg]
    rcases h with h | h <;> simp [h]
theorem outer_go (a b i : Nat) (d : Array α) (h : i < b) : insOuter lt a b i d = insOuter lt a b (i + 1) (insInner lt a i d) := by rw [insOuter, if_pos h]
theorem outer_end (a b i : Nat) (d : Array α) (h : ¬ i < b) : insOuter lt a b i d = d := by rw [insOuter, if_neg h]
end
set_option maxRecDepth 1000000 in
set_option maxHeartbeats 8000000 in
theorem ins32 (g off cap a b n : Nat) (d : Array Int) (w : World) (hH : Holds e32 w g off d) (hn : d.size = n) (hab : a ≤ b) (hb : b ≤ n) (hsz : n ≤ 1000000) :
    Calls Tryz.prog 130 #[.slice (some ⟨g, off, none⟩) n cap, .int .i64 a, .int .i64 b] w fun e w' => e = .returned (.tuple #[]) ∧ SW g off n w (insertionSort ltInt d a b) w' := by
  have HS := Lib.hid (SW.start hH)
  rw [hn] at HS
  clear hH hn
  go_enter Tryz.func130, Tryz.ntmps130
  go_wp2
  go_loopw [6] (fun vi wr => ∃ (i : Nat) (dk : Array Int), vi = .int .i64 i ∧ a < i ∧ i ≤ b + 1 ∧ SW g off n w dk wr ∧ Hid (insOuter ltInt a b i dk = insertionSort ltInt d a b)) (fun vi _ => b + 1 - (intOf vi).toNat)
  case atStart => exact ⟨a + 1, d, by go_num, by omega, by omega, HS.out, Lib.hid rfl⟩
  case round =>
    obtain ⟨i, dk, rfl, hai, hib, hs, HO⟩ := hrel
    have HK := Lib.hid hs
    clear hs HS
    by_cases hlt : i < b
    · go_wp2
      go_loopw [7] (fun vj w2 => ∃ (j : Nat) (dj : Array Int), vj = .int .i64 j ∧ a ≤ j ∧ j ≤ i ∧ SW g off n w dj w2 ∧ Hid (insInner ltInt a j dj = insInner ltInt a i dk)) (fun vj _ => (intOf vj).toNat)
      case atStart => exact ⟨i, dk, rfl, by omega, Nat.le_refl _, HK.out, Lib.hid rfl⟩
      case round =>
        obtain ⟨j, dj, rfl, haj, hji, hs, HI⟩ := hrel
        obtain ⟨G, hG⟩ := names_of dj
        have hcw := hs.cells G hG
        have hfw := hs.frz
        have HG := Lib.hid hG
        have HJ := Lib.hid hs
        clear hG hs HK
        have OUT : Hid ((¬ a < j ∨ ltInt dj[j]! dj[j - 1]! = false) → insOuter ltInt a b (i + 1) dj = insertionSort ltInt d a b) := Lib.hid fun h => by
          rw [← HO.out, outer_go _ _ _ _ _ hlt, ← HI.out, inner_end _ _ _ _ h]
        go_wp2
        by_cases hja : a < j
        · go_quiet (first | (go_at_call 136; refine Calls.quiet_of_same (less32 _ _ _)))
          go_wp2
          · have hl : ltInt (G j) (G (j - 1)) = true := by assumption
            go_region
            all_goals go_wp2
            go_roundw
            case rel =>
              refine ⟨j - 1, swp dj j (j - 1), by congr 1; omega, by omega, by omega, ?_, Lib.hid ?_⟩
              · exact ((HJ.out.drewN nq).swap (by omega) (by omega) (HG.out _) (HG.out _)).drew
              · rw [← HI.out, inner_go ltInt a j dj hja (by rw [← HG.out, ← HG.out]; exact hl)]
            case measure => simp [intOf]; omega
          · have hl : ltInt (G j) (G (j - 1)) = false := by assumption
            go_roundw
            case rel => exact ⟨i + 1, dj, by go_num, by omega, by omega, HJ.out.drewN nq, Lib.hid (OUT.out (Or.inr (by rw [← HG.out, ← HG.out]; exact hl)))⟩
            case measure => simp [intOf]; omega
        · have hjd : decide (a < j) = false := by simpa using hja
          go_quiet (first | (go_at_call 136; refine Calls.quiet_of_same (less32 _ _ _)))
          go_wp2
          go_roundw
          case rel => exact ⟨i + 1, dj, by go_num, by omega, by omega, HJ.out.drewN nq, Lib.hid (OUT.out (Or.inl hja))⟩
          case measure => simp [intOf]; omega
    · have hltd : decide (i < b) = false := by simpa using hlt
      go_wp2
      go_end0
      refine ⟨rfl, ?_⟩
      have := HO.out
      rw [outer_end _ _ _ _ _ hlt] at this
      rw [← this]
      exact HK.out
end Go.Proofs.YtclekllaikcglaaGreat
namespace Go.Proofs.YtclekllaikcglaaGreat
open Go Go.RowKit
open Go.Sort (swp PermIn SortedIn ltInt Holds siftDown heapBuild heapPop heapSort reverseLoop reverseRange)

section
variable {α : Type} [Inhabited α] (lt : α → α → Bool)
/-- Which child is the greater. -/
def PickC (hi F root : Nat) (d : Array α) (c : Nat) : Prop :=
  (c = 2 * root + 2 ∧ 2 * root + 2 < hi ∧ lt d[F + (2 * root + 1)]! d[F + (2 * root + 2)]! = true) ∨ (c = 2 * root + 1 ∧ (2 * root + 2 < hi → lt d[F + (2 * root + 1)]! d[F + (2 * root + 2)]! = false))
theorem sift_end {hi F root : Nat} (d : Array α) (h : hi ≤ 2 * root + 1) : siftDown lt hi F root d = d := by rw [siftDown, dif_pos h]
theorem sift_step {hi F root c : Nat} (d : Array α) (h : 2 * root + 1 < hi) (hc : PickC lt hi F root d c) :
    siftDown lt hi F root d = if lt d[F + root]! d[F + c]! then siftDown lt hi F c (swp d (F + root) (F + c)) else d := by
  have e : F + (2 * root + 1) + 1 = F + (2 * root + 2) := by omega
  rw [siftDown, dif_neg (by omega), e]
  rcases hc with ⟨rfl, h1, h2⟩ | ⟨rfl, h2⟩
  · rw [if_pos (by simp [h2]; omega), dif_pos h1]
    cases lt d[F + root]! d[F + (2 * root + 2)]! <;> simp
  · rw [if_neg (by
      rintro hh
      simp only [Bool.and_eq_true, decide_eq_true_eq] at hh
      rw [h2 (by omega)] at hh
      cases hh.2)]
    cases lt d[F + root]! d[F + (2 * root + 1)]! <;> simp
end
set_option maxRecDepth 1000000 in
set_option maxHeartbeats 8000000 in
theorem sift32 (g off cap lo hi first n : Nat) (d : Array Int) (w0 w : World) (hs : SW g off n w0 d w) (hlo : lo ≤ hi) (hb : first + hi ≤ n) (hsz : n ≤ 1000000) :
    Calls Tryz.prog 152 #[.slice (some ⟨g, off, none⟩) n cap, .int .i64 lo, .int .i64 hi, .int .i64 first] w fun e w' => e = .returned (.tuple #[]) ∧ SW g off n w0 (siftDown ltInt hi first lo d) w' := by
  have HS := Lib.hid hs
  clear hs
  go_enter Tryz.func152, Tryz.ntmps152
  go_wp2
  go_loopg [8] (hi - lo) (fun k s8 wr => ∃ (root : Nat) (dk : Array Int), s8 = .int .i64 root ∧ root ≤ hi ∧ hi - root ≤ k ∧ SW g off n w0 dk wr ∧ Hid (siftDown ltInt hi first root dk = siftDown ltInt hi first lo d))
  case atStart => exact ⟨lo, d, rfl, hlo, Nat.le_refl _, HS.out, Lib.hid rfl⟩
  case round =>
    obtain ⟨root, dk, rfl, hr, hk, hs, HE⟩ := hrel
    have HK := Lib.hid hs
    clear hs HS
    by_cases h0 : hi ≤ 2 * root + 1
    · have h0z : (hi : Int) ≤ 2 * (root : Int) + 1 := by omega
      go_wp2
      go_end0
      refine ⟨rfl, ?_⟩
      rw [← HE.out, sift_end _ _ h0]
      exact HK.out
    · have h0z : ¬ ((hi : Int) ≤ 2 * (root : Int) + 1) := by omega
      go_upto_region 3 with fail
      go_cut [36] from 11 to 75 (fun s36 wc => ∃ v : Bool, s36 = .bool v ∧ Hid (v = true → 2 * root + 2 < hi) ∧ Hid (2 * root + 2 < hi → v = ltInt dk[first + (2 * root + 1)]! dk[first + (2 * root + 2)]!) ∧ SW g off n w0 dk wc)
      case first =>
        obtain ⟨G, hG⟩ := names_of dk
        have hcw := HK.out.cells G hG
        have HG := Lib.hid hG
        clear hG
        by_cases h1 : 2 * root + 2 < hi
        · have h1z : 2 * (root : Int) + 1 + 1 < (hi : Int) := by omega
          go_quiet (first | (go_at_call 136; refine Calls.quiet_of_same (less32 _ _ _)))
          go_wp2_with fail
          go_meet
          case rel =>
            refine ⟨_, rfl, Lib.hid (fun _ => h1), Lib.hid (fun _ => ?_), HK.out.drewN nq⟩
            rw [HG.out, HG.out]
            rfl
        · have h1z : decide (2 * (root : Int) + 1 + 1 < (hi : Int)) = false := decide_eq_false (by omega)
          go_quiet (first | (go_at_call 136; refine Calls.quiet_of_same (less32 _ _ _)))
          go_wp2_with fail
          go_meet
          case rel => exact ⟨false, rfl, Lib.hid (fun h => by cases h), Lib.hid (fun h => absurd h h1), HK.out.drewN nq⟩
      case rest =>
      obtain ⟨v, rfl, HV1, HV2, hs⟩ := hcut
      have HV := Lib.hid hs
      clear hs HK
      go_upto_if 36 with fail
      go_cut [9] from 11 to 75 (fun s9 wc2 => ∃ c : Nat, s9 = .int .i64 c ∧ c < hi ∧ root < c ∧ Hid (PickC ltInt hi first root dk c) ∧ SW g off n w0 dk wc2)
      case first =>
        cases v
        · go_wp2
          go_meet
          case rel => exact ⟨2 * root + 1, by simp <;> omega, by omega, by omega, Lib.hid (.inr ⟨rfl, fun h => (HV2.out h).symm⟩), HV.out⟩
        · have h1 := HV1.out rfl
          go_wp2
          go_meet
          case rel => exact ⟨2 * root + 2, by simp <;> omega, by omega, by omega, Lib.hid (.inl ⟨rfl, h1, (HV2.out h1).symm⟩), HV.out⟩
      case rest =>
        obtain ⟨c, rfl, hc1, hc2, HC, hs⟩ := hcut
        obtain ⟨G, hG⟩ := names_of dk
        have hcw := hs.cells G hG
        have hfw := hs.frz
        have HG := Lib.hid hG
        have HJ := Lib.hid hs
        clear hG hs HV
        go_wp2_with fail
        go_quiet (first | (go_at_call 136; refine Calls.quiet_of_same (less32 _ _ _)))
        go_wp2_with fail
        · have hl : ltInt (G (first + root)) (G (first + c)) = false := by
            have : (!ltInt (G (first + root)) (G (first + c))) = true := by assumption
            simpa using this
          (try simp only [Exit.inBlock, Exit.then]); refine bodyPost_ret (results_none rfl _ _ _) rfl ?_
          refine ⟨rfl, ?_⟩
          rw [← HE.out, sift_step _ _ (by omega) HC.out, if_neg (by rw [← HG.out, ← HG.out, hl]; simp)]
          exact HJ.out.drewN nq
        · have hl : ltInt (G (first + root)) (G (first + c)) = true := by
            have : (!ltInt (G (first + root)) (G (first + c))) = false := by assumption
            simpa using this
          go_region
          all_goals go_wp2
          all_goals go_roundg (hi - c)
          case measure => omega
          case rel =>
            refine ⟨c, swp dk (first + root) (first + c), rfl, by omega, Nat.le_refl _, ?_, Lib.hid ?_⟩
            · exact ((HJ.out.drewN nq).swap (by omega) (by omega) (HG.out _) (HG.out _)).drew
            · rw [← HE.out, sift_step _ _ (by omega) HC.out, if_pos (by rw [← HG.out, ← HG.out]; exact hl)]
theorem heap_mid {a b : Nat} (hab : a ≤ b) : ((b : Int) - (a : Int) - 1).tdiv 2 = (((b - a - 1) / 2 + 1 : Nat) : Int) - 1 := by
  rcases Nat.eq_or_lt_of_le hab with rfl | h
  · rw [show ((a : Int) - (a : Int) - 1) = -1 by omega]; simp
  · rw [Int.tdiv_eq_ediv_of_nonneg (by omega)]; omega
set_option maxRecDepth 1000000 in
set_option maxHeartbeats 8000000 in
theorem heap32 (g off cap a b n : Nat) (d : Array Int) (w : World) (hH : Holds e32 w g off d) (hn : d.size = n) (hab : a ≤ b) (hb : b ≤ n) (hsz : n ≤ 1000000) :
    Calls Tryz.prog 131 #[.slice (some ⟨g, off, none⟩) n cap, .int .i64 a, .int .i64 b] w fun e w' => e = .returned (.tuple #[]) ∧ SW g off n w (heapSort ltInt d a b) w' := by
  have HS := Lib.hid (SW.start hH)
  rw [hn] at HS
  clear hH hn
  have hmid := heap_mid hab
  obtain ⟨m, hm⟩ : ∃ m : Nat, b - a = m := ⟨_, rfl⟩
  have ecast : (b : Int) - (a : Int) = (m : Int) := by omega
  have hheap : Hid (heapSort ltInt d a b = heapPop ltInt a m (heapBuild ltInt m a ((m - 1) / 2 + 1) d)) := Lib.hid (by rw [heapSort, hm])
  rw [hm, ecast] at hmid
  obtain ⟨k0, hk0⟩ : ∃ k0 : Nat, (m - 1) / 2 + 1 = k0 := ⟨_, rfl⟩
  have hk0m : k0 ≤ m + 1 := by omega
  have hk0l : m = 0 ∨ k0 ≤ m := by omega
  rw [hk0] at hmid hheap
  have hmn : a + m ≤ n := by omega
  clear hk0 hm
  go_enter Tryz.func131, Tryz.ntmps131
  go_wp2
  go_loopg [9] k0 (fun k s9 wr => s9 = .int .i64 ((k : Int) - 1) ∧ k ≤ k0 ∧ ∃ dk, SW g off n w dk wr ∧ Hid (heapBuild ltInt m a k dk = heapBuild ltInt m a k0 d))
  case atStart => exact ⟨rfl, Nat.le_refl _, d, HS.out, Lib.hid rfl⟩
  case round =>
    obtain ⟨rfl, hkk, dk, hs, HE⟩ := hrel
    have HK := Lib.hid hs
    clear hs HS hmid
    cases gk with
    | zero =>
      have HB : Hid (heapSort ltInt d a b = heapPop ltInt a m dk) := Lib.hid (by rw [hheap.out, ← HE.out]; rfl)
      clear HE hheap
      go_wp2
      go_loopg [10] m (fun k s10 wr2 => s10 = .int .i64 ((k : Int) - 1) ∧ k ≤ m ∧ ∃ dj, SW g off n w dj wr2 ∧ Hid (heapPop ltInt a k dj = heapPop ltInt a m dk))
      case atStart => exact ⟨rfl, Nat.le_refl _, dk, HK.out, Lib.hid rfl⟩
      case round =>
        obtain ⟨rfl, hk2, dj, hs, HE⟩ := hrel
        have HJ := Lib.hid hs
        clear hs HK
        cases gk with
        | zero =>
          go_wp2
          go_end0
          refine ⟨rfl, ?_⟩
          rw [HB.out, ← HE.out]
          exact HJ.out
        | succ k =>
          obtain ⟨G, hG⟩ := names_of dj
          have hcw := HJ.out.cells G hG
          have hfw := HJ.out.frz
          have HG := Lib.hid hG
          clear hG
          rcases Nat.eq_zero_or_pos k with hk0 | hkp
          · subst hk0
            go_wp2_with fail
            go_region
            have hs2 := ((HJ.out.swap (i := a) (j := a) (by omega) (by omega) (HG.out _) (HG.out _)).drew)
            have GS := Lib.hid (fun (W : World) (hW : SW g off n w (swp dj a a) W) => sift32 g off cap 0 0 a n _ w W hW (by omega) (by omega) hsz)
            have GS2 := Lib.hid (GS.out _ hs2)
            clear GS hs2
            go_wp2_with (go_at_call 152; refine GS2.out.mono ?_; rintro e w1 ⟨rfl, hs3⟩)
            have HS3 := Lib.hid hs3
            clear hs3
            go_wp2_with fail
            go_roundg 0
            case measure => omega
            case rel => exact ⟨by simp, by omega, _, HS3.out, Lib.hid (by rw [← HE.out]; rfl)⟩
          · have hkn : a + k < n := by omega
            go_wp2_with fail
            go_region
            have hs2 := ((HJ.out.swap (i := a) (j := a + k) (by omega) (by omega) (HG.out _) (HG.out _)).drew)
            have GS := Lib.hid (fun (W : World) (hW : SW g off n w (swp dj a (a + k)) W) => sift32 g off cap 0 k a n _ w W hW (by omega) (by omega) hsz)
            have GS2 := Lib.hid (GS.out _ hs2)
            clear GS hs2
            go_wp2_with (go_at_call 152; refine GS2.out.mono ?_; rintro e w1 ⟨rfl, hs3⟩)
            have HS3 := Lib.hid hs3
            clear hs3
            go_wp2_with fail
            go_roundg k
            case measure => omega
            case rel => exact ⟨by simp, by omega, _, HS3.out, Lib.hid (by rw [← HE.out]; rfl)⟩
    | succ k =>
      have hkm : k ≤ m := by omega
      have GS := Lib.hid (sift32 g off cap k m a n dk w wr HK.out hkm hmn hsz)
      go_wp2_with (go_at_call 152; refine GS.out.mono ?_; rintro e w1 ⟨rfl, hs3⟩)
      have HS3 := Lib.hid hs3
      clear hs3
      go_wp2_with fail
      go_roundg k
      case measure => omega
      case rel => exact ⟨by simp, by omega, _, HS3.out, Lib.hid (by rw [← HE.out]; rfl)⟩
theorem rev_go {α : Type} [Inhabited α] (i j : Nat) (d : Array α) (h : i < j) : reverseLoop i j d = reverseLoop (i + 1) (j - 1) (swp d i j) := by rw [reverseLoop, if_pos h]
theorem rev_end {α : Type} [Inhabited α] (i j : Nat) (d : Array α) (h : ¬ i < j) : reverseLoop i j d = d := by rw [reverseLoop, if_neg h]
set_option maxRecDepth 1000000 in
set_option maxHeartbeats 8000000 in
theorem rev32 (g off cap a b n : Nat) (d : Array Int) (w0 w : World) (hs : SW g off n w0 d w) (hab : a < b) (hb : b ≤ n) (hsz : n ≤ 1000000) :
    Calls Tryz.prog 134 #[.slice (some ⟨g, off, none⟩) n cap, .int .i64 a, .int .i64 b] w fun e w' => e = .returned (.tuple #[]) ∧ SW g off n w0 (reverseRange d a b) w' := by
  have HS := Lib.hid hs
  clear hs
  obtain ⟨b1, hb1⟩ : ∃ b1 : Nat, b - 1 = b1 := ⟨_, rfl⟩
  have hbi : (b : Int) - 1 = (b1 : Int) := by omega
  have hb1n : b1 < n := by omega
  have HR : Hid (reverseRange d a b = reverseLoop a b1 d) := Lib.hid (by rw [reverseRange, hb1])
  go_enter Tryz.func134, Tryz.ntmps134
  go_wp2
  go_loopg [6, 7] (n + b1 - a) (fun k s6 s7 wr => ∃ (i j : Nat) (dk : Array Int), s6 = .int .i64 i ∧ s7 = .int .i64 j ∧ a ≤ i ∧ j ≤ b1 ∧ i ≤ j + 1 ∧ n + j - i ≤ k ∧ SW g off n w0 dk wr ∧ Hid (reverseLoop i j dk = reverseLoop a b1 d))
  case atStart => exact ⟨a, b1, d, rfl, by first | rfl | (rw [hbi]), Nat.le_refl _, Nat.le_refl _, by omega, Nat.le_refl _, HS.out, Lib.hid rfl⟩
  case round =>
    obtain ⟨i, j, dk, rfl, rfl, h1, h2, h3, h4, hs, HE⟩ := hrel
    obtain ⟨G, hG⟩ := names_of dk
    have hcw := hs.cells G hG
    have hfw := hs.frz
    have HG := Lib.hid hG
    have HJ := Lib.hid hs
    clear hG hs HS hb1 hbi
    by_cases hlt : i < j
    · go_wp2
      go_region
      all_goals go_wp2
      all_goals go_roundg (n + (j - 1) - (i + 1))
      case measure => omega
      case rel =>
        refine ⟨i + 1, j - 1, swp dk i j, by go_num, by go_num, by omega, by omega, by omega, Nat.le_refl _, ?_, Lib.hid ?_⟩
        · exact (HJ.out.swap (by omega) (by omega) (HG.out _) (HG.out _)).drew
        · rw [← HE.out, rev_go i j dk hlt]
    · have hltd : decide (i < j) = false := by simpa using hlt
      go_wp2
      go_end0
      refine ⟨rfl, ?_⟩
      rw [HR.out, ← HE.out, rev_end _ _ _ hlt]
      exact HJ.out
end Go.Proofs.YtclekllaikcglaaGreat
namespace Go.Proofs.YtclekllaikcglaaGreat
open Go Go.RowKit
open Go.Sort (swp PermIn SortedIn ltInt Holds scanUp scanDown partLoop partEqLoop partitionEqual partition partEqLoop_eq partLoop_eq scanUp_spec scanDown_spec)

section
variable {α : Type} [Inhabited α]
theorem up_go (p : α → Bool) (d : Array α) (j i : Nat) (h : i ≤ j) (hp : p d[i]! = true) : scanUp p d j i = scanUp p d j (i + 1) := by
  rw [scanUp, if_pos (by simp [h, hp])]
theorem up_end (p : α → Bool) (d : Array α) (j i : Nat) (h : ¬ i ≤ j ∨ p d[i]! = false) : scanUp p d j i = i := by
  rw [scanUp, if_neg (by rcases h with h | h <;> simp [h])]
theorem down_go (p : α → Bool) (d : Array α) (i j : Nat) (h : i ≤ j) (h0 : 0 < j) (hp : p d[j]! = true) : scanDown p d i j = scanDown p d i (j - 1) := by
  cases j with
  | zero => omega
  | succ k => rw [scanDown, if_pos (by simp [h, hp])]; rfl
theorem down_end (p : α → Bool) (d : Array α) (i j : Nat) (h : ¬ i ≤ j ∨ p d[j]! = false) : scanDown p d i j = j := by
  cases j with
  | zero => rfl
  | succ k => rw [scanDown, if_neg (by rcases h with h | h <;> simp [h])]
theorem scans_part (p q : α → Bool) (hq : ∀ x, q x = !p x) (i j : Nat) (d : Array α) (h0 : 0 < i) {i2 j2 : Nat} (h1 : i2 = scanUp p d j i) (h2 : j2 = scanDown q d i2 j) (h : i2 ≤ j2) : i2 < j2 := by
  subst h1
  obtain ⟨u1, _, _, u4⟩ := scanUp_spec p d j _ i rfl
  obtain ⟨v1, _, _, v4⟩ := scanDown_spec q d (scanUp p d j i) j
  generalize scanUp p d j i = i2 at *
  subst h2
  generalize scanDown q d i2 j = j2 at *
  rcases Nat.lt_or_ge i2 j2 with hl | hl
  · exact hl
  · obtain rfl : j2 = i2 := by omega
    have f1 := u4 (by omega)
    have f2 := v4 h (by omega)
    rw [hq] at f2
    simp [f1] at f2
end
set_option maxRecDepth 1000000 in
set_option maxHeartbeats 8000000 in
theorem partEq32 (g off cap a b pivot n : Nat) (d : Array Int) (w0 w : World) (hs : SW g off n w0 d w) (hap : a ≤ pivot) (hpb : pivot < b) (hb : b ≤ n) (hsz : n ≤ 1000000) :
    Calls Tryz.prog 137 #[.slice (some ⟨g, off, none⟩) n cap, .int .i64 a, .int .i64 b, .int .i64 pivot] w fun e w' => e = .returned (.int .i64 ((partitionEqual ltInt d a b pivot).1 : Nat)) ∧ SW g off n w0 (partitionEqual ltInt d a b pivot).2 w' := by
  have HR : Hid (partEqLoop ltInt a (a + 1) (b - 1) (swp d a pivot) = partitionEqual ltInt d a b pivot) := Lib.hid rfl
  generalize partitionEqual ltInt d a b pivot = R at *
  obtain ⟨b1, hb1⟩ : ∃ b1 : Nat, b - 1 = b1 := ⟨_, rfl⟩
  have hbi : (b : Int) - 1 = (b1 : Int) := by omega
  have hb1n : b1 < n := by omega
  have hab1 : a ≤ b1 := by omega
  have hpn : pivot < n := by omega
  rw [hb1] at HR
  obtain ⟨G, hG⟩ := names_of d
  have hcw := hs.cells G hG
  have hfw := hs.frz
  obtain ⟨v', hy'⟩ := cell?_setCell_some (w := w) (p := ⟨g, off + a, none⟩) (x := .int .u32 (G pivot)) (q := ⟨g, off + pivot, none⟩) (hcw pivot hpn)
  have hs2 := (hs.swap (i := a) (j := pivot) (by omega) (by omega) (hG _) (hG _)).drew
  have HG := Lib.hid hG
  have HS := Lib.hid hs2
  clear hG hs hs2 hb1
  generalize swp d a pivot = d1 at *
  go_enter Tryz.func137, Tryz.ntmps137
  go_wp2
  go_region
  go_wp2
  go_loopg [9, 10] (b1 + 1 - a) (fun k s9 s10 wr => ∃ (i j : Nat) (dk : Array Int), s9 = .int .i64 i ∧ s10 = .int .i64 j ∧ a < i ∧ i ≤ j + 1 ∧ j ≤ b1 ∧ j + 1 - i < k ∧ SW g off n w0 dk wr ∧ Hid (partEqLoop ltInt a i j dk = R))
  case atStart => exact ⟨a + 1, b1, d1, by go_num, by first | rfl | (rw [hbi]), by omega, by omega, Nat.le_refl _, by omega, HS.out, HR⟩
  case round =>
    clear hcw hfw hy' v' HG HS HR
    obtain ⟨i, j, dk, rfl, rfl, hai, hij, hjb, hk, hs, HE⟩ := hrel
    obtain ⟨G, hG⟩ := names_of dk
    have HG := Lib.hid hG
    have HK := Lib.hid hs
    clear hG hs
    go_step
    go_step
    --up eq 9 29 82 i HK
    go_cut [9] from 29 to 82 (fun s9 wc => ∃ i2 : Nat, s9 = .int .i64 i2 ∧ i ≤ i2 ∧ i2 ≤ j + 1 ∧ Hid (i2 = scanUp (fun x => !ltInt dk[a]! x) dk j i) ∧ SW g off n w0 dk wc)
    case first =>
      go_step
      go_loopg [9] (j + 1 - i) (fun k s9 w1 => ∃ i2 : Nat, s9 = .int .i64 i2 ∧ i ≤ i2 ∧ i2 ≤ j + 1 ∧ j + 1 - i2 ≤ k ∧ Hid (scanUp (fun x => !ltInt dk[a]! x) dk j i2 = scanUp (fun x => !ltInt dk[a]! x) dk j i) ∧ SW g off n w0 dk w1)
      case atStart => exact ⟨i, by first | rfl | go_num, Nat.le_refl _, by omega, Nat.le_refl _, Lib.hid rfl, HK.out⟩
      case round =>
        obtain ⟨i2, rfl, h1, h2, h3, HP, hs⟩ := hrel
        have hcw := hs.cells G HG.out
        have HJ := Lib.hid hs
        clear hs HK
        by_cases hle : i2 ≤ j
        · go_wp2_with fail
          go_quiet (first | (go_at_call 136; refine Calls.quiet_of_same (less32 _ _ _)))
          go_wp2_with fail
          · have ht : (!ltInt (G a) (G i2)) = true := by assumption
            go_roundg (j + 1 - (i2 + 1))
            case measure => omega
            case rel => exact ⟨i2 + 1, by go_num, by omega, by omega, Nat.le_refl _, Lib.hid (by rw [← HP.out]; exact (up_go (fun x => !ltInt dk[a]! x) dk j i2 hle (by show (!ltInt dk[a]! dk[i2]!) = true; rw [← HG.out, ← HG.out]; exact ht)).symm), HJ.out.drewN nq⟩
          · have ht : (!ltInt (G a) (G i2)) = false := by assumption
            go_meet
            case rel => exact ⟨i2, rfl, h1, h2, Lib.hid (by rw [← HP.out]; exact (up_end (fun x => !ltInt dk[a]! x) dk j i2 (.inr (by show (!ltInt dk[a]! dk[i2]!) = false; rw [← HG.out, ← HG.out]; exact ht))).symm), HJ.out.drewN nq⟩
        · have hled : decide (i2 ≤ j) = false := by simpa using hle
          go_wp2_with fail
          go_quiet (first | (go_at_call 136; refine Calls.quiet_of_same (less32 _ _ _)))
          go_wp2_with fail
          go_meet
          case rel => exact ⟨i2, rfl, h1, h2, Lib.hid (by rw [← HP.out]; exact (up_end (fun x => !ltInt dk[a]! x) dk j i2 (.inl hle)).symm), HJ.out.drewN nq⟩
    case rest =>
    obtain ⟨i2, rfl, hu1, hu2, HI, hs⟩ := hcut
    have HU := Lib.hid hs
    clear hs HK
    --end
    --down eq 10 29 82 HU
    go_step
    go_step
    go_cut [10] from 29 to 82 (fun s10 wc => ∃ j2 : Nat, s10 = .int .i64 j2 ∧ j2 ≤ j ∧ i2 ≤ j2 + 1 ∧ Hid (j2 = scanDown (fun x => ltInt dk[a]! x) dk i2 j) ∧ SW g off n w0 dk wc)
    case first =>
      go_step
      go_loopg [10] j (fun k s10 w1 => ∃ j2 : Nat, s10 = .int .i64 j2 ∧ j2 ≤ j ∧ i2 ≤ j2 + 1 ∧ j2 ≤ k ∧ Hid (scanDown (fun x => ltInt dk[a]! x) dk i2 j2 = scanDown (fun x => ltInt dk[a]! x) dk i2 j) ∧ SW g off n w0 dk w1)
      case atStart => exact ⟨j, by first | rfl | go_num, Nat.le_refl _, hu2, Nat.le_refl _, Lib.hid rfl, HU.out⟩
      case round =>
        obtain ⟨j2, rfl, h1, h2, h3, HP, hs⟩ := hrel
        have hcw := hs.cells G HG.out
        have HJ := Lib.hid hs
        clear hs HU
        by_cases hle : i2 ≤ j2
        · go_wp2_with fail
          go_quiet (first | (go_at_call 136; refine Calls.quiet_of_same (less32 _ _ _)))
          go_wp2_with fail
          · have ht : ltInt (G a) (G j2) = true := by assumption
            go_roundg (j2 - 1)
            case measure => omega
            case rel => exact ⟨j2 - 1, by go_num, by omega, by omega, Nat.le_refl _, Lib.hid (by rw [← HP.out]; exact (down_go (fun x => ltInt dk[a]! x) dk i2 j2 hle (by omega) (by show (ltInt dk[a]! dk[j2]!) = true; rw [← HG.out, ← HG.out]; exact ht)).symm), HJ.out.drewN nq⟩
          · have ht : ltInt (G a) (G j2) = false := by assumption
            go_meet
            case rel => exact ⟨j2, rfl, h1, h2, Lib.hid (by rw [← HP.out]; exact (down_end (fun x => ltInt dk[a]! x) dk i2 j2 (.inr (by show (ltInt dk[a]! dk[j2]!) = false; rw [← HG.out, ← HG.out]; exact ht))).symm), HJ.out.drewN nq⟩
        · have hled : decide (i2 ≤ j2) = false := by simpa using hle
          go_wp2_with fail
          go_quiet (first | (go_at_call 136; refine Calls.quiet_of_same (less32 _ _ _)))
          go_wp2_with fail
          go_meet
          case rel => exact ⟨j2, rfl, h1, h2, Lib.hid (by rw [← HP.out]; exact (down_end (fun x => ltInt dk[a]! x) dk i2 j2 (.inl hle)).symm), HJ.out.drewN nq⟩
    case rest =>
    obtain ⟨j2, rfl, hd1, hd2, HJ2, hs⟩ := hcut
    have HD := Lib.hid hs
    have hcw := hs.cells G HG.out
    have hfw := hs.frz
    clear hs HU
    --end
    have HPQ : ∀ x, (fun x => ltInt dk[a]! x) x = !(fun x => !ltInt dk[a]! x) x := by intro x; simp
    by_cases hgt : j2 < i2
    · have HX : Hid (R = (i2, dk)) := Lib.hid (by rw [← HE.out, partEqLoop_eq, ← HI.out, ← HJ2.out, if_pos hgt])
      clear HPQ hcw hfw
      go_wp2
      go_returns
      rw [HX.out]
      exact ⟨rfl, HD.out⟩
    · have hlt := scans_part _ _ HPQ i j dk (by omega) HI.out HJ2.out (by omega)
      have HX : Hid (partEqLoop ltInt a (i2 + 1) (j2 - 1) (swp dk i2 j2) = R) := Lib.hid (by rw [← HE.out, partEqLoop_eq ltInt a i j dk, ← HI.out, ← HJ2.out, if_neg (by omega)])
      clear HPQ
      go_wp2
      go_region
      all_goals go_wp2
      all_goals go_roundg (j - i)
      case measure => omega
      case rel => exact ⟨i2 + 1, j2 - 1, swp dk i2 j2, by go_num, by go_num, by omega, by omega, by omega, by omega, (HD.out.swap (by omega) (by omega) (HG.out _) (HG.out _)).drew, HX⟩
set_option maxRecDepth 1000000 in
set_option maxHeartbeats 16000000 in
theorem part32 (g off cap a b pivot n : Nat) (d : Array Int) (w0 w : World) (hs : SW g off n w0 d w) (hap : a ≤ pivot) (hpb : pivot < b) (hb : b ≤ n) (hsz : n ≤ 1000000) :
    Calls Tryz.prog 138 #[.slice (some ⟨g, off, none⟩) n cap, .int .i64 a, .int .i64 b, .int .i64 pivot] w fun e w' => ∃ v : Bool, e = .returned (.tuple #[.int .i64 ((partition ltInt d a b pivot).1 : Nat), .bool v]) ∧ SW g off n w0 (partition ltInt d a b pivot).2.2 w' := by
  rw [Sort.partition_arr, Sort.partition_fst]
  obtain ⟨R, hR⟩ : ∃ R, partLoop ltInt a (a + 1) (b - 1) (swp d a pivot) = R := ⟨_, rfl⟩
  rw [hR]
  obtain ⟨b1, hb1⟩ : ∃ b1 : Nat, b - 1 = b1 := ⟨_, rfl⟩
  have hbi : (b : Int) - 1 = (b1 : Int) := by omega
  have hb1n : b1 < n := by omega
  have hab1 : a ≤ b1 := by omega
  have hpn : pivot < n := by omega
  rw [hb1] at hR
  obtain ⟨G, hG⟩ := names_of d
  have hcw := hs.cells G hG
  have hfw := hs.frz
  obtain ⟨v', hy'⟩ := cell?_setCell_some (w := w) (p := ⟨g, off + a, none⟩) (x := .int .u32 (G pivot)) (q := ⟨g, off + pivot, none⟩) (hcw pivot hpn)
  have hs2 := (hs.swap (i := a) (j := pivot) (by omega) (by omega) (hG _) (hG _)).drew
  have HS := Lib.hid hs2
  have HE := Lib.hid hR
  clear hG hs hs2 hb1 hR
  generalize swp d a pivot = dk at *
  go_enter Tryz.func138, Tryz.ntmps138
  go_wp2
  go_region
  go_upto_region 2 with fail
  go_cut [10, 11] from 30 to 167 (fun s10 s11 wc => s10 = .int .i64 ((a + 1 : Nat) : Int) ∧ s11 = .int .i64 (b1 : Int) ∧ SW g off n w0 dk wc)
  case first =>
    go_wp2_with fail
    go_meet
    case rel => exact ⟨by go_num, by first | rfl | (rw [hbi]), HS.out⟩
  case rest =>
  obtain ⟨rfl, rfl, hs⟩ := hcut
  clear hcw hfw hy' v' HS hbi hap hpb hpn hb
  obtain ⟨G, hG⟩ := names_of dk
  have HG := Lib.hid hG
  have HK := Lib.hid hs
  clear hG hs
  obtain ⟨i, hi⟩ : ∃ i, a + 1 = i := ⟨_, rfl⟩
  obtain ⟨j, hj⟩ : ∃ j, b1 = j := ⟨_, rfl⟩
  have hai : a < i := by omega
  have hij : i ≤ j + 1 := by omega
  have hjb : j ≤ b1 := by omega
  rw [hi, hj] at HE
  rw [hi, hj]
  clear hi hj
  go_step
  go_step
  --up pt 10 30 167 i HK
  go_cut [10] from 30 to 167 (fun s9 wc => ∃ i2 : Nat, s9 = .int .i64 i2 ∧ i ≤ i2 ∧ i2 ≤ j + 1 ∧ Hid (i2 = scanUp (fun x => ltInt x dk[a]!) dk j i) ∧ SW g off n w0 dk wc)
  case first =>
    go_step
    go_loopg [10] (j + 1 - i) (fun k s9 w1 => ∃ i2 : Nat, s9 = .int .i64 i2 ∧ i ≤ i2 ∧ i2 ≤ j + 1 ∧ j + 1 - i2 ≤ k ∧ Hid (scanUp (fun x => ltInt x dk[a]!) dk j i2 = scanUp (fun x => ltInt x dk[a]!) dk j i) ∧ SW g off n w0 dk w1)
    case atStart => exact ⟨i, by first | rfl | go_num, Nat.le_refl _, by omega, Nat.le_refl _, Lib.hid rfl, HK.out⟩
    case round =>
      obtain ⟨i2, rfl, h1, h2, h3, HP, hs⟩ := hrel
      have hcw := hs.cells G HG.out
      have HJ := Lib.hid hs
      clear hs HK
      by_cases hle : i2 ≤ j
      · go_wp2_with fail
        go_quiet (first | (go_at_call 136; refine Calls.quiet_of_same (less32 _ _ _)))
        go_wp2_with fail
        · have ht : ltInt (G i2) (G a) = true := by assumption
          go_roundg (j + 1 - (i2 + 1))
          case measure => omega
          case rel => exact ⟨i2 + 1, by go_num, by omega, by omega, Nat.le_refl _, Lib.hid (by rw [← HP.out]; exact (up_go (fun x => ltInt x dk[a]!) dk j i2 hle (by show (ltInt dk[i2]! dk[a]!) = true; rw [← HG.out, ← HG.out]; exact ht)).symm), HJ.out.drewN nq⟩
        · have ht : ltInt (G i2) (G a) = false := by assumption
          go_meet
          case rel => exact ⟨i2, rfl, h1, h2, Lib.hid (by rw [← HP.out]; exact (up_end (fun x => ltInt x dk[a]!) dk j i2 (.inr (by show (ltInt dk[i2]! dk[a]!) = false; rw [← HG.out, ← HG.out]; exact ht))).symm), HJ.out.drewN nq⟩
      · have hled : decide (i2 ≤ j) = false := by simpa using hle
        go_wp2_with fail
        go_quiet (first | (go_at_call 136; refine Calls.quiet_of_same (less32 _ _ _)))
        go_wp2_with fail
        go_meet
        case rel => exact ⟨i2, rfl, h1, h2, Lib.hid (by rw [← HP.out]; exact (up_end (fun x => ltInt x dk[a]!) dk j i2 (.inl hle)).symm), HJ.out.drewN nq⟩
  case rest =>
  obtain ⟨i2, rfl, hu1, hu2, HI, hs⟩ := hcut
  have HU := Lib.hid hs
  clear hs HK
  --end
  --down pt 11 30 167 HU
  go_step
  go_step
  go_cut [11] from 30 to 167 (fun s10 wc => ∃ j2 : Nat, s10 = .int .i64 j2 ∧ j2 ≤ j ∧ i2 ≤ j2 + 1 ∧ Hid (j2 = scanDown (fun x => !ltInt x dk[a]!) dk i2 j) ∧ SW g off n w0 dk wc)
  case first =>
    go_step
    go_loopg [11] j (fun k s10 w1 => ∃ j2 : Nat, s10 = .int .i64 j2 ∧ j2 ≤ j ∧ i2 ≤ j2 + 1 ∧ j2 ≤ k ∧ Hid (scanDown (fun x => !ltInt x dk[a]!) dk i2 j2 = scanDown (fun x => !ltInt x dk[a]!) dk i2 j) ∧ SW g off n w0 dk w1)
    case atStart => exact ⟨j, by first | rfl | go_num, Nat.le_refl _, hu2, Nat.le_refl _, Lib.hid rfl, HU.out⟩
    case round =>
      obtain ⟨j2, rfl, h1, h2, h3, HP, hs⟩ := hrel
      have hcw := hs.cells G HG.out
      have HJ := Lib.hid hs
      clear hs HU
      by_cases hle : i2 ≤ j2
      · go_wp2_with fail
        go_quiet (first | (go_at_call 136; refine Calls.quiet_of_same (less32 _ _ _)))
        go_wp2_with fail
        · have ht : (!ltInt (G j2) (G a)) = true := by assumption
          go_roundg (j2 - 1)
          case measure => omega
          case rel => exact ⟨j2 - 1, by go_num, by omega, by omega, Nat.le_refl _, Lib.hid (by rw [← HP.out]; exact (down_go (fun x => !ltInt x dk[a]!) dk i2 j2 hle (by omega) (by show (!ltInt dk[j2]! dk[a]!) = true; rw [← HG.out, ← HG.out]; exact ht)).symm), HJ.out.drewN nq⟩
        · have ht : (!ltInt (G j2) (G a)) = false := by assumption
          go_meet
          case rel => exact ⟨j2, rfl, h1, h2, Lib.hid (by rw [← HP.out]; exact (down_end (fun x => !ltInt x dk[a]!) dk i2 j2 (.inr (by show (!ltInt dk[j2]! dk[a]!) = false; rw [← HG.out, ← HG.out]; exact ht))).symm), HJ.out.drewN nq⟩
      · have hled : decide (i2 ≤ j2) = false := by simpa using hle
        go_wp2_with fail
        go_quiet (first | (go_at_call 136; refine Calls.quiet_of_same (less32 _ _ _)))
        go_wp2_with fail
        go_meet
        case rel => exact ⟨j2, rfl, h1, h2, Lib.hid (by rw [← HP.out]; exact (down_end (fun x => !ltInt x dk[a]!) dk i2 j2 (.inl hle)).symm), HJ.out.drewN nq⟩
  case rest =>
  obtain ⟨j2, rfl, hd1, hd2, HJ2, hs⟩ := hcut
  have HD := Lib.hid hs
  have hcw := hs.cells G HG.out
  have hfw := hs.frz
  clear hs HU
  --end
  have HPQ : ∀ x, (fun x => !ltInt x dk[a]!) x = !(fun x => ltInt x dk[a]!) x := by intro x; rfl
  by_cases hgt : j2 < i2
  · have HX : Hid (R = (j2, dk)) := Lib.hid (by rw [← HE.out, partLoop_eq, ← HI.out, ← HJ2.out, if_pos hgt])
    clear HPQ
    obtain ⟨v', hy'⟩ := cell?_setCell_some (w := wc) (p := ⟨g, off + j2, none⟩) (x := .int .u32 (G a)) (q := ⟨g, off + a, none⟩) (hcw a (by omega))
    go_wp2
    go_region
    all_goals go_wp2
    go_returns
    rw [HX.out]
    exact ⟨_, rfl, (HD.out.swap (i := j2) (j := a) (by omega) (by omega) (HG.out _) (HG.out _)).drew⟩
  · have hlt := scans_part _ _ HPQ i j dk (by omega) HI.out HJ2.out (by omega)
    have HX : Hid (partLoop ltInt a (i2 + 1) (j2 - 1) (swp dk i2 j2) = R) := Lib.hid (by rw [← HE.out, partLoop_eq ltInt a i j dk, ← HI.out, ← HJ2.out, if_neg (by omega)])
    clear HPQ
    go_wp2
    go_region
    have hs2 := (HD.out.swap (i := i2) (j := j2) (by omega) (by omega) (HG.out _) (HG.out _)).drew
    have HS2 := Lib.hid hs2
    clear hs2 hcw hfw HD HI HJ2 HE HG
    go_wp2
    go_loopg [10, 11] (j - i) (fun k s9 s10 wr => ∃ (i j : Nat) (dk : Array Int), s9 = .int .i64 i ∧ s10 = .int .i64 j ∧ a < i ∧ i ≤ j + 1 ∧ j ≤ b1 ∧ j + 1 - i < k ∧ SW g off n w0 dk wr ∧ Hid (partLoop ltInt a i j dk = R))
    case atStart => exact ⟨i2 + 1, j2 - 1, _, by go_num, by go_num, by omega, by omega, by omega, by omega, HS2.out, HX⟩
    case round =>
      clear HS2 HX hlt hgt hd1 hd2 hu1 hu2 hjb hij hai
      obtain ⟨i, j, dk, rfl, rfl, hai, hij, hjb, hk, hs, HE⟩ := hrel
      obtain ⟨G, hG⟩ := names_of dk
      have HG := Lib.hid hG
      have HK := Lib.hid hs
      clear hG hs
      go_step
      go_step
      --up pt 10 99 152 i HK
      go_cut [10] from 99 to 152 (fun s9 wc => ∃ i2 : Nat, s9 = .int .i64 i2 ∧ i ≤ i2 ∧ i2 ≤ j + 1 ∧ Hid (i2 = scanUp (fun x => ltInt x dk[a]!) dk j i) ∧ SW g off n w0 dk wc)
      case first =>
        go_step
        go_loopg [10] (j + 1 - i) (fun k s9 w1 => ∃ i2 : Nat, s9 = .int .i64 i2 ∧ i ≤ i2 ∧ i2 ≤ j + 1 ∧ j + 1 - i2 ≤ k ∧ Hid (scanUp (fun x => ltInt x dk[a]!) dk j i2 = scanUp (fun x => ltInt x dk[a]!) dk j i) ∧ SW g off n w0 dk w1)
        case atStart => exact ⟨i, by first | rfl | go_num, Nat.le_refl _, by omega, Nat.le_refl _, Lib.hid rfl, HK.out⟩
        case round =>
          obtain ⟨i2, rfl, h1, h2, h3, HP, hs⟩ := hrel
          have hcw := hs.cells G HG.out
          have HJ := Lib.hid hs
          clear hs HK
          by_cases hle : i2 ≤ j
          · go_wp2_with fail
            go_quiet (first | (go_at_call 136; refine Calls.quiet_of_same (less32 _ _ _)))
            go_wp2_with fail
            · have ht : ltInt (G i2) (G a) = true := by assumption
              go_roundg (j + 1 - (i2 + 1))
              case measure => omega
              case rel => exact ⟨i2 + 1, by go_num, by omega, by omega, Nat.le_refl _, Lib.hid (by rw [← HP.out]; exact (up_go (fun x => ltInt x dk[a]!) dk j i2 hle (by show (ltInt dk[i2]! dk[a]!) = true; rw [← HG.out, ← HG.out]; exact ht)).symm), HJ.out.drewN nq⟩
            · have ht : ltInt (G i2) (G a) = false := by assumption
              go_meet
              case rel => exact ⟨i2, rfl, h1, h2, Lib.hid (by rw [← HP.out]; exact (up_end (fun x => ltInt x dk[a]!) dk j i2 (.inr (by show (ltInt dk[i2]! dk[a]!) = false; rw [← HG.out, ← HG.out]; exact ht))).symm), HJ.out.drewN nq⟩
          · have hled : decide (i2 ≤ j) = false := by simpa using hle
            go_wp2_with fail
            go_quiet (first | (go_at_call 136; refine Calls.quiet_of_same (less32 _ _ _)))
            go_wp2_with fail
            go_meet
            case rel => exact ⟨i2, rfl, h1, h2, Lib.hid (by rw [← HP.out]; exact (up_end (fun x => ltInt x dk[a]!) dk j i2 (.inl hle)).symm), HJ.out.drewN nq⟩
      case rest =>
      obtain ⟨i2, rfl, hu1, hu2, HI, hs⟩ := hcut
      have HU := Lib.hid hs
      clear hs HK
      --end
      --down pt 11 99 152 HU
      go_step
      go_step
      go_cut [11] from 99 to 152 (fun s10 wc => ∃ j2 : Nat, s10 = .int .i64 j2 ∧ j2 ≤ j ∧ i2 ≤ j2 + 1 ∧ Hid (j2 = scanDown (fun x => !ltInt x dk[a]!) dk i2 j) ∧ SW g off n w0 dk wc)
      case first =>
        go_step
        go_loopg [11] j (fun k s10 w1 => ∃ j2 : Nat, s10 = .int .i64 j2 ∧ j2 ≤ j ∧ i2 ≤ j2 + 1 ∧ j2 ≤ k ∧ Hid (scanDown (fun x => !ltInt x dk[a]!) dk i2 j2 = scanDown (fun x => !ltInt x dk[a]!) dk i2 j) ∧ SW g off n w0 dk w1)
        case atStart => exact ⟨j, by first | rfl | go_num, Nat.le_refl _, hu2, Nat.le_refl _, Lib.hid rfl, HU.out⟩
        case round =>
          obtain ⟨j2, rfl, h1, h2, h3, HP, hs⟩ := hrel
          have hcw := hs.cells G HG.out
          have HJ := Lib.hid hs
          clear hs HU
          by_cases hle : i2 ≤ j2
          · go_wp2_with fail
            go_quiet (first | (go_at_call 136; refine Calls.quiet_of_same (less32 _ _ _)))
            go_wp2_with fail
            · have ht : (!ltInt (G j2) (G a)) = true := by assumption
              go_roundg (j2 - 1)
              case measure => omega
              case rel => exact ⟨j2 - 1, by go_num, by omega, by omega, Nat.le_refl _, Lib.hid (by rw [← HP.out]; exact (down_go (fun x => !ltInt x dk[a]!) dk i2 j2 hle (by omega) (by show (!ltInt dk[j2]! dk[a]!) = true; rw [← HG.out, ← HG.out]; exact ht)).symm), HJ.out.drewN nq⟩
            · have ht : (!ltInt (G j2) (G a)) = false := by assumption
              go_meet
              case rel => exact ⟨j2, rfl, h1, h2, Lib.hid (by rw [← HP.out]; exact (down_end (fun x => !ltInt x dk[a]!) dk i2 j2 (.inr (by show (!ltInt dk[j2]! dk[a]!) = false; rw [← HG.out, ← HG.out]; exact ht))).symm), HJ.out.drewN nq⟩
          · have hled : decide (i2 ≤ j2) = false := by simpa using hle
            go_wp2_with fail
            go_quiet (first | (go_at_call 136; refine Calls.quiet_of_same (less32 _ _ _)))
            go_wp2_with fail
            go_meet
            case rel => exact ⟨j2, rfl, h1, h2, Lib.hid (by rw [← HP.out]; exact (down_end (fun x => !ltInt x dk[a]!) dk i2 j2 (.inl hle)).symm), HJ.out.drewN nq⟩
      case rest =>
      obtain ⟨j2, rfl, hd1, hd2, HJ2, hs⟩ := hcut
      have HD := Lib.hid hs
      have hcw := hs.cells G HG.out
      have hfw := hs.frz
      clear hs HU
      --end
      have HPQ : ∀ x, (fun x => !ltInt x dk[a]!) x = !(fun x => ltInt x dk[a]!) x := by intro x; rfl
      by_cases hgt : j2 < i2
      · have HX : Hid (R = (j2, dk)) := Lib.hid (by rw [← HE.out, partLoop_eq, ← HI.out, ← HJ2.out, if_pos hgt])
        clear HPQ
        obtain ⟨v', hy'⟩ := cell?_setCell_some (w := wc) (p := ⟨g, off + j2, none⟩) (x := .int .u32 (G a)) (q := ⟨g, off + a, none⟩) (hcw a (by omega))
        go_wp2
        go_region
        all_goals go_wp2
        go_returns
        rw [HX.out]
        exact ⟨_, rfl, (HD.out.swap (i := j2) (j := a) (by omega) (by omega) (HG.out _) (HG.out _)).drew⟩
      · have hlt := scans_part _ _ HPQ i j dk (by omega) HI.out HJ2.out (by omega)
        have HX : Hid (partLoop ltInt a (i2 + 1) (j2 - 1) (swp dk i2 j2) = R) := Lib.hid (by rw [← HE.out, partLoop_eq ltInt a i j dk, ← HI.out, ← HJ2.out, if_neg (by omega)])
        clear HPQ
        go_wp2
        go_region
        all_goals go_wp2
        all_goals go_roundg (j - i)
        case measure => omega
        case rel => exact ⟨i2 + 1, j2 - 1, swp dk i2 j2, by go_num, by go_num, by omega, by omega, by omega, by omega, (HD.out.swap (by omega) (by omega) (HG.out _) (HG.out _)).drew, HX⟩
end Go.Proofs.YtclekllaikcglaaGreat
namespace Go.Proofs.YtclekllaikcglaaGreat
open Go Go.RowKit
open Go.Sort (swp PermIn SortedIn ltInt Holds scanSorted shiftDown shiftUp partialIns partialInsertionSort partialIns_succ fixDown fixUp)

section
variable {α : Type} [Inhabited α] (lt : α → α → Bool)
theorem sorted_go (d : Array α) (b i : Nat) (h : i < b) (hl : lt d[i]! d[i - 1]! = false) : scanSorted lt d b i = scanSorted lt d b (i + 1) := by
  rw [scanSorted, if_pos (by simp [h, hl])]
theorem sorted_end (d : Array α) (b i : Nat) (h : ¬ i < b ∨ lt d[i]! d[i - 1]! = true) : scanSorted lt d b i = i := by
  rw [scanSorted, if_neg (by rcases h with h | h <;> simp [h])]
theorem shDown_go (j : Nat) (d : Array α) (h : 1 ≤ j) (hl : lt d[j]! d[j - 1]! = true) : shiftDown lt j d = shiftDown lt (j - 1) (swp d j (j - 1)) := by
  cases j with
  | zero => omega
  | succ k => rw [Nat.add_sub_cancel] at hl ⊢; rw [shiftDown, if_neg (by simp [hl])]
theorem shDown_end (j : Nat) (d : Array α) (h : j = 0 ∨ lt d[j]! d[j - 1]! = false) : shiftDown lt j d = d := by
  cases j with
  | zero => rfl
  | succ k =>
    rw [Nat.add_sub_cancel] at h
    rcases h with h | h
    · omega
    · rw [shiftDown, if_pos (by simp [h])]
theorem shUp_go (b j : Nat) (d : Array α) (h : j < b) (hl : lt d[j]! d[j - 1]! = true) : shiftUp lt b j d = shiftUp lt b (j + 1) (swp d j (j - 1)) := by
  rw [shiftUp, if_pos h, if_neg (by simp [hl])]
theorem shUp_end (b j : Nat) (d : Array α) (h : ¬ j < b ∨ lt d[j]! d[j - 1]! = false) : shiftUp lt b j d = d := by
  by_cases hb : j < b
  · rw [shiftUp, if_pos hb, if_pos (by rcases h with h | h; exact absurd hb h; simp [h])]
  · rw [shiftUp, if_neg hb]
end
set_option maxRecDepth 1000000 in
set_option maxHeartbeats 16000000 in
theorem partIns32 (g off cap a b n : Nat) (d : Array Int) (w0 w : World) (hs : SW g off n w0 d w) (hab : a < b) (hb : b ≤ n) (hsz : n ≤ 1000000) :
    Calls Tryz.prog 135 #[.slice (some ⟨g, off, none⟩) n cap, .int .i64 a, .int .i64 b] w fun e w' => e = .returned (.bool (partialInsertionSort ltInt d a b).2) ∧ SW g off n w0 (partialInsertionSort ltInt d a b).1 w' := by
  have HR : Hid (partialIns ltInt a b 5 (a + 1) d = partialInsertionSort ltInt d a b) := Lib.hid rfl
  generalize partialInsertionSort ltInt d a b = R at *
  have HS := Lib.hid hs
  clear hs
  go_enter Tryz.func135, Tryz.ntmps135
  go_wp2
  go_loopg [7, 8] 5 (fun k s7 s8 wr => ∃ (i j : Nat) (dk : Array Int), s7 = .int .i64 i ∧ s8 = .int .i64 j ∧ j + k = 5 ∧ a < i ∧ i ≤ b ∧ SW g off n w0 dk wr ∧ Hid (partialIns ltInt a b k i dk = R))
  case atStart => exact ⟨a + 1, 0, d, by go_num, by go_num, rfl, by omega, by omega, HS.out, HR⟩
  case round =>
    clear HS HR
    obtain ⟨i, j, dk, rfl, rfl, hjk, hai, hib, hs, HE⟩ := hrel
    obtain ⟨G, hG⟩ := names_of dk
    have HG := Lib.hid hG
    have HK := Lib.hid hs
    clear hG hs
    cases gk with
    | zero =>
      obtain rfl : j = 5 := by omega
      have HX : Hid (R = (dk, false)) := Lib.hid HE.out.symm
      go_wp2
      go_returns
      rw [HX.out]
      exact ⟨rfl, HK.out⟩
    | succ k =>
    have hj5 : j < 5 := by omega
    go_upto_if 14 with fail
    go_cut [7] from 13 to 132 (fun s7 wc => s7 = .int .i64 i ∧ wc = wr)
    case first =>
      go_wp2
      go_meet
      case rel => exact ⟨rfl, rfl⟩
    case rest =>
    obtain ⟨rfl, rfl⟩ := hcut
    go_step
    go_step
    go_step
    go_step
    go_cut [7] from 13 to 132 (fun s7 wc => ∃ i2 : Nat, s7 = .int .i64 i2 ∧ i ≤ i2 ∧ i2 ≤ b ∧ Hid (i2 = scanSorted ltInt dk b i) ∧ SW g off n w0 dk wc)
    case first =>
      go_step
      go_loopg [7] (b - i) (fun k s7 w1 => ∃ i2 : Nat, s7 = .int .i64 i2 ∧ i ≤ i2 ∧ i2 ≤ b ∧ b - i2 ≤ k ∧ Hid (scanSorted ltInt dk b i2 = scanSorted ltInt dk b i) ∧ SW g off n w0 dk w1)
      case atStart => exact ⟨i, rfl, Nat.le_refl _, hib, Nat.le_refl _, Lib.hid rfl, HK.out⟩
      case round =>
        obtain ⟨i2, rfl, h1, h2, h3, HP, hs⟩ := hrel
        have hcw := hs.cells G HG.out
        have HJ := Lib.hid hs
        clear hs HK
        by_cases hlt : i2 < b
        · go_wp2_with fail
          go_quiet (first | (go_at_call 136; refine Calls.quiet_of_same (less32 _ _ _)))
          go_wp2_with fail
          · have ht : ltInt (G i2) (G (i2 - 1)) = false := by
              have : (!ltInt (G i2) (G (i2 - 1))) = true := by assumption
              simpa using this
            go_roundg (b - (i2 + 1))
            case measure => omega
            case rel => exact ⟨i2 + 1, by go_num, by omega, by omega, Nat.le_refl _, Lib.hid (by rw [← HP.out]; exact (sorted_go ltInt dk b i2 hlt (by rw [← HG.out, ← HG.out]; exact ht)).symm), HJ.out.drewN nq⟩
          · have ht : ltInt (G i2) (G (i2 - 1)) = true := by
              have : (!ltInt (G i2) (G (i2 - 1))) = false := by assumption
              simpa using this
            go_meet
            case rel => exact ⟨i2, rfl, h1, h2, Lib.hid (by rw [← HP.out]; exact (sorted_end ltInt dk b i2 (.inr (by rw [← HG.out, ← HG.out]; exact ht))).symm), HJ.out.drewN nq⟩
        · have hltd : decide (i2 < b) = false := by simpa using hlt
          go_wp2_with fail
          go_quiet (first | (go_at_call 136; refine Calls.quiet_of_same (less32 _ _ _)))
          go_wp2_with fail
          go_meet
          case rel => exact ⟨i2, rfl, h1, h2, Lib.hid (by rw [← HP.out]; exact (sorted_end ltInt dk b i2 (.inl hlt)).symm), HJ.out.drewN nq⟩
    case rest =>
    obtain ⟨i2, rfl, h1, h2, HI, hs⟩ := hcut
    have hcw := hs.cells G HG.out
    have hfw := hs.frz
    have HU := Lib.hid hs
    clear hs HK
    have HX : Hid (R = if i2 = b then (dk, true) else if b - a < 50 then (dk, false) else partialIns ltInt a b k i2 (fixUp ltInt b i2 (fixDown ltInt a i2 (swp dk i2 (i2 - 1))))) := Lib.hid (by rw [← HE.out, partialIns_succ, ← HI.out])
    clear HE
    by_cases he : i2 = b
    · have HE2 := Lib.hid he
      have he1 : ((i2 : Int) == (b : Int)) = true := by simp; omega
      clear he
      go_wp2
      go_returns
      rw [HX.out, if_pos HE2.out]
      exact ⟨rfl, HU.out⟩
    · have he1 : ((i2 : Int) == (b : Int)) = false := by simp; omega
      by_cases h50 : b - a < 50
      · have h50i : (b : Int) - (a : Int) < 50 := by omega
        go_wp2
        go_returns
        rw [HX.out, if_neg he, if_pos h50]
        exact ⟨rfl, HU.out⟩
      · have h50i : ¬ (b : Int) - (a : Int) < 50 := by omega
        have HX2 : Hid (partialIns ltInt a b k i2 (fixUp ltInt b i2 (fixDown ltInt a i2 (swp dk i2 (i2 - 1)))) = R) := Lib.hid (by rw [HX.out, if_neg he, if_neg h50])
        clear HX
        have hlt2 : i2 < b := by omega
        clear he h50
        have hs2 := (HU.out.swap (i := i2) (j := i2 - 1) (by omega) (by omega) (HG.out _) (HG.out _)).drew
        have HS2 := Lib.hid hs2
        clear hs2
        go_upto_region 11 with fail
        go_region
        generalize swp dk i2 (i2 - 1) = d2 at *
        clear hcw hfw HU HG HI
        go_step
        go_step
        go_step
        go_cut [7, 8] from 13 to 132 (fun s7 s8 wc => s7 = .int .i64 i2 ∧ s8 = .int .i64 j ∧ ∃ d3, SW g off n w0 d3 wc ∧ Hid (fixDown ltInt a i2 d2 = d3))
        case first =>
          by_cases h2a : 2 ≤ i2 - a
          · have h2z : 2 ≤ (i2 : Int) - (a : Int) := by omega
            have HF : Hid (fixDown ltInt a i2 d2 = shiftDown ltInt (i2 - 1) d2) := Lib.hid (by rw [fixDown, if_pos (by omega)])
            go_wp2_with fail
            go_loopg [9] (i2 - 1) (fun k s9 w1 => ∃ (q : Nat) (dq : Array Int), s9 = .int .i64 q ∧ q ≤ i2 - 1 ∧ q ≤ k ∧ SW g off n w0 dq w1 ∧ Hid (shiftDown ltInt q dq = fixDown ltInt a i2 d2))
            case atStart => exact ⟨i2 - 1, d2, by go_num, Nat.le_refl _, Nat.le_refl _, HS2.out, Lib.hid HF.out.symm⟩
            case round =>
              obtain ⟨q, dq, rfl, h3, h4, hs, HQ⟩ := hrel
              obtain ⟨G, hG⟩ := names_of dq
              have hcw := hs.cells G hG
              have hfw := hs.frz
              have HG := Lib.hid hG
              have HJ := Lib.hid hs
              clear hG hs HS2
              by_cases hq : 1 ≤ q
              · go_wp2_with fail
                go_quiet (first | (go_at_call 136; refine Calls.quiet_of_same (less32 _ _ _)))
                go_wp2_with fail
                · have ht : ltInt (G q) (G (q - 1)) = false := by
                    have : (!ltInt (G q) (G (q - 1))) = true := by assumption
                    simpa using this
                  go_meet
                  case rel => exact ⟨rfl, rfl, dq, HJ.out.drewN nq, Lib.hid (by rw [← HQ.out, shDown_end _ _ _ (.inr (by rw [← HG.out, ← HG.out]; exact ht))])⟩
                · have ht : ltInt (G q) (G (q - 1)) = true := by
                    have : (!ltInt (G q) (G (q - 1))) = false := by assumption
                    simpa using this
                  go_region
                  all_goals go_wp2_with fail
                  all_goals go_roundg (q - 1)
                  case measure => omega
                  case rel => exact ⟨q - 1, swp dq q (q - 1), by go_num, by omega, Nat.le_refl _, ((HJ.out.drewN nq).swap (by omega) (by omega) (HG.out _) (HG.out _)).drew, Lib.hid (by rw [← HQ.out, shDown_go _ _ _ hq (by rw [← HG.out, ← HG.out]; exact ht)])⟩
              · obtain rfl : q = 0 := by omega
                go_wp2_with fail
                go_meet
                case rel => exact ⟨rfl, rfl, dq, HJ.out, Lib.hid (by rw [← HQ.out, shDown_end _ _ _ (.inl rfl)])⟩
          · have h2z : ¬ 2 ≤ (i2 : Int) - (a : Int) := by omega
            go_wp2_with fail
            go_meet
            case rel => exact ⟨rfl, rfl, d2, HS2.out, Lib.hid (by rw [fixDown, if_neg (by omega)])⟩
        case rest =>
        obtain ⟨rfl, rfl, d3, hs, HF⟩ := hcut
        have HX3 : Hid (partialIns ltInt a b k i2 (fixUp ltInt b i2 d3) = R) := Lib.hid (by rw [← HF.out]; exact HX2.out)
        have HS3 := Lib.hid hs
        clear hs HS2 HF HX2
        by_cases h2b : 2 ≤ b - i2
        · have h2z : 2 ≤ (b : Int) - (i2 : Int) := by omega
          have HF : Hid (fixUp ltInt b i2 d3 = shiftUp ltInt b (i2 + 1) d3) := Lib.hid (by rw [fixUp, if_pos (by omega)])
          go_wp2_with fail
          go_loopg [10] (b - i2) (fun k s10 w1 => ∃ (q : Nat) (dq : Array Int), s10 = .int .i64 q ∧ i2 < q ∧ q ≤ b ∧ b - q ≤ k ∧ SW g off n w0 dq w1 ∧ Hid (shiftUp ltInt b q dq = fixUp ltInt b i2 d3))
          case atStart => exact ⟨i2 + 1, d3, by go_num, by omega, by omega, by omega, HS3.out, Lib.hid HF.out.symm⟩
          case round =>
            obtain ⟨q, dq, rfl, h3, h4, h5, hs, HQ⟩ := hrel
            obtain ⟨G, hG⟩ := names_of dq
            have hcw := hs.cells G hG
            have hfw := hs.frz
            have HG := Lib.hid hG
            have HJ := Lib.hid hs
            clear hG hs HS3
            by_cases hq : q < b
            · go_wp2_with fail
              go_quiet (first | (go_at_call 136; refine Calls.quiet_of_same (less32 _ _ _)))
              go_wp2_with fail
              · have ht : ltInt (G q) (G (q - 1)) = false := by
                  have : (!ltInt (G q) (G (q - 1))) = true := by assumption
                  simpa using this
                go_roundg k
                case measure => omega
                case rel => exact ⟨i2, j + 1, dq, rfl, by go_num, by omega, by omega, by omega, HJ.out.drewN nq, Lib.hid (by rw [← HX3.out, ← HQ.out, shUp_end _ _ _ _ (.inr (by rw [← HG.out, ← HG.out]; exact ht))])⟩
              · have ht : ltInt (G q) (G (q - 1)) = true := by
                  have : (!ltInt (G q) (G (q - 1))) = false := by assumption
                  simpa using this
                go_region
                all_goals go_wp2_with fail
                all_goals go_roundg (b - (q + 1))
                case measure => omega
                case rel => exact ⟨q + 1, swp dq q (q - 1), by go_num, by omega, by omega, Nat.le_refl _, ((HJ.out.drewN nq).swap (by omega) (by omega) (HG.out _) (HG.out _)).drew, Lib.hid (by rw [← HQ.out, shUp_go _ _ _ _ hq (by rw [← HG.out, ← HG.out]; exact ht)])⟩
            · have hqd : decide (q < b) = false := by simpa using hq
              go_wp2_with fail
              go_roundg k
              case measure => omega
              case rel => exact ⟨i2, j + 1, dq, rfl, by go_num, by omega, by omega, by omega, HJ.out, Lib.hid (by rw [← HX3.out, ← HQ.out, shUp_end _ _ _ _ (.inl hq)])⟩
        · have h2z : ¬ 2 ≤ (b : Int) - (i2 : Int) := by omega
          go_wp2_with fail
          go_roundg k
          case measure => omega
          case rel => exact ⟨i2, j + 1, d3, rfl, by go_num, by omega, by omega, by omega, HS3.out, Lib.hid (by rw [← HX3.out, fixUp, if_neg (by omega)])⟩
end Go.Proofs.YtclekllaikcglaaGreat
