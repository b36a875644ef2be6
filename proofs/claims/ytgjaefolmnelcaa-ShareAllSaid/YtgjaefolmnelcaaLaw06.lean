/- The statements of layer 6: walks of the laws' helpers. -/
import Derived.Test.YtgjaefolmnelcaaRefGather
import Derived.Test.YtgjaefolmnelcaaRow
namespace Go.Proofs.Ytgjaefolmnelcaa
open Go Go.RowKit

def sumL (l : List (List UInt8)) : Nat := (l.map List.length).sum
theorem sumL_take (l : List (List UInt8)) (k : Nat) (h : k < l.length) : sumL (l.take (k + 1)) = sumL (l.take k) + l[k].length := by
  rw [List.take_succ_eq_append_getElem h, sumL, List.map_append, List.sum_append]; simp [sumL]
theorem sumL_le (l : List (List UInt8)) (B : Nat) (h : ∀ x ∈ l, x.length ≤ B) : sumL l ≤ l.length * B := by
  induction l with
  | nil => simp [sumL]
  | cons x l ih =>
    have := ih (fun y hy => h y (by simp [hy]))
    have hx := h x (by simp)
    simp only [sumL, List.map_cons, List.sum_cons, List.length_cons] at this ⊢
    rw [Nat.add_mul]; omega
theorem sumL_mem (l : List (List UInt8)) : ∀ x ∈ l, x.length ≤ sumL l := by
  induction l with
  | nil => simp
  | cons y l ih =>
    intro x hx
    simp only [sumL, List.map_cons, List.sum_cons]
    rcases List.mem_cons.1 hx with rfl | hx
    · omega
    · have := ih x hx; simp only [sumL] at this; omega
/-- What a text may have: the form's reach. -/
def Rch06 (l : List UInt8) : Prop := l.length ≤ reachBytes
theorem Rch06.le {l : List UInt8} (h : Rch06 l) : l.length ≤ 140737488351232 := h
def heavyB (l : List (List UInt8)) : Bool := decide (50 < l.length) || decide (4096 < sumL (l.take 60))
theorem heavyB_no {l : List (List UInt8)} (h : heavyB l = false) : l.length ≤ 50 ∧ ∀ x ∈ l, x.length ≤ 4096 := by
  simp only [heavyB, Bool.or_eq_false_iff, decide_eq_false_iff_not] at h
  refine ⟨by omega, fun x hx => ?_⟩
  have := sumL_mem (l.take 60) x (by rw [List.take_of_length_le (by omega)]; exact hx)
  omega
theorem heavyB_60 {l : List (List UInt8)} (h : 60 < l.length + 1) : heavyB l = true := by simp [heavyB]; omega
theorem heavyB_all {l : List (List UInt8)} (h : l.length ≤ 60) : heavyB l = (decide (50 < (l.length : Int)) || decide (4096 < (sumL l : Int))) := by
  rw [heavyB, List.take_of_length_le h]
  congr 1 <;> (rw [decide_eq_decide]; omega)
set_option maxRecDepth 100000 in
set_option maxHeartbeats 1000000 in
theorem heavy06_any (l : List (List UInt8)) (ad : Option Addr) (cap : Nat) (w : World) (hl : l.length ≤ 140737488351232) (hs : ∀ x ∈ l, x.length ≤ 140737488351232) (hv : Sl w (.slice ad l.length cap) (l.map strV)) :
    Calls Try.prog 28 #[.slice ad l.length cap] w fun e w' => e = .returned (.bool (heavyB l)) ∧ w = w' := by
  have HS := Lib.hid hs
  clear hs
  go_enter Try.func28, Try.ntmps28
  go_wp2
  go_loopw [3, 4] (fun o i wr => ∃ k : Nat, k ≤ l.length ∧ k ≤ 60 ∧ i = .int .i64 k ∧ o = .int .i64 (sumL (l.take k)) ∧ wr = w) (fun _ i _ => 60 - (intOf i).toNat)
  case atStart => exact ⟨0, by omega, by omega, rfl, rfl, rfl⟩
  case round =>
    obtain ⟨k, hk, hk6, rfl, rfl, rfl⟩ := hrel
    have hsum := sumL_le (l.take k) 140737488351232 (fun x hx => HS.out x (List.mem_of_mem_take hx))
    have hle : (l.take k).length ≤ 60 := by rw [List.length_take]; omega
    have hsum' : sumL (l.take k) ≤ 60 * 140737488351232 := Nat.le_trans hsum (Nat.mul_le_mul_right _ hle)
    clear hsum hle
    by_cases hlt : k < l.length
    · by_cases h6 : k < 60
      · obtain ⟨b, off, ha, hbl, hcell⟩ := hv.str k hlt
        subst ha
        have hll := HS.out _ (List.getElem_mem hlt)
        have HST := Lib.hid (sumL_take l k hlt)
        go_wp2
        go_roundw
        case measure => simp [intOf]; omega
        case rel => exact ⟨k + 1, by omega, by omega, by go_num, by rw [HST.out]; go_num, trivial⟩
      · obtain rfl : k = 60 := by omega
        have HF := Lib.hid (heavyB_60 (l := l) (by omega))
        go_wp2
        go_returns
        rw [HF.out]
        exact ⟨rfl, rfl⟩
    · obtain rfl : k = l.length := by omega
      have HF := Lib.hid (heavyB_all hk6)
      go_wp2
      all_goals go_returns
      all_goals rw [HF.out]
      all_goals first
        | exact ⟨rfl, rfl⟩
        | exact ⟨ret_bool (by simp; omega), rfl⟩

theorem ab_split : splitS [97, 98] [[120, 121]] = some [[1, 2, 120, 121], [2, 2, 25, 27]] := by decide
set_option maxRecDepth 100000 in
set_option maxHeartbeats 1000000 in
theorem works06 (w : World) : Calls Try.prog 29 #[] w fun e w' => e = .returned (.bool true) ∧ Ext w w' := by
  have hsl : ∀ w : World, Sl (w.alloc (.cells #[.string { data := #[120, 121] }] 9)) (.slice (some ⟨w.heap.size, 0, none⟩) 1 1) [strV [120, 121]] := fun w =>
    ⟨_, _, rfl, fun i hi => ⟨w.heap.size, 0, rfl, by simp, by obtain rfl : i = 0 := by simpa using hi
                                                              exact cell_blk (heap_alloc_new w _) rfl⟩⟩
  have g1 : ∀ w : World, Calls Try.prog 31 #[.string { data := #[97, 98] }, .slice (some ⟨w.heap.size, 0, none⟩) 1 1] (w.alloc (.cells #[.string { data := #[120, 121] }] 9))
      fun e w' => ∃ g cap, e = .returned (.tuple #[.slice (some ⟨g, 0, none⟩) 2 cap, .int .i64 0]) ∧ w.heap.size ≤ g ∧ g < w'.heap.size ∧ w'.cell? ⟨g, 0, none⟩ = some (.string { data := #[1, 2, 120, 121] }) ∧ w'.cell? ⟨g, 1, none⟩ = some (.string { data := #[2, 2, 25, 27] }) ∧ Ext w w' := fun w => by
    have h := Split_fit [97, 98] [[120, 121]] (some ⟨w.heap.size, 0, none⟩) 1 _ (by simp) (by simp) (by simp) (hsl w)
    rw [ab_split] at h
    refine h.mono ?_
    rintro e w' ⟨v, rfl, hrow, hx⟩
    rcases hrow.look with ⟨rfl, h0⟩ | ⟨g, cap, cur, rfl, hg, hh, _⟩
    · cases h0
    · refine ⟨g, cap, rfl, by simp at hg; omega, blk_lt hh, hrow.cellAt 0 (by simp), hrow.cellAt 1 (by simp), ?_⟩
      exact ((Ext.refl w).alloc _).trans hx
  have g2 : ∀ w bg bm, PG w bg bm 0 [] → Calls Try.prog 36 #[.pointer (some ⟨bg, 0, none⟩), .string { data := #[2, 2, 25, 27] }] w fun e w' => e = .returned (.int .i64 0) ∧ PG w' bg bm 0 [(2, 2, [25, 27])] ∧ But [bg, bm] w w' := fun w bg bm h => by
    have h := Add_any w bg bm 0 [] [2, 2, 25, 27] (by decide) (by simp) h
    exact h
  have g3 : ∀ w bg bm, PG w bg bm 0 [(2, 2, [25, 27])] → Calls Try.prog 39 #[.pointer (some ⟨bg, 0, none⟩)] w fun e w' => e = .returned (.tuple #[.string { data := #[] }, .bool false]) ∧ Ext w w' := fun w bg bm h =>
    Secret_any w bg bm 0 _ (by simp) h
  have g4 : ∀ w bg bm, PG w bg bm 0 [(2, 2, [25, 27])] → Calls Try.prog 36 #[.pointer (some ⟨bg, 0, none⟩), .string { data := #[1, 2, 120, 121] }] w fun e w' => e = .returned (.int .i64 0) ∧ PG w' bg bm 0 [(2, 2, [25, 27]), (1, 2, [120, 121])] ∧ But [bg, bm] w w' := fun w bg bm h =>
    Add_any w bg bm 0 _ [1, 2, 120, 121] (by decide) (by simp) h
  have g5 : ∀ w bg bm, PG w bg bm 0 [(2, 2, [25, 27]), (1, 2, [120, 121])] → Calls Try.prog 39 #[.pointer (some ⟨bg, 0, none⟩)] w fun e w' => e = .returned (.tuple #[.string { data := #[97, 98] }, .bool true]) ∧ Ext w w' := fun w bg bm h =>
    Secret_any w bg bm 0 _ (by simp) h
  have G1 := Lib.hid g1; have G2 := Lib.hid g2; have G3 := Lib.hid g3; have G4 := Lib.hid g4; have G5 := Lib.hid g5; have G0 := Lib.hid New_any
  clear hsl g1 g2 g3 g4 g5
  go_enter Try.func29, Try.ntmps29
  go_wp2_with (first
    | (go_at_call 31; with_reducible refine (G1.out _).mono ?_; rintro e w1 ⟨g, cap, rfl, hg1, hg2, s0, s1, hx1⟩)
    | (go_at_call 35; with_reducible refine (G0.out _).mono ?_; rintro e w2 ⟨bg, bm, rfl, hb1, hb2, hb3, hb4, hpg, hx2⟩; have s0' := hx2.cell_of s0; have s1' := hx2.cell_of s1; have P0 := Lib.hid hpg; clear hpg)
    | (go_at_call 36; with_reducible refine (G2.out _ bg bm P0.out).mono ?_; rintro e w3 ⟨rfl, hp3, hx3⟩; have P3 := Lib.hid hp3; have E3 : Ext w1 w3 := But.ext hx2 hx3 (by simp; omega); clear hp3 hx3)
    | (go_at_call 39; with_reducible refine (G3.out _ bg bm P3.out).mono ?_; rintro e w4 ⟨rfl, hx4⟩; have P4 := Lib.hid (P3.out.ext hx4); have E4 := E3.trans hx4; have s04 := E4.cell_of s0; have s14 := E4.cell_of s1)
    | (go_at_call 36; with_reducible refine (G4.out _ bg bm P4.out).mono ?_; rintro e w5 ⟨rfl, hp5, hx5⟩; have P5 := Lib.hid hp5; have E5 : Ext w1 w5 := But.ext E4 hx5 (by simp; omega); clear hp5 hx5)
    | (go_at_call 39; with_reducible refine (G5.out _ bg bm P5.out).mono ?_; rintro e w6 ⟨rfl, hx6⟩; have E6 := E5.trans hx6; have s06 := E6.cell_of s0; have s16 := E6.cell_of s1))
  go_returns
  exact ⟨rfl, hx1.trans E6⟩
end Go.Proofs.Ytgjaefolmnelcaa
