/- The statements of layer 2: the walk of ShaWords. -/
import Derived.Test.YtipdgiikifmjdaaLaw02
namespace Go.Proofs.Ytipdgiikifmjdaa
open Go Go.RowKit

set_option maxRecDepth 100000 in
set_option maxHeartbeats 1000000 in
theorem words_long (w : World) (s : List UInt8) (own : Bool) (hs : Rch02 s) (h : 1024 < s.length) :
    Calls Try.prog 4 #[.string (bs s), .bool own] w fun e w' => e = .returned (.bool true) ∧ Ext w w' := by
  have G0 := Lib.hid works02
  have hs := hs.le
  go_enter Try.func4, Try.ntmps4
  go_wp2_with (first
    | (go_at_call 11; with_reducible refine (G0.out _).mono ?_; rintro e w9 ⟨rfl, hw9⟩))
  go_returns
  exact ⟨rfl, hw9⟩
set_option maxRecDepth 100000 in
set_option maxHeartbeats 1000000 in
theorem words_other (w : World) (s : List UInt8) (h : s.length ≤ 1024) (h2 : s.length ≠ 64) :
    Calls Try.prog 4 #[.string (bs s), .bool false] w fun e w' => e = .returned (.bool true) ∧ Ext w w' := by
  have G0 := Lib.hid works02
  have GW := Lib.hid (fun w => Words_no s w h2 (by omega))
  have hne : ((s.length : Int) != 64) = true := by simp; omega
  clear h2
  go_enter Try.func4, Try.ntmps4
  go_wp2
  go_loopw [5] (fun o wr => o = .string (bs s) ∧ wr = w) (fun _ _ => 0)
  case atStart => exact ⟨rfl, rfl⟩
  case round =>
    obtain ⟨rfl, rfl⟩ := hrel
    go_wp2_with (first
      | (go_at_call 14; with_reducible refine (GW.out _).mono ?_; rintro e w' ⟨rfl, rfl⟩)
      | (go_at_call 11; with_reducible refine (G0.out _).mono ?_; rintro e w9 ⟨rfl, hx9⟩))
    go_returns
    exact ⟨rfl, hx9⟩
set_option maxRecDepth 100000 in
set_option maxHeartbeats 2000000 in
theorem words_same (w : World) (s : List UInt8) (W : List UInt32) (hW : W.length = 64) (h : s.length = 64) (hWV : words s = W) :
    Calls Try.prog 4 #[.string (bs s), .bool false] w fun e w' => e = .returned (.bool true) ∧ Ext w w' := by
  have G0 := Lib.hid works02
  have GW := Lib.hid (fun w => hWV ▸ Words_yes s w h)
  have GR := Lib.hid (fun w => (show wordsN s 64 = W from hWV) ▸ RefWords_any s w h)
  have HWL := Lib.hid hW
  have hne : ((s.length : Int) != 64) = false := by simp; omega
  have hl : s.length ≤ 1024 := by omega
  clear hWV hW h
  go_enter Try.func4, Try.ntmps4
  go_wp2
  go_loopw [5] (fun o wr => o = .string (bs s) ∧ wr = w) (fun _ _ => 0)
  case atStart => exact ⟨rfl, rfl⟩
  case round =>
    obtain ⟨rfl, rfl⟩ := hrel
    go_wp2_with (first
      | (go_at_call 14; with_reducible refine (GW.out _).mono ?_; rintro e w2 ⟨rfl, hw2, hx2⟩; have H2 := Lib.hid hw2; clear hw2)
      | (go_at_call 15; with_reducible refine (GR.out _).mono ?_; rintro e w3 ⟨vw, rfl, hrow, hx3⟩; obtain ⟨gr, cr, hvw⟩ := row_some hrow (by rw [List.length_map, HWL.out]; omega); rw [List.length_map, HWL.out] at hvw; subst hvw; have H3 := Lib.hid hrow; clear hrow))
    obtain ⟨gp, hgp⟩ : ∃ g, g = wr.heap.size := ⟨_, rfl⟩
    rw [← hgp] at H2
    rw [← hgp]
    clear hgp
    obtain ⟨w0, rfl⟩ : ∃ x, x = wr := ⟨_, rfl⟩
    go_loopw [8] (fun i wr => ∃ k : Nat, k ≤ 64 ∧ i = .int .i64 k ∧ Ext w3 wr) (fun i _ => 64 - (intOf i).toNat)
    case atStart => exact ⟨0, by omega, rfl, Ext.refl _⟩
    case round =>
      obtain ⟨k, hk, rfl, hx⟩ := hrel
      by_cases hlt : k < 64
      · have hWk := HWL.out
        have e1 : ∀ wq, Ext wr wq → wq.cell? ⟨gp, k, none⟩ = some (.int .u32 ((W.getD k 0).toNat : Int)) := by
          intro wq hq
          refine (hx3.trans (hx.trans hq)).cell_of (cell_blk H2.out ?_)
          rw [wcells_at W k (by omega), List.getD_eq_getElem?_getD, List.getElem?_eq_getElem (by omega)]; rfl
        have e2 : ∀ wq, Ext wr wq → wq.cell? ⟨gr, k, none⟩ = some (.int .u32 ((W.getD k 0).toNat : Int)) := by
          intro wq hq
          have := ((H3.out.ext hx).ext hq).cellAt k (by rw [List.length_map, hWk]; exact hlt)
          rw [this, List.getElem_map, List.getD_eq_getElem?_getD, List.getElem?_eq_getElem (by omega)]; rfl
        have q1 := e1 wr (Ext.refl _)
        have q2 := e2 wr (Ext.refl _)
        generalize W.getD k 0 = z at q1 q2 e1 e2
        have hkl : (k : Int) < 64 := by omega
        have hne2 : ((z.toNat : Int) != (z.toNat : Int)) = false := by simp
        have b1 : gp < wr.heap.size := Nat.lt_of_lt_of_le (blk_lt H2.out) (hx3.trans hx).size
        clear e1 e2 hWk
        go_wp2
        go_quiet (fail)
        go_wp2
        go_roundw
        case measure => simp [intOf]; omega
        case rel => exact ⟨k + 1, by omega, by go_num, (by repeat (first | exact Ext.refl _ | assumption | (with_reducible refine Ext.drew ?_) | (with_reducible refine Ext.drewN ?_ _) | (with_reducible refine Ext.alloc ?_ _) | (refine Ext.trans ?_ (by assumption))))⟩
      · obtain rfl : k = 64 := by omega
        go_wp2_with (go_at_call 11; with_reducible refine (G0.out _).mono ?_; rintro e w9 ⟨rfl, hx9⟩)
        go_returns
        exact ⟨rfl, hx2.trans (hx3.trans (hx.trans hx9))⟩
set_option maxRecDepth 100000 in
set_option maxHeartbeats 2000000 in
theorem words_own (w : World) (s : List UInt8) (h : s.length ≤ 1024) :
    Calls Try.prog 4 #[.string (bs s), .bool true] w fun e w' => e = .returned (.bool true) ∧ Ext w w' := by
  have G0 := Lib.hid works02
  go_enter Try.func4, Try.ntmps4
  go_wp2
  go_loopw [5] (fun o wr => ∃ q : List UInt8, o = .string (bs q) ∧ q.length ≤ 1088 ∧ wr = w) (fun o _ => 64 - (match o with | .string b => b.size | _ => 0))
  case atStart => exact ⟨s, rfl, by omega, rfl⟩
  case round =>
    obtain ⟨q, rfl, hq, rfl⟩ := hrel
    by_cases hlt : q.length < 64
    · have happ : bs q ++ ({ data := #[1] } : ByteArray) = bs (q ++ [1]) := by rw [show ({ data := #[1] } : ByteArray) = bs [1] from rfl, bs_append]
      go_wp2
      go_roundw
      case measure => simp; omega
      case rel => exact ⟨q ++ [1], by first | rfl | (rw [happ]), by simp; omega, trivial⟩
    · have hge : (64 : Int) ≤ (q.length : Int) := by omega
      have h64 : (q.take 64).length = 64 := by rw [List.length_take]; omega
      obtain ⟨W, hWV⟩ : ∃ W, words (q.take 64) = W := ⟨_, rfl⟩
      have hW : W.length = 64 := by rw [← hWV]; exact words_length _
      have GW := Lib.hid (fun w => hWV ▸ Words_yes (q.take 64) w h64)
      have GR := Lib.hid (fun w => (show wordsN (q.take 64) 64 = W from hWV) ▸ RefWords_any (q.take 64) w h64)
      have HWL := Lib.hid hW
      have hne : (((q.take 64).length : Int) != 64) = false := by simp [h64]
      clear hWV hW
      go_wp2_with (first
        | (go_at_call 14; with_reducible refine (GW.out _).mono ?_; rintro e w2 ⟨rfl, hw2, hx2⟩; have H2 := Lib.hid hw2; clear hw2)
        | (go_at_call 15; with_reducible refine (GR.out _).mono ?_; rintro e w3 ⟨vw, rfl, hrow, hx3⟩; obtain ⟨gr, cr, hvw⟩ := row_some hrow (by rw [List.length_map, HWL.out]; omega); rw [List.length_map, HWL.out] at hvw; subst hvw; have H3 := Lib.hid hrow; clear hrow))
      obtain ⟨gp, hgp⟩ : ∃ g, g = wr.heap.size := ⟨_, rfl⟩
      rw [← hgp] at H2
      rw [← hgp]
      clear hgp
      obtain ⟨w0, rfl⟩ : ∃ x, x = wr := ⟨_, rfl⟩
      go_loopw [8] (fun i wr => ∃ k : Nat, k ≤ 64 ∧ i = .int .i64 k ∧ Ext w3 wr) (fun i _ => 64 - (intOf i).toNat)
      case atStart => exact ⟨0, by omega, rfl, Ext.refl _⟩
      case round =>
        obtain ⟨k, hk, rfl, hx⟩ := hrel
        by_cases hlt : k < 64
        · have hWk := HWL.out
          have e1 : ∀ wq, Ext wr wq → wq.cell? ⟨gp, k, none⟩ = some (.int .u32 ((W.getD k 0).toNat : Int)) := by
            intro wq hq
            refine (hx3.trans (hx.trans hq)).cell_of (cell_blk H2.out ?_)
            rw [wcells_at W k (by omega), List.getD_eq_getElem?_getD, List.getElem?_eq_getElem (by omega)]; rfl
          have e2 : ∀ wq, Ext wr wq → wq.cell? ⟨gr, k, none⟩ = some (.int .u32 ((W.getD k 0).toNat : Int)) := by
            intro wq hq
            have := ((H3.out.ext hx).ext hq).cellAt k (by rw [List.length_map, hWk]; exact hlt)
            rw [this, List.getElem_map, List.getD_eq_getElem?_getD, List.getElem?_eq_getElem (by omega)]; rfl
          have q1 := e1 wr (Ext.refl _)
          have q2 := e2 wr (Ext.refl _)
          generalize W.getD k 0 = z at q1 q2 e1 e2
          have hkl : (k : Int) < 64 := by omega
          have hne2 : ((z.toNat : Int) != (z.toNat : Int)) = false := by simp
          have b1 : gp < wr.heap.size := Nat.lt_of_lt_of_le (blk_lt H2.out) (hx3.trans hx).size
          clear e1 e2 hWk
          go_wp2
          go_quiet (fail)
          go_wp2
          go_roundw
          case measure => simp [intOf]; omega
          case rel => exact ⟨k + 1, by omega, by go_num, (by repeat (first | exact Ext.refl _ | assumption | (with_reducible refine Ext.drew ?_) | (with_reducible refine Ext.drewN ?_ _) | (with_reducible refine Ext.alloc ?_ _) | (refine Ext.trans ?_ (by assumption))))⟩
        · obtain rfl : k = 64 := by omega
          go_wp2_with (go_at_call 11; with_reducible refine (G0.out _).mono ?_; rintro e w9 ⟨rfl, hx9⟩)
          go_returns
          exact ⟨rfl, hx2.trans (hx3.trans (hx.trans hx9))⟩
theorem law_ShaWords (w : World) (s : List UInt8) (own : Bool) (hs : Rch02 s) :
    Calls Try.prog 4 #[.string (bs s), .bool own] w fun e w' => e = .returned (.bool true) ∧ Ext w w' := by
  by_cases h : 1024 < s.length
  · exact words_long w s own hs h
  · cases own with
    | true => exact words_own w s (by omega)
    | false =>
      by_cases h2 : s.length = 64
      · exact words_same w s (words s) (words_length s) h2 rfl
      · exact words_other w s (by omega) h2
end Go.Proofs.Ytipdgiikifmjdaa
