/- Contracts: layer 3, the document's tags, and which tags are right. -/
import Derived.Test.YtipdgiikifmjdaaMac
namespace Go.Proofs.Ytipdgiikifmjdaa
open Go Go.RowKit

theorem xor_rep (b : UInt8) : ∀ (l : List UInt8), xorL l (List.replicate l.length b) = l.map fun x => x8 x b
  | [] => rfl
  | x :: l => by
    have := xor_rep b l
    unfold xorL at this ⊢
    rw [List.length_cons, List.replicate_succ, List.zipWith_cons_cons, List.map_cons, this]
set_option maxRecDepth 100000 in
set_option maxHeartbeats 2000000 in
theorem refBlock_any (key : List UInt8) (b : UInt8) (w : World) (hk : key.length ≤ 1099511627776) :
    Calls Try.prog 41 #[.string (bs key), .int .u8 (b.toNat : Int)] w fun e w' => e = .returned (.string (bs (padL key b))) ∧ Ext w w' := by
  have hmk : ∀ w : World, (Instr.makeSlice 31 (.int .i64 64) (.int .i64 64)).run Try.prog w = .ok (.slice (some ⟨w.heap.size, 0, none⟩) 64 64) (w.alloc (.cells (bcells (List.replicate 64 0)) 5)) := fun w => mk_bytes 64 (by omega) w
  by_cases h : 64 < key.length
  · obtain ⟨X, hX⟩ : ∃ X, shaS key = X := ⟨_, rfl⟩
    have hPad : ((padTo 64 X).map fun x => x8 x b) = padL key b := by rw [padL, kb, if_pos h, hX]
    have GO := Lib.hid (fun (W : World) => hX ▸ RefOf_any key W hk)
    have hX32 : X.length = 32 := by rw [← hX]; exact shaS_length _
    clear hX
    go_enter Try.func41, Try.ntmps41
    go_wp2_with (go_at_call 13; with_reducible refine (GO.out _).mono ?_; rintro e w1 ⟨rfl, hx1⟩)
    have hXl : X.length ≤ 64 := by omega
    have hlen : (padTo 64 X).length = 64 := padTo_length _ _
    have hgetA : ∀ (k : Nat) (h : k < X.length), (padTo 64 X)[k]? = some X[k] := by
      intro k h
      unfold padTo
      rw [List.getElem?_append_left (by rw [List.length_take]; omega), List.getElem?_take_of_lt (by omega), List.getElem?_eq_getElem h]
    have hgetB : ∀ (k : Nat), X.length ≤ k → k < 64 → (padTo 64 X)[k]? = some 0 := by
      intro k h h2
      unfold padTo
      rw [List.getElem?_append_right (by rw [List.length_take]; omega), List.getElem?_replicate, if_pos (by rw [List.length_take]; omega)]
    obtain ⟨R, hR⟩ : ∃ R, R = List.replicate 64 b := ⟨_, rfl⟩
    have hRl : R.length = 64 := by rw [hR]; simp
    have hRk : ∀ k (h : k < 64), R[k]'(by omega) = b := by intro k h; subst hR; exact List.getElem_replicate _
    have GX := Lib.hid (fun W => RefXor_any (padTo 64 X) R W (by rw [hlen, hRl]) (by rw [hlen]; omega))
    rw [show xorL (padTo 64 X) R = padL key b by rw [hR, show List.replicate 64 b = List.replicate (padTo 64 X).length b by rw [hlen], xor_rep, hPad]] at GX
    have HRK := Lib.hid hRk; have HRL := Lib.hid hRl
    clear hR hRk
    generalize hL : padTo 64 X = L at hgetA hgetB hlen GX
    clear hL hPad
    have HGA := Lib.hid hgetA; have HGB := Lib.hid hgetB; clear hgetA hgetB
    go_loopw [6] (fun i wr => ∃ k : Nat, k ≤ 64 ∧ i = .int .i64 k ∧ wr.heap[w1.heap.size]? = some (.cells (bcells (L.take k ++ List.replicate (64 - k) 0)) 5 (0, 0)) ∧ Ext w wr) (fun i _ => 64 - (intOf i).toNat)
    case atStart => exact ⟨0, by omega, rfl, by rw [heap_alloc_new]; simp, hx1.alloc _⟩
    case round =>
      obtain ⟨k, hk1, rfl, hblk, hxr⟩ := hrel
      by_cases hlt : k < 64
      · have hc : wr.cell? ⟨w1.heap.size, k, none⟩ = some (.int .u8 0) := cell_blk hblk (fill_cell _ _ _ hlen hlt)
        have hfz : wr.frozen? ⟨w1.heap.size, k, none⟩ = false := frozen_blk hblk
        have hst := fill_set L 0 64 k hlen hlt
        have HB := Lib.hid hblk; have HS := Lib.hid hst; clear hblk hst
        by_cases hkx : k < X.length
        · have hg : L[k]'(by omega) = X[k] := by
            have := HGA.out k hkx
            rw [List.getElem?_eq_getElem (by omega)] at this
            exact Option.some.inj this
          have HG := Lib.hid hg; clear hg
          go_wp2
          go_roundw
          case measure => simp [intOf]; omega
          case rel =>
            refine ⟨k + 1, by omega, by go_num, ?_, hxr.setCell hx1.size _⟩
            have hs' := HS.out
            rw [HG.out] at hs'
            rw [heap_setCell_same _ HB.out, bcells_set, hs']
        · have hg : L[k]'(by omega) = 0 := by
            have := HGB.out k (by omega) hlt
            rw [List.getElem?_eq_getElem (by omega)] at this
            exact Option.some.inj this
          have HG := Lib.hid hg; clear hg
          go_wp2
          go_roundw
          case measure => simp [intOf]; omega
          case rel =>
            refine ⟨k + 1, by omega, by go_num, ?_, hxr.setCell hx1.size _⟩
            have hs' := HS.out
            rw [HG.out] at hs'
            rw [heap_setCell_same _ HB.out, show (Value.int .u8 0) = Value.int .u8 ((0 : UInt8).toNat : Int) from rfl, bcells_set, hs']
      · obtain rfl : k = 64 := by omega
        rw [fill_done _ 0 64 hlen] at hblk
        have HB := Lib.hid hblk
        clear hblk
        go_wp2
        obtain ⟨wo, rfl⟩ : ∃ x, x = wr := ⟨_, rfl⟩
        go_loopw [9] (fun i wr => ∃ k : Nat, k ≤ 64 ∧ i = .int .i64 k ∧ wr.heap[wo.heap.size]? = some (.cells (bcells (R.take k ++ List.replicate (64 - k) 0)) 5 (0, 0)) ∧ Ext wo wr) (fun i _ => 64 - (intOf i).toNat)
        case atStart => exact ⟨0, by omega, rfl, by rw [heap_alloc_new]; simp, (Ext.refl _).alloc _⟩
        case round =>
          obtain ⟨k, hk1, rfl, hblk, hx2⟩ := hrel
          by_cases hlt : k < 64
          · have hc : wr.cell? ⟨wo.heap.size, k, none⟩ = some (.int .u8 0) := cell_blk hblk (fill_cell _ _ _ HRL.out hlt)
            have hfz : wr.frozen? ⟨wo.heap.size, k, none⟩ = false := frozen_blk hblk
            have hst := fill_set R 0 64 k HRL.out hlt
            rw [HRK.out k hlt] at hst
            have HB2 := Lib.hid hblk; have HS := Lib.hid hst; clear hblk hst
            go_wp2
            go_roundw
            case measure => simp [intOf]; omega
            case rel =>
              refine ⟨k + 1, by omega, by go_num, ?_, hx2.setCell (Nat.le_refl _) _⟩
              rw [heap_setCell_same _ HB2.out, bcells_set, HS.out]
          · obtain rfl : k = 64 := by omega
            rw [fill_done _ 0 64 HRL.out] at hblk
            have kc1 := fun c => to_str_of (c := c) (n := 64) (hx2.keep HB.out) hlen
            have kc2 := fun c => to_str_of (c := c) (n := 64) hblk HRL.out
            clear hblk
            go_wp2_with (go_at_call 51; with_reducible refine (GX.out wr).mono ?_; rintro e w3 ⟨rfl, hx3⟩)
            go_returns
            exact ⟨rfl, hxr.trans (hx2.trans hx3)⟩
  · obtain ⟨X, hX⟩ : ∃ X, X = key := ⟨_, rfl⟩
    have hPad : ((padTo 64 X).map fun x => x8 x b) = padL key b := by rw [padL, kb, if_neg h, hX]
    have hXk : key.length ≤ 64 := by omega
    subst hX
    go_enter Try.func41, Try.ntmps41
    go_wp2
    have hXl : X.length ≤ 64 := hXk
    have hlen : (padTo 64 X).length = 64 := padTo_length _ _
    have hgetA : ∀ (k : Nat) (h : k < X.length), (padTo 64 X)[k]? = some X[k] := by
      intro k h
      unfold padTo
      rw [List.getElem?_append_left (by rw [List.length_take]; omega), List.getElem?_take_of_lt (by omega), List.getElem?_eq_getElem h]
    have hgetB : ∀ (k : Nat), X.length ≤ k → k < 64 → (padTo 64 X)[k]? = some 0 := by
      intro k h h2
      unfold padTo
      rw [List.getElem?_append_right (by rw [List.length_take]; omega), List.getElem?_replicate, if_pos (by rw [List.length_take]; omega)]
    obtain ⟨R, hR⟩ : ∃ R, R = List.replicate 64 b := ⟨_, rfl⟩
    have hRl : R.length = 64 := by rw [hR]; simp
    have hRk : ∀ k (h : k < 64), R[k]'(by omega) = b := by intro k h; subst hR; exact List.getElem_replicate _
    have GX := Lib.hid (fun W => RefXor_any (padTo 64 X) R W (by rw [hlen, hRl]) (by rw [hlen]; omega))
    rw [show xorL (padTo 64 X) R = padL X b by rw [hR, show List.replicate 64 b = List.replicate (padTo 64 X).length b by rw [hlen], xor_rep, hPad]] at GX
    have HRK := Lib.hid hRk; have HRL := Lib.hid hRl
    clear hR hRk
    generalize hL : padTo 64 X = L at hgetA hgetB hlen GX
    clear hL hPad
    have HGA := Lib.hid hgetA; have HGB := Lib.hid hgetB; clear hgetA hgetB
    go_loopw [6] (fun i wr => ∃ k : Nat, k ≤ 64 ∧ i = .int .i64 k ∧ wr.heap[w.heap.size]? = some (.cells (bcells (L.take k ++ List.replicate (64 - k) 0)) 5 (0, 0)) ∧ Ext w wr) (fun i _ => 64 - (intOf i).toNat)
    case atStart => exact ⟨0, by omega, rfl, by rw [heap_alloc_new]; simp, (Ext.refl _).alloc _⟩
    case round =>
      obtain ⟨k, hk1, rfl, hblk, hxr⟩ := hrel
      by_cases hlt : k < 64
      · have hc : wr.cell? ⟨w.heap.size, k, none⟩ = some (.int .u8 0) := cell_blk hblk (fill_cell _ _ _ hlen hlt)
        have hfz : wr.frozen? ⟨w.heap.size, k, none⟩ = false := frozen_blk hblk
        have hst := fill_set L 0 64 k hlen hlt
        have HB := Lib.hid hblk; have HS := Lib.hid hst; clear hblk hst
        by_cases hkx : k < X.length
        · have hg : L[k]'(by omega) = X[k] := by
            have := HGA.out k hkx
            rw [List.getElem?_eq_getElem (by omega)] at this
            exact Option.some.inj this
          have HG := Lib.hid hg; clear hg
          go_wp2
          go_roundw
          case measure => simp [intOf]; omega
          case rel =>
            refine ⟨k + 1, by omega, by go_num, ?_, hxr.setCell (Nat.le_refl _) _⟩
            have hs' := HS.out
            rw [HG.out] at hs'
            rw [heap_setCell_same _ HB.out, bcells_set, hs']
        · have hg : L[k]'(by omega) = 0 := by
            have := HGB.out k (by omega) hlt
            rw [List.getElem?_eq_getElem (by omega)] at this
            exact Option.some.inj this
          have HG := Lib.hid hg; clear hg
          go_wp2
          go_roundw
          case measure => simp [intOf]; omega
          case rel =>
            refine ⟨k + 1, by omega, by go_num, ?_, hxr.setCell (Nat.le_refl _) _⟩
            have hs' := HS.out
            rw [HG.out] at hs'
            rw [heap_setCell_same _ HB.out, show (Value.int .u8 0) = Value.int .u8 ((0 : UInt8).toNat : Int) from rfl, bcells_set, hs']
      · obtain rfl : k = 64 := by omega
        rw [fill_done _ 0 64 hlen] at hblk
        have HB := Lib.hid hblk
        clear hblk
        go_wp2
        obtain ⟨wo, rfl⟩ : ∃ x, x = wr := ⟨_, rfl⟩
        go_loopw [9] (fun i wr => ∃ k : Nat, k ≤ 64 ∧ i = .int .i64 k ∧ wr.heap[wo.heap.size]? = some (.cells (bcells (R.take k ++ List.replicate (64 - k) 0)) 5 (0, 0)) ∧ Ext wo wr) (fun i _ => 64 - (intOf i).toNat)
        case atStart => exact ⟨0, by omega, rfl, by rw [heap_alloc_new]; simp, (Ext.refl _).alloc _⟩
        case round =>
          obtain ⟨k, hk1, rfl, hblk, hx2⟩ := hrel
          by_cases hlt : k < 64
          · have hc : wr.cell? ⟨wo.heap.size, k, none⟩ = some (.int .u8 0) := cell_blk hblk (fill_cell _ _ _ HRL.out hlt)
            have hfz : wr.frozen? ⟨wo.heap.size, k, none⟩ = false := frozen_blk hblk
            have hst := fill_set R 0 64 k HRL.out hlt
            rw [HRK.out k hlt] at hst
            have HB2 := Lib.hid hblk; have HS := Lib.hid hst; clear hblk hst
            go_wp2
            go_roundw
            case measure => simp [intOf]; omega
            case rel =>
              refine ⟨k + 1, by omega, by go_num, ?_, hx2.setCell (Nat.le_refl _) _⟩
              rw [heap_setCell_same _ HB2.out, bcells_set, HS.out]
          · obtain rfl : k = 64 := by omega
            rw [fill_done _ 0 64 HRL.out] at hblk
            have kc1 := fun c => to_str_of (c := c) (n := 64) (hx2.keep HB.out) hlen
            have kc2 := fun c => to_str_of (c := c) (n := 64) hblk HRL.out
            clear hblk
            go_wp2_with (go_at_call 51; with_reducible refine (GX.out wr).mono ?_; rintro e w3 ⟨rfl, hx3⟩)
            go_returns
            exact ⟨rfl, hxr.trans (hx2.trans hx3)⟩

set_option maxRecDepth 100000 in
set_option maxHeartbeats 1000000 in
theorem refMac_any (key t : List UInt8) (w : World) (hk : key.length ≤ 1099511627776) (ht : t.length ≤ 1099511627000) :
    Calls Try.prog 25 #[.string (bs key), .string (bs t)] w fun e w' => e = .returned (.string (bs (macL key t))) ∧ Ext w w' := by
  have GB1 : Hid (∀ W : World, Calls Try.prog 41 #[.string (bs key), .int .u8 54] W fun e w' => e = .returned (.string (bs (padL key 0x36))) ∧ Ext W w') := Lib.hid (fun W => refBlock_any key 0x36 W hk)
  have GB2 : Hid (∀ W : World, Calls Try.prog 41 #[.string (bs key), .int .u8 92] W fun e w' => e = .returned (.string (bs (padL key 0x5c))) ∧ Ext W w') := Lib.hid (fun W => refBlock_any key 0x5c W hk)
  have G1 := Lib.hid (fun (W : World) => RefOf_any (padL key 0x36 ++ t) W (by simp; omega))
  have G2 := Lib.hid (fun (W : World) => RefOf_any (padL key 0x5c ++ shaS (padL key 0x36 ++ t)) W (by simp [shaS_length]))
  have hb1 : ¬ 9223372036854775807 < (padL key 0x36).length + t.length := by simp; omega
  have hb2 : ¬ 9223372036854775807 < (padL key 0x5c).length + (shaS (padL key 0x36 ++ t)).length := by simp [shaS_length]
  have HM : Hid (shaS (padL key 0x5c ++ shaS (padL key 0x36 ++ t)) = macL key t) := Lib.hid rfl
  generalize padL key 0x36 = p1 at *
  generalize padL key 0x5c = p2 at *
  generalize hz : shaS (p1 ++ t) = z at *
  clear hz
  go_enter Try.func25, Try.ntmps25
  go_wp2_with (first
    | (go_at_call 41; with_reducible refine (GB2.out w).mono ?_; rintro e w1 ⟨rfl, hx1⟩)
    | (go_at_call 41; with_reducible refine (GB1.out w1).mono ?_; rintro e w2 ⟨rfl, hx2⟩)
    | (go_at_call 13; with_reducible refine (G1.out w2).mono ?_; rintro e w3 ⟨rfl, hx3⟩)
    | (go_at_call 13; with_reducible refine (G2.out w3).mono ?_; rintro e w4 ⟨rfl, hx4⟩))
  go_returns
  exact ⟨ret_str HM.out, hx1.trans (hx2.trans (hx3.trans hx4))⟩

/-! ### Cut, Check -/
set_option maxRecDepth 100000 in
set_option maxHeartbeats 1000000 in
theorem macCut_yes (key : List UInt8) (l : List (List UInt8)) (ad : Option Addr) (cap n : Nat) (w : World) (hk : key.length ≤ 1099511627776) (hl : l.length ≤ 1048575) (hs : l.flatten.length ≤ 1099511627000) (hv : Sl w (.slice ad l.length cap) (l.map strV)) (h1 : 1 ≤ n) (h2 : n ≤ 32) :
    Calls Try.prog 26 #[.string (bs key), .int .i64 (n : Int), .slice ad l.length cap] w fun e w' => e = .returned (.tuple #[.string (bs ((macL key l.flatten).take n)), .bool true]) ∧ Ext w w' := by
  have GM := Lib.hid (fun (W : World) (h : Sl W (.slice ad l.length cap) (l.map strV)) => macOf_any key l ad cap W hk hl hs h)
  have V := Lib.hid hv
  have hzl : (macL key l.flatten).length = 32 := macL_length _ _
  clear hv
  generalize macL key l.flatten = z at *
  go_enter Try.func26, Try.ntmps26
  go_wp2_with (go_at_call 21; with_reducible refine (GM.out w V.out).mono ?_; rintro e w1 ⟨rfl, hx1⟩)
  go_returns
  exact ⟨rfl, hx1⟩
set_option maxRecDepth 100000 in
theorem macCut_no (key : List UInt8) (v : Value) (n : Int) (w : World) (h : n < 1 ∨ 32 < n) :
    Calls Try.prog 26 #[.string (bs key), .int .i64 n, v] w fun e w' => e = .returned (.tuple #[.string (bs []), .bool false]) ∧ w = w' := by
  by_cases h1 : n < 1
  · clear h
    go_enter Try.func26, Try.ntmps26
    go_wp2
    go_returns
    exact ⟨rfl, rfl⟩
  · have h2 : 32 < n := by omega
    clear h
    go_enter Try.func26, Try.ntmps26
    go_wp2
    go_returns
    exact ⟨rfl, rfl⟩
/-- Which tags are right. -/
def rightL (z tag : List UInt8) : Bool := decide (16 ≤ tag.length ∧ tag.length ≤ 32 ∧ z.take tag.length = tag)
set_option maxRecDepth 100000 in
set_option maxHeartbeats 1000000 in
theorem macCheck_any (key tag : List UInt8) (l : List (List UInt8)) (ad : Option Addr) (cap : Nat) (w : World) (hk : key.length ≤ 1099511627776) (ht : tag.length ≤ 1099511627776) (hl : l.length ≤ 1048575) (hs : l.flatten.length ≤ 1099511627000) (hv : Sl w (.slice ad l.length cap) (l.map strV)) :
    Calls Try.prog 27 #[.string (bs key), .string (bs tag), .slice ad l.length cap] w fun e w' => e = .returned (.bool (rightL (macL key l.flatten) tag)) ∧ Ext w w' := by
  by_cases h1 : tag.length < 16
  · have hr : rightL (macL key l.flatten) tag = false := by unfold rightL; rw [decide_eq_false]; omega
    rw [hr]
    clear hv hr
    go_enter Try.func27, Try.ntmps27
    go_wp2
    go_returns
    exact ⟨rfl, Ext.refl _⟩
  · by_cases h2 : 32 < tag.length
    · have hr : rightL (macL key l.flatten) tag = false := by unfold rightL; rw [decide_eq_false]; omega
      rw [hr]
      have GC := Lib.hid (fun W => macCut_no key (.slice ad l.length cap) (tag.length : Int) W (.inr (by omega)))
      clear hv hr
      go_enter Try.func27, Try.ntmps27
      go_wp2_with (go_at_call 26; with_reducible refine (GC.out w).mono ?_; rintro e w' ⟨rfl, rfl⟩)
      go_returns
      exact ⟨rfl, Ext.refl _⟩
    · have GC := Lib.hid (fun (W : World) (h : Sl W (.slice ad l.length cap) (l.map strV)) => macCut_yes key l ad cap tag.length W hk hl hs h (by omega) (by omega))
      have hr : rightL (macL key l.flatten) tag = decide ((macL key l.flatten).take tag.length = tag) := by unfold rightL; rw [decide_eq_decide]; constructor; exact fun h => h.2.2; exact fun h => ⟨by omega, by omega, h⟩
      have GE := Lib.hid (fun (W : World) => Equal_any ((macL key l.flatten).take tag.length) tag W (by rw [List.length_take]; omega))
      rw [hr]
      have V := Lib.hid hv
      clear hv hr
      generalize (macL key l.flatten).take tag.length = z at *
      generalize decide (z = tag) = d at *
      go_enter Try.func27, Try.ntmps27
      go_wp2_with (first
        | (go_at_call 26; with_reducible refine (GC.out w V.out).mono ?_; rintro e w1 ⟨rfl, hx1⟩)
        | (go_at_call 42; with_reducible refine (GE.out w1).mono ?_; rintro e w2 ⟨rfl, hx2⟩))
      go_returns
      exact ⟨rfl, hx1.trans hx2⟩
set_option maxRecDepth 100000 in
set_option maxHeartbeats 1000000 in
theorem refCheck_any (key tag t : List UInt8) (w : World) (hk : key.length ≤ 1099511627776) (ht : t.length ≤ 1099511627000) :
    Calls Try.prog 28 #[.string (bs key), .string (bs tag), .string (bs t)] w fun e w' => e = .returned (.bool (rightL (macL key t) tag)) ∧ Ext w w' := by
  by_cases h1 : tag.length < 16
  · have hr : rightL (macL key t) tag = false := by unfold rightL; rw [decide_eq_false]; omega
    rw [hr]
    clear hr
    go_enter Try.func28, Try.ntmps28
    go_wp2
    go_returns
    exact ⟨rfl, Ext.refl _⟩
  · by_cases h2 : 32 < tag.length
    · have hr : rightL (macL key t) tag = false := by unfold rightL; rw [decide_eq_false]; omega
      rw [hr]
      clear hr
      go_enter Try.func28, Try.ntmps28
      go_wp2
      go_returns
      exact ⟨rfl, Ext.refl _⟩
    · have GM := Lib.hid (fun W => refMac_any key t W hk ht)
      have hr : rightL (macL key t) tag = decide ((macL key t).take tag.length = tag) := by unfold rightL; rw [decide_eq_decide]; constructor; exact fun h => h.2.2; exact fun h => ⟨by omega, by omega, h⟩
      have hzl : (macL key t).length = 32 := macL_length _ _
      rw [hr]
      clear hr
      generalize macL key t = z at *
      go_enter Try.func28, Try.ntmps28
      go_wp2_with (go_at_call 25; with_reducible refine (GM.out w).mono ?_; rintro e w1 ⟨rfl, hx1⟩)
      go_returns
      exact ⟨ret_bool (by by_cases h : z.take tag.length = tag <;> simp [h]), hx1⟩
end Go.Proofs.Ytipdgiikifmjdaa
