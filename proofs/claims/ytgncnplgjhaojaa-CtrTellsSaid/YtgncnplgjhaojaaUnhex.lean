/- Contracts: word.Hex, four, Unhex and their references. -/
import Derived.Test.YtgncnplgjhaojaaWord
import Derived.Test.YtgncnplgjhaojaaLoud
namespace Go.Proofs.Ytgncnplgjhaojaa
open Go Go.RowKit

/-- What a hex digit is. -/
def hexVal (c : UInt8) : Option UInt8 := if 48 ≤ c.toNat ∧ c.toNat ≤ 57 then some (UInt8.ofNat (c.toNat - 48)) else if 97 ≤ c.toNat ∧ c.toNat ≤ 102 then some (UInt8.ofNat (c.toNat - 87)) else none
theorem hexVal_lt (c v : UInt8) (h : hexVal c = some v) : v.toNat < 16 := by
  unfold hexVal at h
  split at h
  · cases h; simp; omega
  · split at h
    · cases h; simp; omega
    · cases h
set_option maxHeartbeats 400000 in
theorem digit_any (c : UInt8) (w : World) :
    Calls Try.prog 49 #[.int .u8 c.toNat] w fun e w' => e = .returned (.int .u8 ((hexVal c).getD 16).toNat) ∧ w = w' := by
  have hc := c.toNat_lt
  obtain ⟨n, hn⟩ : ∃ n, c.toNat = n := ⟨_, rfl⟩
  unfold hexVal
  rw [hn] at hc ⊢
  clear hn
  by_cases h1 : 48 ≤ n ∧ n ≤ 57
  · obtain ⟨h2, h3⟩ := h1
    rw [if_pos ⟨h2, h3⟩]
    go_enter Try.func49, Try.ntmps49
    go_wp2
    go_ret
    refine ⟨?_, rfl⟩
    simp; omega
  · rw [if_neg h1]
    by_cases h4 : 97 ≤ n ∧ n ≤ 102
    · obtain ⟨h2, h3⟩ := h4
      rw [if_pos ⟨h2, h3⟩]
      have h5 : 57 < n := by omega
      clear h1
      go_enter Try.func49, Try.ntmps49
      go_wp2
      go_ret
      refine ⟨?_, rfl⟩
      simp; omega
    · rw [if_neg h4]
      have h6 : n < 48 ∨ (57 < n ∧ n < 97) ∨ 102 < n := by omega
      clear h1 h4
      rcases h6 with h | ⟨h, h'⟩ | h
      all_goals
        go_enter Try.func49, Try.ntmps49
        go_wp2
        all_goals (go_ret; exact ⟨rfl, rfl⟩)
/-- A pair of digits' byte. -/
def nib (h l : UInt8) : UInt8 := UInt8.ofNat (h.toNat * 16 + l.toNat)
/-- Unhex. -/
def unhexL : List UInt8 → Option (List UInt8)
  | [] => some []
  | h :: l :: r => match hexVal h, hexVal l with
    | some x, some y => (unhexL r).map (nib x y :: ·)
    | _, _ => none
  | [_] => none
theorem unhexL_odd : ∀ (n : Nat) (l : List UInt8), l.length = 2 * n + 1 → unhexL l = none
  | 0, [_], _ => rfl
  | n + 1, h :: x :: r, hl => by
    have ih := unhexL_odd n r (by simp at hl; omega)
    unfold unhexL
    split <;> simp [ih]
theorem drop_two (l : List UInt8) (j : Nat) (h : j + 1 < l.length) : l.drop j = l[j] :: l[j + 1] :: l.drop (j + 2) := by
  rw [List.drop_eq_getElem_cons (by omega), List.drop_eq_getElem_cons h]
theorem nib_form (x y : UInt8) (hx : x.toNat < 16) (hy : y.toNat < 16) : bits .or .u8 ((x.toNat : Int) * 16 % 256) (y.toNat : Int) = ((nib x y).toNat : Int) := by
  have h := or_join .u8 8 (by decide) wraps_u8 4 x.toNat y.toNat (by omega) (by omega)
  rw [show ((x.toNat : Int) * 16 % 256) = (x.toNat : Int) * 2 ^ 4 by omega, h]
  simp [nib]; omega
theorem nib_form' (x y : UInt8) (hx : x.toNat < 16) (hy : y.toNat < 16) : (16 * (x.toNat : Int) + (y.toNat : Int)) = ((nib x y).toNat : Int) := by
  simp [nib]; omega
theorem unhex_step (l out : List UInt8) (j : Nat) (x y : UInt8) (h : j + 1 < l.length) (hx : hexVal l[j] = some x) (hy : hexVal l[j + 1] = some y)
    (hr : unhexL l = (unhexL (l.drop j)).map (out ++ ·)) : unhexL l = (unhexL (l.drop (j + 2))).map ((out ++ [nib x y]) ++ ·) := by
  rw [hr, drop_two l j h]
  conv => lhs; unfold unhexL
  simp only [hx, hy, Option.map_map]
  congr 1
  funext z; simp
theorem unhex_fail (l out : List UInt8) (j : Nat) (h : j + 1 < l.length) (hx : hexVal l[j] = none ∨ hexVal l[j + 1] = none)
    (hr : unhexL l = (unhexL (l.drop j)).map (out ++ ·)) : unhexL l = none := by
  rw [hr, drop_two l j h]
  unfold unhexL
  rcases hx with hx | hx <;> simp [hx]
/-- What Unhex answers. -/
def Unhex (l : List UInt8) : List UInt8 × Bool := match unhexL l with | some o => (o, true) | none => ([], false)
theorem and1_len (n : Nat) (hn : n ≤ 1099511627776) : bits .and .i64 (n : Int) 1 = ((n % 2 : Nat) : Int) := by
  have h := (bits_nat .i64 62 (by decide) (fun n h0 h1 => by rw [IntKind.wrap_i64]; omega) n 1 (by omega) (by omega)).1
  rw [Nat.and_one_is_mod] at h
  exact_mod_cast h
set_option maxRecDepth 100000 in
set_option maxHeartbeats 800000 in
theorem RefUnhex_even (l : List UInt8) (w : World) (hl : l.length ≤ 1099511627776) (h2 : l.length % 2 = 0) :
    Calls Try.prog 35 #[.string (bs l)] w fun e w' => e = .returned (.tuple #[.string (bs (Unhex l).1), .bool (Unhex l).2]) ∧ Ext w w' := by
  have h1 : (((l.length : Int) % 2) == 1) = false := by simp; omega
  have H2 := Lib.hid h2; clear h2
  go_enter Try.func35, Try.ntmps35
  go_wp2
  go_loopw [4, 5] (fun v i wr => ∃ (j : Nat) (out : List UInt8), j ≤ l.length ∧ j % 2 = 0 ∧ i = .int .i64 j ∧ Row wr w.heap.size 5 v (out.map byteV) ∧ out.length ≤ j ∧ unhexL l = (unhexL (l.drop j)).map (out ++ ·) ∧ Ext w wr) (fun _ i _ => l.length - (intOf i).toNat)
  case atStart => exact ⟨0, [], by omega, rfl, rfl, Row.nil _ _ _, by simp, by simp, Ext.refl _⟩
  case round =>
    obtain ⟨j, out, hj, hj2, rfl, hrow, hol, hun, hx⟩ := hrel
    have HU := Lib.hid hun; have HJ := Lib.hid hj2; clear hun hj2
    clear h1
    by_cases hlt : j < l.length
    · have hlt2 : j + 1 < l.length := by have := HJ.out; have := H2.out; omega
      have hsz := hx.size
      have F2 : ∀ v2, hexVal l[j + 1] = v2 → ∀ w, Calls Try.prog 49 #[.int .u8 l[j + 1].toNat] w fun e w' => e = .returned (.int .u8 (v2.getD 16).toNat) ∧ w = w' := fun v2 hv2 w => by have := digit_any l[j + 1] w; rw [hv2] at this; exact this
      have F1 : ∀ v1, hexVal l[j] = v1 → ∀ w, Calls Try.prog 49 #[.int .u8 l[j].toNat] w fun e w' => e = .returned (.int .u8 (v1.getD 16).toNat) ∧ w = w' := fun v1 hv1 w => by have := digit_any l[j] w; rw [hv1] at this; exact this
      rcases hv1 : hexVal l[j] with _ | x
      · obtain ⟨v2, hv2⟩ : ∃ v2, hexVal l[j + 1] = v2 := ⟨_, rfl⟩
        have hfin : Unhex l = ([], false) := by rw [Unhex, unhex_fail l out j hlt2 (.inl hv1) HU.out]
        have HF := Lib.hid hfin
        have G1 := Lib.hid (F1 _ hv1); have G2 := Lib.hid (F2 _ hv2); clear F1 F2 hfin hv1 hv2
        have s1 : IntKind.i64.wrap ((j : Int) + 1) = (j : Int) + 1 := by rw [IntKind.wrap_i64]; omega
        have s2 : (0 : Int) ≤ (j : Int) + 1 := by omega
        have s3 : (j : Int) + 1 < (l.length : Int) := by omega
        have s4 : ((j : Int) + 1).toNat = j + 1 := by omega
        go_wp2_with (fail)
        go_quiet ((go_at_call 49; (first | (with_reducible exact quiet_same (G1.out _)) | (with_reducible exact quiet_same (G2.out _)))))
        go_wp2
        go_ret2
        rw [HF.out]
        exact ⟨rfl, hx.drewN _⟩
      · have hx16 := hexVal_lt _ _ hv1
        rcases hv2 : hexVal l[j + 1] with _ | y
        · have hfin : Unhex l = ([], false) := by rw [Unhex, unhex_fail l out j hlt2 (.inr hv2) HU.out]
          have HF := Lib.hid hfin
          have G1 := Lib.hid (F1 _ hv1); have G2 := Lib.hid (F2 _ hv2); clear F1 F2 hfin hv1 hv2
          have s1 : IntKind.i64.wrap ((j : Int) + 1) = (j : Int) + 1 := by rw [IntKind.wrap_i64]; omega
          have s2 : (0 : Int) ≤ (j : Int) + 1 := by omega
          have s3 : (j : Int) + 1 < (l.length : Int) := by omega
          have s4 : ((j : Int) + 1).toNat = j + 1 := by omega
          go_wp2_with (fail)
          go_quiet ((go_at_call 49; (first | (with_reducible exact quiet_same (G1.out _)) | (with_reducible exact quiet_same (G2.out _)))))
          go_wp2
          go_ret2
          rw [HF.out]
          exact ⟨rfl, hx.drewN _⟩
        · have hy16 := hexVal_lt _ _ hv2
          have hn := nib_form' x y hx16 hy16
          have hs := unhex_step l out j x y hlt2 hv1 hv2 HU.out
          have HS := Lib.hid hs
          have G1 := Lib.hid (F1 _ hv1); have G2 := Lib.hid (F2 _ hv2); clear F1 F2 hs hv1 hv2
          have s1 : IntKind.i64.wrap ((j : Int) + 1) = (j : Int) + 1 := by rw [IntKind.wrap_i64]; omega
          have s2 : (0 : Int) ≤ (j : Int) + 1 := by omega
          have s3 : (j : Int) + 1 < (l.length : Int) := by omega
          have s4 : ((j : Int) + 1).toNat = j + 1 := by omega
          go_wp2_with (fail)
          go_quiet ((go_at_call 49; (first | (with_reducible exact quiet_same (G1.out _)) | (with_reducible exact quiet_same (G2.out _)))))
          go_wp2_with (at_builtin; refine wpl_append rfl _ _ 34 rfl und_bytes info_u8 rfl (by omega) w.heap.size (by simp; omega) _ (out.map byteV) rfl (hrow.ext (((Ext.refl _).alloc _).drewN nq)) ⟨wr.heap.size, 0, none⟩ 1 1 [byteV (nib x y)] rfl rfl (cells_one_new _ _ _) (oneCells [nib x y] (fun _ => rfl)) (by simp; omega) ?_; intro v' w2 hrow2 hb2 _)
          go_roundw
          case measure => simp [intOf]; omega
          case rel => exact ⟨j + 2, out ++ [nib x y], by omega, by have := HJ.out; omega, by go_num, by rw [List.map_append]; exact hrow2, by simp; omega, HS.out, (((hx.alloc _).drewN nq).below).trans hb2⟩
    · obtain rfl : j = l.length := by omega
      have hfin : Unhex l = (out, true) := by
        have := HU.out
        rw [List.drop_length] at this
        rw [Unhex, this]; simp [unhexL]
      have kc2 := row_to_str (P := Try.prog) und_bytes und_u8 und_string hrow
      have HF := Lib.hid hfin
      clear hfin
      go_wp2
      go_ret2
      rw [HF.out]
      exact ⟨rfl, hx⟩
set_option maxHeartbeats 400000 in
theorem RefUnhex_odd (l : List UInt8) (w : World) (hl : l.length ≤ 1099511627776) (h2 : l.length % 2 = 1) :
    Calls Try.prog 35 #[.string (bs l)] w fun e w' => e = .returned (.tuple #[.string (bs (Unhex l).1), .bool (Unhex l).2]) ∧ Ext w w' := by
  have h1 : (((l.length : Int) % 2) == 1) = true := by simp; omega
  have hfin : Unhex l = ([], false) := by rw [Unhex, unhexL_odd (l.length / 2) l (by omega)]
  rw [hfin]
  clear h2 hfin
  go_enter Try.func35, Try.ntmps35
  go_wp2
  go_ret2
  exact ⟨rfl, Ext.refl _⟩
theorem RefUnhex_any (l : List UInt8) (w : World) (hl : l.length ≤ 1099511627776) :
    Calls Try.prog 35 #[.string (bs l)] w fun e w' => e = .returned (.tuple #[.string (bs (Unhex l).1), .bool (Unhex l).2]) ∧ Ext w w' := by
  rcases Nat.mod_two_eq_zero_or_one l.length with h | h
  · exact RefUnhex_even l w hl h
  · exact RefUnhex_odd l w hl h

/-! ### Hex -/
def hexDig (n : Nat) : UInt8 := if n < 10 then UInt8.ofNat (48 + n) else UInt8.ofNat (87 + n)
def hexB (c : UInt8) : List UInt8 := [hexDig (c.toNat / 16), hexDig (c.toNat % 16)]
/-- Hex. -/
def hexL (l : List UInt8) : List UInt8 := l.flatMap hexB
theorem hexL_length (l : List UInt8) : (hexL l).length = 2 * l.length := by
  induction l with
  | nil => rfl
  | cons x l ih => simp only [hexL, List.flatMap_cons, List.length_append, List.length_cons] at ih ⊢; rw [ih]; simp [hexB]; omega
theorem hexL_snoc (l : List UInt8) (c : UInt8) : hexL (l ++ [c]) = hexL l ++ hexB c := by simp [hexL]
theorem hexL_take (l : List UInt8) (k : Nat) (h : k < l.length) : hexL (l.take (k + 1)) = hexL (l.take k) ++ hexB l[k] := by
  rw [List.take_succ_eq_append_getElem h, hexL_snoc]
def hexDigits : List UInt8 := [48, 49, 50, 51, 52, 53, 54, 55, 56, 57, 97, 98, 99, 100, 101, 102]
theorem hexDigits_at (n : Nat) (h : n < 16) (h' : n < hexDigits.length) : hexDigits[n]'h' = hexDig n := by
  have : ∀ m : Fin 16, hexDigits[m.val]'(m.isLt) = hexDig m.val := by decide
  exact this ⟨n, h⟩
theorem idx_digits (i : Int) (n : Nat) (hi : i = n) (h : n < 16) (w : World) :
    (Instr.index 9 (.string { data := #[48, 49, 50, 51, 52, 53, 54, 55, 56, 57, 97, 98, 99, 100, 101, 102] }) (.int .u8 i)).run Try.prog w = .ok (.int .u8 ((hexDig n).toNat : Int)) w := by
  subst hi
  have h1 := run_index_string (P := Try.prog) w 9 (bs hexDigits) .u8 (n : Int) und_string
  have h2 : n < hexDigits.length := h
  rw [dif_pos ⟨by omega, by rw [bs_size]; omega⟩] at h1
  simp only [bs_get, Int.toNat_natCast] at h1
  rw [hexDigits_at n h h2] at h1
  exact h1
set_option maxRecDepth 100000 in
set_option maxHeartbeats 800000 in
theorem RefHex_any (l : List UInt8) (w : World) (hl : l.length ≤ 1099511627776) :
    Calls Try.prog 36 #[.string (bs l)] w fun e w' => e = .returned (.string (bs (hexL l))) ∧ Ext w w' := by
  have hmk := fun w => mk_bytes0 (2 * l.length) (by omega) w
  rw [show ((2 * l.length : Nat) : Int) = 2 * (l.length : Int) by omega] at hmk
  go_enter Try.func36, Try.ntmps36
  go_wp2
  clear hmk
  go_loopw [4, 5] (fun v i wr => ∃ k : Nat, k ≤ l.length ∧ i = .int .i64 k ∧ Row wr w.heap.size 5 v ((hexL (l.take k)).map byteV) ∧ w.heap.size ≤ wr.heap.size ∧ Ext w wr) (fun _ i _ => l.length - (intOf i).toNat)
  case atStart => exact ⟨0, by omega, rfl, Row.made w _ _ (by unfold maxLen; omega), by simp, (Ext.refl _).alloc _⟩
  case round =>
    obtain ⟨k, hk, rfl, hrow, hsz, hx⟩ := hrel
    by_cases hlt : k < l.length
    · have hlen : (hexL (l.take k)).length = 2 * k := by rw [hexL_length, List.length_take, Nat.min_eq_left hk]
      have hst := hexL_take l k hlt
      have hcb := l[k].toNat_lt
      have hi1 := idx_digits ((l[k].toNat : Int) / 16 % 256) (l[k].toNat / 16) (by omega) (by omega)
      have hi2 := idx_digits ((l[k].toNat : Int) % 16) (l[k].toNat % 16) (by omega) (by omega)
      have HL := Lib.hid hlen; have HS := Lib.hid hst
      clear hlen hst hcb
      go_wp2_with (first | (at_builtin; refine wpl_append rfl _ _ 34 rfl und_bytes info_u8 rfl (by omega) w.heap.size (by simp; omega) _ ((hexL (l.take k)).map byteV) rfl (hrow.ext (((Ext.refl _).alloc _))) ⟨wr.heap.size, 0, none⟩ 1 1 [byteV (hexDig (l[k].toNat / 16))] rfl rfl (cells_one_new _ _ _) (oneCells [hexDig (l[k].toNat / 16)] (fun _ => rfl)) (by simp; have := HL.out; omega) ?_; intro v' w2 hrow2 hb2 _; clear hrow; have hsz2 : w.heap.size ≤ w2.heap.size := Nat.le_trans hsz (Nat.le_trans (by simp) hb2.size)) | (at_builtin; refine wpl_append rfl _ _ 34 rfl und_bytes info_u8 rfl (by omega) w.heap.size (by simp; omega) _ ((hexL (l.take k)).map byteV ++ [byteV (hexDig (l[k].toNat / 16))]) rfl (hrow2.ext (((Ext.refl _).alloc _))) ⟨w2.heap.size, 0, none⟩ 1 1 [byteV (hexDig (l[k].toNat % 16))] rfl rfl (cells_one_new _ _ _) (oneCells [hexDig (l[k].toNat % 16)] (fun _ => rfl)) (by simp; have := HL.out; omega) ?_; intro v'' w3 hrow3 hb3 _))
      go_roundw
      case measure => simp [intOf]; omega
      case rel =>
        have hb4 : Below w.heap.size wr w3 := (((Below.refl w.heap.size wr).alloc hsz _).trans hb2).trans (((Below.refl w.heap.size w2).alloc hsz2 _).trans hb3)
        exact ⟨k + 1, by omega, by go_num, by rw [HS.out, List.map_append]; rw [List.append_assoc] at hrow3; exact hrow3, Nat.le_trans hsz hb4.size, hx.trans_below hb4⟩
    · obtain rfl : k = l.length := by omega
      rw [List.take_length] at hrow
      have kc2 := row_to_str (P := Try.prog) und_bytes und_u8 und_string hrow
      go_wp2
      go_ret
      exact ⟨rfl, hx⟩
end Go.Proofs.Ytgncnplgjhaojaa
