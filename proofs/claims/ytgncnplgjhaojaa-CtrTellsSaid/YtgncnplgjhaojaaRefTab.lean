/- Contracts: layer 4, the document's table of boxes, and what they are boxes of. -/
import Derived.Test.YtgncnplgjhaojaaRefBox
import Derived.Test.YtgncnplgjhaojaaMem
namespace Go.Proofs.Ytgncnplgjhaojaa
open Go Go.RowKit

/-- The first j from there on with that product. -/
def invN (b : Nat) : Nat → Nat → Nat
  | 0, _ => 0
  | f + 1, j => if Nat.beq (tmN 8 b j) 1 then j else invN b f (j + 1)
theorem invS_N (b : UInt8) : ∀ (f j : Nat), j + f ≤ 256 → (invS b f j).toNat = invN b.toNat f j
  | 0, _, _ => rfl
  | f + 1, j, h => by
    have hg : (gm b (b8 j)).toNat = tmN 8 b.toNat j := by rw [gm, tmU_toNat, b8_toNat j (by omega)]
    unfold invS invN
    by_cases h1 : gm b (b8 j) = 1
    · have : tmN 8 b.toNat j = 1 := by rw [← hg, h1]; rfl
      rw [if_pos h1, this, if_pos (by decide), b8_toNat j (by omega)]
    · have : ¬ tmN 8 b.toNat j = 1 := fun h2 => h1 (UInt8.toNat_inj.1 (by rw [hg, h2]; rfl))
      rw [if_neg h1, if_neg (by rw [Nat.beq_eq]; exact this), invS_N b f (j + 1) (by omega)]
theorem inv_all : ((List.range 256).all fun b => Nat.beq (outR (b8 (invN b 255 1)) 8).toNat (boxT.getD b 0).toNat) = true := by decide +kernel
theorem refBox_is (b : UInt8) : outR (invO b) 8 = boxO b := by
  have h := List.all_eq_true.1 inv_all b.toNat (List.mem_range.2 b.toNat_lt)
  have h := Nat.eq_of_beq_eq_true h
  have hi : invO b = b8 (invN b.toNat 255 1) := by
    have := invS_N b 255 1 (by omega)
    apply UInt8.toNat_inj.1
    rw [show invO b = invS b 255 1 from rfl, this, b8_toNat]
    rw [← this]; exact (invS b 255 1).toNat_lt
  apply UInt8.toNat_inj.1
  rw [hi, h]; rfl
theorem refBox_yes (b : UInt8) (w : World) : Calls Try.prog 14 #[.int .u8 (b.toNat : Int)] w fun e w' => e = .returned (.int .u8 ((boxO b).toNat : Int)) ∧ w = w' := refBox_is b ▸ refBox_any b w
set_option maxRecDepth 100000 in
set_option maxHeartbeats 2000000 in
theorem Table_any (w : World) : Calls Try.prog 21 #[] w (RetRow w 5 (boxT.map byteV)) := by
  have GB := Lib.hid refBox_yes
  go_enter Try.func21, Try.ntmps21
  go_wp2
  go_loopw [1, 2] (fun o i wr => ∃ k : Nat, k ≤ 256 ∧ i = .int .i64 k ∧ Row wr w.heap.size 5 o ((boxT.take k).map byteV) ∧ Ext w wr) (fun _ i _ => 256 - (intOf i).toNat)
  case atStart => exact ⟨0, by omega, rfl, Row.nil _ _ _, Ext.refl _⟩
  case round =>
    obtain ⟨k, hk, rfl, hrow, hx⟩ := hrel
    have hsz := hx.size
    by_cases hlt : k < 256
    · have hw8 : IntKind.u8.wrap (k : Int) = ((b8 k).toNat : Int) := by rw [b8_toNat _ (by omega), IntKind.wrap_u8]; omega
      have hbo : boxO (b8 k) = boxT[k]'(by rw [boxT_length]; exact hlt) := by
        unfold boxO
        rw [b8_toNat _ (by omega)]
        simp [List.getD, show k < boxT.length by rw [boxT_length]; exact hlt]
      have HS : Hid ((boxT.take (k + 1)).map byteV = (boxT.take k).map byteV ++ [byteV (boxO (b8 k))]) := Lib.hid (by
        rw [List.take_succ_eq_append_getElem (by rw [boxT_length]; exact hlt), List.map_append, List.map_cons, List.map_nil, hbo])
      have HL : Hid (((boxT.take k).map byteV).length = k) := Lib.hid (by rw [List.length_map, List.length_take, boxT_length]; omega)
      clear hbo
      generalize boxT.take k = bk at *
      generalize b8 k = b at *
      go_wp2_with (first
        | (go_at_call 14; refine (GB.out b _).mono ?_; rintro e w' ⟨rfl, rfl⟩)
        | (at_builtin; refine wpl_append rfl _ _ 34 rfl und_bytes info_u8 rfl (by omega) w.heap.size (by simp; omega) _ (bk.map byteV) rfl (hrow.ext ((Ext.refl _).alloc _)) ⟨wr.heap.size, 0, none⟩ 1 1 [byteV (boxO b)] rfl rfl (cells_one_new _ _ _) (oneCells [boxO b] (fun _ => rfl)) (by rw [HL.out]; omega) ?_; intro v' w3 hrow3 hb3 _))
      go_roundw
      case measure => simp [intOf]; omega
      case rel => exact ⟨k + 1, by omega, by go_num, by rw [HS.out]; exact hrow3, (hx.alloc _).trans_below hb3⟩
    · obtain rfl : k = 256 := by omega
      rw [List.take_of_length_le (by rw [boxT_length]; omega)] at hrow
      go_wp2
      go_returns
      exact ⟨_, rfl, hrow, hx⟩
def unF (b : UInt8) : Nat → Nat → UInt8
  | 0, _ => 0
  | f + 1, j => if boxT.getD j 0 = b then b8 j else unF b f (j + 1)
set_option maxRecDepth 100000 in
theorem un_all : ∀ b : Fin 256, unF (b8 b.val) 256 0 = unT.getD b.val 0 := by decide +kernel
theorem unF_is (b : UInt8) : unF b 256 0 = unO b := by
  have h := un_all ⟨b.toNat, b.toNat_lt⟩
  have hb : b8 b.toNat = b := by unfold b8; simp
  simp only [hb] at h
  exact h
set_option maxRecDepth 100000 in
set_option maxHeartbeats 2000000 in
theorem refUnbox_any (b : UInt8) (w : World) : Calls Try.prog 16 #[.int .u8 (b.toNat : Int)] w fun e w' => e = .returned (.int .u8 ((unO b).toNat : Int)) ∧ Ext w w' := by
  have GT := Lib.hid Table_any
  rw [← unF_is]
  go_enter Try.func16, Try.ntmps16
  go_wp2_with (go_at_call 21; refine (GT.out _).mono ?_; rintro e w1 ⟨v, rfl, hrow, hx1⟩; have hsl := hrow.sl; obtain ⟨ad, cp, hv⟩ := hsl.look; subst hv; have HSL := Lib.hid hsl; clear hrow hsl)
  have HL := Lib.hid (show (boxT.map byteV).length = 256 by rw [List.length_map, boxT_length])
  rw [HL.out] at HSL
  rw [boxT_length]
  go_loopw [4] (fun i wr => ∃ j : Nat, j ≤ 256 ∧ i = .int .i64 j ∧ unF b (256 - j) j = unF b 256 0 ∧ w1 = wr) (fun i _ => 256 - (intOf i).toNat)
  case atStart => exact ⟨0, by omega, rfl, rfl, rfl⟩
  case round =>
    obtain ⟨j, hj, rfl, hs, rfl⟩ := hrel
    have HS := Lib.hid hs
    clear hs
    by_cases hlt : j < 256
    · obtain ⟨bb, o, ha, hbl, hc⟩ := HSL.out.at_ j (by rw [HL.out]; exact hlt)
      subst ha
      rw [List.getElem_map, show boxT[j]'(by rw [boxT_length]; exact hlt) = boxT.getD j 0 by simp [List.getD, show j < boxT.length by rw [boxT_length]; exact hlt]] at hc
      have hc' : w1.cell? ⟨bb, o + j, none⟩ = some (.int .u8 ((boxT.getD j 0).toNat : Int)) := hc
      clear hc
      have hw8 : IntKind.u8.wrap (j : Int) = ((b8 j).toNat : Int) := by rw [b8_toNat _ hlt, IntKind.wrap_u8]; omega
      have HN : Hid (unF b (256 - j) j = if boxT.getD j 0 = b then b8 j else unF b (256 - (j + 1)) (j + 1)) := Lib.hid (by
        rw [show 256 - j = (256 - (j + 1)) + 1 by omega]; rfl)
      generalize boxT.getD j 0 = y at *
      by_cases h1 : y = b
      · subst h1
        rw [if_pos rfl] at HN
        generalize b8 j = v at *
        go_wp2
        go_returns
        exact ⟨by rw [← HS.out, HN.out]; rfl, hx1⟩
      · have hy : ¬ (y.toNat : Int) = (b.toNat : Int) := by
          intro h
          exact h1 (UInt8.toNat_inj.1 (by omega))
        have hyb : ((y.toNat : Int) == (b.toNat : Int)) = false := by simpa using hy
        rw [if_neg h1] at HN
        clear h1
        go_wp2
        go_roundw
        case measure => simp [intOf]; omega
        case rel => exact ⟨j + 1, by omega, by go_num, by rw [← HS.out, HN.out], by first | rfl | trivial⟩
    · obtain rfl : j = 256 := by omega
      go_wp2
      go_returns
      exact ⟨by rw [← HS.out]; rfl, hx1⟩
end Go.Proofs.Ytgncnplgjhaojaa
