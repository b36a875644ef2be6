/- The statements of layer 4: the walk of AesBytes. -/
import Derived.Test.YtgncnplgjhaojaaLaw04
import Derived.Test.YtgncnplgjhaojaaRefTab
namespace Go.Proofs.Ytgncnplgjhaojaa
open Go Go.RowKit

set_option maxRecDepth 100000 in
set_option maxHeartbeats 2000000 in
theorem law_AesBytes (w : World) (a b : UInt8) :
    Calls Try.prog 3 #[.int .u8 (a.toNat : Int), .int .u8 (b.toNat : Int)] w fun e w' => e = .returned (.bool true) ∧ Ext w w' := by
  have G0 := Lib.hid works04
  have G1 := Lib.hid times_any
  have G2 := Lib.hid refTimes_any
  have G3 := Lib.hid Box_any
  have G4 := Lib.hid refBox_yes
  have G5 := Lib.hid Unbox_any
  have G6 := Lib.hid refUnbox_any
  go_enter Try.func3, Try.ntmps3
  go_wp2_with (first
    | (go_at_call 11; with_reducible refine (G1.out _ _ _).mono ?_; rintro e w' ⟨rfl, rfl⟩)
    | (go_at_call 12; with_reducible refine (G2.out _ _ _).mono ?_; rintro e w' ⟨rfl, rfl⟩)
    | (go_at_call 13; with_reducible refine (G3.out _ _).mono ?_; rintro e w3 ⟨rfl, hx3⟩)
    | (go_at_call 14; with_reducible refine (G4.out _ _).mono ?_; rintro e w' ⟨rfl, rfl⟩)
    | (go_at_call 15; with_reducible refine (G5.out _ _).mono ?_; rintro e w5 ⟨rfl, hx5⟩)
    | (go_at_call 16; with_reducible refine (G6.out _ _).mono ?_; rintro e w6 ⟨rfl, hx6⟩)
    | (go_at_call 17; with_reducible refine (G0.out _).mono ?_; rintro e w9 ⟨rfl, hx9⟩))
  go_returns
  exact ⟨rfl, hx3.trans (hx5.trans (hx6.trans hx9))⟩
end Go.Proofs.Ytgncnplgjhaojaa
