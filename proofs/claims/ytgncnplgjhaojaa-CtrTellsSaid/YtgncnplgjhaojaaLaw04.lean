/- The statements of layer 4: works. -/
import Derived.Test.YtgncnplgjhaojaaAesAbc
namespace Go.Proofs.Ytgncnplgjhaojaa
open Go Go.RowKit

def exHex : ByteArray := { data := #[51, 57, 50, 53, 56, 52, 49, 100, 48, 50, 100, 99, 48, 57, 102, 98, 100, 99, 49, 49, 56, 53, 57, 55, 49, 57, 54, 97, 48, 98, 51, 50] }
set_option maxRecDepth 100000 in
theorem exKey_hex : Unhex [50, 98, 55, 101, 49, 53, 49, 54, 50, 56, 97, 101, 100, 50, 97, 54, 97, 98, 102, 55, 49, 53, 56, 56, 48, 57, 99, 102, 52, 102, 51, 99] = (exKey, true) := by decide +kernel
set_option maxRecDepth 100000 in
theorem exBlk_hex : Unhex [51, 50, 52, 51, 102, 54, 97, 56, 56, 56, 53, 97, 51, 48, 56, 100, 51, 49, 51, 49, 57, 56, 97, 50, 101, 48, 51, 55, 48, 55, 51, 52] = (exBlk, true) := by decide +kernel
set_option maxRecDepth 100000 in
set_option maxHeartbeats 1000000 in
theorem works04 (w : World) : Calls Try.prog 17 #[] w fun e w' => e = .returned (.bool true) ∧ Ext w w' := by
  have U1 : Hid (∀ W : World, Calls Try.prog 35 #[.string { data := #[50, 98, 55, 101, 49, 53, 49, 54, 50, 56, 97, 101, 100, 50, 97, 54, 97, 98, 102, 55, 49, 53, 56, 56, 48, 57, 99, 102, 52, 102, 51, 99] }] W fun e w' => e = .returned (.tuple #[.string (bs exKey), .bool true]) ∧ Ext W w') := Lib.hid fun W => by
    have := RefUnhex_any [50, 98, 55, 101, 49, 53, 49, 54, 50, 56, 97, 101, 100, 50, 97, 54, 97, 98, 102, 55, 49, 53, 56, 56, 48, 57, 99, 102, 52, 102, 51, 99] W (by decide)
    rw [exKey_hex] at this; exact this
  have U2 : Hid (∀ W : World, Calls Try.prog 35 #[.string { data := #[51, 50, 52, 51, 102, 54, 97, 56, 56, 56, 53, 97, 51, 48, 56, 100, 51, 49, 51, 49, 57, 56, 97, 50, 101, 48, 51, 55, 48, 55, 51, 52] }] W fun e w' => e = .returned (.tuple #[.string (bs exBlk), .bool true]) ∧ Ext W w') := Lib.hid fun W => by
    have := RefUnhex_any [51, 50, 52, 51, 102, 54, 97, 56, 56, 56, 53, 97, 51, 48, 56, 100, 51, 49, 51, 49, 57, 56, 97, 50, 101, 48, 51, 55, 48, 55, 51, 52] W (by decide)
    rw [exBlk_hex] at this; exact this
  have GN := Lib.hid (fun W => New_yes exKey W (by decide))
  have GB := Lib.hid (fun c W (h : CI W c (rks exKey)) => Block_yes c (rks exKey) exBlk W h (by decide))
  have hxl : (encL (rks exKey) exBlk).length = 16 := by rw [ex_sum]; rfl
  have g2 : ∀ w : World, Calls Try.prog 36 #[.string (bs (encL (rks exKey) exBlk))] w fun e w' => e = .returned (.string exHex) ∧ Ext w w' := fun w => by
    have h := RefHex_any (encL (rks exKey) exBlk) w (by rw [hxl]; omega)
    rw [ex_sum] at h ⊢
    exact h
  have G2 := Lib.hid g2
  clear g2 hxl
  generalize encL (rks exKey) exBlk = z at *
  generalize rks exKey = K at *
  generalize exKey = ky at *
  generalize exBlk = bk at *
  go_enter Try.func17, Try.ntmps17
  go_wp2_with (first
    | (go_at_call 35; with_reducible refine (U1.out _).mono ?_; rintro e w1 ⟨rfl, hx1⟩)
    | (go_at_call 35; with_reducible refine (U2.out w1).mono ?_; rintro e w2 ⟨rfl, hx2⟩)
    | (go_at_call 19; with_reducible refine (GN.out w2).mono ?_; rintro e w3 ⟨c, rfl, hcl, hci, hx3⟩; have HCI := Lib.hid hci; clear hci hcl)
    | (go_at_call 23; with_reducible refine (GB.out c w3 HCI.out).mono ?_; rintro e w4 ⟨rfl, hx4⟩)
    | (go_at_call 36; with_reducible refine (G2.out _).mono ?_; rintro e w5 ⟨rfl, hx5⟩; unfold exHex))
  go_returns
  exact ⟨rfl, hx1.trans (hx2.trans (hx3.trans (hx4.trans hx5)))⟩
end Go.Proofs.Ytgncnplgjhaojaa
