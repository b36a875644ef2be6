/- The statements of layer 4: the walk of AesBack. -/
import Derived.Test.YtgncnplgjhaojaaLaw04c
import Derived.Test.YtgncnplgjhaojaaGfLaw
namespace Go.Proofs.Ytgncnplgjhaojaa
open Go Go.RowKit

set_option maxRecDepth 100000 in
set_option maxHeartbeats 4000000 in
theorem law_AesBack (w : World) (key s t : List UInt8) (a b d : UInt8) (hkl : key.length ≤ 140737488351232) (hsl : s.length ≤ 140737488351232) (htl : t.length ≤ 140737488351232) :
    Calls Try.prog 6 #[.string (bs key), .string (bs s), .string (bs t), .int .u8 (a.toNat : Int), .int .u8 (b.toNat : Int), .int .u8 (d.toNat : Int)] w fun e w' => e = .returned (.bool true) ∧ Ext w w' := by
  have G0 := Lib.hid works04
  by_cases h1 : 1024 < key.length + s.length + t.length
  · have h1' : (1024 : Int) < (key.length : Int) + (s.length : Int) + (t.length : Int) := by omega
    clear h1
    go_enter Try.func6, Try.ntmps6
    go_wp2_with (go_at_call 17; with_reducible refine (G0.out _).mono ?_; rintro e w9 ⟨rfl, hx9⟩)
    go_returns
    exact ⟨rfl, hx9⟩
  have h1' : (key.length : Int) + (s.length : Int) + (t.length : Int) ≤ 1024 := by omega
  clear h1
  have GFk := Lib.hid (fun W => full04 key W hkl)
  have GFs := Lib.hid (fun W => full04 s W hsl)
  have GFt := Lib.hid (fun W => full04 t W htl)
  have hkk : (padTo 16 key).length = 16 := padTo_length 16 key
  have hss : (padTo 16 s).length = 16 := padTo_length 16 s
  have htt : (padTo 16 t).length = 16 := padTo_length 16 t
  generalize padTo 16 key = k at *
  generalize padTo 16 s = x at *
  generalize padTo 16 t = y at *
  have GN := Lib.hid (fun W => New_yes k W hkk)
  have hKl := rks_length k
  generalize rks k = K at *
  have hul := encL_length K x hKl hss
  have hzl := decL_length K x hKl hss
  have GB1 := Lib.hid (fun c W (h : CI W c K) => Block_yes c K x W h hss)
  have GB2 := Lib.hid (fun c W (h : CI W c K) => Block_yes c K y W h htt)
  have gb3 := fun c W (h : CI W c K) => Back_yes c K (encL K x) W h hul
  simp only [dec_enc K x hKl hss] at gb3
  have GB4 := Lib.hid (fun c W (h : CI W c K) => Back_yes c K x W h hss)
  have gb5 := fun c W (h : CI W c K) => Block_yes c K (decL K x) W h hzl
  simp only [enc_dec K x hKl hss] at gb5
  have GB3 := Lib.hid gb3; have GB5 := Lib.hid gb5
  have huv : (encL K x = encL K y) = (x = y) := propext (enc_inj K x y hKl hss htt)
  clear gb3 gb5 hul hzl hKl hkk hss htt
  generalize encL K x = u at *
  generalize encL K y = v at *
  generalize decL K x = z at *
  have GP1 := Lib.hid (fun W => times_any a b W)
  have gp2 := fun W => times_any b a W
  have gp3 := fun W => times_any a (x8 b d) W
  have GP4 := Lib.hid (fun W => times_any a d W)
  have GP5 := Lib.hid (fun W => times_any b d W)
  have gp6 := fun W => times_any a (gm b d) W
  have GP7 := Lib.hid (fun W => times_any (gm a b) d W)
  have gp8 : ∀ W, Calls Try.prog 11 #[.int .u8 (a.toNat : Int), .int .u8 1] W fun e w' => e = .returned (.int .u8 (a.toNat : Int)) ∧ W = w' := fun W => by
    have h := times_any a 1 W
    rw [gm_one] at h; exact h
  simp only [gm_comm b a] at gp2
  simp only [gm_right] at gp3
  simp only [gm_assoc] at gp6
  have GP2 := Lib.hid gp2; have GP3 := Lib.hid gp3; have GP6 := Lib.hid gp6; have GP8 := Lib.hid gp8
  have GX1 := Lib.hid (fun W => Box_any a W)
  have gx2 := fun W => Unbox_any (boxO a) W
  simp only [un_box] at gx2
  have GX2 := Lib.hid gx2
  clear gp2 gp3 gp6 gp8 gx2
  have hxx := bxor8n (x := (b.toNat : Int)) (y := (d.toNat : Int)) b.toNat d.toNat rfl rfl b.toNat_lt d.toNat_lt
  rw [← x8_toNat] at hxx
  have hxy := bxor8n (x := ((gm a b).toNat : Int)) (y := ((gm a d).toNat : Int)) (gm a b).toNat (gm a d).toNat rfl rfl (gm a b).toNat_lt (gm a d).toNat_lt
  rw [← x8_toNat] at hxy
  generalize x8 b d = bd at *
  generalize gm (gm a b) d = abd at *
  generalize x8 (gm a b) (gm a d) = pq at *
  generalize gm a b = p at *
  generalize gm a d = q at *
  generalize gm b d = r at *
  generalize boxO a = ba at *
  have hbb : (!((u == v) == (x == y))) = false := by
    have hb : (u == v) = (x == y) := Bool.eq_iff_iff.2 (by rw [beq_iff_eq, beq_iff_eq, huv])
    rw [hb]; simp
  clear huv
  have GZ1 := Lib.hid Block_nil
  have GZ2 := Lib.hid Back_nil
  have GZ3 := Lib.hid Rounds_nil
  go_enter Try.func6, Try.ntmps6
  go_wp2_with (first
    | (go_at_call 18; with_reducible refine (GFk.out w).mono ?_; rintro e w1 ⟨rfl, hx1⟩)
    | (go_at_call 19; with_reducible refine (GN.out w1).mono ?_; rintro e w2 ⟨c, rfl, hcl, hci, hx2⟩; have HCI := Lib.hid hci; clear hci hcl)
    | (go_at_call 18; with_reducible refine (GFs.out w2).mono ?_; rintro e w3 ⟨rfl, hx3⟩)
    | (go_at_call 18; with_reducible refine (GFt.out w3).mono ?_; rintro e w4 ⟨rfl, hx4⟩; have HC4 := Lib.hid (HCI.out.ext (hx3.trans hx4)); clear HCI)
    | (go_at_call 23; with_reducible refine (GB1.out c w4 HC4.out).mono ?_; rintro e w5 ⟨rfl, hx5⟩; have HC5 := Lib.hid (HC4.out.ext hx5))
    | (go_at_call 23; with_reducible refine (GB2.out c w5 HC5.out).mono ?_; rintro e w6 ⟨rfl, hx6⟩; have HC6 := Lib.hid (HC5.out.ext hx6))
    | (go_at_call 24; with_reducible refine (GB3.out c w6 HC6.out).mono ?_; rintro e w7 ⟨rfl, hx7⟩; have HC7 := Lib.hid (HC6.out.ext hx7))
    | (go_at_call 24; with_reducible refine (GB4.out c w7 HC7.out).mono ?_; rintro e w8 ⟨rfl, hx8⟩; have HC8 := Lib.hid (HC7.out.ext hx8))
    | (go_at_call 23; with_reducible refine (GB5.out c w8 HC8.out).mono ?_; rintro e w9 ⟨rfl, hx9⟩)
    | (go_at_call 23; with_reducible refine (GZ1.out _ _).mono ?_; rintro e w' ⟨rfl, rfl⟩)
    | (go_at_call 24; with_reducible refine (GZ2.out _ _).mono ?_; rintro e w' ⟨rfl, rfl⟩)
    | (go_at_call 20; with_reducible refine (GZ3.out _).mono ?_; rintro e w' ⟨rfl, rfl⟩)
    | (go_at_call 11; with_reducible refine (GP1.out _).mono ?_; rintro e w' ⟨rfl, rfl⟩)
    | (go_at_call 11; with_reducible refine (GP2.out _).mono ?_; rintro e w' ⟨rfl, rfl⟩)
    | (go_at_call 11; with_reducible refine (GP3.out _).mono ?_; rintro e w' ⟨rfl, rfl⟩)
    | (go_at_call 11; with_reducible refine (GP4.out _).mono ?_; rintro e w' ⟨rfl, rfl⟩)
    | (go_at_call 11; with_reducible refine (GP5.out _).mono ?_; rintro e w' ⟨rfl, rfl⟩)
    | (go_at_call 11; with_reducible refine (GP6.out _).mono ?_; rintro e w' ⟨rfl, rfl⟩)
    | (go_at_call 11; with_reducible refine (GP7.out _).mono ?_; rintro e w' ⟨rfl, rfl⟩)
    | (go_at_call 11; with_reducible refine (GP8.out _).mono ?_; rintro e w' ⟨rfl, rfl⟩)
    | (go_at_call 13; with_reducible refine (GX1.out _).mono ?_; rintro e w10 ⟨rfl, hx10⟩)
    | (go_at_call 15; with_reducible refine (GX2.out _).mono ?_; rintro e w11 ⟨rfl, hx11⟩)
    | (go_at_call 17; with_reducible refine (G0.out _).mono ?_; rintro e w12 ⟨rfl, hx12⟩))
  go_returns
  exact ⟨rfl, hx1.trans (hx2.trans (hx3.trans (hx4.trans (hx5.trans (hx6.trans (hx7.trans (hx8.trans (hx9.trans (hx10.trans (hx11.trans hx12))))))))))⟩
end Go.Proofs.Ytgncnplgjhaojaa
