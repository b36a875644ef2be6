/- The statements of layer 3: the walk of MacTells. -/
import Derived.Test.YtipdgiikifmjdaaLaw03
namespace Go.Proofs.Ytipdgiikifmjdaa
open Go Go.RowKit

def joinB (l : List (List UInt8)) : Bool := decide (l.length ≤ 51 ∧ l.flatten.length ≤ 1024)
def joinL (l : List (List UInt8)) : List UInt8 := if joinB l then l.flatten else []
set_option maxRecDepth 100000 in
set_option maxHeartbeats 1000000 in
theorem joined_any (w : World) (l : List (List UInt8)) (ad : Option Addr) (cap : Nat) (hl : l.length ≤ 140737488351232) (hs : ∀ x ∈ l, x.length ≤ 140737488351232) (hv : Sl w (.slice ad l.length cap) (l.map strV)) :
    Calls Try.prog 24 #[.slice ad l.length cap] w fun e w' => e = .returned (.tuple #[.string (bs (joinL l)), .bool (joinB l)]) ∧ w = w' := by
  have V := Lib.hid hv
  have HS := Lib.hid hs
  clear hv hs
  go_enter Try.func24, Try.ntmps24
  go_wp2
  go_loopw [4, 5] (fun s i wr => ∃ k : Nat, k ≤ l.length ∧ k ≤ 51 ∧ (l.take k).flatten.length ≤ 1024 ∧ s = .string (bs (l.take k).flatten) ∧ i = .int .i64 k ∧ w = wr) (fun _ i _ => l.length - (intOf i).toNat)
  case atStart => exact ⟨0, by omega, by omega, by simp, rfl, rfl, rfl⟩
  case round =>
    obtain ⟨k, hk, hk51, hf, rfl, rfl, rfl⟩ := hrel
    by_cases hlt : k < l.length
    · obtain ⟨b, off, ha, hbl, hcell⟩ := V.out.str k hlt
      subst ha
      have hst := flat_take l k hlt
      have hlk := HS.out l[k] (List.getElem_mem hlt)
      have hfl := flat_le l (k + 1)
      have HST := Lib.hid hst
      have hlen : (l.take (k + 1)).flatten.length = (l.take k).flatten.length + l[k].length := by rw [hst, List.length_append]
      clear hst
      by_cases h51 : k = 51
      · have hj : joinB l = false := by unfold joinB; rw [decide_eq_false]; omega
        have hj2 : joinL l = [] := by unfold joinL; rw [hj]; rfl
        have HJ := Lib.hid hj; have HJ2 := Lib.hid hj2
        subst h51
        have HFL := Lib.hid hfl; have HLEN := Lib.hid hlen
        clear hfl hlen hj hj2
        generalize l[51] = x at *
        generalize (l.take 51).flatten = t at *
        go_wp2
        go_returns
        exact ⟨by rw [HJ.out, HJ2.out]; rfl, rfl⟩
      · by_cases hbig : 1024 < (l.take k).flatten.length + l[k].length
        · have hj : joinB l = false := by unfold joinB; rw [decide_eq_false]; omega
          have hj2 : joinL l = [] := by unfold joinL; rw [hj]; rfl
          have HJ := Lib.hid hj; have HJ2 := Lib.hid hj2
          have HFL := Lib.hid hfl; have HLEN := Lib.hid hlen
          clear hfl hlen hj hj2
          generalize l[k] = x at *
          generalize (l.take k).flatten = t at *
          go_wp2
          go_returns
          exact ⟨by rw [HJ.out, HJ2.out]; rfl, rfl⟩
        · have HFL := Lib.hid hfl; have HLEN := Lib.hid hlen
          clear hfl hlen
          generalize l[k] = x at *
          generalize (l.take k).flatten = t at *
          go_wp2
          go_roundw
          case measure => simp [intOf]; omega
          case rel => exact ⟨k + 1, by omega, by omega, by rw [HLEN.out]; omega, by rw [HST.out], by go_num, by first | rfl | trivial⟩
    · obtain rfl : k = l.length := by omega
      rw [List.take_length] at hf ⊢
      have hj : joinB l = true := by unfold joinB; rw [decide_eq_true]; omega
      have hj2 : joinL l = l.flatten := by unfold joinL; rw [hj]; rfl
      have HJ := Lib.hid hj; have HJ2 := Lib.hid hj2
      clear hj hj2
      go_wp2
      go_returns
      exact ⟨by rw [HJ.out, HJ2.out]; rfl, rfl⟩
/-- A tag in which a byte is turned. -/
def flipL (z : List UInt8) (p : Nat) (x : UInt8) : List UInt8 := z.set p (x8 (z.getD p 0) x)
@[simp] theorem flipL_length (z : List UInt8) (p : Nat) (x : UInt8) : (flipL z p x).length = z.length := by simp [flipL]
theorem right_self (z : List UInt8) (h : z.length = 32) : rightL z z = true := by
  unfold rightL
  rw [h, show List.take 32 z = z from List.take_of_length_le (by omega)]
  simp
set_option maxRecDepth 100000 in
set_option maxHeartbeats 1000000 in
theorem tells_big (w : World) (key : List UInt8) (l : List (List UInt8)) (ad : Option Addr) (cap : Nat) (n : Int) (tag : List UInt8) (own : Bool) (p x : UInt8) (hk : key.length ≤ 140737488351232) (hl : l.length ≤ 140737488351232) (hs : ∀ x ∈ l, x.length ≤ 140737488351232) (ht : tag.length ≤ 140737488351232)
    (hv : Sl w (.slice ad l.length cap) (l.map strV)) (h : joinB l = false ∨ 300 < key.length ∨ 100 < tag.length) :
    Calls Try.prog 9 #[.string (bs key), .slice ad l.length cap, .int .i64 n, .string (bs tag), .bool own, .int .u8 (p.toNat : Int), .int .u8 (x.toNat : Int)] w fun e w' => e = .returned (.bool true) ∧ Ext w w' := by
  have G0 := Lib.hid works03
  have GJ := Lib.hid (joined_any w l ad cap hl hs hv)
  clear hv
  generalize joinL l = J at *
  generalize joinB l = B at *
  have two : (B = false) ∨ (B = true ∧ 300 < key.length) ∨ (B = true ∧ ¬ 300 < key.length ∧ 100 < tag.length) := by
    cases B <;> by_cases h2 : 300 < key.length <;> simp_all
  clear h
  rcases two with rfl | ⟨rfl, h1⟩ | ⟨rfl, h1, h2⟩
  · go_enter Try.func9, Try.ntmps9
    go_wp2_with (first
      | (go_at_call 24; with_reducible refine GJ.out.mono ?_; rintro e w' ⟨rfl, rfl⟩)
      | (go_at_call 20; with_reducible refine (G0.out _).mono ?_; rintro e w9 ⟨rfl, hw9⟩))
    go_returns
    exact ⟨rfl, hw9⟩
  · go_enter Try.func9, Try.ntmps9
    go_wp2_with (first
      | (go_at_call 24; with_reducible refine GJ.out.mono ?_; rintro e w' ⟨rfl, rfl⟩)
      | (go_at_call 20; with_reducible refine (G0.out _).mono ?_; rintro e w9 ⟨rfl, hw9⟩))
    go_returns
    exact ⟨rfl, hw9⟩
  · go_enter Try.func9, Try.ntmps9
    go_wp2_with (first
      | (go_at_call 24; with_reducible refine GJ.out.mono ?_; rintro e w' ⟨rfl, rfl⟩)
      | (go_at_call 20; with_reducible refine (G0.out _).mono ?_; rintro e w9 ⟨rfl, hw9⟩))
    go_returns
    exact ⟨rfl, hw9⟩
set_option maxRecDepth 100000 in
set_option maxHeartbeats 4000000 in
theorem tells_main (w : World) (key : List UInt8) (l : List (List UInt8)) (ad : Option Addr) (cap : Nat) (n : Int) (tag : List UInt8) (own : Bool) (p x : UInt8) (hk : key.length ≤ 300) (hl : l.length ≤ 140737488351232) (hs : ∀ x ∈ l, x.length ≤ 140737488351232) (ht : tag.length ≤ 100)
    (hv : Sl w (.slice ad l.length cap) (l.map strV)) (hj : joinB l = true) :
    Calls Try.prog 9 #[.string (bs key), .slice ad l.length cap, .int .i64 n, .string (bs tag), .bool own, .int .u8 (p.toNat : Int), .int .u8 (x.toNat : Int)] w fun e w' => e = .returned (.bool true) ∧ Ext w w' := by
  have hjl : l.length ≤ 51 ∧ l.flatten.length ≤ 1024 := by unfold joinB at hj; exact of_decide_eq_true hj
  obtain ⟨hl51, hfl⟩ := hjl
  have hJ : joinL l = l.flatten := by unfold joinL; rw [hj]; rfl
  have G0 := Lib.hid works03
  have GJ := Lib.hid (joined_any w l ad cap hl hs hv)
  rw [hJ, hj] at GJ
  have V := Lib.hid hv
  have hmt : Hid (macL key l.flatten = macL key l.flatten) := Lib.hid rfl
  have GR := Lib.hid (fun W => refMac_any key l.flatten W (by omega) (by omega))
  have GM := Lib.hid (fun (W : World) (h : Sl W (.slice ad l.length cap) (l.map strV)) => macOf_any key l ad cap W (by omega) (by omega) (by omega) h)
  have GK := Lib.hid (fun (tag : List UInt8) (ht : tag.length ≤ 100) (W : World) (h : Sl W (.slice ad l.length cap) (l.map strV)) => macCheck_any key tag l ad cap W (by omega) (by omega) (by omega) (by omega) h)
  have GL := Lib.hid (fun (tag : List UInt8) (W : World) => refCheck_any key tag l.flatten W (by omega) (by omega))
  have hzl : (macL key l.flatten).length = 32 := macL_length _ _
  have hself := right_self _ hzl
  have GY := Lib.hid (fun (m : Nat) (h1 : 1 ≤ m) (h2 : m ≤ 32) (W : World) (h : Sl W (.slice ad l.length cap) (l.map strV)) => macCut_yes key l ad cap m W (by omega) (by omega) (by omega) h h1 h2)
  have GN := Lib.hid (fun (n : Int) (h : n < 1 ∨ 32 < n) (W : World) => macCut_no key (.slice ad l.length cap) n W h)
  clear hv hs hj hmt
  generalize macL key l.flatten = z at *
  have GS := GK.out z (by omega)
  rw [hself] at GS
  have GS := Lib.hid GS
  have HZ := Lib.hid hzl
  have hemp : ({ data := #[] } : ByteArray) = bs [] := rfl
  clear hself
  generalize hft : l.flatten = ft at *
  clear hft
  obtain ⟨i, hi⟩ : ∃ i : Nat, (p.toNat : Int) % 32 = (i : Int) := ⟨p.toNat % 32, by omega⟩
  have hi32 : i < 32 := by omega
  obtain ⟨k, hkk⟩ : ∃ k : Nat, 10 + (x.toNat : Int) % 23 = (k : Int) := ⟨10 + x.toNat % 23, by omega⟩
  have hk10 : 10 ≤ k := by omega
  have hk32 : k ≤ 32 := by omega
  have G1 := Lib.hid (GK.out ((flipL z i x).take k) (by rw [List.length_take, flipL_length]; omega))
  have G2 := Lib.hid (GL.out ((flipL z i x).take k))
  have G3 := Lib.hid (GK.out tag ht)
  have G4 := Lib.hid (GL.out tag)
  have kt := to_bytes z
  by_cases hf : 1 ≤ n ∧ n ≤ 32
  · obtain ⟨m, rfl⟩ : ∃ m : Nat, n = (m : Int) := ⟨n.toNat, by omega⟩
    obtain ⟨hf1, hf2⟩ := hf
    have hm1 : 1 ≤ m := by omega
    have hm2 : m ≤ 32 := by omega
    have GC := Lib.hid (GY.out m hm1 hm2)
    cases own with
    | true =>
      go_enter Try.func9, Try.ntmps9
      go_upto_region 12 with (first
        | (go_at_call 24; with_reducible refine GJ.out.mono ?_; rintro e w' ⟨rfl, rfl⟩)
        | (go_at_call 25; with_reducible refine (GR.out w).mono ?_; rintro e w1 ⟨rfl, hx1⟩; have V1 := Lib.hid (V.out.ext hx1))
        | (go_at_call 26; with_reducible refine (GC.out w1 V1.out).mono ?_; rintro e w2 ⟨rfl, hx2⟩; have V2 := Lib.hid (V1.out.ext hx2); have HX2 := hx1.trans hx2)
        | (go_at_call 21; with_reducible refine (GM.out w2 V2.out).mono ?_; rintro e w3 ⟨rfl, hx3⟩; have V3 := Lib.hid (V2.out.ext hx3); have hcap := capOf_ge 5 w3 z.length; have HX3 := HX2.trans hx3))
      clear kt
      rw [HZ.out] at hcap
      obtain ⟨c, hc⟩ : ∃ c, capOf 5 w3 32 = c := ⟨_, rfl⟩
      rw [hc] at hcap ⊢
      obtain ⟨w4, hw4⟩ : ∃ w4, (w3.alloc (Obj.cells (bcells (z ++ List.replicate (c - 32) 0)) 5 (c, c + 1))).drew = w4 := ⟨_, rfl⟩
      have hx4 : Ext w3 w4 := by rw [← hw4]; exact ((Ext.refl _).alloc _).drew
      have hb4 : w4.heap[w3.heap.size]? = some (.cells (bcells (z ++ List.replicate (c - 32) 0)) 5 (c, c + 1)) := by rw [← hw4, heap_drew]; exact heap_alloc_new _ _
      rw [hw4]
      clear hw4 hc
      have hiz : i < z.length := by rw [HZ.out]; exact hi32
      have hcell : w4.cell? ⟨w3.heap.size, i, none⟩ = some (.int .u8 (z[i].toNat : Int)) := cell_blk hb4 (bcells_left _ _ _ hiz)
      have hfz : w4.frozen? ⟨w3.heap.size, i, none⟩ = false := frozen_spare hb4 (by omega)
      have hx5 : Ext w3 (w4.setCell ⟨w3.heap.size, i, none⟩ (.int .u8 ((x8 z[i] x).toNat : Int))) := hx4.setCell (Nat.le_refl _) _
      have hfl2 : z.set i (x8 z[i] x) = flipL z i x := by unfold flipL; congr 2; simp [List.getD, hiz]
      have hb5 : (w4.setCell ⟨w3.heap.size, i, none⟩ (.int .u8 ((x8 z[i] x).toNat : Int))).heap[w3.heap.size]? = some (.cells (bcells ((flipL z i x).take k ++ ((flipL z i x).drop k ++ List.replicate (c - 32) 0))) 5 (c, c + 1)) := by
        rw [heap_setCell_same _ hb4, bcells_set_left _ _ _ _ hiz, hfl2, ← List.append_assoc, List.take_append_drop]
      have kc := fun c => to_str_blk (c := c) hb5 (show ((flipL z i x).take k).length = k by rw [List.length_take, flipL_length, HZ.out]; omega)
      have V5 := Lib.hid (V3.out.ext hx5)
      have HX5 := HX3.trans hx5
      clear hb4 hb5 hfl2
      go_wp2_with (first
        | (go_at_call 27; with_reducible refine (G1.out _ V5.out).mono ?_; rintro e w6 ⟨rfl, hx6⟩; have V6 := Lib.hid (V5.out.ext hx6); have HX6 := HX5.trans hx6)
        | (go_at_call 28; with_reducible refine (G2.out w6).mono ?_; rintro e w7 ⟨rfl, hx7⟩; have V7 := Lib.hid (V6.out.ext hx7); have HX7 := HX6.trans hx7)
        | (go_at_call 27; with_reducible refine (GS.out w7 V7.out).mono ?_; rintro e w8 ⟨rfl, hx8⟩; have HX8 := HX7.trans hx8)
        | (go_at_call 20; with_reducible refine (G0.out _).mono ?_; rintro e w9 ⟨rfl, hx9⟩))
      go_returns
      exact ⟨rfl, HX8.trans hx9⟩
    | false =>
      go_enter Try.func9, Try.ntmps9
      clear kt
      go_wp2_with (first
        | (go_at_call 24; with_reducible refine GJ.out.mono ?_; rintro e w' ⟨rfl, rfl⟩)
        | (go_at_call 25; with_reducible refine (GR.out w).mono ?_; rintro e w1 ⟨rfl, hx1⟩; have V1 := Lib.hid (V.out.ext hx1))
        | (go_at_call 26; with_reducible refine (GC.out w1 V1.out).mono ?_; rintro e w2 ⟨rfl, hx2⟩; have V2 := Lib.hid (V1.out.ext hx2); have HX2 := hx1.trans hx2)
        | (go_at_call 21; with_reducible refine (GM.out w2 V2.out).mono ?_; rintro e w3 ⟨rfl, hx3⟩; have V3 := Lib.hid (V2.out.ext hx3); have hcap := capOf_ge 5 w3 z.length; have HX3 := HX2.trans hx3)
        | (go_at_call 27; with_reducible refine (G3.out w3 V3.out).mono ?_; rintro e w4 ⟨rfl, hx4⟩; have V4 := Lib.hid (V3.out.ext hx4); have HX4 := HX3.trans hx4)
        | (go_at_call 28; with_reducible refine (G4.out w4).mono ?_; rintro e w5 ⟨rfl, hx5⟩; have V5 := Lib.hid (V4.out.ext hx5); have HX5 := HX4.trans hx5)
        | (go_at_call 27; with_reducible refine (GS.out w5 V5.out).mono ?_; rintro e w6 ⟨rfl, hx6⟩; have HX6 := HX5.trans hx6)
        | (go_at_call 20; with_reducible refine (G0.out _).mono ?_; rintro e w9 ⟨rfl, hx9⟩))
      go_returns
      exact ⟨rfl, HX6.trans hx9⟩
  · have GC := Lib.hid (GN.out n (by omega))
    have two : n < 1 ∨ (¬ n < 1 ∧ 32 < n) := by omega
    rcases two with hn1 | ⟨hn1, hn2⟩
    · cases own with
      | true =>
        go_enter Try.func9, Try.ntmps9
        go_upto_region 12 with (first
          | (go_at_call 24; with_reducible refine GJ.out.mono ?_; rintro e w' ⟨rfl, rfl⟩)
          | (go_at_call 25; with_reducible refine (GR.out w).mono ?_; rintro e w1 ⟨rfl, hx1⟩; have V1 := Lib.hid (V.out.ext hx1))
          | (go_at_call 26; with_reducible refine (GC.out w1).mono ?_; rintro e w2 ⟨rfl, hx2⟩; subst hx2; have V2 := V1; have HX2 := hx1)
          | (go_at_call 21; with_reducible refine (GM.out w1 V2.out).mono ?_; rintro e w3 ⟨rfl, hx3⟩; have V3 := Lib.hid (V2.out.ext hx3); have hcap := capOf_ge 5 w3 z.length; have HX3 := HX2.trans hx3))
        clear kt
        rw [HZ.out] at hcap
        obtain ⟨c, hc⟩ : ∃ c, capOf 5 w3 32 = c := ⟨_, rfl⟩
        rw [hc] at hcap ⊢
        obtain ⟨w4, hw4⟩ : ∃ w4, (w3.alloc (Obj.cells (bcells (z ++ List.replicate (c - 32) 0)) 5 (c, c + 1))).drew = w4 := ⟨_, rfl⟩
        have hx4 : Ext w3 w4 := by rw [← hw4]; exact ((Ext.refl _).alloc _).drew
        have hb4 : w4.heap[w3.heap.size]? = some (.cells (bcells (z ++ List.replicate (c - 32) 0)) 5 (c, c + 1)) := by rw [← hw4, heap_drew]; exact heap_alloc_new _ _
        rw [hw4]
        clear hw4 hc
        have hiz : i < z.length := by rw [HZ.out]; exact hi32
        have hcell : w4.cell? ⟨w3.heap.size, i, none⟩ = some (.int .u8 (z[i].toNat : Int)) := cell_blk hb4 (bcells_left _ _ _ hiz)
        have hfz : w4.frozen? ⟨w3.heap.size, i, none⟩ = false := frozen_spare hb4 (by omega)
        have hx5 : Ext w3 (w4.setCell ⟨w3.heap.size, i, none⟩ (.int .u8 ((x8 z[i] x).toNat : Int))) := hx4.setCell (Nat.le_refl _) _
        have hfl2 : z.set i (x8 z[i] x) = flipL z i x := by unfold flipL; congr 2; simp [List.getD, hiz]
        have hb5 : (w4.setCell ⟨w3.heap.size, i, none⟩ (.int .u8 ((x8 z[i] x).toNat : Int))).heap[w3.heap.size]? = some (.cells (bcells ((flipL z i x).take k ++ ((flipL z i x).drop k ++ List.replicate (c - 32) 0))) 5 (c, c + 1)) := by
          rw [heap_setCell_same _ hb4, bcells_set_left _ _ _ _ hiz, hfl2, ← List.append_assoc, List.take_append_drop]
        have kc := fun c => to_str_blk (c := c) hb5 (show ((flipL z i x).take k).length = k by rw [List.length_take, flipL_length, HZ.out]; omega)
        have V5 := Lib.hid (V3.out.ext hx5)
        have HX5 := HX3.trans hx5
        clear hb4 hb5 hfl2
        go_wp2_with (first
          | (go_at_call 27; with_reducible refine (G1.out _ V5.out).mono ?_; rintro e w6 ⟨rfl, hx6⟩; have V6 := Lib.hid (V5.out.ext hx6); have HX6 := HX5.trans hx6)
          | (go_at_call 28; with_reducible refine (G2.out w6).mono ?_; rintro e w7 ⟨rfl, hx7⟩; have V7 := Lib.hid (V6.out.ext hx7); have HX7 := HX6.trans hx7)
          | (go_at_call 27; with_reducible refine (GS.out w7 V7.out).mono ?_; rintro e w8 ⟨rfl, hx8⟩; have HX8 := HX7.trans hx8)
          | (go_at_call 20; with_reducible refine (G0.out _).mono ?_; rintro e w9 ⟨rfl, hx9⟩))
        go_returns
        exact ⟨rfl, HX8.trans hx9⟩
      | false =>
        go_enter Try.func9, Try.ntmps9
        clear kt
        go_wp2_with (first
          | (go_at_call 24; with_reducible refine GJ.out.mono ?_; rintro e w' ⟨rfl, rfl⟩)
          | (go_at_call 25; with_reducible refine (GR.out w).mono ?_; rintro e w1 ⟨rfl, hx1⟩; have V1 := Lib.hid (V.out.ext hx1))
          | (go_at_call 26; with_reducible refine (GC.out w1).mono ?_; rintro e w2 ⟨rfl, hx2⟩; subst hx2; have V2 := V1; have HX2 := hx1)
          | (go_at_call 21; with_reducible refine (GM.out w1 V2.out).mono ?_; rintro e w3 ⟨rfl, hx3⟩; have V3 := Lib.hid (V2.out.ext hx3); have hcap := capOf_ge 5 w3 z.length; have HX3 := HX2.trans hx3)
          | (go_at_call 27; with_reducible refine (G3.out w3 V3.out).mono ?_; rintro e w4 ⟨rfl, hx4⟩; have V4 := Lib.hid (V3.out.ext hx4); have HX4 := HX3.trans hx4)
          | (go_at_call 28; with_reducible refine (G4.out w4).mono ?_; rintro e w5 ⟨rfl, hx5⟩; have V5 := Lib.hid (V4.out.ext hx5); have HX5 := HX4.trans hx5)
          | (go_at_call 27; with_reducible refine (GS.out w5 V5.out).mono ?_; rintro e w6 ⟨rfl, hx6⟩; have HX6 := HX5.trans hx6)
          | (go_at_call 20; with_reducible refine (G0.out _).mono ?_; rintro e w9 ⟨rfl, hx9⟩))
        go_returns
        exact ⟨rfl, HX6.trans hx9⟩
    · cases own with
      | true =>
        go_enter Try.func9, Try.ntmps9
        go_upto_region 12 with (first
          | (go_at_call 24; with_reducible refine GJ.out.mono ?_; rintro e w' ⟨rfl, rfl⟩)
          | (go_at_call 25; with_reducible refine (GR.out w).mono ?_; rintro e w1 ⟨rfl, hx1⟩; have V1 := Lib.hid (V.out.ext hx1))
          | (go_at_call 26; with_reducible refine (GC.out w1).mono ?_; rintro e w2 ⟨rfl, hx2⟩; subst hx2; have V2 := V1; have HX2 := hx1)
          | (go_at_call 21; with_reducible refine (GM.out w1 V2.out).mono ?_; rintro e w3 ⟨rfl, hx3⟩; have V3 := Lib.hid (V2.out.ext hx3); have hcap := capOf_ge 5 w3 z.length; have HX3 := HX2.trans hx3))
        clear kt
        rw [HZ.out] at hcap
        obtain ⟨c, hc⟩ : ∃ c, capOf 5 w3 32 = c := ⟨_, rfl⟩
        rw [hc] at hcap ⊢
        obtain ⟨w4, hw4⟩ : ∃ w4, (w3.alloc (Obj.cells (bcells (z ++ List.replicate (c - 32) 0)) 5 (c, c + 1))).drew = w4 := ⟨_, rfl⟩
        have hx4 : Ext w3 w4 := by rw [← hw4]; exact ((Ext.refl _).alloc _).drew
        have hb4 : w4.heap[w3.heap.size]? = some (.cells (bcells (z ++ List.replicate (c - 32) 0)) 5 (c, c + 1)) := by rw [← hw4, heap_drew]; exact heap_alloc_new _ _
        rw [hw4]
        clear hw4 hc
        have hiz : i < z.length := by rw [HZ.out]; exact hi32
        have hcell : w4.cell? ⟨w3.heap.size, i, none⟩ = some (.int .u8 (z[i].toNat : Int)) := cell_blk hb4 (bcells_left _ _ _ hiz)
        have hfz : w4.frozen? ⟨w3.heap.size, i, none⟩ = false := frozen_spare hb4 (by omega)
        have hx5 : Ext w3 (w4.setCell ⟨w3.heap.size, i, none⟩ (.int .u8 ((x8 z[i] x).toNat : Int))) := hx4.setCell (Nat.le_refl _) _
        have hfl2 : z.set i (x8 z[i] x) = flipL z i x := by unfold flipL; congr 2; simp [List.getD, hiz]
        have hb5 : (w4.setCell ⟨w3.heap.size, i, none⟩ (.int .u8 ((x8 z[i] x).toNat : Int))).heap[w3.heap.size]? = some (.cells (bcells ((flipL z i x).take k ++ ((flipL z i x).drop k ++ List.replicate (c - 32) 0))) 5 (c, c + 1)) := by
          rw [heap_setCell_same _ hb4, bcells_set_left _ _ _ _ hiz, hfl2, ← List.append_assoc, List.take_append_drop]
        have kc := fun c => to_str_blk (c := c) hb5 (show ((flipL z i x).take k).length = k by rw [List.length_take, flipL_length, HZ.out]; omega)
        have V5 := Lib.hid (V3.out.ext hx5)
        have HX5 := HX3.trans hx5
        clear hb4 hb5 hfl2
        go_wp2_with (first
          | (go_at_call 27; with_reducible refine (G1.out _ V5.out).mono ?_; rintro e w6 ⟨rfl, hx6⟩; have V6 := Lib.hid (V5.out.ext hx6); have HX6 := HX5.trans hx6)
          | (go_at_call 28; with_reducible refine (G2.out w6).mono ?_; rintro e w7 ⟨rfl, hx7⟩; have V7 := Lib.hid (V6.out.ext hx7); have HX7 := HX6.trans hx7)
          | (go_at_call 27; with_reducible refine (GS.out w7 V7.out).mono ?_; rintro e w8 ⟨rfl, hx8⟩; have HX8 := HX7.trans hx8)
          | (go_at_call 20; with_reducible refine (G0.out _).mono ?_; rintro e w9 ⟨rfl, hx9⟩))
        go_returns
        exact ⟨rfl, HX8.trans hx9⟩
      | false =>
        go_enter Try.func9, Try.ntmps9
        clear kt
        go_wp2_with (first
          | (go_at_call 24; with_reducible refine GJ.out.mono ?_; rintro e w' ⟨rfl, rfl⟩)
          | (go_at_call 25; with_reducible refine (GR.out w).mono ?_; rintro e w1 ⟨rfl, hx1⟩; have V1 := Lib.hid (V.out.ext hx1))
          | (go_at_call 26; with_reducible refine (GC.out w1).mono ?_; rintro e w2 ⟨rfl, hx2⟩; subst hx2; have V2 := V1; have HX2 := hx1)
          | (go_at_call 21; with_reducible refine (GM.out w1 V2.out).mono ?_; rintro e w3 ⟨rfl, hx3⟩; have V3 := Lib.hid (V2.out.ext hx3); have hcap := capOf_ge 5 w3 z.length; have HX3 := HX2.trans hx3)
          | (go_at_call 27; with_reducible refine (G3.out w3 V3.out).mono ?_; rintro e w4 ⟨rfl, hx4⟩; have V4 := Lib.hid (V3.out.ext hx4); have HX4 := HX3.trans hx4)
          | (go_at_call 28; with_reducible refine (G4.out w4).mono ?_; rintro e w5 ⟨rfl, hx5⟩; have V5 := Lib.hid (V4.out.ext hx5); have HX5 := HX4.trans hx5)
          | (go_at_call 27; with_reducible refine (GS.out w5 V5.out).mono ?_; rintro e w6 ⟨rfl, hx6⟩; have HX6 := HX5.trans hx6)
          | (go_at_call 20; with_reducible refine (G0.out _).mono ?_; rintro e w9 ⟨rfl, hx9⟩))
        go_returns
        exact ⟨rfl, HX6.trans hx9⟩
theorem law_MacTells (w : World) (key : List UInt8) (l : List (List UInt8)) (ad : Option Addr) (cap : Nat) (n : Int) (tag : List UInt8) (own : Bool) (p x : UInt8) (hk : key.length ≤ 140737488351232) (hl : l.length ≤ 140737488351232) (hs : ∀ x ∈ l, x.length ≤ 140737488351232) (hv : Sl w (.slice ad l.length cap) (l.map strV)) (_hn : -9223372036854775808 ≤ n ∧ n ≤ 9223372036854775807) (ht : tag.length ≤ 140737488351232) :
    Calls Try.prog 9 #[.string (bs key), .slice ad l.length cap, .int .i64 n, .string (bs tag), .bool own, .int .u8 (p.toNat : Int), .int .u8 (x.toNat : Int)] w fun e w' => e = .returned (.bool true) ∧ Ext w w' := by
  by_cases h : joinB l = false ∨ 300 < key.length ∨ 100 < tag.length
  · exact tells_big w key l ad cap n tag own p x hk hl hs ht hv h
  · have hj : joinB l = true := by cases hb : joinB l with
      | true => rfl
      | false => exact absurd (Or.inl hb) h
    exact tells_main w key l ad cap n tag own p x (by omega) hl hs (by omega) hv hj
end Go.Proofs.Ytipdgiikifmjdaa
