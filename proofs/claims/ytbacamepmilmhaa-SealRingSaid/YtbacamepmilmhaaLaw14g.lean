/- The statements of layer 14: SealOpens. -/
import Derived.Test.YtbacamepmilmhaaLaw14f
import Derived.Test.YtbacamepmilmhaaOpenX
set_option linter.unusedVariables false
namespace Go.Proofs.Ytbacamepmilmhaa
open Go Go.RowKit

def u16V (n : Nat) : Value := .int .u16 (n : Int)
theorem heavy_call4 (keys : List (List UInt8)) (a b c d : List UInt8) (ad : Option Addr) (cp : Nat) (hkl : keys.length ≤ 8796093022208) (hkb : ∀ x ∈ keys, x.length ≤ 140737488351232) (ha : a.length ≤ 140737488351232) (hb : b.length ≤ 140737488351232) (hc : c.length ≤ 140737488351232) (hd : d.length ≤ 140737488351232) :
    ∀ (g : Nat) (W : World), Sl W (.slice ad keys.length cp) (keys.map strV) → W.heap[g]? = some (.cells #[.string (bs a), .string (bs b), .string (bs c), .string (bs d)] 9) →
      Calls Try.prog 12 #[.slice ad keys.length cp, .slice (some ⟨g, 0, none⟩) 4 4] W fun e w' => e = .returned (.bool (heavyB keys [a, b, c, d])) ∧ W = w' := fun g W hk hg =>
  heavy14 keys [a, b, c, d] ad (some ⟨g, 0, none⟩) cp 4 W hk (⟨_, _, rfl, fun i hi => ⟨g, 0, rfl, blk_lt hg, by
    match i, hi with
    | 0, _ => exact cell_blk hg rfl
    | 1, _ => exact cell_blk hg rfl
    | 2, _ => exact cell_blk hg rfl
    | 3, _ => exact cell_blk hg rfl⟩⟩) (by simp) hkl hkb (fun x hx => by
    simp only [List.mem_cons, List.not_mem_nil, or_false] at hx
    rcases hx with rfl | rfl | rfl | rfl <;> assumption)
set_option maxRecDepth 100000 in
set_option maxHeartbeats 4000000 in
theorem opens_let (keys : List (List UInt8)) (ad : Option Addr) (cp : Nat) (path other text s : List UInt8) (ver want : Nat) (ix : List Nat) (ai : Option Addr) (ci : Nat) (nb : List UInt8) (ab : Option Addr) (cb : Nat) (w : World)
    (hk : Sl w (.slice ad keys.length cp) (keys.map strV)) (hkl : keys.length ≤ 8796093022208) (hkb : ∀ x ∈ keys, x.length ≤ 140737488351232) (ha : path.length ≤ 140737488351232) (hb : other.length ≤ 140737488351232) (hc : text.length ≤ 140737488351232) (hd : s.length ≤ 140737488351232)
    (_hv : U64 ver) (_hw : U64 want) (_hi : Sl w (.slice ai ix.length ci) (ix.map u16V)) (hil : ix.length ≤ 140737488351232) (_hix : ∀ x ∈ ix, x < 65536) (_hn : Sl w (.slice ab nb.length cb) (nb.map byteV)) (hnl : nb.length ≤ 140737488351232)
    (gw : ∀ W, Calls Try.prog 13 #[] W fun e w' => e = .returned (.bool true) ∧ Ext W w') (own : Bool)
    (hh : heavyB keys [path, other, text, s] = true ∨ heavyB keys [path, other, text, s] = false ∧ (8 < ix.length ∨ ix.length ≤ 8 ∧ 8 < nb.length)) :
    Calls Try.prog 4 #[.slice ad keys.length cp, .string (bs path), .string (bs other), .int .u64 (ver : Int), .int .u64 (want : Int), .string (bs text), .slice ai ix.length ci, .slice ab nb.length cb, .string (bs s), .bool own] w fun e w' => e = .returned (.bool true) ∧ Ext w w' := by
  have GW := Lib.hid gw
  have HK := Lib.hid hk
  have gh := heavy_call4 keys path other text s ad cp hkl hkb ha hb hc hd
  rcases hh with hh | ⟨hh, h1 | ⟨h1, h2⟩⟩
  · rw [hh] at gh
    have GH := Lib.hid gh
    clear hk gh gw hh hkl hkb ha hb hc hd
    go_enter Try.func4, Try.ntmps4
    go_wp2_with (first
      | (go_at_call 12; refine (GH.out _ _ (HK.out.ext ((Ext.refl w).alloc _)) (heap_alloc_new w _)).mono ?_; rintro e w' ⟨rfl, rfl⟩)
      | (go_at_call 13; with_reducible refine (GW.out _).mono ?_; rintro e w1 ⟨rfl, hx1⟩))
    go_returns
    exact ⟨rfl, ((Ext.refl w).alloc _).trans hx1⟩
  · rw [hh] at gh
    have GH := Lib.hid gh
    have h3 : decide ((8 : Int) < (ix.length : Int)) = true := by simp; omega
    clear hk gh gw hh hkl hkb ha hb hc hd h1
    go_enter Try.func4, Try.ntmps4
    go_wp2_with (first
      | (go_at_call 12; refine (GH.out _ _ (HK.out.ext ((Ext.refl w).alloc _)) (heap_alloc_new w _)).mono ?_; rintro e w' ⟨rfl, rfl⟩)
      | (go_at_call 13; with_reducible refine (GW.out _).mono ?_; rintro e w1 ⟨rfl, hx1⟩))
    go_returns
    exact ⟨rfl, ((Ext.refl w).alloc _).trans hx1⟩
  · rw [hh] at gh
    have GH := Lib.hid gh
    have h3 : decide ((8 : Int) < (ix.length : Int)) = false := by simp; omega
    have h4 : decide ((8 : Int) < (nb.length : Int)) = true := by simp; omega
    clear hk gh gw hh hkl hkb ha hb hc hd h1 h2
    go_enter Try.func4, Try.ntmps4
    go_wp2_with (first
      | (go_at_call 12; refine (GH.out _ _ (HK.out.ext ((Ext.refl w).alloc _)) (heap_alloc_new w _)).mono ?_; rintro e w' ⟨rfl, rfl⟩)
      | (go_at_call 13; with_reducible refine (GW.out _).mono ?_; rintro e w1 ⟨rfl, hx1⟩))
    go_returns
    exact ⟨rfl, ((Ext.refl w).alloc _).trans hx1⟩
set_option maxRecDepth 100000 in
set_option maxHeartbeats 4000000 in
theorem opens_raw (keys : List (List UInt8)) (ad : Option Addr) (cp : Nat) (path other text s : List UInt8) (ver want : Nat) (ix : List Nat) (ai : Option Addr) (ci : Nat) (nb : List UInt8) (ab : Option Addr) (cb : Nat) (w : World)
    (hk : Sl w (.slice ad keys.length cp) (keys.map strV)) (hkl : keys.length ≤ 8796093022208) (hkb : ∀ x ∈ keys, x.length ≤ 140737488351232) (ha : path.length ≤ 140737488351232) (hb : other.length ≤ 140737488351232) (hc : text.length ≤ 140737488351232) (hd : s.length ≤ 140737488351232)
    (hv : U64 ver) (hw : U64 want) (hi : Sl w (.slice ai ix.length ci) (ix.map u16V)) (hil : ix.length ≤ 140737488351232) (hix : ∀ x ∈ ix, x < 65536) (hn : Sl w (.slice ab nb.length cb) (nb.map byteV)) (hnl : nb.length ≤ 140737488351232)
    (gw : ∀ W, Calls Try.prog 13 #[] W fun e w' => e = .returned (.bool true) ∧ Ext W w')
    (hh : heavyB keys [path, other, text, s] = false) (h8i : ix.length ≤ 8) (h8n : nb.length ≤ 8) :
    Calls Try.prog 4 #[.slice ad keys.length cp, .string (bs path), .string (bs other), .int .u64 (ver : Int), .int .u64 (want : Int), .string (bs text), .slice ai ix.length ci, .slice ab nb.length cb, .string (bs s), .bool false] w fun e w' => e = .returned (.bool true) ∧ Ext w w' := by
  have GW := Lib.hid gw
  have HK := Lib.hid hk
  have gh := heavy_call4 keys path other text s ad cp hkl hkb ha hb hc hd
  rw [hh] at gh
  have GH := Lib.hid gh
  obtain ⟨h8, hsum⟩ := heavy_no hh
  have hsz : path.length + other.length + text.length + s.length ≤ 1500 := by
    have : sumL [path, other, text, s] [path, other, text, s].length = path.length + (other.length + (text.length + s.length)) := by simp [sumL]
    omega
  have h1 : decide ((8 : Int) < (ix.length : Int)) = false := by simp; omega
  have h2 : decide ((8 : Int) < (nb.length : Int)) = false := by simp; omega
  have GR := Lib.hid (fun W hk => rings14 keys ad cp W hk h8 hkb)
  have hEk := epsN_key keys keys.length
  have hEn : epsN keys keys.length ≠ [] := by intro h; have := epsN_length keys keys.length; rw [h] at this; simp at this
  have hEl0 : (epsN keys keys.length).length ≤ 1000 := by rw [epsN_length]; omega
  have GO0 := Lib.hid (fun r m (S : List UInt8) W (hS : S.length ≤ 100000) (h : RingAt W r m (epsN keys keys.length) (keys.length + 1)) => Open_any r m (epsN keys keys.length) (keys.length + 1) other S want W h (by omega) (by omega) hEk hw (by omega))
  have GP0 := Lib.hid (fun B d (S : List UInt8) W (hS : S.length ≤ 100000) (h : DocAt W B d (epsN keys keys.length)) => refOpen_any B d (epsN keys keys.length) other S want W h hEn hEl0 (by omega) hEk hw (by omega))
  have hS : s.length ≤ 100000 := by omega
  generalize epsN keys keys.length = E at *
  clear hk gh gw hh hsum h8 hkl hkb ha hb hc hd hsz hv hw hi hix hn hEk hEn hEl0 h8i h8n
  go_enter Try.func4, Try.ntmps4
  go_upto_region 6 with (first
    | (go_at_call 12; refine (GH.out _ _ (HK.out.ext ((Ext.refl w).alloc _)) (heap_alloc_new w _)).mono ?_; rintro e w' ⟨rfl, rfl⟩)
    | (go_at_call 14; refine (GR.out _ (HK.out.ext ((Ext.refl w).alloc _))).mono ?_; rintro e w1 ⟨r, m, d, rfl, hri, hdo, _, _, hx1⟩; have HRI := Lib.hid hri; have HDO := Lib.hid hdo; clear hri hdo; have HX := Lib.hid (((Ext.refl w).alloc (.cells #[.string (bs path), .string (bs other), .string (bs text), .string (bs s)] 9)).trans hx1); obtain ⟨w2, hw2⟩ : ∃ x, x = w1 := ⟨_, rfl⟩; rw [← hw2] at HRI HDO HX ⊢; clear hw2 hx1; have HY := Lib.hid (Ext.refl w2)))
  have GO := Lib.hid (fun r m W h => GO0.out r m s W hS h)
  have GP := Lib.hid (fun B d W h => GP0.out B d s W hS h)
  have GON := Lib.hid (fun W => Open_nil other s want W)
  have GE := Lib.hid (fun W => Epoch_any s W (by omega))
  have GF := Lib.hid (fun W => refEpoch_any s W (by omega))
  generalize epR s = ES at *
  generalize openAny E other want s = RS at *
  clear GO0 GP0 hS
  go_wp2_with (first
    | (go_at_call 22; with_reducible refine (GO.out r m _ (HRI.out.ext HY.out)).mono ?_; rintro e w1 ⟨rfl, hx1⟩; have hq := HY.out.trans hx1; clear HY hx1; have HY := Lib.hid hq; clear hq)
    | (go_at_call 23; with_reducible refine (GP.out _ d _ (HDO.out.ext HY.out)).mono ?_; rintro e w1 ⟨rfl, hx1⟩; have hq := HY.out.trans hx1; clear HY hx1; have HY := Lib.hid hq; clear hq)
    | (go_at_call 18; with_reducible refine (GE.out _).mono ?_; rintro e w1 ⟨rfl, hx1⟩; have hq := HY.out.trans hx1; clear HY hx1; have HY := Lib.hid hq; clear hq)
    | (go_at_call 19; with_reducible refine (GF.out _).mono ?_; rintro e w1 ⟨rfl, hx1⟩; have hq := HY.out.trans hx1; clear HY hx1; have HY := Lib.hid hq; clear hq)
    | (go_at_call 22; with_reducible refine (GON.out _).mono ?_; rintro e w1 ⟨rfl, hx1⟩; have hq := HY.out.trans hx1; clear HY hx1; have HY := Lib.hid hq; clear hq)
    | (go_at_call 13; with_reducible refine (GW.out _).mono ?_; rintro e w1 ⟨rfl, hx1⟩; have hq := HY.out.trans hx1; clear HY hx1; have HY := Lib.hid hq; clear hq))
  go_returns
  exact ⟨rfl, HX.out.trans HY.out⟩
set_option maxRecDepth 100000 in
set_option maxHeartbeats 4000000 in
theorem opens_own (keys : List (List UInt8)) (ad : Option Addr) (cp : Nat) (path other text s : List UInt8) (ver want : Nat) (ix : List Nat) (ai : Option Addr) (ci : Nat) (nb : List UInt8) (ab : Option Addr) (cb : Nat) (w : World)
    (hk : Sl w (.slice ad keys.length cp) (keys.map strV)) (hkl : keys.length ≤ 8796093022208) (hkb : ∀ x ∈ keys, x.length ≤ 140737488351232) (ha : path.length ≤ 140737488351232) (hb : other.length ≤ 140737488351232) (hc : text.length ≤ 140737488351232) (hd : s.length ≤ 140737488351232)
    (hv : U64 ver) (hw : U64 want) (hi : Sl w (.slice ai ix.length ci) (ix.map u16V)) (hil : ix.length ≤ 140737488351232) (hix : ∀ x ∈ ix, x < 65536) (hn : Sl w (.slice ab nb.length cb) (nb.map byteV)) (hnl : nb.length ≤ 140737488351232)
    (gw : ∀ W, Calls Try.prog 13 #[] W fun e w' => e = .returned (.bool true) ∧ Ext W w')
    (hh : heavyB keys [path, other, text, s] = false) (h8i : ix.length ≤ 8) (h8n : nb.length ≤ 8) :
    Calls Try.prog 4 #[.slice ad keys.length cp, .string (bs path), .string (bs other), .int .u64 (ver : Int), .int .u64 (want : Int), .string (bs text), .slice ai ix.length ci, .slice ab nb.length cb, .string (bs s), .bool true] w fun e w' => e = .returned (.bool true) ∧ Ext w w' := by
  have GW := Lib.hid gw
  have HK := Lib.hid hk
  have gh := heavy_call4 keys path other text s ad cp hkl hkb ha hb hc hd
  rw [hh] at gh
  have GH := Lib.hid gh
  obtain ⟨h8, hsum⟩ := heavy_no hh
  have hsz : path.length + other.length + text.length + s.length ≤ 1500 := by
    have : sumL [path, other, text, s] [path, other, text, s].length = path.length + (other.length + (text.length + s.length)) := by simp [sumL]
    omega
  have h1 : decide ((8 : Int) < (ix.length : Int)) = false := by simp; omega
  have h2 : decide ((8 : Int) < (nb.length : Int)) = false := by simp; omega
  have GR := Lib.hid (fun W hk => rings14 keys ad cp W hk h8 hkb)
  have hEk := epsN_key keys keys.length
  have hEn : epsN keys keys.length ≠ [] := by intro h; have := epsN_length keys keys.length; rw [h] at this; simp at this
  have hEl0 : (epsN keys keys.length).length ≤ 1000 := by rw [epsN_length]; omega
  have GO0 := Lib.hid (fun r m (S : List UInt8) W (hS : S.length ≤ 100000) (h : RingAt W r m (epsN keys keys.length) (keys.length + 1)) => Open_any r m (epsN keys keys.length) (keys.length + 1) other S want W h (by omega) (by omega) hEk hw (by omega))
  have GP0 := Lib.hid (fun B d (S : List UInt8) W (hS : S.length ≤ 100000) (h : DocAt W B d (epsN keys keys.length)) => refOpen_any B d (epsN keys keys.length) other S want W h hEn hEl0 (by omega) hEk hw (by omega))
  have HI := Lib.hid hi; have HN := Lib.hid hn; have HIX := Lib.hid hix
  have GNO := Lib.hid (fun W => nonce14 text W hc)
  obtain ⟨E0, key, hE, hEl, hkey, hlk⟩ := epsN_last keys keys.length
  have hnn : (padTo 12 text).length = 12 := padTo_length 12 text
  have gd := fun d W (h : DocAt W (w.alloc (.cells #[.string (bs path), .string (bs other), .string (bs text), .string (bs s)] 9)).heap.size d (E0 ++ [(keys.length + 1, key)])) => refClose_yes _ d E0 (keys.length + 1) key path (padTo 12 text) text ver W h (by omega) (by omega) (hE ▸ hlk) (by omega) hv hnn (by omega) (by omega)
  rw [← hE] at gd
  have GD := Lib.hid gd
  have hT : (envL key (keys.length + 1) (padTo 12 text) text ++ tagL key path ver (envL key (keys.length + 1) (padTo 12 text) text)).length = 49 + text.length := by rw [List.length_append, envL_length _ _ _ _ hnn, tagL_length]; omega
  generalize envL key (keys.length + 1) (padTo 12 text) text ++ tagL key path ver (envL key (keys.length + 1) (padTo 12 text) text) = T at *
  generalize padTo 12 text = nn at *
  generalize epsN keys keys.length = E at *
  obtain ⟨n0, hn0⟩ : ∃ n0, T.length = n0 := ⟨_, rfl⟩
  have hT0 : 0 < n0 ∧ n0 ≤ 2000 := by omega
  have kt := to_bytes T
  rw [hn0] at kt
  have hcap0 := fun W => capOf_ge 5 W n0
  have HT := Lib.hid hn0
  have HCAP := Lib.hid hcap0
  clear hcap0 hT hn0
  clear hk gh gw hh hsum h8 hkl hkb ha hb hc hd hsz hv hw hi hix hn hEk hEn hEl0 hE hEl hkey hlk hnn gd h8i h8n
  go_enter Try.func4, Try.ntmps4
  go_upto_region 6 with (first
    | (go_at_call 12; refine (GH.out _ _ (HK.out.ext ((Ext.refl w).alloc _)) (heap_alloc_new w _)).mono ?_; rintro e w' ⟨rfl, rfl⟩)
    | (go_at_call 14; refine (GR.out _ (HK.out.ext ((Ext.refl w).alloc _))).mono ?_; rintro e w1 ⟨r, m, d, rfl, hri, hdo, _, _, hx1⟩; have HRI := Lib.hid hri; have HDO := Lib.hid hdo; clear hri hdo; have HX := Lib.hid (((Ext.refl w).alloc (.cells #[.string (bs path), .string (bs other), .string (bs text), .string (bs s)] 9)).trans hx1); obtain ⟨w2, hw2⟩ : ∃ x, x = w1 := ⟨_, rfl⟩; rw [← hw2] at HRI HDO HX ⊢; clear hw2 hx1; have HY := Lib.hid (Ext.refl w2)))
  go_upto_region 11 with (first
    | (go_at_call 15; with_reducible refine (GNO.out _).mono ?_; rintro e w1 ⟨rfl, hx1⟩; have hq := HY.out.trans hx1; clear HY hx1; have HY := Lib.hid hq; clear hq)
    | (go_at_call 17; with_reducible refine (GD.out d _ (HDO.out.ext HY.out)).mono ?_; rintro e w1 ⟨rfl, hx1⟩; have hq := HY.out.trans hx1; clear HY hx1; have HY := Lib.hid hq; clear hq))
  clear kt GNO GD
  obtain ⟨w4, hw4⟩ : ∃ w4, w1 = w4 := ⟨_, rfl⟩
  rw [hw4] at HY ⊢
  have hcap := HCAP.out w4
  clear hw4 HCAP
  obtain ⟨cpb, hcp⟩ : ∃ cp, capOf 5 w4 n0 = cp := ⟨_, rfl⟩
  rw [hcp] at hcap ⊢
  obtain ⟨w5, hw5⟩ : ∃ w5, (w4.alloc (Obj.cells (bcells (T ++ List.replicate (cpb - n0) 0)) 5 (cpb, cpb + 1))).drew = w5 := ⟨_, rfl⟩
  have hx5 : Ext w4 w5 := by rw [← hw5]; exact ((Ext.refl _).alloc _).drew
  have hb5 : w5.heap[w4.heap.size]? = some (.cells (bcells (T ++ List.replicate (cpb - n0) 0)) 5 (cpb, cpb + 1)) := by rw [← hw5, heap_drew]; exact heap_alloc_new _ _
  rw [hw5]
  clear hw5 hcp
  have HB5 := Lib.hid hb5
  have HX5 := Lib.hid hx5
  have HSI := Lib.hid ((HX.out.trans HY.out).size)
  clear hb5 hx5
  go_wp2
  go_loopw [26] (fun i wr => ∃ (k : Nat) (L : List UInt8), k ≤ min ix.length nb.length ∧ i = .int .i64 k ∧ L.length = n0 ∧ wr.heap[w4.heap.size]? = some (.cells (bcells (L ++ List.replicate (cpb - n0) 0)) 5 (cpb, cpb + 1)) ∧ Ext w4 wr) (fun i _ => ix.length - (intOf i).toNat)
  case atStart => exact ⟨0, T, by omega, rfl, HT.out, HB5.out, HX5.out⟩
  case round =>
    obtain ⟨k, L, hk, rfl, hL, hbL, hx⟩ := hrel
    have HL := Lib.hid hL; have HB := Lib.hid hbL
    clear hbL HB5 HX5
    by_cases hlt : k < min ix.length nb.length
    · obtain ⟨bi, oi, hai, hbi, hci⟩ := HI.out.at_ k (by simp; omega)
      obtain ⟨bn, on, han, hbn, hcn⟩ := HN.out.at_ k (by simp; omega)
      have hxi := HIX.out _ (List.getElem_mem (show k < ix.length by omega))
      rw [List.getElem_map] at hci hcn
      subst hai; subst han
      generalize ix[k]'(by omega) = x at *
      generalize nb[k]'(by omega) = y at *
      have hcw := (HX.out.trans HY.out).trans hx
      have hci2 : wr.cell? ⟨bi, oi + k, none⟩ = some (.int .u16 (x : Int)) := hcw.cell_of hci
      have hcn2 : wr.cell? ⟨bn, on + k, none⟩ = some (.int .u8 (y.toNat : Int)) := hcw.cell_of hcn
      have hki : (k : Int) < (ix.length : Int) := by omega
      have hkn : (k : Int) < (nb.length : Int) := by omega
      have hq : x % n0 < n0 := Nat.mod_lt _ (by omega)
      have hrm : (x : Int).tmod (n0 : Int) = ((x % n0 : Nat) : Int) := by rw [Int.tmod_eq_emod_of_nonneg (by omega)]; omega
      have hwx : IntKind.i64.wrap (x : Int) = (x : Int) := by rw [IntKind.wrap_i64]; omega
      obtain ⟨q, hqe⟩ : ∃ q, x % n0 = q := ⟨_, rfl⟩
      rw [hqe] at hq hrm
      have hwq : IntKind.i64.wrap (q : Int) = (q : Int) := by rw [IntKind.wrap_i64]; omega
      have hn0 : ¬ n0 = 0 := by omega
      have hqi : (q : Int) < (n0 : Int) := by omega
      have HK2 := Lib.hid hlt
      clear hci hcn hxi hqe hk hlt hbi hbn hcw h1 h2
      go_wp2
      refine Loud.wp_region_weave 14 wr (Loud.sps [.val (.slice (some ⟨w4.heap.size, 0, none⟩) n0 cpb), .val (.slice (some ⟨bi, oi, none⟩) ix.length ci), .val (.int .i64 (k : Int)), .val (.pointer (some ⟨bi, oi + k, none⟩)), .val (.int .u16 (x : Int)), .val (.int .i64 (x : Int)), .val (.slice (some ⟨w4.heap.size, 0, none⟩) n0 cpb), .val (.int .i64 (n0 : Int)), .val (.int .i64 (q : Int)), .val (.slice (some ⟨bn, on, none⟩) nb.length cb), .val (.int .i64 (k : Int)), .val (.pointer (some ⟨bn, on + k, none⟩)), .val (.int .u8 (y.toNat : Int)), .val (.pointer (some ⟨w4.heap.size, q, none⟩))]) (by kernel_rfl) (by kernel_rfl) (by show Ext _ _; repeat (first | exact Ext.refl _ | assumption | (with_reducible refine Ext.drew ?_) | (with_reducible refine Ext.drewN ?_ _) | (with_reducible refine Ext.alloc ?_ _) | (refine Ext.trans ?_ (by assumption)))) (Loud.sps_st _) ?wAx1 ?whAx1 ?whSx1 ?whFx1
      case whAx1 => intro u K hK; simp only [List.take_succ_cons, List.take_zero, Loud.puts]; go_simp; exact hK
      case whSx1 =>
        simp only [List.take_succ_cons, List.take_zero, Loud.stepsW]
        refine ⟨?wsx1_0, ?wsx1_1, ?wsx1_2, ?wsx1_3, ?wsx1_4, ?wsx1_5, ?wsx1_6, ?wsx1_7, ?wsx1_8, ?wsx1_9, ?wsx1_10, ?wsx1_11, ?wsx1_12, ?wsx1_13, trivial⟩
        case wsx1_0 =>
          intro u β wq hq h
          repeat (obtain ⟨h1, h⟩ := h; first | (replace h1 := h1 rfl; simp only [go_sem] at h1; try (obtain ⟨h1, h1b⟩ := h1)) | (have hno := (h1 : Region.binds _ _ = true → _); clear hno h1))
          refine Or.inl ⟨rfl, fun K hK => ?_⟩
          go_simp
          exact hK _ 0 _ (Ext.refl _) rfl
        case wsx1_1 =>
          intro u β wq hq h
          repeat (obtain ⟨h1, h⟩ := h; first | (replace h1 := h1 rfl; simp only [go_sem] at h1; try (obtain ⟨h1, h1b⟩ := h1)) | (have hno := (h1 : Region.binds _ _ = true → _); clear hno h1))
          refine Or.inl ⟨rfl, fun K hK => ?_⟩
          go_simp
          exact hK _ 0 _ (Ext.refl _) rfl
        case wsx1_2 =>
          intro u β wq hq h
          repeat (obtain ⟨h1, h⟩ := h; first | (replace h1 := h1 rfl; simp only [go_sem] at h1; try (obtain ⟨h1, h1b⟩ := h1)) | (have hno := (h1 : Region.binds _ _ = true → _); clear hno h1))
          refine Or.inl ⟨rfl, fun K hK => ?_⟩
          go_simp
          exact hK _ 0 _ (Ext.refl _) rfl
        case wsx1_3 =>
          intro u β wq hq h
          repeat (obtain ⟨h1, h⟩ := h; first | (replace h1 := h1 rfl; simp only [go_sem] at h1; try (obtain ⟨h1, h1b⟩ := h1)) | (have hno := (h1 : Region.binds _ _ = true → _); clear hno h1))
          refine Or.inl ⟨rfl, fun K hK => ?_⟩
          go_simp
          exact hK _ 0 _ (Ext.refl _) rfl
        case wsx1_4 =>
          intro u β wq hq h
          repeat (obtain ⟨h1, h⟩ := h; first | (replace h1 := h1 rfl; simp only [go_sem] at h1; try (obtain ⟨h1, h1b⟩ := h1)) | (have hno := (h1 : Region.binds _ _ = true → _); clear hno h1))
          refine Or.inl ⟨rfl, fun K hK => ?_⟩
          have hqc := hq.cell_of hci2
          go_simp
          exact hK _ 0 _ (Ext.refl _) rfl
        case wsx1_5 =>
          intro u β wq hq h
          repeat (obtain ⟨h1, h⟩ := h; first | (replace h1 := h1 rfl; simp only [go_sem] at h1; try (obtain ⟨h1, h1b⟩ := h1)) | (have hno := (h1 : Region.binds _ _ = true → _); clear hno h1))
          refine Or.inl ⟨rfl, fun K hK => ?_⟩
          go_simp
          exact hK _ 0 _ (Ext.refl _) rfl
        case wsx1_6 =>
          intro u β wq hq h
          repeat (obtain ⟨h1, h⟩ := h; first | (replace h1 := h1 rfl; simp only [go_sem] at h1; try (obtain ⟨h1, h1b⟩ := h1)) | (have hno := (h1 : Region.binds _ _ = true → _); clear hno h1))
          refine Or.inl ⟨rfl, fun K hK => ?_⟩
          go_simp
          exact hK _ 0 _ (Ext.refl _) rfl
        case wsx1_7 =>
          intro u β wq hq h
          repeat (obtain ⟨h1, h⟩ := h; first | (replace h1 := h1 rfl; simp only [go_sem] at h1; try (obtain ⟨h1, h1b⟩ := h1)) | (have hno := (h1 : Region.binds _ _ = true → _); clear hno h1))
          refine Or.inl ⟨rfl, fun K hK => ?_⟩
          go_simp
          exact hK _ 0 _ (Ext.refl _) rfl
        case wsx1_8 =>
          intro u β wq hq h
          repeat (obtain ⟨h1, h⟩ := h; first | (replace h1 := h1 rfl; simp only [go_sem] at h1; try (obtain ⟨h1, h1b⟩ := h1)) | (have hno := (h1 : Region.binds _ _ = true → _); clear hno h1))
          refine Or.inl ⟨rfl, fun K hK => ?_⟩
          go_simp
          exact hK _ 0 _ (Ext.refl _) rfl
        case wsx1_9 =>
          intro u β wq hq h
          repeat (obtain ⟨h1, h⟩ := h; first | (replace h1 := h1 rfl; simp only [go_sem] at h1; try (obtain ⟨h1, h1b⟩ := h1)) | (have hno := (h1 : Region.binds _ _ = true → _); clear hno h1))
          refine Or.inl ⟨rfl, fun K hK => ?_⟩
          go_simp
          exact hK _ 0 _ (Ext.refl _) rfl
        case wsx1_10 =>
          intro u β wq hq h
          repeat (obtain ⟨h1, h⟩ := h; first | (replace h1 := h1 rfl; simp only [go_sem] at h1; try (obtain ⟨h1, h1b⟩ := h1)) | (have hno := (h1 : Region.binds _ _ = true → _); clear hno h1))
          refine Or.inl ⟨rfl, fun K hK => ?_⟩
          go_simp
          exact hK _ 0 _ (Ext.refl _) rfl
        case wsx1_11 =>
          intro u β wq hq h
          repeat (obtain ⟨h1, h⟩ := h; first | (replace h1 := h1 rfl; simp only [go_sem] at h1; try (obtain ⟨h1, h1b⟩ := h1)) | (have hno := (h1 : Region.binds _ _ = true → _); clear hno h1))
          refine Or.inl ⟨rfl, fun K hK => ?_⟩
          go_simp
          exact hK _ 0 _ (Ext.refl _) rfl
        case wsx1_12 =>
          intro u β wq hq h
          repeat (obtain ⟨h1, h⟩ := h; first | (replace h1 := h1 rfl; simp only [go_sem] at h1; try (obtain ⟨h1, h1b⟩ := h1)) | (have hno := (h1 : Region.binds _ _ = true → _); clear hno h1))
          refine Or.inl ⟨rfl, fun K hK => ?_⟩
          have hqc := hq.cell_of hcn2
          go_simp
          exact hK _ 0 _ (Ext.refl _) rfl
        case wsx1_13 =>
          intro u β wq hq h
          repeat (obtain ⟨h1, h⟩ := h; first | (replace h1 := h1 rfl; simp only [go_sem] at h1; try (obtain ⟨h1, h1b⟩ := h1)) | (have hno := (h1 : Region.binds _ _ = true → _); clear hno h1))
          refine Or.inl ⟨rfl, fun K hK => ?_⟩
          go_simp
          exact hK _ 0 _ (Ext.refl _) rfl
      intro u β w6 hq h
      have h0 := h 0 (by omega)
      have h1 := h 1 (by omega)
      have h2 := h 2 (by omega)
      have h3 := h 3 (by omega)
      have h4 := h 4 (by omega)
      have h5 := h 5 (by omega)
      have h6 := h 6 (by omega)
      have h7 := h 7 (by omega)
      have h8 := h 8 (by omega)
      have h9 := h 9 (by omega)
      have h10 := h 10 (by omega)
      have h11 := h 11 (by omega)
      have h12 := h 12 (by omega)
      have h13 := h 13 (by omega)
      clear h
      simp only [go_sem] at h0 h1 h2 h3 h4 h5 h6 h7 h8 h9 h10 h11 h12 h13
      simp only [List.drop_succ_cons, List.drop_zero]
      rw [h13]
      have hbq := hq.keep HB.out
      have hqL : q < L.length := by rw [HL.out]; omega
      have hcell : w6.cell? ⟨w4.heap.size, q, none⟩ = some (.int .u8 (L[q].toNat : Int)) := cell_blk hbq (bcells_left _ _ _ hqL)
      have hfz : w6.frozen? ⟨w4.heap.size, q, none⟩ = false := frozen_spare hbq (by omega)
      have o2 := heap_setCell_same (i := q) (.int .u8 (y.toNat : Int)) hbq
      rw [bcells_set_left _ _ _ _ hqL] at o2
      have O2 := Lib.hid o2
      have HX6 := Lib.hid ((hx.trans hq).setCell (p := ⟨w4.heap.size, q, none⟩) (Nat.le_refl _) (.int .u8 (y.toNat : Int)))
      have HLS := Lib.hid (show (L.set q y).length = n0 by rw [List.length_set]; exact HL.out)
      rw [h12]
      clear o2 hbq
      go_wp2
      go_roundw
      case measure => simp [intOf]; have := HK2.out; omega
      case rel => exact ⟨k + 1, L.set q y, by have := HK2.out; omega, by go_num, HLS.out, O2.out, HX6.out⟩
    · obtain rfl : k = min ix.length nb.length := by omega
      by_cases hik : nb.length < ix.length
      · rw [show min ix.length nb.length = nb.length by omega]
        have hlt3 : (nb.length : Int) < (ix.length : Int) := by omega
        have hlt4 : decide ((nb.length : Int) < (nb.length : Int)) = false := by simp
        clear hlt hik hk
        have hx9 := HY.out.trans hx
        clear HY
        have HY := Lib.hid hx9
        clear hx9
        have kc := fun c => to_str_blk (c := c) (n := n0) HB.out HL.out
        have hS : L.length ≤ 100000 := by have := HL.out; omega
        have GO := Lib.hid (fun r m W h => GO0.out r m L W hS h)
        have GP := Lib.hid (fun B d W h => GP0.out B d L W hS h)
        have GON := Lib.hid (fun W => Open_nil other L want W)
        have GE := Lib.hid (fun W => Epoch_any L W (by omega))
        have GF := Lib.hid (fun W => refEpoch_any L W (by omega))
        generalize epR L = ES at *
        generalize openAny E other want L = RS at *
        clear GO0 GP0 hS
        go_wp2_with (first
          | (go_at_call 22; with_reducible refine (GO.out r m _ (HRI.out.ext HY.out)).mono ?_; rintro e w1 ⟨rfl, hx1⟩; have hq := HY.out.trans hx1; clear HY hx1; have HY := Lib.hid hq; clear hq)
          | (go_at_call 23; with_reducible refine (GP.out _ d _ (HDO.out.ext HY.out)).mono ?_; rintro e w1 ⟨rfl, hx1⟩; have hq := HY.out.trans hx1; clear HY hx1; have HY := Lib.hid hq; clear hq)
          | (go_at_call 18; with_reducible refine (GE.out _).mono ?_; rintro e w1 ⟨rfl, hx1⟩; have hq := HY.out.trans hx1; clear HY hx1; have HY := Lib.hid hq; clear hq)
          | (go_at_call 19; with_reducible refine (GF.out _).mono ?_; rintro e w1 ⟨rfl, hx1⟩; have hq := HY.out.trans hx1; clear HY hx1; have HY := Lib.hid hq; clear hq)
          | (go_at_call 22; with_reducible refine (GON.out _).mono ?_; rintro e w1 ⟨rfl, hx1⟩; have hq := HY.out.trans hx1; clear HY hx1; have HY := Lib.hid hq; clear hq)
          | (go_at_call 13; with_reducible refine (GW.out _).mono ?_; rintro e w1 ⟨rfl, hx1⟩; have hq := HY.out.trans hx1; clear HY hx1; have HY := Lib.hid hq; clear hq))
        go_returns
        exact ⟨rfl, HX.out.trans HY.out⟩
      · rw [show min ix.length nb.length = ix.length by omega]
        have hlt3 : decide ((ix.length : Int) < (ix.length : Int)) = false := by simp
        clear hlt hik hk
        have hx9 := HY.out.trans hx
        clear HY
        have HY := Lib.hid hx9
        clear hx9
        have kc := fun c => to_str_blk (c := c) (n := n0) HB.out HL.out
        have hS : L.length ≤ 100000 := by have := HL.out; omega
        have GO := Lib.hid (fun r m W h => GO0.out r m L W hS h)
        have GP := Lib.hid (fun B d W h => GP0.out B d L W hS h)
        have GON := Lib.hid (fun W => Open_nil other L want W)
        have GE := Lib.hid (fun W => Epoch_any L W (by omega))
        have GF := Lib.hid (fun W => refEpoch_any L W (by omega))
        generalize epR L = ES at *
        generalize openAny E other want L = RS at *
        clear GO0 GP0 hS
        go_wp2_with (first
          | (go_at_call 22; with_reducible refine (GO.out r m _ (HRI.out.ext HY.out)).mono ?_; rintro e w1 ⟨rfl, hx1⟩; have hq := HY.out.trans hx1; clear HY hx1; have HY := Lib.hid hq; clear hq)
          | (go_at_call 23; with_reducible refine (GP.out _ d _ (HDO.out.ext HY.out)).mono ?_; rintro e w1 ⟨rfl, hx1⟩; have hq := HY.out.trans hx1; clear HY hx1; have HY := Lib.hid hq; clear hq)
          | (go_at_call 18; with_reducible refine (GE.out _).mono ?_; rintro e w1 ⟨rfl, hx1⟩; have hq := HY.out.trans hx1; clear HY hx1; have HY := Lib.hid hq; clear hq)
          | (go_at_call 19; with_reducible refine (GF.out _).mono ?_; rintro e w1 ⟨rfl, hx1⟩; have hq := HY.out.trans hx1; clear HY hx1; have HY := Lib.hid hq; clear hq)
          | (go_at_call 22; with_reducible refine (GON.out _).mono ?_; rintro e w1 ⟨rfl, hx1⟩; have hq := HY.out.trans hx1; clear HY hx1; have HY := Lib.hid hq; clear hq)
          | (go_at_call 13; with_reducible refine (GW.out _).mono ?_; rintro e w1 ⟨rfl, hx1⟩; have hq := HY.out.trans hx1; clear HY hx1; have HY := Lib.hid hq; clear hq))
        go_returns
        exact ⟨rfl, HX.out.trans HY.out⟩
theorem law_SealOpens (w : World) (keys : List (List UInt8)) (ad : Option Addr) (cp : Nat) (path other : List UInt8) (ver want : Nat) (text : List UInt8) (ix : List Nat) (ai : Option Addr) (ci : Nat) (nb : List UInt8) (ab : Option Addr) (cb : Nat) (s : List UInt8) (own : Bool)
    (hkl : keys.length ≤ 8796093022208) (hkb : ∀ x ∈ keys, x.length ≤ 140737488351232) (hk : Sl w (.slice ad keys.length cp) (keys.map strV)) (ha : path.length ≤ 140737488351232) (hb : other.length ≤ 140737488351232) (hv : U64 ver) (hw : U64 want) (hc : text.length ≤ 140737488351232)
    (hil : ix.length ≤ 140737488351232) (hix : ∀ x ∈ ix, x < 65536) (hi : Sl w (.slice ai ix.length ci) (ix.map u16V)) (hnl : nb.length ≤ 140737488351232) (hn : Sl w (.slice ab nb.length cb) (nb.map byteV)) (hd : s.length ≤ 140737488351232) :
    Calls Try.prog 4 #[.slice ad keys.length cp, .string (bs path), .string (bs other), .int .u64 (ver : Int), .int .u64 (want : Int), .string (bs text), .slice ai ix.length ci, .slice ab nb.length cb, .string (bs s), .bool own] w fun e w' => e = .returned (.bool true) ∧ Ext w w' := by
  cases hh : heavyB keys [path, other, text, s]
  · by_cases h1 : ix.length ≤ 8
    · by_cases h2 : nb.length ≤ 8
      · cases own
        · exact opens_raw keys ad cp path other text s ver want ix ai ci nb ab cb w hk hkl hkb ha hb hc hd hv hw hi hil hix hn hnl works14 hh h1 h2
        · exact opens_own keys ad cp path other text s ver want ix ai ci nb ab cb w hk hkl hkb ha hb hc hd hv hw hi hil hix hn hnl works14 hh h1 h2
      · exact opens_let keys ad cp path other text s ver want ix ai ci nb ab cb w hk hkl hkb ha hb hc hd hv hw hi hil hix hn hnl works14 own (.inr ⟨hh, .inr ⟨h1, by omega⟩⟩)
    · exact opens_let keys ad cp path other text s ver want ix ai ci nb ab cb w hk hkl hkb ha hb hc hd hv hw hi hil hix hn hnl works14 own (.inr ⟨hh, .inl (by omega)⟩)
  · exact opens_let keys ad cp path other text s ver want ix ai ci nb ab cb w hk hkl hkb ha hb hc hd hv hw hi hil hix hn hnl works14 own (.inl hh)
end Go.Proofs.Ytbacamepmilmhaa
