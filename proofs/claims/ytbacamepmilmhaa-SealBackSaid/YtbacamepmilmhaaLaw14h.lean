/- The statements of layer 14: SealBack. -/
import Derived.Test.YtbacamepmilmhaaLaw14g
import Derived.Test.YtbacamepmilmhaaOpenX
set_option linter.unusedVariables false
namespace Go.Proofs.Ytbacamepmilmhaa
open Go Go.RowKit

set_option maxRecDepth 100000 in
theorem Again_yes (r : Nat) (path nonce s text u : List UInt8) (ver : Nat) (w : World)
    (h1 : Calls Try.prog 22 #[.pointer (some ⟨r, 0, none⟩), .string (bs path), .int .u64 (ver : Int), .string (bs s)] w fun e w' => e = .returned (.tuple #[.string (bs text), .int .i64 0]) ∧ Ext w w')
    (h2 : ∀ W, Ext w W → Calls Try.prog 16 #[.pointer (some ⟨r, 0, none⟩), .string (bs path), .int .u64 (ver : Int), .string (bs nonce), .string (bs text)] W fun e w' => e = .returned (.tuple #[.string (bs u), .int .i64 0]) ∧ Ext W w') :
    Calls Try.prog 27 #[.pointer (some ⟨r, 0, none⟩), .string (bs path), .int .u64 (ver : Int), .string (bs nonce), .string (bs s)] w fun e w' => e = .returned (.tuple #[.string (bs u), .int .i64 0]) ∧ Ext w w' := by
  have H1 := Lib.hid h1; have H2 := Lib.hid h2
  clear h1 h2
  go_enter Try.func27, Try.ntmps27
  go_wp2_with (first
    | (go_at_call 22; with_reducible refine H1.out.mono ?_; rintro e w1 ⟨rfl, hx1⟩)
    | (go_at_call 16; with_reducible refine (H2.out _ hx1).mono ?_; rintro e w2 ⟨rfl, hx2⟩))
  go_returns
  exact ⟨rfl, hx1.trans hx2⟩
set_option maxRecDepth 100000 in
theorem Again_no (r : Nat) (path nonce s text : List UInt8) (ver : Nat) (er : Int) (w : World) (her : er ≠ 0)
    (h1 : Calls Try.prog 22 #[.pointer (some ⟨r, 0, none⟩), .string (bs path), .int .u64 (ver : Int), .string (bs s)] w fun e w' => e = .returned (.tuple #[.string (bs text), .int .i64 er]) ∧ Ext w w') :
    Calls Try.prog 27 #[.pointer (some ⟨r, 0, none⟩), .string (bs path), .int .u64 (ver : Int), .string (bs nonce), .string (bs s)] w fun e w' => e = .returned (.tuple #[.string (bs []), .int .i64 er]) ∧ Ext w w' := by
  have H1 := Lib.hid h1
  have hne : (er != 0) = true := by simpa using her
  clear h1 her
  go_enter Try.func27, Try.ntmps27
  go_wp2_with (go_at_call 22; with_reducible refine H1.out.mono ?_; rintro e w1 ⟨rfl, hx1⟩)
  go_returns
  exact ⟨rfl, hx1⟩
theorem heavy_more (more : List (List UInt8)) (am : Option Addr) (cm : Nat) (hml : more.length ≤ 8796093022208) (hmb : ∀ x ∈ more, x.length ≤ 140737488351232) :
    ∀ (W : World), Sl W (.slice am more.length cm) (more.map strV) → Calls Try.prog 12 #[.slice am more.length cm, .slice none 0 0] W fun e w' => e = .returned (.bool (heavyB more [])) ∧ W = w' := fun W hm =>
  heavy14 more [] am none cm 0 W hm (Sl.nil W) (by simp) hml hmb (by simp)
set_option maxRecDepth 100000 in
set_option maxHeartbeats 4000000 in
theorem back_let (keys : List (List UInt8)) (ad : Option Addr) (cp : Nat) (more : List (List UInt8)) (am : Option Addr) (cm : Nat) (path : List UInt8) (ver : Nat) (one two text : List UInt8) (w : World)
    (hk : Sl w (.slice ad keys.length cp) (keys.map strV)) (hkl : keys.length ≤ 8796093022208) (hkb : ∀ x ∈ keys, x.length ≤ 140737488351232) (hm : Sl w (.slice am more.length cm) (more.map strV)) (hml : more.length ≤ 8796093022208) (hmb : ∀ x ∈ more, x.length ≤ 140737488351232)
    (ha : path.length ≤ 140737488351232) (hb : one.length ≤ 140737488351232) (hc : two.length ≤ 140737488351232) (hd : text.length ≤ 140737488351232) (hv : U64 ver) (hh : heavyB keys [path, one, two, text] = true ∨ heavyB keys [path, one, two, text] = false ∧ heavyB more [] = true) :
    Calls Try.prog 6 #[.slice ad keys.length cp, .slice am more.length cm, .string (bs path), .int .u64 (ver : Int), .string (bs one), .string (bs two), .string (bs text)] w fun e w' => e = .returned (.bool true) ∧ Ext w w' := by
  have gh := heavy_call4 keys path one two text ad cp hkl hkb ha hb hc hd
  have gh2 := heavy_more more am cm hml hmb
  have HK := Lib.hid hk; have HM := Lib.hid hm
  have GW := Lib.hid works14
  rcases hh with hh | ⟨hh, hh2⟩
  · rw [hh] at gh
    have GH := Lib.hid gh
    clear gh gh2 hh hk hkl hkb hm hml hmb ha hb hc hd hv
    go_enter Try.func6, Try.ntmps6
    go_wp2_with (first
      | (go_at_call 12; refine (GH.out _ _ (HK.out.ext ((Ext.refl w).alloc _)) (heap_alloc_new w _)).mono ?_; rintro e w' ⟨rfl, rfl⟩)
      | (go_at_call 13; with_reducible refine (GW.out _).mono ?_; rintro e w1 ⟨rfl, hx1⟩))
    go_returns
    exact ⟨rfl, ((Ext.refl w).alloc _).trans hx1⟩
  · rw [hh] at gh
    rw [hh2] at gh2
    have GH := Lib.hid gh
    have GH2 := Lib.hid gh2
    clear gh gh2 hh hh2 hk hkl hkb hm hml hmb ha hb hc hd hv
    go_enter Try.func6, Try.ntmps6
    go_wp2_with (first
      | (go_at_call 12; with_reducible refine (GH2.out _ (HM.out.ext ((Ext.refl w).alloc _))).mono ?_; rintro e w' ⟨rfl, rfl⟩)
      | (go_at_call 12; refine (GH.out _ _ (HK.out.ext ((Ext.refl w).alloc _)) (heap_alloc_new w _)).mono ?_; rintro e w' ⟨rfl, rfl⟩)
      | (go_at_call 13; with_reducible refine (GW.out _).mono ?_; rintro e w1 ⟨rfl, hx1⟩))
    go_returns
    exact ⟨rfl, ((Ext.refl w).alloc _).trans hx1⟩
set_option maxRecDepth 100000 in
set_option maxHeartbeats 4000000 in
theorem back_same (keys : List (List UInt8)) (ad : Option Addr) (cp : Nat) (more : List (List UInt8)) (am : Option Addr) (cm : Nat) (path : List UInt8) (ver : Nat) (one two text : List UInt8) (w : World)
    (hk : Sl w (.slice ad keys.length cp) (keys.map strV)) (hkl : keys.length ≤ 8796093022208) (hkb : ∀ x ∈ keys, x.length ≤ 140737488351232) (hm : Sl w (.slice am more.length cm) (more.map strV)) (hml : more.length ≤ 8796093022208) (hmb : ∀ x ∈ more, x.length ≤ 140737488351232)
    (ha : path.length ≤ 140737488351232) (hb : one.length ≤ 140737488351232) (hc : two.length ≤ 140737488351232) (hd : text.length ≤ 140737488351232) (hv : U64 ver) (hh : heavyB keys [path, one, two, text] = false) (hh2 : heavyB more [] = false) (h0 : more.length = 0) :
    Calls Try.prog 6 #[.slice ad keys.length cp, .slice am more.length cm, .string (bs path), .int .u64 (ver : Int), .string (bs one), .string (bs two), .string (bs text)] w fun e w' => e = .returned (.bool true) ∧ Ext w w' := by
  have gh := heavy_call4 keys path one two text ad cp hkl hkb ha hb hc hd
  rw [hh] at gh
  have GH := Lib.hid gh
  have gh2 := heavy_more more am cm hml hmb
  rw [hh2] at gh2
  have GH2 := Lib.hid gh2
  have HK := Lib.hid hk; have HM := Lib.hid hm
  have GW := Lib.hid works14
  obtain ⟨h8, hsum⟩ := heavy_no hh
  obtain ⟨h8m, _⟩ := heavy_no hh2
  have hsz : path.length + one.length + two.length + text.length ≤ 1500 := by
    have : sumL [path, one, two, text] [path, one, two, text].length = path.length + (one.length + (two.length + text.length)) := by simp [sumL]
    omega
  have HMB := Lib.hid hmb
  have GR := Lib.hid (fun W hk => rings14 keys ad cp W hk h8 hkb)
  have G1 := Lib.hid (fun W => nonce14 one W hb)
  have G2 := Lib.hid (fun W => nonce14 two W hc)
  obtain ⟨_, key1, _, _, hkl1, hlk1⟩ := epsN_last keys keys.length
  obtain ⟨_, key2, _, _, hkl2, hlk2⟩ := epsN_last (keys ++ more) (keys.length + more.length)
  have hE1 : epsN (keys ++ more) keys.length = epsN keys keys.length := epsN_app keys more _ (Nat.le_refl _)
  have hlk12 : lookE (epsN (keys ++ more) (keys.length + more.length)) (keys.length + 1) = some key1 := epsN_keep _ _ (hE1 ▸ hlk1)
  have hn1 : (padTo 12 one).length = 12 := padTo_length 12 one
  have hn2 : (padTo 12 two).length = 12 := padTo_length 12 two
  have hep1 := ep_env key1 path (padTo 12 one) text (keys.length + 1) ver hn1 (by omega) (by omega)
  have hep2 := ep_env key2 path (padTo 12 two) text (keys.length + more.length + 1) ver hn2 (by omega) (by omega)
  have hop1 := open_close key1 path (padTo 12 one) text (keys.length + 1) ver hn1
  have hop2 := open_close key2 path (padTo 12 two) text (keys.length + more.length + 1) ver hn2
  have hSl : (envL key1 (keys.length + 1) (padTo 12 one) text ++ tagL key1 path ver (envL key1 (keys.length + 1) (padTo 12 one) text)).length = 49 + text.length := by rw [List.length_append, envL_length _ _ _ _ hn1, tagL_length]; omega
  have hUl : (envL key2 (keys.length + more.length + 1) (padTo 12 two) text ++ tagL key2 path ver (envL key2 (keys.length + more.length + 1) (padTo 12 two) text)).length = 49 + text.length := by rw [List.length_append, envL_length _ _ _ _ hn2, tagL_length]; omega
  have GC := Lib.hid (fun r m W h => Close_yes r m (epsN keys keys.length) (keys.length + 1) key1 path (padTo 12 one) text ver W h (by omega) (by omega) hlk1 (by omega) hv hn1 (by omega) (by omega))
  have GC2 := fun r m W h => Close_yes r m (epsN (keys ++ more) (keys.length + more.length)) (keys.length + more.length + 1) key2 path (padTo 12 two) text ver W h (by omega) (by omega) hlk2 (by omega) hv hn2 (by omega) (by omega)
  generalize hS0 : envL key1 (keys.length + 1) (padTo 12 one) text ++ tagL key1 path ver (envL key1 (keys.length + 1) (padTo 12 one) text) = S at *
  generalize hU0 : envL key2 (keys.length + more.length + 1) (padTo 12 two) text ++ tagL key2 path ver (envL key2 (keys.length + more.length + 1) (padTo 12 two) text) = U at *
  have GN1 := Lib.hid (fun r m W h => ring_Newest r m (epsN keys keys.length) (keys.length + 1) W h (by omega))
  have GN2 := Lib.hid (fun r m W h => ring_Newest r m (epsN (keys ++ more) (keys.length + more.length)) (keys.length + more.length + 1) W h (by omega))
  have GO1 : ∀ r m W, RingAt W r m (epsN (keys ++ more) (keys.length + more.length)) (keys.length + more.length + 1) → Calls Try.prog 22 #[.pointer (some ⟨r, 0, none⟩), .string (bs path), .int .u64 (ver : Int), .string (bs S)] W fun e w' => e = .returned (.tuple #[.string (bs text), .int .i64 0]) ∧ Ext W w' := fun r m W h => by
    have := Open_core r m _ _ (keys.length + 1) key1 path S ver W h (by omega) hep1 hlk12 (by omega) hv (by omega)
    rw [hop1] at this
    exact this
  have GO2 : Hid (∀ r m W, RingAt W r m (epsN (keys ++ more) (keys.length + more.length)) (keys.length + more.length + 1) → Calls Try.prog 22 #[.pointer (some ⟨r, 0, none⟩), .string (bs path), .int .u64 (ver : Int), .string (bs U)] W fun e w' => e = .returned (.tuple #[.string (bs text), .int .i64 0]) ∧ Ext W w') := Lib.hid fun r m W h => by
    have := Open_core r m _ _ (keys.length + more.length + 1) key2 path U ver W h (by omega) hep2 hlk2 (by omega) hv (by omega)
    rw [hop2] at this
    exact this
  have GA := Lib.hid (fun r m W h => Again_yes r path (padTo 12 two) S text U ver W (GO1 r m W h) (fun W' hx => GC2 r m W' (h.ext hx)))
  have GO1 := Lib.hid GO1
  have GE : Hid (∀ W, Calls Try.prog 18 #[.string (bs U)] W fun e w' => e = .returned (.tuple #[.int .u32 ((keys.length + more.length + 1 : Nat) : Int), .int .i64 0]) ∧ Ext W w') := Lib.hid fun W => by
    have := Epoch_any U W (by omega)
    rw [hep2] at this
    exact this
  have hUS : ((U.length : Int) != (S.length : Int)) = false := by simp; omega
  have hne : keys.length + more.length + 1 = keys.length + 1 := by omega
  have GRT := Lib.hid (fun r m W (h : RingAt W r m (epsN (keys ++ more) (keys.length + more.length)) (keys.length + more.length + 1)) => (hne ▸ ring_Retire_new r m _ _ W h (by omega) : Calls Try.prog 28 #[.pointer (some ⟨r, 0, none⟩), .int .u32 ((keys.length + 1 : Nat) : Int)] W fun e w' => e = .returned (.int .i64 2) ∧ W = w'))
  clear hne
  have HFULL := Lib.hid (fun W x (hx : x.length ≤ 140737488351232) => full13 x W hx)
  have HEL : Hid (∀ i, (epsN (keys ++ more) i).length = i + 1) := Lib.hid (epsN_length _)
  have HEN : Hid (∀ i, lookE (epsN (keys ++ more) i) (i + 2) = none) := Lib.hid fun i => epsN_new _ _ _ (by omega)
  have HES : Hid (∀ i (h : i < more.length), epsN (keys ++ more) (keys.length + i + 1) = epsN (keys ++ more) (keys.length + i) ++ [(keys.length + i + 2, padTo 32 more[i])]) := Lib.hid fun i h => by
    rw [epsN, show (keys ++ more).getD (keys.length + i) [] = more[i] by simp [List.getD, h]]
  have HE1 := Lib.hid hE1
  have H8 : Hid (keys.length ≤ 8 ∧ more.length ≤ 8) := Lib.hid ⟨h8, h8m⟩
  generalize hN1 : keys.length + 1 = n1 at *
  generalize hN2 : keys.length + more.length + 1 = n2 at *
  have HN1 := Lib.hid hN1
  have HN2 := Lib.hid hN2
  clear hN1 hN2
  generalize padTo 12 one = nn1 at *
  generalize padTo 12 two = nn2 at *
  clear hS0 hU0 hep1 hep2 hop1 hop2 hlk1 hlk2 hlk12 hE1 hkl1 hkl2 hSl hUl GC2 hn1 hn2 gh gh2 hh hh2 hsum hsz h8 h8m hk hkl hkb hm hml hmb ha hb hc hd hv
  clear h0
  go_enter Try.func6, Try.ntmps6
  go_upto_region 6 with (first
    | (go_at_call 12; with_reducible refine (GH2.out _ (HM.out.ext ((Ext.refl w).alloc _))).mono ?_; rintro e w' ⟨rfl, rfl⟩)
    | (go_at_call 12; refine (GH.out _ _ (HK.out.ext ((Ext.refl w).alloc _)) (heap_alloc_new w _)).mono ?_; rintro e w' ⟨rfl, rfl⟩)
    | (go_at_call 14; refine (GR.out _ (HK.out.ext ((Ext.refl w).alloc _))).mono ?_; rintro e w1 ⟨r, m, d, rfl, hri, _, hr0, hm0, hx1⟩; have HRI := Lib.hid hri; clear hri; have hs0 := ((Ext.refl w).alloc (.cells #[.string (bs path), .string (bs one), .string (bs two), .string (bs text)] 9)).size; have HR0 : Hid (w.heap.size ≤ r ∧ w.heap.size ≤ m) := Lib.hid ⟨Nat.le_trans hs0 hr0, Nat.le_trans hs0 hm0⟩; have HX := Lib.hid (((Ext.refl w).alloc (.cells #[.string (bs path), .string (bs one), .string (bs two), .string (bs text)] 9)).trans hx1); clear hs0 hr0 hm0; obtain ⟨w2, hw2⟩ : ∃ x, x = w1 := ⟨_, rfl⟩; rw [← hw2] at HRI HX ⊢; clear hw2 hx1; have HY := Lib.hid (Ext.refl w2)))
  go_upto_region 9 with (first
    | (go_at_call 15; with_reducible refine (G1.out _).mono ?_; rintro e w1 ⟨rfl, hx1⟩; have hq := HY.out.trans hx1; clear HY hx1; have HY := Lib.hid hq; clear hq)
    | (go_at_call 16; with_reducible refine (GC.out r m _ (HRI.out.ext HY.out)).mono ?_; rintro e w1 ⟨rfl, hx1⟩; have hq := HY.out.trans hx1; clear HY hx1; have HY := Lib.hid hq; clear hq)
    | (go_at_call 24; with_reducible refine (GN1.out r m _ (HRI.out.ext HY.out)).mono ?_; rintro e w' ⟨rfl, rfl⟩))
  obtain ⟨w3, hw3⟩ : ∃ x, x = w1 := ⟨_, rfl⟩
  rw [← hw3] at HY ⊢
  clear hw3
  have HRI3 := Lib.hid (HRI.out.ext HY.out)
  have HX3 := Lib.hid (HX.out.trans HY.out)
  clear HRI HX HY G1 GC GN1
  go_loopw [20] (fun i wr => ∃ k : Nat, k ≤ more.length ∧ i = .int .i64 k ∧ RingAt wr r m (epsN (keys ++ more) (keys.length + k)) (keys.length + k + 1) ∧ Ext w wr) (fun i _ => more.length - (intOf i).toNat)
  case atStart => exact ⟨0, by omega, rfl, by show RingAt _ r m (epsN (keys ++ more) keys.length) (keys.length + 1); rw [HE1.out, HN1.out]; exact HRI3.out, HX3.out⟩
  case round =>
    obtain ⟨k, hk, rfl, hri, hx⟩ := hrel
    have HRI := Lib.hid hri
    clear hri HRI3 HX3
    by_cases hlt : k < more.length
    · obtain ⟨b, o, hab, _, hcb⟩ := (HM.out.ext hx).str k hlt
      have hxb := HMB.out _ (List.getElem_mem hlt)
      have HN := Lib.hid (HES.out k hlt)
      have hEl := HEL.out (keys.length + k)
      have hEn := HEN.out (keys.length + k)
      have h8 := H8.out
      subst hab
      generalize more[k] = x at *
      have GF := Lib.hid (fun W => HFULL.out W x hxb)
      have hpl : (padTo 32 x).length = 32 := padTo_length 32 x
      generalize padTo 32 x = kx at *
      have GRR := Lib.hid (fun W (h : RingAt W r m (epsN (keys ++ more) (keys.length + k)) (keys.length + k + 1)) => ring_Rotate r m (epsN (keys ++ more) (keys.length + k)) (keys.length + k + 1) kx W h (by omega) hpl (by omega) (by omega) hEn)
      have hki : (k : Int) < (more.length : Int) := by omega
      have hk8 : (k : Int) < 8 := by omega
      have HL := Lib.hid hlt
      clear hxb hEl hEn h8 hpl hlt
      go_wp2_with (first
        | (go_at_call 26; with_reducible refine (GF.out _).mono ?_; rintro e w5 ⟨rfl, hx5⟩)
        | (go_at_call 25; with_reducible refine (GRR.out _ (HRI.out.ext hx5)).mono ?_; rintro e w6 ⟨rfl, hr6, hb6⟩; have HR6 := Lib.hid hr6; have HX6 : Hid (Ext w w6) := Lib.hid (But.ext (hx.trans hx5) hb6 (by have := HR0.out; simp; omega)); clear hr6 hb6))
      go_roundw
      case measure => simp [intOf]; have := HL.out; have := H8.out; omega
      case rel => exact ⟨k + 1, by have := HL.out; omega, by have := H8.out; have := HL.out; go_num, by rw [show keys.length + (k + 1) = keys.length + k + 1 by omega, HN.out]; exact HR6.out, HX6.out⟩
    · obtain rfl : k = more.length := by omega
      have hlt2 : decide ((more.length : Int) < (more.length : Int)) = false := by simp
      clear hlt hk HES HEN HEL HE1 HFULL
      have HY := Lib.hid (Ext.refl wr)
      have hri2 := HRI.out
      rw [HN2.out] at hri2
      clear HRI HN1 HN2
      have HRI := Lib.hid hri2
      clear hri2
      generalize epsN (keys ++ more) (keys.length + more.length) = E2 at *
      go_wp2_with (first
        | (go_at_call 22; with_reducible refine (GO1.out r m _ (HRI.out.ext HY.out)).mono ?_; rintro e w1 ⟨rfl, hx1⟩; have hq := HY.out.trans hx1; clear HY hx1; have HY := Lib.hid hq; clear hq)
        | (go_at_call 15; with_reducible refine (G2.out _).mono ?_; rintro e w1 ⟨rfl, hx1⟩; have hq := HY.out.trans hx1; clear HY hx1; have HY := Lib.hid hq; clear hq)
        | (go_at_call 27; with_reducible refine (GA.out r m _ (HRI.out.ext HY.out)).mono ?_; rintro e w1 ⟨rfl, hx1⟩; have hq := HY.out.trans hx1; clear HY hx1; have HY := Lib.hid hq; clear hq)
        | (go_at_call 18; with_reducible refine (GE.out _).mono ?_; rintro e w1 ⟨rfl, hx1⟩; have hq := HY.out.trans hx1; clear HY hx1; have HY := Lib.hid hq; clear hq)
        | (go_at_call 22; with_reducible refine (GO2.out r m _ (HRI.out.ext HY.out)).mono ?_; rintro e w1 ⟨rfl, hx1⟩; have hq := HY.out.trans hx1; clear HY hx1; have HY := Lib.hid hq; clear hq)
        | (go_at_call 24; with_reducible refine (GN2.out r m _ (HRI.out.ext HY.out)).mono ?_; rintro e w' ⟨rfl, rfl⟩)
        | (go_at_call 28; with_reducible refine (GRT.out r m _ (HRI.out.ext HY.out)).mono ?_; rintro e w' ⟨rfl, rfl⟩)
        | (go_at_call 13; with_reducible refine (GW.out _).mono ?_; rintro e w1 ⟨rfl, hx1⟩; have hq := HY.out.trans hx1; clear HY hx1; have HY := Lib.hid hq; clear hq))
      go_returns
      exact ⟨rfl, hx.trans HY.out⟩
set_option maxRecDepth 100000 in
set_option maxHeartbeats 4000000 in
theorem back_gone (keys : List (List UInt8)) (ad : Option Addr) (cp : Nat) (more : List (List UInt8)) (am : Option Addr) (cm : Nat) (path : List UInt8) (ver : Nat) (one two text : List UInt8) (w : World)
    (hk : Sl w (.slice ad keys.length cp) (keys.map strV)) (hkl : keys.length ≤ 8796093022208) (hkb : ∀ x ∈ keys, x.length ≤ 140737488351232) (hm : Sl w (.slice am more.length cm) (more.map strV)) (hml : more.length ≤ 8796093022208) (hmb : ∀ x ∈ more, x.length ≤ 140737488351232)
    (ha : path.length ≤ 140737488351232) (hb : one.length ≤ 140737488351232) (hc : two.length ≤ 140737488351232) (hd : text.length ≤ 140737488351232) (hv : U64 ver) (hh : heavyB keys [path, one, two, text] = false) (hh2 : heavyB more [] = false) (h0 : 0 < more.length) :
    Calls Try.prog 6 #[.slice ad keys.length cp, .slice am more.length cm, .string (bs path), .int .u64 (ver : Int), .string (bs one), .string (bs two), .string (bs text)] w fun e w' => e = .returned (.bool true) ∧ Ext w w' := by
  have gh := heavy_call4 keys path one two text ad cp hkl hkb ha hb hc hd
  rw [hh] at gh
  have GH := Lib.hid gh
  have gh2 := heavy_more more am cm hml hmb
  rw [hh2] at gh2
  have GH2 := Lib.hid gh2
  have HK := Lib.hid hk; have HM := Lib.hid hm
  have GW := Lib.hid works14
  obtain ⟨h8, hsum⟩ := heavy_no hh
  obtain ⟨h8m, _⟩ := heavy_no hh2
  have hsz : path.length + one.length + two.length + text.length ≤ 1500 := by
    have : sumL [path, one, two, text] [path, one, two, text].length = path.length + (one.length + (two.length + text.length)) := by simp [sumL]
    omega
  have HMB := Lib.hid hmb
  have GR := Lib.hid (fun W hk => rings14 keys ad cp W hk h8 hkb)
  have G1 := Lib.hid (fun W => nonce14 one W hb)
  have G2 := Lib.hid (fun W => nonce14 two W hc)
  obtain ⟨_, key1, _, _, hkl1, hlk1⟩ := epsN_last keys keys.length
  obtain ⟨_, key2, _, _, hkl2, hlk2⟩ := epsN_last (keys ++ more) (keys.length + more.length)
  have hE1 : epsN (keys ++ more) keys.length = epsN keys keys.length := epsN_app keys more _ (Nat.le_refl _)
  have hlk12 : lookE (epsN (keys ++ more) (keys.length + more.length)) (keys.length + 1) = some key1 := epsN_keep _ _ (hE1 ▸ hlk1)
  have hn1 : (padTo 12 one).length = 12 := padTo_length 12 one
  have hn2 : (padTo 12 two).length = 12 := padTo_length 12 two
  have hep1 := ep_env key1 path (padTo 12 one) text (keys.length + 1) ver hn1 (by omega) (by omega)
  have hep2 := ep_env key2 path (padTo 12 two) text (keys.length + more.length + 1) ver hn2 (by omega) (by omega)
  have hop1 := open_close key1 path (padTo 12 one) text (keys.length + 1) ver hn1
  have hop2 := open_close key2 path (padTo 12 two) text (keys.length + more.length + 1) ver hn2
  have hSl : (envL key1 (keys.length + 1) (padTo 12 one) text ++ tagL key1 path ver (envL key1 (keys.length + 1) (padTo 12 one) text)).length = 49 + text.length := by rw [List.length_append, envL_length _ _ _ _ hn1, tagL_length]; omega
  have hUl : (envL key2 (keys.length + more.length + 1) (padTo 12 two) text ++ tagL key2 path ver (envL key2 (keys.length + more.length + 1) (padTo 12 two) text)).length = 49 + text.length := by rw [List.length_append, envL_length _ _ _ _ hn2, tagL_length]; omega
  have GC := Lib.hid (fun r m W h => Close_yes r m (epsN keys keys.length) (keys.length + 1) key1 path (padTo 12 one) text ver W h (by omega) (by omega) hlk1 (by omega) hv hn1 (by omega) (by omega))
  have GC2 := fun r m W h => Close_yes r m (epsN (keys ++ more) (keys.length + more.length)) (keys.length + more.length + 1) key2 path (padTo 12 two) text ver W h (by omega) (by omega) hlk2 (by omega) hv hn2 (by omega) (by omega)
  generalize hS0 : envL key1 (keys.length + 1) (padTo 12 one) text ++ tagL key1 path ver (envL key1 (keys.length + 1) (padTo 12 one) text) = S at *
  generalize hU0 : envL key2 (keys.length + more.length + 1) (padTo 12 two) text ++ tagL key2 path ver (envL key2 (keys.length + more.length + 1) (padTo 12 two) text) = U at *
  have GN1 := Lib.hid (fun r m W h => ring_Newest r m (epsN keys keys.length) (keys.length + 1) W h (by omega))
  have GN2 := Lib.hid (fun r m W h => ring_Newest r m (epsN (keys ++ more) (keys.length + more.length)) (keys.length + more.length + 1) W h (by omega))
  have GO1 : ∀ r m W, RingAt W r m (epsN (keys ++ more) (keys.length + more.length)) (keys.length + more.length + 1) → Calls Try.prog 22 #[.pointer (some ⟨r, 0, none⟩), .string (bs path), .int .u64 (ver : Int), .string (bs S)] W fun e w' => e = .returned (.tuple #[.string (bs text), .int .i64 0]) ∧ Ext W w' := fun r m W h => by
    have := Open_core r m _ _ (keys.length + 1) key1 path S ver W h (by omega) hep1 hlk12 (by omega) hv (by omega)
    rw [hop1] at this
    exact this
  have GO2 : Hid (∀ r m W, RingAt W r m (epsN (keys ++ more) (keys.length + more.length)) (keys.length + more.length + 1) → Calls Try.prog 22 #[.pointer (some ⟨r, 0, none⟩), .string (bs path), .int .u64 (ver : Int), .string (bs U)] W fun e w' => e = .returned (.tuple #[.string (bs text), .int .i64 0]) ∧ Ext W w') := Lib.hid fun r m W h => by
    have := Open_core r m _ _ (keys.length + more.length + 1) key2 path U ver W h (by omega) hep2 hlk2 (by omega) hv (by omega)
    rw [hop2] at this
    exact this
  have GA := Lib.hid (fun r m W h => Again_yes r path (padTo 12 two) S text U ver W (GO1 r m W h) (fun W' hx => GC2 r m W' (h.ext hx)))
  have GO1 := Lib.hid GO1
  have GE : Hid (∀ W, Calls Try.prog 18 #[.string (bs U)] W fun e w' => e = .returned (.tuple #[.int .u32 ((keys.length + more.length + 1 : Nat) : Int), .int .i64 0]) ∧ Ext W w') := Lib.hid fun W => by
    have := Epoch_any U W (by omega)
    rw [hep2] at this
    exact this
  have hUS : ((U.length : Int) != (S.length : Int)) = false := by simp; omega
  have hne : keys.length + 1 ≠ keys.length + more.length + 1 := by omega
  have GRT := Lib.hid (fun r m W (h : RingAt W r m (epsN (keys ++ more) (keys.length + more.length)) (keys.length + more.length + 1)) => ring_Retire r m _ _ (keys.length + 1) W h (by omega) hne hlk12)
  have hgone := lookE_gone_self (asc_epsN (keys ++ more) (keys.length + more.length)) (keys.length + 1)
  have hstay := lookE_gone_ne (epsN (keys ++ more) (keys.length + more.length)) (keys.length + 1) (keys.length + more.length + 1) (Ne.symm hne)
  rw [hlk2] at hstay
  have GO3 := fun r m W h => Open_none r m (goneE (epsN (keys ++ more) (keys.length + more.length)) (keys.length + 1)) (keys.length + more.length + 1) (keys.length + 1) path S ver W h (by omega) (by omega) hep1 hgone (by omega)
  have GA3 := Lib.hid (fun r m W h => Again_no r path (padTo 12 two) S [] ver 140 W (by omega) (GO3 r m W h))
  have GO3 := Lib.hid GO3
  have GO4 : Hid (∀ r m W, RingAt W r m (goneE (epsN (keys ++ more) (keys.length + more.length)) (keys.length + 1)) (keys.length + more.length + 1) → Calls Try.prog 22 #[.pointer (some ⟨r, 0, none⟩), .string (bs path), .int .u64 (ver : Int), .string (bs U)] W fun e w' => e = .returned (.tuple #[.string (bs text), .int .i64 0]) ∧ Ext W w') := Lib.hid fun r m W h => by
    have := Open_core r m _ _ (keys.length + more.length + 1) key2 path U ver W h (by omega) hep2 hstay (by omega) hv (by omega)
    rw [hop2] at this
    exact this
  generalize goneE (epsN (keys ++ more) (keys.length + more.length)) (keys.length + 1) = E3 at *
  clear hne hgone hstay
  have HFULL := Lib.hid (fun W x (hx : x.length ≤ 140737488351232) => full13 x W hx)
  have HEL : Hid (∀ i, (epsN (keys ++ more) i).length = i + 1) := Lib.hid (epsN_length _)
  have HEN : Hid (∀ i, lookE (epsN (keys ++ more) i) (i + 2) = none) := Lib.hid fun i => epsN_new _ _ _ (by omega)
  have HES : Hid (∀ i (h : i < more.length), epsN (keys ++ more) (keys.length + i + 1) = epsN (keys ++ more) (keys.length + i) ++ [(keys.length + i + 2, padTo 32 more[i])]) := Lib.hid fun i h => by
    rw [epsN, show (keys ++ more).getD (keys.length + i) [] = more[i] by simp [List.getD, h]]
  have HE1 := Lib.hid hE1
  have H8 : Hid (keys.length ≤ 8 ∧ more.length ≤ 8) := Lib.hid ⟨h8, h8m⟩
  generalize hN1 : keys.length + 1 = n1 at *
  generalize hN2 : keys.length + more.length + 1 = n2 at *
  have HN1 := Lib.hid hN1
  have HN2 := Lib.hid hN2
  clear hN1 hN2
  generalize padTo 12 one = nn1 at *
  generalize padTo 12 two = nn2 at *
  clear hS0 hU0 hep1 hep2 hop1 hop2 hlk1 hlk2 hlk12 hE1 hkl1 hkl2 hSl hUl GC2 hn1 hn2 gh gh2 hh hh2 hsum hsz h8 h8m hk hkl hkb hm hml hmb ha hb hc hd hv
  clear h0
  go_enter Try.func6, Try.ntmps6
  go_upto_region 6 with (first
    | (go_at_call 12; with_reducible refine (GH2.out _ (HM.out.ext ((Ext.refl w).alloc _))).mono ?_; rintro e w' ⟨rfl, rfl⟩)
    | (go_at_call 12; refine (GH.out _ _ (HK.out.ext ((Ext.refl w).alloc _)) (heap_alloc_new w _)).mono ?_; rintro e w' ⟨rfl, rfl⟩)
    | (go_at_call 14; refine (GR.out _ (HK.out.ext ((Ext.refl w).alloc _))).mono ?_; rintro e w1 ⟨r, m, d, rfl, hri, _, hr0, hm0, hx1⟩; have HRI := Lib.hid hri; clear hri; have hs0 := ((Ext.refl w).alloc (.cells #[.string (bs path), .string (bs one), .string (bs two), .string (bs text)] 9)).size; have HR0 : Hid (w.heap.size ≤ r ∧ w.heap.size ≤ m) := Lib.hid ⟨Nat.le_trans hs0 hr0, Nat.le_trans hs0 hm0⟩; have HX := Lib.hid (((Ext.refl w).alloc (.cells #[.string (bs path), .string (bs one), .string (bs two), .string (bs text)] 9)).trans hx1); clear hs0 hr0 hm0; obtain ⟨w2, hw2⟩ : ∃ x, x = w1 := ⟨_, rfl⟩; rw [← hw2] at HRI HX ⊢; clear hw2 hx1; have HY := Lib.hid (Ext.refl w2)))
  go_upto_region 9 with (first
    | (go_at_call 15; with_reducible refine (G1.out _).mono ?_; rintro e w1 ⟨rfl, hx1⟩; have hq := HY.out.trans hx1; clear HY hx1; have HY := Lib.hid hq; clear hq)
    | (go_at_call 16; with_reducible refine (GC.out r m _ (HRI.out.ext HY.out)).mono ?_; rintro e w1 ⟨rfl, hx1⟩; have hq := HY.out.trans hx1; clear HY hx1; have HY := Lib.hid hq; clear hq)
    | (go_at_call 24; with_reducible refine (GN1.out r m _ (HRI.out.ext HY.out)).mono ?_; rintro e w' ⟨rfl, rfl⟩))
  obtain ⟨w3, hw3⟩ : ∃ x, x = w1 := ⟨_, rfl⟩
  rw [← hw3] at HY ⊢
  clear hw3
  have HRI3 := Lib.hid (HRI.out.ext HY.out)
  have HX3 := Lib.hid (HX.out.trans HY.out)
  clear HRI HX HY G1 GC GN1
  go_loopw [20] (fun i wr => ∃ k : Nat, k ≤ more.length ∧ i = .int .i64 k ∧ RingAt wr r m (epsN (keys ++ more) (keys.length + k)) (keys.length + k + 1) ∧ Ext w wr) (fun i _ => more.length - (intOf i).toNat)
  case atStart => exact ⟨0, by omega, rfl, by show RingAt _ r m (epsN (keys ++ more) keys.length) (keys.length + 1); rw [HE1.out, HN1.out]; exact HRI3.out, HX3.out⟩
  case round =>
    obtain ⟨k, hk, rfl, hri, hx⟩ := hrel
    have HRI := Lib.hid hri
    clear hri HRI3 HX3
    by_cases hlt : k < more.length
    · obtain ⟨b, o, hab, _, hcb⟩ := (HM.out.ext hx).str k hlt
      have hxb := HMB.out _ (List.getElem_mem hlt)
      have HN := Lib.hid (HES.out k hlt)
      have hEl := HEL.out (keys.length + k)
      have hEn := HEN.out (keys.length + k)
      have h8 := H8.out
      subst hab
      generalize more[k] = x at *
      have GF := Lib.hid (fun W => HFULL.out W x hxb)
      have hpl : (padTo 32 x).length = 32 := padTo_length 32 x
      generalize padTo 32 x = kx at *
      have GRR := Lib.hid (fun W (h : RingAt W r m (epsN (keys ++ more) (keys.length + k)) (keys.length + k + 1)) => ring_Rotate r m (epsN (keys ++ more) (keys.length + k)) (keys.length + k + 1) kx W h (by omega) hpl (by omega) (by omega) hEn)
      have hki : (k : Int) < (more.length : Int) := by omega
      have hk8 : (k : Int) < 8 := by omega
      have HL := Lib.hid hlt
      clear hxb hEl hEn h8 hpl hlt
      go_wp2_with (first
        | (go_at_call 26; with_reducible refine (GF.out _).mono ?_; rintro e w5 ⟨rfl, hx5⟩)
        | (go_at_call 25; with_reducible refine (GRR.out _ (HRI.out.ext hx5)).mono ?_; rintro e w6 ⟨rfl, hr6, hb6⟩; have HR6 := Lib.hid hr6; have HX6 : Hid (Ext w w6) := Lib.hid (But.ext (hx.trans hx5) hb6 (by have := HR0.out; simp; omega)); clear hr6 hb6))
      go_roundw
      case measure => simp [intOf]; have := HL.out; have := H8.out; omega
      case rel => exact ⟨k + 1, by have := HL.out; omega, by have := H8.out; have := HL.out; go_num, by rw [show keys.length + (k + 1) = keys.length + k + 1 by omega, HN.out]; exact HR6.out, HX6.out⟩
    · obtain rfl : k = more.length := by omega
      have hlt2 : decide ((more.length : Int) < (more.length : Int)) = false := by simp
      clear hlt hk HES HEN HEL HE1 HFULL
      have HY := Lib.hid (Ext.refl wr)
      have hri2 := HRI.out
      rw [HN2.out] at hri2
      clear HRI HN1 HN2
      have HRI := Lib.hid hri2
      clear hri2
      generalize epsN (keys ++ more) (keys.length + more.length) = E2 at *
      go_upto_region 19 with (first
        | (go_at_call 22; with_reducible refine (GO1.out r m _ (HRI.out.ext HY.out)).mono ?_; rintro e w1 ⟨rfl, hx1⟩; have hq := HY.out.trans hx1; clear HY hx1; have HY := Lib.hid hq; clear hq)
        | (go_at_call 15; with_reducible refine (G2.out _).mono ?_; rintro e w1 ⟨rfl, hx1⟩; have hq := HY.out.trans hx1; clear HY hx1; have HY := Lib.hid hq; clear hq)
        | (go_at_call 27; with_reducible refine (GA.out r m _ (HRI.out.ext HY.out)).mono ?_; rintro e w1 ⟨rfl, hx1⟩; have hq := HY.out.trans hx1; clear HY hx1; have HY := Lib.hid hq; clear hq)
        | (go_at_call 18; with_reducible refine (GE.out _).mono ?_; rintro e w1 ⟨rfl, hx1⟩; have hq := HY.out.trans hx1; clear HY hx1; have HY := Lib.hid hq; clear hq)
        | (go_at_call 22; with_reducible refine (GO2.out r m _ (HRI.out.ext HY.out)).mono ?_; rintro e w1 ⟨rfl, hx1⟩; have hq := HY.out.trans hx1; clear HY hx1; have HY := Lib.hid hq; clear hq)
        | (go_at_call 24; with_reducible refine (GN2.out r m _ (HRI.out.ext HY.out)).mono ?_; rintro e w' ⟨rfl, rfl⟩)
        | (go_at_call 28; with_reducible refine (GRT.out r m _ (HRI.out.ext HY.out)).mono ?_; rintro e w6 ⟨rfl, hr6, hb6⟩; have HR6 := Lib.hid hr6; have HX6 : Hid (Ext w w6) := Lib.hid (But.ext (hx.trans HY.out) hb6 (by have := HR0.out; simp; omega)); clear hr6 hb6 HY; have HY := Lib.hid (Ext.refl w6)))
      clear GO1 GA GO2 GE GN2
      go_wp2_with (first
        | (go_at_call 22; with_reducible refine (GO3.out r m _ (HR6.out.ext HY.out)).mono ?_; rintro e w1 ⟨rfl, hx1⟩; have hq := HY.out.trans hx1; clear HY hx1; have HY := Lib.hid hq; clear hq)
        | (go_at_call 15; with_reducible refine (G2.out _).mono ?_; rintro e w1 ⟨rfl, hx1⟩; have hq := HY.out.trans hx1; clear HY hx1; have HY := Lib.hid hq; clear hq)
        | (go_at_call 27; with_reducible refine (GA3.out r m _ (HR6.out.ext HY.out)).mono ?_; rintro e w1 ⟨rfl, hx1⟩; have hq := HY.out.trans hx1; clear HY hx1; have HY := Lib.hid hq; clear hq)
        | (go_at_call 22; with_reducible refine (GO4.out r m _ (HR6.out.ext HY.out)).mono ?_; rintro e w1 ⟨rfl, hx1⟩; have hq := HY.out.trans hx1; clear HY hx1; have HY := Lib.hid hq; clear hq)
        | (go_at_call 13; with_reducible refine (GW.out _).mono ?_; rintro e w1 ⟨rfl, hx1⟩; have hq := HY.out.trans hx1; clear HY hx1; have HY := Lib.hid hq; clear hq))
      go_returns
      exact ⟨rfl, HX6.out.trans HY.out⟩
theorem law_SealBack (w : World) (keys : List (List UInt8)) (ad : Option Addr) (cp : Nat) (more : List (List UInt8)) (am : Option Addr) (cm : Nat) (path : List UInt8) (ver : Nat) (one two text : List UInt8)
    (hkl : keys.length ≤ 8796093022208) (hkb : ∀ x ∈ keys, x.length ≤ 140737488351232) (hk : Sl w (.slice ad keys.length cp) (keys.map strV)) (hml : more.length ≤ 8796093022208) (hmb : ∀ x ∈ more, x.length ≤ 140737488351232) (hm : Sl w (.slice am more.length cm) (more.map strV))
    (ha : path.length ≤ 140737488351232) (hv : U64 ver) (hb : one.length ≤ 140737488351232) (hc : two.length ≤ 140737488351232) (hd : text.length ≤ 140737488351232) :
    Calls Try.prog 6 #[.slice ad keys.length cp, .slice am more.length cm, .string (bs path), .int .u64 (ver : Int), .string (bs one), .string (bs two), .string (bs text)] w fun e w' => e = .returned (.bool true) ∧ Ext w w' := by
  cases hh : heavyB keys [path, one, two, text]
  · cases hh2 : heavyB more []
    · by_cases h0 : more.length = 0
      · exact back_same keys ad cp more am cm path ver one two text w hk hkl hkb hm hml hmb ha hb hc hd hv hh hh2 h0
      · exact back_gone keys ad cp more am cm path ver one two text w hk hkl hkb hm hml hmb ha hb hc hd hv hh hh2 (by omega)
    · exact back_let keys ad cp more am cm path ver one two text w hk hkl hkb hm hml hmb ha hb hc hd hv (.inr ⟨hh, hh2⟩)
  · exact back_let keys ad cp more am cm path ver one two text w hk hkl hkb hm hml hmb ha hb hc hd hv (.inl hh)
end Go.Proofs.Ytbacamepmilmhaa
