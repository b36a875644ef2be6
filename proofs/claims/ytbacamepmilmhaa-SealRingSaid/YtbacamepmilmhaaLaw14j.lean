/- The statements of layer 14: SealRing. -/
import Derived.Test.YtbacamepmilmhaaLaw14g
import Derived.Test.YtbacamepmilmhaaLaw13e
set_option linter.unusedVariables false
namespace Go.Proofs.Ytbacamepmilmhaa
open Go Go.RowKit

theorem ri_epsN (keys : List (List UInt8)) (k : Nat) (hk : k ≤ 63) : RI (epsN keys k) (k + 1) := by
  obtain ⟨E0, key, h, _, _, _⟩ := epsN_last keys k
  exact ⟨asc_epsN keys k, ⟨E0, key, h⟩, by rw [epsN_length]; omega, epsN_key keys k, Nat.succ_pos _⟩
theorem pos_epsN (keys : List (List UInt8)) : ∀ k, PosE (epsN keys k)
  | 0 => pos_one _
  | k + 1 => (pos_epsN keys k).rot (k + 1) _
section
variable {w0 : World} {r m n r2 m2 r3 m3 n2 : Nat} {E E2 : Eps}
theorem trRet (hI : RI E n) (ep : Nat) (he : ep ≠ n) {s : List UInt8} (hs : lookE E ep = some s) (h2 : r2 ≠ r ∧ r2 ≠ m ∧ m2 ≠ r ∧ m2 ≠ m) (h3 : r3 ≠ r ∧ r3 ≠ m ∧ m3 ≠ r ∧ m3 ≠ m) (W : World) (h : TR w0 r m E n r2 m2 r3 m3 E2 n2 W) :
    Calls Try.prog 28 #[.pointer (some ⟨r, 0, none⟩), .int .u32 (ep : Int)] W fun e w' => e = .returned (.int .i64 0) ∧ TR w0 r m (goneE E ep) n r2 m2 r3 m3 E2 n2 w' := by
  refine (ring_Retire r m E n ep W h.one.ring hI.pos he hs).mono ?_
  rintro e w' ⟨rfl, h1, hb⟩
  exact ⟨rfl, h.one.put h1 (but_pair hb), h.two.but (but_pair hb) h2, h.three.but (but_pair hb) h3⟩
theorem trW14 (W : World) (h : TR w0 r m E n r2 m2 r3 m3 E2 n2 W) : Calls Try.prog 13 #[] W fun e w' => e = .returned (.bool true) ∧ Ext w0 w' :=
  (works14 W).mono fun _ _ ⟨he, hx⟩ => ⟨he, h.one.ext.trans hx⟩
theorem trNo (s : List UInt8) (hs : s.length ≤ 140737488351232) (W : World) (h : TR w0 r m E n r2 m2 r3 m3 E2 n2 W) : Calls Try.prog 15 #[.string (bs s)] W fun e w' => e = .returned (.string (bs (padTo 12 s))) ∧ TR w0 r m E n r2 m2 r3 m3 E2 n2 w' :=
  (nonce14 s W hs).mono fun _ _ ⟨he, hx⟩ => ⟨he, h.next hx⟩
theorem trCl2 (hn : 0 < n2) (hn32 : n2 < 4294967296) (key path nonce text : List UInt8) (ver : Nat) (hs : lookE E2 n2 = some key) (hkl : key.length ≤ 1099511627776) (hv : U64 ver) (hno : nonce.length = 12) (hp : path.length ≤ 1048576) (ht : text.length ≤ 1048576) (W : World) (h : TR w0 r m E n r2 m2 r3 m3 E2 n2 W) :
    Calls Try.prog 16 #[.pointer (some ⟨r2, 0, none⟩), .string (bs path), .int .u64 (ver : Int), .string (bs nonce), .string (bs text)] W fun e w' => e = .returned (.tuple #[.string (bs (envL key n2 nonce text ++ tagL key path ver (envL key n2 nonce text))), .int .i64 0]) ∧ TR w0 r m E n r2 m2 r3 m3 E2 n2 w' :=
  (Close_yes r2 m2 E2 n2 key path nonce text ver W h.two hn hn32 hs hkl hv hno hp ht).mono fun _ _ ⟨he, hx⟩ => ⟨he, h.next hx⟩
theorem trOp2 (hn : 0 < n2) (hn32 : n2 < 4294967296) (key path nonce text : List UInt8) (ver : Nat) (hs : lookE E2 n2 = some key) (hkl : key.length ≤ 1099511627776) (hv : U64 ver) (hno : nonce.length = 12) (hp : path.length ≤ 1048576) (ht : text.length ≤ 1048576) (W : World) (h : TR w0 r m E n r2 m2 r3 m3 E2 n2 W) :
    Calls Try.prog 22 #[.pointer (some ⟨r2, 0, none⟩), .string (bs path), .int .u64 (ver : Int), .string (bs (envL key n2 nonce text ++ tagL key path ver (envL key n2 nonce text)))] W fun e w' => e = .returned (.tuple #[.string (bs text), .int .i64 0]) ∧ TR w0 r m E n r2 m2 r3 m3 E2 n2 w' := by
  have := Open_core r2 m2 E2 n2 n2 key path (envL key n2 nonce text ++ tagL key path ver (envL key n2 nonce text)) ver W h.two hn (ep_env key path nonce text n2 ver hno hn32 ht) hs hkl hv hp
  rw [open_close key path nonce text n2 ver hno] at this
  exact this.mono fun _ _ ⟨he, hx⟩ => ⟨he, h.next hx⟩
theorem trCl3 (hn : 0 < n2) (hn32 : n2 < 4294967296) (key path nonce text : List UInt8) (ver : Nat) (hs : lookE E2 n2 = some key) (hkl : key.length ≤ 1099511627776) (hv : U64 ver) (hno : nonce.length = 12) (hp : path.length ≤ 1048576) (ht : text.length ≤ 1048576) (W : World) (h : TR w0 r m E n r2 m2 r3 m3 E2 n2 W) :
    Calls Try.prog 16 #[.pointer (some ⟨r3, 0, none⟩), .string (bs path), .int .u64 (ver : Int), .string (bs nonce), .string (bs text)] W fun e w' => e = .returned (.tuple #[.string (bs (envL key n2 nonce text ++ tagL key path ver (envL key n2 nonce text))), .int .i64 0]) ∧ TR w0 r m E n r2 m2 r3 m3 E2 n2 w' :=
  (Close_yes r3 m3 E2 n2 key path nonce text ver W h.three hn hn32 hs hkl hv hno hp ht).mono fun _ _ ⟨he, hx⟩ => ⟨he, h.next hx⟩
theorem trOp3 (hn : 0 < n2) (hn32 : n2 < 4294967296) (key path nonce text : List UInt8) (ver : Nat) (hs : lookE E2 n2 = some key) (hkl : key.length ≤ 1099511627776) (hv : U64 ver) (hno : nonce.length = 12) (hp : path.length ≤ 1048576) (ht : text.length ≤ 1048576) (W : World) (h : TR w0 r m E n r2 m2 r3 m3 E2 n2 W) :
    Calls Try.prog 22 #[.pointer (some ⟨r3, 0, none⟩), .string (bs path), .int .u64 (ver : Int), .string (bs (envL key n2 nonce text ++ tagL key path ver (envL key n2 nonce text)))] W fun e w' => e = .returned (.tuple #[.string (bs text), .int .i64 0]) ∧ TR w0 r m E n r2 m2 r3 m3 E2 n2 w' := by
  have := Open_core r3 m3 E2 n2 n2 key path (envL key n2 nonce text ++ tagL key path ver (envL key n2 nonce text)) ver W h.three hn (ep_env key path nonce text n2 ver hno hn32 ht) hs hkl hv hp
  rw [open_close key path nonce text n2 ver hno] at this
  exact this.mono fun _ _ ⟨he, hx⟩ => ⟨he, h.next hx⟩
end
set_option maxRecDepth 100000 in
set_option maxHeartbeats 8000000 in
theorem law_SealRing (w : World) (keys : List (List UInt8)) (ad : Option Addr) (cp : Nat) (path : List UInt8) (ver : Nat) (n a b : List UInt8)
    (hkl : keys.length ≤ 8796093022208) (hkb : ∀ x ∈ keys, x.length ≤ 140737488351232) (hk : Sl w (.slice ad keys.length cp) (keys.map strV)) (ha : path.length ≤ 140737488351232) (hv : U64 ver) (hb : n.length ≤ 140737488351232) (hc : a.length ≤ 140737488351232) (hd : b.length ≤ 140737488351232) :
    Calls Try.prog 11 #[.slice ad keys.length cp, .string (bs path), .int .u64 (ver : Int), .string (bs n), .string (bs a), .string (bs b)] w fun e w' => e = .returned (.bool true) ∧ Ext w w' := by
  have GW := Lib.hid works14
  have HK := Lib.hid hk
  have gh := heavy_call4 keys path n a b ad cp hkl hkb ha hb hc hd
  cases hh : heavyB keys [path, n, a, b]
  case true =>
    rw [hh] at gh
    have GH := Lib.hid gh
    clear gh hh hk hkl hkb ha hv hb hc hd
    go_enter Try.func11, Try.ntmps11
    go_wp2_with (first
      | (go_at_call 12; refine (GH.out _ _ (HK.out.ext ((Ext.refl w).alloc _)) (heap_alloc_new w _)).mono ?_; rintro e w' ⟨rfl, rfl⟩)
      | (go_at_call 13; with_reducible refine (GW.out _).mono ?_; rintro e w1 ⟨rfl, hx1⟩))
    go_returns
    exact ⟨rfl, ((Ext.refl w).alloc _).trans hx1⟩
  case false =>
  rw [hh] at gh
  have GH := Lib.hid gh
  obtain ⟨h8, hsum⟩ := heavy_no hh
  have hsz : path.length + n.length + a.length + b.length ≤ 1500 := by
    have : sumL [path, n, a, b] [path, n, a, b].length = path.length + (n.length + (a.length + b.length)) := by simp [sumL]
    omega
  have GR := Lib.hid (fun W hk => rings14 keys ad cp W hk h8 hkb)
  have GNO := Lib.hid (fun W => nonce14 n W hb)
  have GFU := Lib.hid (fun W => full13 b W hd)
  obtain ⟨E0, key, hE, hEl, hkey, hlk⟩ := epsN_last keys keys.length
  have hnn : (padTo 12 n).length = 12 := padTo_length 12 n
  have hoo : (padTo 32 b).length = 32 := padTo_length 32 b
  have hI := ri_epsN keys keys.length (by omega)
  have hP := pos_epsN keys keys.length
  have hEL : (epsN keys keys.length).length < 64 := by rw [epsN_length]; omega
  obtain ⟨K, hK⟩ : ∃ K, keys.length + 1 = K := ⟨_, rfl⟩
  have hK32 : K < 4294967294 := by omega
  have hp1 : path.length ≤ 1048576 := by omega
  have ht1 : a.length ≤ 1048576 := by omega
  have hkl2 : key.length ≤ 1099511627776 := by omega
  rw [hK] at hI hlk hE
  rw [hK] at GR
  generalize padTo 12 n = nn at *
  generalize padTo 32 b = oo at *
  generalize epsN keys keys.length = E at *
  clear hsz hsum hc hd hkl h8 hEl hE hkb hk gh hh hb ha hK hkey
  have GCA := Lib.hid (fun r m W h => Close_yes r m E K key path nn a ver W h hI.pos (by omega) hlk hkl2 hv hnn hp1 ht1)
  have GBr := Lib.hid (fun (r m : Nat) (W : World) (h : RX w r m E K W) => ring_Bytes r m E K W h.ring hI (by omega))
  have GRD := Lib.hid (fun (W : World) => read_back E K W hI hP (by omega))
  have GCP := Lib.hid (fun (r m : Nat) (W : World) (h : RX w r m E K W) => ring_Copy r m E K W h.ring hI.pos)
  obtain ⟨S, hS⟩ : ∃ S, envL key K nn a ++ tagL key path ver (envL key K nn a) = S := ⟨_, rfl⟩
  obtain ⟨BY, hBY⟩ : ∃ x, bytesE E = x := ⟨_, rfl⟩
  rw [hS] at GCA
  rw [hBY] at GBr GRD
  have HS := Lib.hid hS
  have HI := Lib.hid hI
  have HKY := Lib.hid (And.intro hK32 (And.intro hlk (And.intro hkl2 (And.intro hv (And.intro hnn (And.intro hp1 (And.intro ht1 (And.intro hoo hEL))))))))
  clear hS hBY hI hP hlk hkl2 hv hnn hp1 ht1 hoo hEL hK32
  go_enter Try.func11, Try.ntmps11
  go_upto_region 6 with (first
    | (go_at_call 12; refine (GH.out _ _ (HK.out.ext ((Ext.refl w).alloc _)) (heap_alloc_new w _)).mono ?_; rintro e w' ⟨rfl, rfl⟩)
    | (go_at_call 14; refine (GR.out _ (HK.out.ext ((Ext.refl w).alloc _))).mono ?_; rintro e w1 ⟨r, m, d, rfl, hri, _, hr, hm, hx1⟩; have HX : Hid (RX w r m E K w1) := Lib.hid ⟨hri, ((Ext.refl w).alloc _).trans hx1, by have := ((Ext.refl w).alloc (.cells #[.string (bs path), .string (bs n), .string (bs a), .string (bs b)] 9)).size; omega, by have := ((Ext.refl w).alloc (.cells #[.string (bs path), .string (bs n), .string (bs a), .string (bs b)] 9)).size; omega⟩; clear hri hr hm hx1))
  go_upto_region 9 with (first
    | (go_at_call 15; with_reducible refine (GNO.out _).mono ?_; rintro e w2 ⟨rfl, hx1⟩; have h1 := HX.out.next hx1; clear HX hx1; have HX := Lib.hid h1; clear h1)
    | (go_at_call 16; with_reducible refine (GCA.out r m _ HX.out.ring).mono ?_; rintro e w2 ⟨rfl, hx1⟩; have h1 := HX.out.next hx1; clear HX hx1; have HX := Lib.hid h1; clear h1)
    | (go_at_call 42; (with_reducible refine (GBr.out r m _ HX.out).mono ?_); rintro e w2 ⟨rfl, hx1⟩; have h1 := HX.out.next hx1; clear HX hx1; have HX := Lib.hid h1; clear h1)
    | (go_at_call 40; (with_reducible refine (GRD.out _).mono ?_); rintro e w2 ⟨r2, m2, rfl, hR2, hr2, hm2, hx2⟩; have HN2 : Hid (r2 ≠ r ∧ r2 ≠ m ∧ m2 ≠ r ∧ m2 ≠ m) := Lib.hid (by have := HX.out.ring.lt; omega); have h1 := HX.out.next hx2; clear HX; have HX := Lib.hid h1; have HC2 := Lib.hid hR2; clear h1 hR2 hr2 hm2 hx2)
    | (go_at_call 43; (with_reducible refine (GCP.out r m _ HX.out).mono ?_); rintro e w3 ⟨r3, m3, rfl, hR3, hr3, hm3, hx3⟩; have HT : Hid (TR w r m E K r2 m2 r3 m3 E K w3) := Lib.hid ⟨HX.out.next hx3, HC2.out.ext hx3, hR3⟩; have HN3 : Hid (r3 ≠ r ∧ r3 ≠ m ∧ m3 ≠ r ∧ m3 ≠ m) := Lib.hid (by have := HX.out.ring.lt; omega); clear hR3 hr3 hm3 hx3))
  clear HX HC2 GBr GRD GCP GCA GR GH HK
  obtain ⟨hK32, hlk, hkl2, hv, hnn, hp1, ht1, hoo, hEL⟩ := HKY.out
  have HI2 := HI.out.rot (key := oo) hEL hoo
  have GN := Lib.hid (trN1 (w0 := w) (r := r) (m := m) (E := E) (n := K) (r2 := r2) (m2 := m2) (r3 := r3) (m3 := m3) (E2 := E) (n2 := K) HI.out)
  have GRT := Lib.hid (trRot (w0 := w) (r := r) (m := m) (E := E) (n := K) (r2 := r2) (m2 := m2) (r3 := r3) (m3 := m3) (E2 := E) (n2 := K) HI.out hEL (by omega) oo hoo HN2.out HN3.out)
  have GRE := Lib.hid (trRet (w0 := w) (r := r) (m := m) (E := (E ++ [(K + 1, oo)])) (n := (K + 1)) (r2 := r2) (m2 := m2) (r3 := r3) (m3 := m3) (E2 := E) (n2 := K) HI2 K (by omega) (lookE_left hlk) HN2.out HN3.out)
  have GO2 := Lib.hid (trOp2 (w0 := w) (r := r) (m := m) (E := (goneE (E ++ [(K + 1, oo)]) K)) (n := (K + 1)) (r2 := r2) (m2 := m2) (r3 := r3) (m3 := m3) (E2 := E) (n2 := K) HI.out.pos (by omega) key path nn a ver hlk hkl2 hv hnn hp1 ht1)
  have GO3 := Lib.hid (trOp3 (w0 := w) (r := r) (m := m) (E := (goneE (E ++ [(K + 1, oo)]) K)) (n := (K + 1)) (r2 := r2) (m2 := m2) (r3 := r3) (m3 := m3) (E2 := E) (n2 := K) HI.out.pos (by omega) key path nn a ver hlk hkl2 hv hnn hp1 ht1)
  have GC2 := Lib.hid (trCl2 (w0 := w) (r := r) (m := m) (E := (goneE (E ++ [(K + 1, oo)]) K)) (n := (K + 1)) (r2 := r2) (m2 := m2) (r3 := r3) (m3 := m3) (E2 := E) (n2 := K) HI.out.pos (by omega) key path nn a ver hlk hkl2 hv hnn hp1 ht1)
  have GC3 := Lib.hid (trCl3 (w0 := w) (r := r) (m := m) (E := (goneE (E ++ [(K + 1, oo)]) K)) (n := (K + 1)) (r2 := r2) (m2 := m2) (r3 := r3) (m3 := m3) (E2 := E) (n2 := K) HI.out.pos (by omega) key path nn a ver hlk hkl2 hv hnn hp1 ht1)
  have GWT := Lib.hid (trW14 (w0 := w) (r := r) (m := m) (E := (goneE (E ++ [(K + 1, oo)]) K)) (n := (K + 1)) (r2 := r2) (m2 := m2) (r3 := r3) (m3 := m3) (E2 := E) (n2 := K))
  rw [HS.out] at GO2 GO3 GC2 GC3
  generalize goneE (E ++ [(K + 1, oo)]) K = E2 at *
  generalize E ++ [(K + 1, oo)] = E1 at *
  clear hK32 hlk hkl2 hv hnn hp1 ht1 hoo hEL HI2
  go_wp2_with (first
    | (go_at_call 24; (with_reducible refine (GN.out _ HT.out).mono ?_); rintro e w' ⟨rfl, rfl⟩)
    | (go_at_call 26; (with_reducible refine (GFU.out _).mono ?_); rintro e w1 ⟨rfl, hx1⟩; have h1 := HT.out.next hx1; clear HT hx1; have HT := Lib.hid h1; clear h1)
    | (go_at_call 25; (with_reducible refine (GRT.out _ HT.out).mono ?_); rintro e w1 ⟨rfl, h1⟩; clear HT; have HT := Lib.hid h1; clear h1)
    | (go_at_call 28; (with_reducible refine (GRE.out _ HT.out).mono ?_); rintro e w1 ⟨rfl, h1⟩; clear HT; have HT := Lib.hid h1; clear h1)
    | (go_at_call 22; (with_reducible refine (GO2.out _ HT.out).mono ?_); rintro e w1 ⟨rfl, h1⟩; clear HT; have HT := Lib.hid h1; clear h1)
    | (go_at_call 22; (with_reducible refine (GO3.out _ HT.out).mono ?_); rintro e w1 ⟨rfl, h1⟩; clear HT; have HT := Lib.hid h1; clear h1)
    | (go_at_call 15; (with_reducible refine (GNO.out _).mono ?_); rintro e w1 ⟨rfl, hx1⟩; have h1 := HT.out.next hx1; clear HT hx1; have HT := Lib.hid h1; clear h1)
    | (go_at_call 16; (with_reducible refine (GC2.out _ HT.out).mono ?_); rintro e w1 ⟨rfl, h1⟩; clear HT; have HT := Lib.hid h1; clear h1)
    | (go_at_call 16; (with_reducible refine (GC3.out _ HT.out).mono ?_); rintro e w1 ⟨rfl, h1⟩; clear HT; have HT := Lib.hid h1; clear h1)
    | (go_at_call 13; (with_reducible refine (GWT.out _ HT.out).mono ?_); rintro e w1 ⟨rfl, hx1⟩))
  go_returns
  exact ⟨by simp, hx1⟩
end Go.Proofs.Ytbacamepmilmhaa
