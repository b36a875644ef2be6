/- Contracts: layer 14: pieces, Close, and the document's. -/
import Derived.Test.YtbacamepmilmhaaRingK
import Derived.Test.YtbacamepmilmhaaRefCtr
import Derived.Test.YtbacamepmilmhaaLaw04
namespace Go.Proofs.Ytbacamepmilmhaa
open Go Go.RowKit

theorem info_str14 : (Try.prog.info? 9).map (fun i => (i.zero, i.size, i.bytes)) = some (some (.string { data := #[] }), 1, 16) := by kernel_rfl
theorem und_strs14 : Try.prog.underlying 22 = some (.slice 9) := by kernel_rfl
/-- What is tagged. -/
def pieL (path : List UInt8) (ver : Nat) (s : List UInt8) : List (List UInt8) := [putB 4 path.length, path, putB 8 ver, s]
set_option maxRecDepth 100000 in
set_option maxHeartbeats 1000000 in
theorem pieces_one (path s : List UInt8) (ver b c : Nat) (w : World) (hp : path.length ≤ 1048576) (hv : U64 ver) (hb : w.cell? ⟨b, 0, none⟩ = some (.string (bs s))) :
    Calls Try.prog 47 #[.string (bs path), .int .u64 (ver : Int), .slice (some ⟨b, 0, none⟩) 1 c] w fun e w' => ∃ ad cap, e = .returned (.slice ad 4 cap) ∧ Sl w' (.slice ad 4 cap) ((pieL path ver s).map strV) ∧ Ext w w' := by
  have GP := Lib.hid (fun W => Put32_any path.length W (by unfold U32; omega))
  have GV := Lib.hid (fun W => Put64_any ver W hv)
  have HPI : Hid (pieL path ver s = [putB 4 path.length, path, putB 8 ver, s]) := Lib.hid rfl
  have hwl : IntKind.u32.wrap (path.length : Int) = (path.length : Int) := by rw [IntKind.wrap_u32]; omega
  generalize pieL path ver s = P at *
  generalize putB 4 path.length = p4 at *
  generalize putB 8 ver = p8 at *
  clear hp hv
  go_enter Try.func47, Try.ntmps47
  go_wp2_with (first
    | (go_at_call 45; with_reducible refine (GP.out _).mono ?_; rintro e w1 ⟨rfl, hx1⟩)
    | (go_at_call 69; with_reducible refine (GV.out _).mono ?_; rintro e w2 ⟨rfl, hx2⟩; have hc2 := ((hx1.trans hx2).alloc (.cells #[.string (bs p4), .string (bs path), .string (bs p8)] 9)).cell_of hb)
    | (at_builtin; refine wpl_append rfl (Operand.tmp 14) (Operand.tmp 15) 22 rfl und_strs14 info_str14 rfl (by omega) w2.heap.size (by simp) (.slice (some ⟨w2.heap.size, 0, none⟩) 3 3) [strV p4, strV path, strV p8] rfl ⟨rfl, .inr ⟨w2.heap.size, 3, #[.string (bs p4), .string (bs path), .string (bs p8)], rfl, Nat.le_refl _, heap_alloc_new _ _, Nat.le_refl _, by unfold maxLen; omega, rfl, rfl⟩⟩ ⟨b, 0, none⟩ 1 c [strV s] rfl rfl (fun j u hj => by
        match j, hj with
        | 0, hj => simp at hj; subst hj; rw [Addr.add_lit]; exact hc2
        | j + 1, hj => simp at hj) (oneCells [s] (fun _ => rfl)) (by simp) ?_; intro v' w3 hrow3 hb3 hk3))
  go_returns
  have hsz := (hx1.trans hx2).size
  obtain ⟨ad, cap, hv⟩ := hrow3.sl.look
  have hv4 : v' = .slice ad 4 cap := hv
  subst hv4
  refine ⟨ad, cap, rfl, ?_, ((hx1.trans hx2).alloc _).trans_below hb3⟩
  rw [HPI.out]
  exact hrow3.sl
end Go.Proofs.Ytbacamepmilmhaa
namespace Go.Proofs.Ytbacamepmilmhaa
open Go Go.RowKit

/-- An envelope ahead of its tag. -/
def envL (key : List UInt8) (ep : Nat) (nonce text : List UInt8) : List UInt8 :=
  [1] ++ putB 4 ep ++ nonce ++ xorL text (ctrS (rks (derL key lblC 16)) nonce 0 text.length)
def tagL (key path : List UInt8) (ver : Nat) (s : List UInt8) : List UInt8 := macL (derL key lblT 32) (putB 4 path.length ++ path ++ putB 8 ver ++ s)
theorem pieL_flat (path s : List UInt8) (ver : Nat) : (pieL path ver s).flatten = putB 4 path.length ++ path ++ putB 8 ver ++ s := by simp [pieL]
theorem envL_length (key : List UInt8) (ep : Nat) (nonce text : List UInt8) (hn : nonce.length = 12) : (envL key ep nonce text).length = 17 + text.length := by
  unfold envL
  have h := ctrS_length (rks (derL key lblC 16)) nonce 0 text.length (rks_length _) hn
  simp only [List.length_append, putB_length, hn, List.length_singleton]
  rw [xorL_length _ _ h.symm]
set_option maxRecDepth 100000 in
set_option maxHeartbeats 2000000 in
theorem Close_yes (r m : Nat) (E : Eps) (n : Nat) (key path nonce text : List UInt8) (ver : Nat) (w : World) (h : RingAt w r m E n) (hn : 0 < n) (hn32 : n < 4294967296) (hs : lookE E n = some key) (hkl : key.length ≤ 1099511627776)
    (hv : U64 ver) (hno : nonce.length = 12) (hp : path.length ≤ 1048576) (ht : text.length ≤ 1048576) :
    Calls Try.prog 16 #[.pointer (some ⟨r, 0, none⟩), .string (bs path), .int .u64 (ver : Int), .string (bs nonce), .string (bs text)] w fun e w' => e = .returned (.tuple #[.string (bs (envL key n nonce text ++ tagL key path ver (envL key n nonce text))), .int .i64 0]) ∧ Ext w w' := by
  have GN := Lib.hid (ring_Newest r m E n w h hn)
  have GK := Lib.hid (ring_Keys r m E n n w h hn hs hkl)
  have hkc : (derL key lblC 16).length = 16 := derL_length _ _ _ (by omega)
  have hkt : (derL key lblT 32).length = 32 := derL_length _ _ _ (by omega)
  have GT : Hid (∀ W, Calls Try.prog 44 #[.string (bs (derL key lblC 16)), .string (bs nonce), .int .u32 0, .string (bs text)] W fun e w' => e = .returned (.tuple #[.string (bs (xorL text (ctrS (rks (derL key lblC 16)) nonce 0 text.length))), .int .i64 0]) ∧ Ext W w') := Lib.hid fun W => Turn_ok _ nonce text 0 W hkc hno ht (by omega) (by omega)
  have GP := Lib.hid (fun W => Put32_any n W (by unfold U32; omega))
  have hel := envL_length key n nonce text hno
  have GPI := Lib.hid (fun b c W hb => pieces_one path (envL key n nonce text) ver b c W hp hv hb)
  have GM : Hid (∀ ad cap W, Sl W (.slice ad 4 cap) ((pieL path ver (envL key n nonce text)).map strV) → Calls Try.prog 46 #[.string (bs (derL key lblT 32)), .slice ad 4 cap] W fun e w' => e = .returned (.string (bs (tagL key path ver (envL key n nonce text)))) ∧ Ext W w') := Lib.hid fun ad cap W hsl => by
    have := macOf_any (derL key lblT 32) (pieL path ver (envL key n nonce text)) ad cap W (by omega) (by simp [pieL]) (by rw [pieL_flat]; simp only [List.length_append, putB_length, hel]; omega) hsl
    rw [pieL_flat] at this
    exact this
  have htl : (tagL key path ver (envL key n nonce text)).length = 32 := macL_length _ _
  have hxl : (xorL text (ctrS (rks (derL key lblC 16)) nonce 0 text.length)).length = text.length := xorL_length _ _ (ctrS_length _ _ _ _ (rks_length _) hno).symm
  have hp4 := putB_length 4 n
  generalize tagL key path ver (envL key n nonce text) = tag at *
  have HEN : Hid (envL key n nonce text = [1] ++ putB 4 n ++ nonce ++ xorL text (ctrS (rks (derL key lblC 16)) nonce 0 text.length)) := Lib.hid rfl
  generalize envL key n nonce text = env at *
  generalize xorL text (ctrS (rks (derL key lblC 16)) nonce 0 text.length) = body at *
  generalize derL key lblC 16 = kc at *
  generalize derL key lblT 32 = kt at *
  generalize putB 4 n = p4 at *
  generalize pieL path ver env = P at *
  obtain ⟨one, hone⟩ : ∃ one : List UInt8, one = [1] := ⟨_, rfl⟩
  rw [← hone] at HEN
  have hlit : ({ data := #[1] } : ByteArray) = bs one := by rw [hone]; rfl
  have hol : one.length = 1 := by rw [hone]; rfl
  have hne : ((nonce.length : Int) != 12) = false := by simp; omega
  have hpl : decide ((1048576 : Int) < (path.length : Int)) = false := by simp; omega
  have htx : decide ((1048576 : Int) < (text.length : Int)) = false := by simp; omega
  have HX := Lib.hid (Ext.refl w)
  have g1 : ¬ 9223372036854775807 < one.length + p4.length := by omega
  have g2 : ¬ 9223372036854775807 < one.length + p4.length + nonce.length := by omega
  have g3 : ¬ 9223372036854775807 < one.length + p4.length + nonce.length + body.length := by omega
  have g4 : ¬ 9223372036854775807 < env.length + tag.length := by omega
  clear h hn hn32 hs hkl hv hno hp ht hkc hkt hel htl hxl hp4 hone hol
  go_enter Try.func16, Try.ntmps16
  go_upto_region 14 with (first
    | (go_at_call 24; refine GN.out.mono ?_; rintro e w' ⟨rfl, rfl⟩)
    | (go_at_call 33; refine GK.out.mono ?_; rintro e w1 ⟨rfl, hx1⟩; have hq := HX.out.trans hx1; clear HX hx1; have HX := Lib.hid hq; clear hq)
    | (go_at_call 44; with_reducible refine (GT.out _).mono ?_; rintro e w1 ⟨rfl, hx1⟩; have hq := HX.out.trans hx1; clear HX hx1; have HX := Lib.hid hq; clear hq)
    | (go_at_call 45; with_reducible refine (GP.out _).mono ?_; rintro e w1 ⟨rfl, hx1⟩; have hq := HX.out.trans hx1; clear HX hx1; have HX := Lib.hid hq; clear hq))
  rw [← show env = one ++ (p4 ++ (nonce ++ body)) by rw [HEN.out]; simp only [List.append_assoc]]
  obtain ⟨w4, hw4⟩ : ∃ x, x = w1 := ⟨_, rfl⟩
  rw [← hw4] at HX ⊢
  clear hw4
  go_wp2_with (first
    | (go_at_call 47; refine (GPI.out _ _ _ (cell_blk (i := 0) (heap_alloc_new w4 _) rfl)).mono ?_; rintro e w5 ⟨ad, cap, rfl, hsl, hx5⟩; have HSL := Lib.hid hsl; clear hsl)
    | (go_at_call 46; refine (GM.out ad cap _ HSL.out).mono ?_; rintro e w6 ⟨rfl, hx6⟩))
  go_returns
  exact ⟨rfl, ((HX.out.alloc _).trans hx5).trans hx6⟩
end Go.Proofs.Ytbacamepmilmhaa
namespace Go.Proofs.Ytbacamepmilmhaa
open Go Go.RowKit

set_option maxRecDepth 100000 in
theorem Close_nil (path nonce text : List UInt8) (ver : Nat) (w : World) :
    Calls Try.prog 16 #[.pointer none, .string (bs path), .int .u64 (ver : Int), .string (bs nonce), .string (bs text)] w fun e w' => e = .returned (.tuple #[.string (bs []), .int .i64 1]) ∧ w = w' := by
  go_enter Try.func16, Try.ntmps16
  go_wp2
  go_returns
  exact ⟨rfl, rfl⟩
set_option maxRecDepth 100000 in
theorem Close_arg (r : Nat) (path nonce text : List UInt8) (ver : Nat) (w : World) (hn : nonce.length ≠ 12) :
    Calls Try.prog 16 #[.pointer (some ⟨r, 0, none⟩), .string (bs path), .int .u64 (ver : Int), .string (bs nonce), .string (bs text)] w fun e w' => e = .returned (.tuple #[.string (bs []), .int .i64 2]) ∧ w = w' := by
  have hne : ((nonce.length : Int) != 12) = true := by simp; omega
  clear hn
  go_enter Try.func16, Try.ntmps16
  go_wp2
  go_returns
  exact ⟨rfl, rfl⟩
set_option maxRecDepth 100000 in
theorem refTurn_ok (key nonce s : List UInt8) (f : Nat) (w : World) (hk : key.length = 16) (hn : nonce.length = 12) (h1 : s.length ≤ 1048576) (h2 : f < 4294967296) (h : f + (s.length + 15) / 16 ≤ 4294967296) :
    Calls Try.prog 49 #[.string (bs key), .string (bs nonce), .int .u32 (f : Int), .string (bs s)] w fun e w' => e = .returned (.tuple #[.string (bs (xorL s (ctrS (rks key) nonce f s.length))), .int .i64 0]) ∧ Ext w w' := by
  have hsl := ctrS_length (rks key) nonce f s.length (rks_length key) hn
  have GS := Lib.hid (fun W => refStream_ok key nonce f s.length W hk hn h1 h2 h)
  generalize ctrS (rks key) nonce f s.length = x at *
  have GX := Lib.hid (fun W => RefXor_any s x W hsl.symm (by omega))
  clear hsl
  go_enter Try.func49, Try.ntmps49
  go_wp2_with (first
    | (go_at_call 70; refine (GS.out _).mono ?_; rintro e w1 ⟨rfl, hx1⟩)
    | (go_at_call 71; refine (GX.out _).mono ?_; rintro e w2 ⟨rfl, hx2⟩))
  go_returns
  exact ⟨rfl, hx1.trans hx2⟩
set_option maxRecDepth 100000 in
set_option maxHeartbeats 1000000 in
theorem refTag_any (kt path s : List UInt8) (ver : Nat) (w : World) (hk : kt.length ≤ 1000) (hp : path.length ≤ 1048576) (hs : s.length ≤ 1048700) (hv : U64 ver) :
    Calls Try.prog 51 #[.string (bs kt), .string (bs path), .int .u64 (ver : Int), .string (bs s)] w fun e w' => e = .returned (.string (bs (macL kt (putB 4 path.length ++ path ++ putB 8 ver ++ s)))) ∧ Ext w w' := by
  have G4 := Lib.hid (fun W => RefPut4_any path.length W (by unfold U64; omega))
  have G8 := Lib.hid (fun W => RefPut8_any ver W hv)
  have h4 := putB_length 4 path.length
  have h8 := putB_length 8 ver
  have GO := Lib.hid (fun W => refMac_any kt (putB 4 path.length ++ path ++ putB 8 ver ++ s) W (by omega) (by simp only [List.length_append, h4, h8]; omega))
  have hw : IntKind.u64.wrap (path.length : Int) = (path.length : Int) := by rw [IntKind.wrap_u64]; omega
  generalize putB 4 path.length = p4 at *
  generalize putB 8 ver = p8 at *
  have g1 : ¬ 9223372036854775807 < p4.length + path.length := by omega
  have g2 : ¬ 9223372036854775807 < p4.length + path.length + p8.length := by omega
  have g3 : ¬ 9223372036854775807 < p4.length + path.length + p8.length + s.length := by omega
  obtain ⟨T, hT⟩ : ∃ T, p4 ++ path ++ p8 ++ s = T := ⟨_, rfl⟩
  rw [hT] at GO ⊢
  have HT : Hid (p4 ++ (path ++ (p8 ++ s)) = T) := Lib.hid (by rw [← hT]; simp only [List.append_assoc])
  clear hT h4 h8 hk hp hs hv
  go_enter Try.func51, Try.ntmps51
  go_wp2_with (first
    | (go_at_call 50; with_reducible refine (G4.out _).mono ?_; rintro e w1 ⟨rfl, hx1⟩)
    | (go_at_call 50; with_reducible refine (G8.out _).mono ?_; rintro e w2 ⟨rfl, hx2⟩)
    | (go_at_call 72; rw [HT.out]; with_reducible refine (GO.out _).mono ?_; rintro e w3 ⟨rfl, hx3⟩))
  go_returns
  exact ⟨rfl, (hx1.trans hx2).trans hx3⟩
end Go.Proofs.Ytbacamepmilmhaa
namespace Go.Proofs.Ytbacamepmilmhaa
open Go Go.RowKit

set_option maxRecDepth 100000 in
theorem refClose_arg (d : Nat) (path nonce text : List UInt8) (ver : Nat) (w : World) (hn : nonce.length ≠ 12) :
    Calls Try.prog 17 #[.pointer (some ⟨d, 0, none⟩), .string (bs path), .int .u64 (ver : Int), .string (bs nonce), .string (bs text)] w fun e w' => e = .returned (.tuple #[.string (bs []), .int .i64 2]) ∧ w = w' := by
  have hne : ((nonce.length : Int) != 12) = true := by simp; omega
  clear hn
  go_enter Try.func17, Try.ntmps17
  go_wp2
  go_returns
  exact ⟨rfl, rfl⟩
set_option maxRecDepth 100000 in
set_option maxHeartbeats 2000000 in
theorem refClose_yes (B d : Nat) (E0 : Eps) (n : Nat) (key path nonce text : List UInt8) (ver : Nat) (w : World) (h : DocAt w B d (E0 ++ [(n, key)])) (hE : E0.length ≤ 900) (hn32 : n < 4294967296) (hs : lookE (E0 ++ [(n, key)]) n = some key) (hkl : key.length ≤ 1099511627776)
    (hv : U64 ver) (hno : nonce.length = 12) (hp : path.length ≤ 1048576) (ht : text.length ≤ 1048576) :
    Calls Try.prog 17 #[.pointer (some ⟨d, 0, none⟩), .string (bs path), .int .u64 (ver : Int), .string (bs nonce), .string (bs text)] w fun e w' => e = .returned (.tuple #[.string (bs (envL key n nonce text ++ tagL key path ver (envL key n nonce text))), .int .i64 0]) ∧ Ext w w' := by
  have GN := Lib.hid (fun W (hx : Ext w W) => ref_ring_Newest B d E0 n key W (h.ext hx) (by omega))
  have GK := Lib.hid (fun W (hx : Ext w W) => ref_ring_Keys B d (E0 ++ [(n, key)]) n W (h.ext hx) (by simp; omega) hs hkl)
  have hkc : (derL key lblC 16).length = 16 := derL_length _ _ _ (by omega)
  have hkt : (derL key lblT 32).length = 32 := derL_length _ _ _ (by omega)
  have GT : Hid (∀ W, Calls Try.prog 49 #[.string (bs (derL key lblC 16)), .string (bs nonce), .int .u32 0, .string (bs text)] W fun e w' => e = .returned (.tuple #[.string (bs (xorL text (ctrS (rks (derL key lblC 16)) nonce 0 text.length))), .int .i64 0]) ∧ Ext W w') := Lib.hid fun W => refTurn_ok _ nonce text 0 W hkc hno ht (by omega) (by omega)
  have GP := Lib.hid (fun W => RefPut4_any n W (by unfold U64; omega))
  have hel := envL_length key n nonce text hno
  have GM := Lib.hid (fun W => refTag_any (derL key lblT 32) path (envL key n nonce text) ver W (by omega) hp (by omega) hv)
  have HTG : Hid (tagL key path ver (envL key n nonce text) = macL (derL key lblT 32) (putB 4 path.length ++ path ++ putB 8 ver ++ envL key n nonce text)) := Lib.hid rfl
  rw [← HTG.out] at GM
  clear HTG
  have htl : (tagL key path ver (envL key n nonce text)).length = 32 := macL_length _ _
  have hxl : (xorL text (ctrS (rks (derL key lblC 16)) nonce 0 text.length)).length = text.length := xorL_length _ _ (ctrS_length _ _ _ _ (rks_length _) hno).symm
  have hp4 := putB_length 4 n
  generalize tagL key path ver (envL key n nonce text) = tag at *
  have HEN : Hid (envL key n nonce text = [1] ++ putB 4 n ++ nonce ++ xorL text (ctrS (rks (derL key lblC 16)) nonce 0 text.length)) := Lib.hid rfl
  generalize envL key n nonce text = env at *
  generalize xorL text (ctrS (rks (derL key lblC 16)) nonce 0 text.length) = body at *
  generalize derL key lblC 16 = kc at *
  generalize derL key lblT 32 = kt at *
  generalize putB 4 n = p4 at *
  obtain ⟨one, hone⟩ : ∃ one : List UInt8, one = [1] := ⟨_, rfl⟩
  rw [← hone] at HEN
  have hlit : ({ data := #[1] } : ByteArray) = bs one := by rw [hone]; rfl
  have hol : one.length = 1 := by rw [hone]; rfl
  have hne : ((nonce.length : Int) != 12) = false := by simp; omega
  have hpl : decide ((1048576 : Int) < (path.length : Int)) = false := by simp; omega
  have htx : decide ((1048576 : Int) < (text.length : Int)) = false := by simp; omega
  have hwn : IntKind.u64.wrap (n : Int) = (n : Int) := by rw [IntKind.wrap_u64]; omega
  have HX := Lib.hid (Ext.refl w)
  have g1 : ¬ 9223372036854775807 < one.length + p4.length := by omega
  have g2 : ¬ 9223372036854775807 < one.length + p4.length + nonce.length := by omega
  have g3 : ¬ 9223372036854775807 < one.length + p4.length + nonce.length + body.length := by omega
  have g4 : ¬ 9223372036854775807 < env.length + tag.length := by omega
  clear h hE hn32 hs hkl hv hno hp ht hkc hkt hel htl hxl hp4 hone hol
  go_enter Try.func17, Try.ntmps17
  go_upto_region 8 with (first
    | (go_at_call 48; with_reducible refine (GN.out _ HX.out).mono ?_; rintro e w1 ⟨rfl, hx1⟩; have hq := HX.out.trans hx1; clear HX hx1; have HX := Lib.hid hq; clear hq)
    | (go_at_call 38; with_reducible refine (GK.out _ HX.out).mono ?_; rintro e w1 ⟨rfl, hx1⟩; have hq := HX.out.trans hx1; clear HX hx1; have HX := Lib.hid hq; clear hq)
    | (go_at_call 49; with_reducible refine (GT.out _).mono ?_; rintro e w1 ⟨rfl, hx1⟩; have hq := HX.out.trans hx1; clear HX hx1; have HX := Lib.hid hq; clear hq)
    | (go_at_call 50; with_reducible refine (GP.out _).mono ?_; rintro e w1 ⟨rfl, hx1⟩; have hq := HX.out.trans hx1; clear HX hx1; have HX := Lib.hid hq; clear hq))
  rw [← show env = one ++ (p4 ++ (nonce ++ body)) by rw [HEN.out]; simp only [List.append_assoc]]
  go_wp2_with (go_at_call 51; with_reducible refine (GM.out _).mono ?_; rintro e w6 ⟨rfl, hx6⟩)
  go_returns
  exact ⟨rfl, HX.out.trans hx6⟩
end Go.Proofs.Ytbacamepmilmhaa
namespace Go.Proofs.Ytbacamepmilmhaa
open Go Go.RowKit

/-- Which epoch bytes tell. -/
def epR (s : List UInt8) : Nat × Int := if s.length < 49 ∨ 1048625 < s.length ∨ s.getD 0 0 ≠ 1 then (0, 7) else ((Get32 s 1).1, 0)
set_option maxRecDepth 100000 in
theorem Size_any (n : Nat) (w : World) (hn : n ≤ 2000000) :
    Calls Try.prog 20 #[.int .i64 (n : Int)] w fun e w' => e = .returned (.int .i64 ((n + 49 : Nat) : Int)) ∧ w = w' := by
  have hm : max (n : Int) 0 = (n : Int) := by omega
  go_enter Try.func20, Try.ntmps20
  go_wp2
  go_returns
  exact ⟨ret_int (by omega), rfl⟩
set_option maxRecDepth 100000 in
set_option maxHeartbeats 1000000 in
theorem Epoch_any (s : List UInt8) (w : World) (hl : s.length ≤ 1099511627776) :
    Calls Try.prog 18 #[.string (bs s)] w fun e w' => e = .returned (.tuple #[.int .u32 ((epR s).1 : Int), .int .i64 (epR s).2]) ∧ Ext w w' := by
  have Z0 : Hid (∀ W, Calls Try.prog 20 #[.int .i64 0] W fun e w' => e = .returned (.int .i64 49) ∧ W = w') := Lib.hid fun W => Size_any 0 W (by omega)
  have Z1 : Hid (∀ W, Calls Try.prog 20 #[.int .i64 1048576] W fun e w' => e = .returned (.int .i64 1048625) ∧ W = w') := Lib.hid fun W => Size_any 1048576 W (by omega)
  unfold epR
  by_cases h1 : s.length < 49
  · rw [if_pos (Or.inl h1)]
    have i1 : decide ((s.length : Int) < 49) = true := by simp; omega
    clear h1
    go_enter Try.func18, Try.ntmps18
    go_wp2_with (first
    | (go_at_call 20; with_reducible refine (Z0.out _).mono ?_; rintro e w' ⟨rfl, rfl⟩)
    | (go_at_call 20; with_reducible refine (Z1.out _).mono ?_; rintro e w' ⟨rfl, rfl⟩))
    go_returns
    exact ⟨rfl, Ext.refl _⟩
  have i1 : decide ((s.length : Int) < 49) = false := by simp; omega
  by_cases h2 : 1048625 < s.length
  · rw [if_pos (Or.inr (Or.inl h2))]
    have i2 : decide ((1048625 : Int) < (s.length : Int)) = true := by simp; omega
    clear h1 h2
    go_enter Try.func18, Try.ntmps18
    go_wp2_with (first
    | (go_at_call 20; with_reducible refine (Z0.out _).mono ?_; rintro e w' ⟨rfl, rfl⟩)
    | (go_at_call 20; with_reducible refine (Z1.out _).mono ?_; rintro e w' ⟨rfl, rfl⟩))
    go_returns
    exact ⟨rfl, Ext.refl _⟩
  have i2 : decide ((1048625 : Int) < (s.length : Int)) = false := by simp; omega
  have hix : ∀ W, (Instr.index 9 (.string (bs s)) (.int .i64 0)).run Try.prog W = .ok (.int .u8 ((s.getD 0 0).toNat : Int)) W := fun W => run_index_str s 0 (by omega) W
  by_cases h3 : s.getD 0 0 = 1
  · rw [if_neg (fun h => by rcases h with h | h | h; exact h1 h; exact h2 h; exact h h3)]
    have i3 : (((s.getD 0 0).toNat : Int) != 1) = false := by rw [h3]; rfl
    have GG : Hid (∀ W, Calls Try.prog 52 #[.string (bs s), .int .i64 1] W fun e w' => e = .returned (.tuple #[.int .u32 ((Get32 s 1).1 : Int), .bool (Get32 s 1).2]) ∧ Ext W w') := Lib.hid fun W => (Get32_any s 1 W hl).mono fun e w' h => ⟨h.1, Ext.of_eq h.2⟩
    generalize (Get32 s 1).1 = g at *
    generalize (Get32 s 1).2 = gb at *
    generalize s.getD 0 0 = x at *
    clear h1 h2 h3
    go_enter Try.func18, Try.ntmps18
    go_wp2_with (first
    | (go_at_call 20; with_reducible refine (Z0.out _).mono ?_; rintro e w' ⟨rfl, rfl⟩)
    | (go_at_call 20; with_reducible refine (Z1.out _).mono ?_; rintro e w' ⟨rfl, rfl⟩)
    | (go_at_call 52; with_reducible refine (GG.out _).mono ?_; rintro e w1 ⟨rfl, hx1⟩))
    go_returns
    exact ⟨rfl, hx1⟩
  · rw [if_pos (Or.inr (Or.inr h3))]
    have i3 : (((s.getD 0 0).toNat : Int) != 1) = true := by
      simp only [bne_iff_ne, ne_eq]
      intro h
      exact h3 (UInt8.toNat_inj.1 (by show _ = 1; omega))
    generalize s.getD 0 0 = x at *
    clear h1 h2 h3
    go_enter Try.func18, Try.ntmps18
    go_wp2_with (first
    | (go_at_call 20; with_reducible refine (Z0.out _).mono ?_; rintro e w' ⟨rfl, rfl⟩)
    | (go_at_call 20; with_reducible refine (Z1.out _).mono ?_; rintro e w' ⟨rfl, rfl⟩))
    go_returns
    exact ⟨rfl, Ext.refl _⟩
set_option maxRecDepth 100000 in
theorem refSize_any (n : Nat) (w : World) (hn : n ≤ 2000000) :
    Calls Try.prog 21 #[.int .i64 (n : Int)] w fun e w' => e = .returned (.int .i64 ((n + 49 : Nat) : Int)) ∧ w = w' := by
  have hm : max (n : Int) 0 = (n : Int) := by omega
  go_enter Try.func21, Try.ntmps21
  go_wp2
  go_returns
  exact ⟨ret_int (by omega), rfl⟩
set_option maxRecDepth 100000 in
set_option maxHeartbeats 1000000 in
theorem refEpoch_any (s : List UInt8) (w : World) (hl : s.length ≤ 1099511627776) :
    Calls Try.prog 19 #[.string (bs s)] w fun e w' => e = .returned (.tuple #[.int .u32 ((epR s).1 : Int), .int .i64 (epR s).2]) ∧ Ext w w' := by
  have Z0 : Hid (∀ W, Calls Try.prog 21 #[.int .i64 0] W fun e w' => e = .returned (.int .i64 49) ∧ W = w') := Lib.hid fun W => refSize_any 0 W (by omega)
  have Z1 : Hid (∀ W, Calls Try.prog 21 #[.int .i64 1048576] W fun e w' => e = .returned (.int .i64 1048625) ∧ W = w') := Lib.hid fun W => refSize_any 1048576 W (by omega)
  unfold epR
  by_cases h1 : s.length < 49
  · rw [if_pos (Or.inl h1)]
    have i1 : decide ((s.length : Int) < 49) = true := by simp; omega
    clear h1
    go_enter Try.func19, Try.ntmps19
    go_wp2_with (first
    | (go_at_call 21; with_reducible refine (Z0.out _).mono ?_; rintro e w' ⟨rfl, rfl⟩)
    | (go_at_call 21; with_reducible refine (Z1.out _).mono ?_; rintro e w' ⟨rfl, rfl⟩))
    go_returns
    exact ⟨rfl, Ext.refl _⟩
  have i1 : decide ((s.length : Int) < 49) = false := by simp; omega
  by_cases h2 : 1048625 < s.length
  · rw [if_pos (Or.inr (Or.inl h2))]
    have i2 : decide ((1048625 : Int) < (s.length : Int)) = true := by simp; omega
    clear h1 h2
    go_enter Try.func19, Try.ntmps19
    go_wp2_with (first
    | (go_at_call 21; with_reducible refine (Z0.out _).mono ?_; rintro e w' ⟨rfl, rfl⟩)
    | (go_at_call 21; with_reducible refine (Z1.out _).mono ?_; rintro e w' ⟨rfl, rfl⟩))
    go_returns
    exact ⟨rfl, Ext.refl _⟩
  have i2 : decide ((1048625 : Int) < (s.length : Int)) = false := by simp; omega
  have hix : ∀ W, (Instr.index 9 (.string (bs s)) (.int .i64 0)).run Try.prog W = .ok (.int .u8 ((s.getD 0 0).toNat : Int)) W := fun W => run_index_str s 0 (by omega) W
  by_cases h3 : s.getD 0 0 = 1
  · rw [if_neg (fun h => by rcases h with h | h | h; exact h1 h; exact h2 h; exact h h3)]
    have i3 : (((s.getD 0 0).toNat : Int) != 1) = false := by rw [h3]; rfl
    have GG : Hid (∀ W, Calls Try.prog 53 #[.string (bs s), .int .i64 1, .int .i64 4] W fun e w' => e = .returned (.tuple #[.int .u64 ((Get32 s 1).1 : Int), .bool (Get32 s 1).2]) ∧ Ext W w') := Lib.hid fun W => (RefGet4_any s 1 W hl).mono fun e w' h => ⟨h.1, Ext.of_eq h.2⟩
    have hg32 := Get32_lt s 1
    generalize (Get32 s 1).1 = g at *
    generalize (Get32 s 1).2 = gb at *
    have hwg : IntKind.u32.wrap (g : Int) = (g : Int) := by rw [IntKind.wrap_u32]; omega
    generalize s.getD 0 0 = x at *
    clear h1 h2 h3
    go_enter Try.func19, Try.ntmps19
    go_wp2_with (first
    | (go_at_call 21; with_reducible refine (Z0.out _).mono ?_; rintro e w' ⟨rfl, rfl⟩)
    | (go_at_call 21; with_reducible refine (Z1.out _).mono ?_; rintro e w' ⟨rfl, rfl⟩)
    | (go_at_call 53; with_reducible refine (GG.out _).mono ?_; rintro e w1 ⟨rfl, hx1⟩))
    go_returns
    exact ⟨rfl, hx1⟩
  · rw [if_pos (Or.inr (Or.inr h3))]
    have i3 : (((s.getD 0 0).toNat : Int) != 1) = true := by
      simp only [bne_iff_ne, ne_eq]
      intro h
      exact h3 (UInt8.toNat_inj.1 (by show _ = 1; omega))
    generalize s.getD 0 0 = x at *
    clear h1 h2 h3
    go_enter Try.func19, Try.ntmps19
    go_wp2_with (first
    | (go_at_call 21; with_reducible refine (Z0.out _).mono ?_; rintro e w' ⟨rfl, rfl⟩)
    | (go_at_call 21; with_reducible refine (Z1.out _).mono ?_; rintro e w' ⟨rfl, rfl⟩))
    go_returns
    exact ⟨rfl, Ext.refl _⟩
end Go.Proofs.Ytbacamepmilmhaa
namespace Go.Proofs.Ytbacamepmilmhaa
open Go Go.RowKit

def z32 : List UInt8 := List.replicate 32 0
theorem z32_length : z32.length = 32 := List.length_replicate
def z12 : List UInt8 := List.replicate 12 0
theorem z12_length : z12.length = 12 := List.length_replicate
set_option maxRecDepth 100000 in
theorem full13 (s : List UInt8) (w : World) (_hl : s.length ≤ 140737488351232) :
    Calls Try.prog 26 #[.string (bs s)] w fun e w' => e = .returned (.string (bs (padTo 32 s))) ∧ Ext w w' := by
  have hmk : ∀ w : World, (Instr.makeSlice 41 (.int .i64 32) (.int .i64 32)).run Try.prog w = .ok (.slice (some ⟨w.heap.size, 0, none⟩) 32 32) (w.alloc (.cells (bcells z32) 5)) := fun w => mk_bytes 32 (by omega) w
  have HSZ := Lib.hid (show splice z32 0 (s.take 32) = padTo 32 s from splice_zeros 32 s)
  go_enter Try.func26, Try.ntmps26
  go_wp2_with (refine wpl_copy_str rfl rfl und_bytes info_u8 rfl rfl (L := z32) (heap_alloc_new w _) (by rw [z32_length]; decide) ?_; intro w2 hb2 _ hbel; rw [HSZ.out] at hb2; have kc := fun c => to_str_of (c := c) hb2 (padTo_length 32 _); have hx2 : Ext w w2 := ((Ext.refl w).alloc _).trans_below hbel; clear hb2)
  go_returns
  exact ⟨rfl, hx2⟩
set_option maxRecDepth 100000 in
theorem nonce14 (s : List UInt8) (w : World) (_hl : s.length ≤ 140737488351232) :
    Calls Try.prog 15 #[.string (bs s)] w fun e w' => e = .returned (.string (bs (padTo 12 s))) ∧ Ext w w' := by
  have hmk : ∀ w : World, (Instr.makeSlice 41 (.int .i64 12) (.int .i64 12)).run Try.prog w = .ok (.slice (some ⟨w.heap.size, 0, none⟩) 12 12) (w.alloc (.cells (bcells z12) 5)) := fun w => mk_bytes 12 (by omega) w
  have HSZ := Lib.hid (show splice z12 0 (s.take 12) = padTo 12 s from splice_zeros 12 s)
  go_enter Try.func15, Try.ntmps15
  go_wp2_with (refine wpl_copy_str rfl rfl und_bytes info_u8 rfl rfl (L := z12) (heap_alloc_new w _) (by rw [z12_length]; decide) ?_; intro w2 hb2 _ hbel; rw [HSZ.out] at hb2; have kc := fun c => to_str_of (c := c) hb2 (padTo_length 12 _); have hx2 : Ext w w2 := ((Ext.refl w).alloc _).trans_below hbel; clear hb2)
  go_returns
  exact ⟨rfl, hx2⟩
/-- How many bytes the first k texts have. -/
def sumL (l : List (List UInt8)) (k : Nat) : Nat := ((l.take k).map List.length).sum
theorem sumL_succ (l : List (List UInt8)) (k : Nat) (h : k < l.length) : sumL l (k + 1) = sumL l k + l[k].length := by
  unfold sumL
  rw [List.take_succ_eq_append_getElem h, List.map_append, List.sum_append]
  simp
theorem sumL_le (l : List (List UInt8)) (C : Nat) (hb : ∀ x ∈ l, x.length ≤ C) : ∀ k, sumL l k ≤ k * C
  | 0 => Nat.zero_le _
  | k + 1 => by
    have ih := sumL_le l C hb k
    rw [Nat.succ_mul]
    by_cases h : k < l.length
    · have hx := hb _ (List.getElem_mem h)
      rw [sumL_succ l k h]; omega
    · have e : sumL l (k + 1) = sumL l k := by
        unfold sumL
        rw [List.take_of_length_le (by omega), List.take_of_length_le (by omega)]
      rw [e]; omega
/-- More than a statement plays. -/
def heavyB (keys l : List (List UInt8)) : Bool := decide (1500 < sumL l l.length + sumL keys (min keys.length 30)) || decide (8 < keys.length)
set_option maxRecDepth 100000 in
set_option maxHeartbeats 1000000 in
theorem heavy14 (keys l : List (List UInt8)) (ad1 ad2 : Option Addr) (c1 c2 : Nat) (w : World) (hk : Sl w (.slice ad1 keys.length c1) (keys.map strV)) (hl : Sl w (.slice ad2 l.length c2) (l.map strV)) (hll : l.length ≤ 100) (hkl : keys.length ≤ 8796093022208)
    (hkb : ∀ x ∈ keys, x.length ≤ 140737488351232) (hlb : ∀ x ∈ l, x.length ≤ 140737488351232) :
    Calls Try.prog 12 #[.slice ad1 keys.length c1, .slice ad2 l.length c2] w fun e w' => e = .returned (.bool (heavyB keys l)) ∧ w = w' := by
  have HK := Lib.hid hk; have HL := Lib.hid hl
  have HSL := Lib.hid (sumL_le l _ hlb); have HSK := Lib.hid (sumL_le keys _ hkb)
  have HLL := Lib.hid hll; have HKL := Lib.hid hkl
  have HKB := Lib.hid hkb; have HLB := Lib.hid hlb
  clear hk hl hkb hlb hll hkl
  go_enter Try.func12, Try.ntmps12
  go_wp2
  go_loopw [5, 6] (fun n i wr => ∃ k : Nat, k ≤ l.length ∧ n = .int .i64 (sumL l k : Int) ∧ i = .int .i64 k ∧ w = wr) (fun _ i _ => l.length - (intOf i).toNat)
  case atStart => exact ⟨0, by omega, rfl, rfl, rfl⟩
  case round =>
    obtain ⟨k, hk, rfl, rfl, rfl⟩ := hrel
    by_cases hlt : k < l.length
    · obtain ⟨b, o, ha, _, hc⟩ := HL.out.str k hlt
      have hsk := HSL.out k
      have hll := HLL.out
      have hxb := HLB.out _ (List.getElem_mem hlt)
      have HS := Lib.hid (sumL_succ l k hlt)
      subst ha
      generalize l[k] = x at *
      have hki : (k : Int) < (l.length : Int) := by omega
      have hnb : sumL l k + x.length ≤ 101 * 140737488351232 := by
        have : k * 140737488351232 ≤ 100 * 140737488351232 := Nat.mul_le_mul_right _ (by omega)
        omega
      generalize sumL l k = n at *
      obtain ⟨n1, hn1⟩ : ∃ n1, n + x.length = n1 := ⟨_, rfl⟩
      rw [hn1] at HS hnb
      have hni : (n : Int) + (x.length : Int) = (n1 : Int) := by omega
      have hw : IntKind.i64.wrap (n1 : Int) = (n1 : Int) := by rw [IntKind.wrap_i64]; omega
      have hw2 : wrap64 (n1 : Int) = (n1 : Int) := by unfold wrap64; omega
      clear hsk hnb hn1 hxb
      go_wp2
      go_roundw
      case measure => simp [intOf]; omega
      case rel => exact ⟨k + 1, by omega, by rw [HS.out], by go_num, by first | rfl | trivial⟩
    · obtain rfl : k = l.length := by omega
      have hbl := HSL.out l.length
      have hbl2 : sumL l l.length ≤ 100 * 140737488351232 := Nat.le_trans hbl (Nat.mul_le_mul_right _ HLL.out)
      clear hbl
      have HV : Hid (heavyB keys l = (decide (1500 < sumL l l.length + sumL keys (min keys.length 30)) || decide (8 < keys.length))) := Lib.hid rfl
      generalize sumL l l.length = n0 at *
      have hlt2 : decide ((l.length : Int) < (l.length : Int)) = false := by simp
      go_wp2
      obtain ⟨wo, hwo⟩ : ∃ x, x = w := ⟨_, rfl⟩
      go_loopw [5, 7] (fun n i wr => ∃ k : Nat, k ≤ min keys.length 30 ∧ n = .int .i64 ((n0 + sumL keys k : Nat) : Int) ∧ i = .int .i64 k ∧ w = wr) (fun _ i _ => 30 - (intOf i).toNat)
      case atStart => exact ⟨0, by omega, rfl, rfl, rfl⟩
      case round =>
        obtain ⟨k, hk, rfl, rfl, rfl⟩ := hrel
        have hsk := HSK.out k
        have hkb : sumL keys k ≤ 30 * 140737488351232 := Nat.le_trans hsk (Nat.mul_le_mul_right _ (by omega))
        clear hsk
        by_cases hlt : k < min keys.length 30
        · obtain ⟨b, o, ha, _, hc⟩ := HK.out.str k (by omega)
          have hxb := HKB.out _ (List.getElem_mem (show k < keys.length by omega))
          have HS := Lib.hid (sumL_succ keys k (by omega))
          subst ha
          generalize keys[k] = x at *
          have hki : decide ((k : Int) < (keys.length : Int)) = true := by simp; omega
          have hk30 : decide ((k : Int) < 30) = true := by simp; omega
          have hki2 : (k : Int) < (keys.length : Int) := by omega
          generalize sumL keys k = n at *
          obtain ⟨n2, hn2⟩ : ∃ n2, n0 + n = n2 := ⟨_, rfl⟩
          obtain ⟨n1, hn1⟩ : ∃ n1, n2 + x.length = n1 := ⟨_, rfl⟩
          have hni : (n2 : Int) + (x.length : Int) = (n1 : Int) := by omega
          have hw : IntKind.i64.wrap (n1 : Int) = (n1 : Int) := by rw [IntKind.wrap_i64]; omega
          have hw2 : wrap64 (n1 : Int) = (n1 : Int) := by unfold wrap64; omega
          have HN := Lib.hid hn2; have HN1 := Lib.hid hn1
          rw [hn2]
          clear hxb hkb hn1 hn2 hbl2
          have hk100 : k < 30 := by omega
          clear hlt hk
          go_wp2
          go_roundw
          case measure => simp [intOf]; omega
          case rel => exact ⟨k + 1, by have := hki2; omega, by rw [HS.out, ← Nat.add_assoc, HN.out, HN1.out], by go_num, by first | rfl | trivial⟩
        · obtain rfl : k = min keys.length 30 := by omega
          have HV2 := HV.out
          generalize sumL keys (min keys.length 30) = n at *
          obtain ⟨n2, hn2⟩ : ∃ n2, n0 + n = n2 := ⟨_, rfl⟩
          rw [hn2] at HV2 ⊢
          have HR : Hid (heavyB keys l = (decide ((1500 : Int) < (n2 : Int)) || decide ((8 : Int) < (keys.length : Int)))) := Lib.hid (by
            rw [HV2]
            congr 1 <;> exact decide_eq_decide.2 (by omega))
          clear HV2 hn2 hkb hbl2 hk HV
          by_cases h30 : keys.length ≤ 30
          · have hmin : min keys.length 30 = keys.length := by omega
            rw [hmin]
            have hlt3 : decide ((keys.length : Int) < (keys.length : Int)) = false := by simp
            clear hmin hlt
            rcases hb1 : decide ((1500 : Int) < (n2 : Int)) with _ | _
            · go_wp2
              go_returns
              exact ⟨by rw [HR.out, hb1]; rfl, rfl⟩
            · go_wp2
              go_returns
              exact ⟨by rw [HR.out, hb1]; rfl, rfl⟩
          · have hmin : min keys.length 30 = 30 := by omega
            rw [hmin]
            have hlt3 : decide ((30 : Int) < (keys.length : Int)) = true := by simp; omega
            clear hmin hlt
            rcases hb1 : decide ((1500 : Int) < (n2 : Int)) with _ | _
            · go_wp2
              go_returns
              exact ⟨by rw [HR.out, hb1]; rfl, rfl⟩
            · go_wp2
              go_returns
              exact ⟨by rw [HR.out, hb1]; rfl, rfl⟩
end Go.Proofs.Ytbacamepmilmhaa
namespace Go.Proofs.Ytbacamepmilmhaa
open Go Go.RowKit

/-- The keys of a ring that k of some texts have come to. -/
def epsN (keys : List (List UInt8)) : Nat → Eps
  | 0 => [(1, padTo 32 [107])]
  | k + 1 => epsN keys k ++ [(k + 2, padTo 32 (keys.getD k []))]
theorem epsN_length (keys : List (List UInt8)) : ∀ k, (epsN keys k).length = k + 1
  | 0 => rfl
  | k + 1 => by rw [epsN, List.length_append, epsN_length keys k]; rfl
theorem epsN_le (keys : List (List UInt8)) : ∀ k, ∀ p ∈ epsN keys k, p.1 ≤ k + 1
  | 0, p, h => by simp [epsN] at h; subst h; exact Nat.le_refl _
  | k + 1, p, h => by
    rw [epsN, List.mem_append] at h
    rcases h with h | h
    · have := epsN_le keys k p h; omega
    · simp at h; subst h; exact Nat.le_refl _
theorem epsN_key (keys : List (List UInt8)) : ∀ k, ∀ p ∈ epsN keys k, p.2.length = 32
  | 0, p, h => by simp [epsN] at h; subst h; exact padTo_length 32 _
  | k + 1, p, h => by
    rw [epsN, List.mem_append] at h
    rcases h with h | h
    · exact epsN_key keys k p h
    · simp at h; subst h; exact padTo_length 32 _
theorem epsN_new (keys : List (List UInt8)) (k e : Nat) (he : k + 1 < e) : lookE (epsN keys k) e = none :=
  lookE_none _ _ (fun j hj h => by have := epsN_le keys k _ (List.getElem_mem hj); omega)
theorem epsN_last (keys : List (List UInt8)) (k : Nat) : ∃ E0 key, epsN keys k = E0 ++ [(k + 1, key)] ∧ E0.length = k ∧ key.length = 32 ∧ lookE (epsN keys k) (k + 1) = some key := by
  have look : ∀ (E0 : Eps) (key : List UInt8), (∀ p ∈ E0, p.1 ≠ k + 1) → lookE (E0 ++ [(k + 1, key)]) (k + 1) = some key := by
    intro E0 key h
    have := lookE_first (E0 ++ [(k + 1, key)]) (k + 1) E0.length (by simp) (fun j hj => by
      rw [List.getElem_append_left hj]; exact h _ (List.getElem_mem hj)) (by simp)
    rw [this]; simp
  cases k with
  | zero => exact ⟨[], padTo 32 [107], rfl, rfl, padTo_length 32 _, look [] _ (by simp)⟩
  | succ k => exact ⟨epsN keys k, padTo 32 (keys.getD k []), rfl, epsN_length keys k, padTo_length 32 _, look _ _ (fun p hp => by have := epsN_le keys k p hp; omega)⟩
theorem DocAt.mono {w : World} {B B' d : Nat} {E : Eps} (h : DocAt w B d E) (hB : B' ≤ B) : DocAt w B' d E := by
  obtain ⟨v, hd, hb, hown⟩ := h
  refine ⟨v, hd, by omega, hown.1, ?_⟩
  rcases hown.2 with h0 | ⟨g, cap, cur, hv, hg, q⟩
  · exact .inl h0
  · exact .inr ⟨g, cap, cur, hv, by omega, q⟩
theorem DocAt.but {w w' : World} {B d r m : Nat} {E E' : Eps} {n : Nat} (h : DocAt w B d E) (hr : RingAt w r m E' n) (hb : But [r, m] w w') : DocAt w' B d E := by
  obtain ⟨L, clk, _, _, h1, h2⟩ := hr
  obtain ⟨v, hd, hB, hown⟩ := h
  have ne1 : d ∉ [r, m] := by
    simp only [List.mem_cons, List.not_mem_nil, or_false, not_or]
    exact ⟨fun e => (by rw [e, h1] at hd; cases hd), fun e => (by rw [e, h2] at hd; cases hd)⟩
  refine ⟨v, hb.keep hd ne1, hB, hown.1, ?_⟩
  rcases hown.2 with h0 | ⟨g, cap, cur, hv, hg, hh, q⟩
  · exact .inl h0
  · have ne2 : g ∉ [r, m] := by
      simp only [List.mem_cons, List.not_mem_nil, or_false, not_or]
      exact ⟨fun e => (by rw [e, h1] at hh; cases hh), fun e => (by rw [e, h2] at hh; cases hh)⟩
    exact .inr ⟨g, cap, cur, hv, hg, hb.keep hh ne2, q⟩
theorem RingAt.keepsD {w w' : World} {B d r m : Nat} {E E' : Eps} {n : Nat} (h : RingAt w r m E n) (hd : DocAt w B d E') (hk : KeepsD d w w') : RingAt w' r m E n := by
  obtain ⟨L, clk, a, b, h1, h2⟩ := h
  obtain ⟨v, hdd, _, _⟩ := hd
  refine ⟨L, clk, a, b, hk r _ h1 (fun e => by rw [e, hdd] at h1; cases h1) (fun cs fz e => by cases e), hk m _ h2 (fun e => by rw [e, hdd] at h2; cases h2) (fun cs fz e => by cases e)⟩
set_option maxRecDepth 100000 in
set_option maxHeartbeats 2000000 in
theorem rings14 (keys : List (List UInt8)) (ad : Option Addr) (c : Nat) (w : World) (hk : Sl w (.slice ad keys.length c) (keys.map strV)) (h8 : keys.length ≤ 8) (hkb : ∀ x ∈ keys, x.length ≤ 140737488351232) :
    Calls Try.prog 14 #[.slice ad keys.length c] w fun e w' => ∃ r m d, e = .returned (.tuple #[.pointer (some ⟨r, 0, none⟩), .pointer (some ⟨d, 0, none⟩)]) ∧ RingAt w' r m (epsN keys keys.length) (keys.length + 1) ∧ DocAt w' w.heap.size d (epsN keys keys.length) ∧ w.heap.size ≤ r ∧ w.heap.size ≤ m ∧ Ext w w' := by
  have HK := Lib.hid hk
  have HKB := Lib.hid hkb
  have GF0 : Hid (∀ W, Calls Try.prog 26 #[.string { data := #[107] }] W fun e w' => e = .returned (.string (bs (padTo 32 [107]))) ∧ Ext W w') := Lib.hid fun W => full13 [107] W (by simp)
  have GNW := Lib.hid (fun W => ring_New (padTo 32 [107]) W (padTo_length 32 _))
  have GND := Lib.hid (fun W => ref_ring_New (padTo 32 [107]) W)
  have HE0 : Hid (epsN keys 0 = [(1, padTo 32 [107])]) := Lib.hid rfl
  generalize padTo 32 [107] = k0 at *
  clear hk hkb
  go_enter Try.func14, Try.ntmps14
  go_upto_region 6 with (first
    | (go_at_call 26; with_reducible refine (GF0.out _).mono ?_; rintro e w1 ⟨rfl, hx1⟩)
    | (go_at_call 31; with_reducible refine (GNW.out _).mono ?_; rintro e w2 ⟨r, m, rfl, hr1, hm1, hrm, hri, hx2⟩; have HRI := Lib.hid hri; clear hri)
    | (go_at_call 34; with_reducible refine (GND.out _).mono ?_; rintro e w3 ⟨d, rfl, hdo, hx3⟩; have HDO := Lib.hid hdo; clear hdo))
  have hs1 := hx1.size; have hs2 := hx2.size
  go_wp2
  go_loopw [4, 8] (fun kk i wr => ∃ k : Nat, k ≤ keys.length ∧ i = .int .i64 k ∧ RingAt wr r m (epsN keys k) (k + 1) ∧ DocAt wr w.heap.size d (epsN keys k) ∧ Ext w wr) (fun _ i _ => keys.length - (intOf i).toNat)
  case atStart => exact ⟨0, by omega, rfl, by rw [HE0.out]; exact HRI.out.ext hx3, by rw [HE0.out]; exact (show DocAt w3 w2.heap.size d _ from HDO.out).mono (by omega), (hx1.trans hx2).trans hx3⟩
  case round =>
    clear HRI HDO
    obtain ⟨k, hk, rfl, hri, hdo, hx⟩ := hrel
    have HRI := Lib.hid hri; have HDO := Lib.hid hdo
    clear hri hdo
    by_cases hlt : k < keys.length
    · obtain ⟨b, o, ha, _, hc⟩ := (HK.out.ext hx).str k hlt
      have hxb := HKB.out _ (List.getElem_mem hlt)
      obtain ⟨E0, key, hE, hEl, hkey, hlk⟩ := epsN_last keys k
      have hEN : Hid (epsN keys (k + 1) = epsN keys k ++ [(k + 2, padTo 32 keys[k])]) := Lib.hid (by
        rw [epsN, show keys.getD k [] = keys[k] by simp [List.getD, hlt]])
      have hnew := epsN_new keys k (k + 2) (by omega)
      have helen := epsN_length keys k
      subst ha
      generalize keys[k] = x at *
      have GF := Lib.hid (fun W => full13 x W hxb)
      have hpl : (padTo 32 x).length = 32 := padTo_length 32 x
      generalize padTo 32 x = kx at *
      have GRR := Lib.hid (fun W (h : RingAt W r m (epsN keys k) (k + 1)) => ring_Rotate r m (epsN keys k) (k + 1) kx W h (by omega) hpl (by omega) (by omega) hnew)
      have GDR := Lib.hid (fun W (h : DocAt W w.heap.size d (epsN keys k)) (hB : w.heap.size ≤ W.heap.size) => (hE ▸ ref_ring_Rotate w.heap.size d E0 (k + 1) key kx W (hE ▸ h) hB hpl (by omega) (by omega) : Calls Try.prog 36 #[.pointer (some ⟨d, 0, none⟩), .string (bs kx)] W fun e w' => e = .returned (.tuple #[.int .u32 ((k + 1 + 1 : Nat) : Int), .int .i64 0]) ∧ DocAt w' w.heap.size d (epsN keys k ++ [(k + 1 + 1, kx)]) ∧ Below w.heap.size W w' ∧ KeepsD d W w'))
      generalize epsN keys k = E at *
      have HNN := Lib.hid hEN.out
      have hki : (k : Int) < (keys.length : Int) := by omega
      have hk8 : (k : Int) < 8 := by omega
      have HL := Lib.hid hlt
      clear hE hEl hkey hlk hnew helen hpl hxb hEN
      go_wp2_with (first
        | (go_at_call 26; with_reducible refine (GF.out _).mono ?_; rintro e w5 ⟨rfl, hx5⟩)
        | (go_at_call 25; with_reducible refine (GRR.out _ (HRI.out.ext hx5)).mono ?_; rintro e w6 ⟨rfl, hr6, hb6⟩; have HR6 := Lib.hid hr6; have HD6 := Lib.hid ((HDO.out.ext hx5).but (HRI.out.ext hx5) hb6); have hx6 : Ext w w6 := But.ext (hx.trans hx5) hb6 (by simp; omega); clear hr6 hb6; have hs6 := hx6.size)
        | (go_at_call 36; with_reducible refine (GDR.out _ HD6.out hs6).mono ?_; rintro e w7 ⟨rfl, hd7, hb7, hk7⟩; have HD7 := Lib.hid hd7; have HR7 := Lib.hid (HR6.out.keepsD HD6.out hk7); have hx7 := hx6.trans_below hb7; clear hd7 hb7 hk7))
      go_roundw
      case measure => simp [intOf]; omega
      case rel => exact ⟨k + 1, by have := HL.out; omega, by go_num, by rw [HNN.out]; exact HR7.out, by rw [HNN.out]; exact HD7.out, hx7⟩
    · obtain rfl : k = keys.length := by omega
      have hlt2 : decide ((keys.length : Int) < (keys.length : Int)) = false := by simp
      go_wp2
      go_returns
      exact ⟨r, m, d, rfl, HRI.out, HDO.out, by omega, by omega, hx⟩
end Go.Proofs.Ytbacamepmilmhaa
