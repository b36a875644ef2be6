import Derived.Test.YtclekllaikcglaaGreatRingK
import Derived.Test.YtclekllaikcglaaGreatRefCtr
import Derived.Test.YtclekllaikcglaaGreatNew

/- Contracts: layer 14: pieces, Close, and the document's. -/
namespace Go.Proofs.YtclekllaikcglaaGreat
open Go Go.RowKit
theorem info_str14 : (Tryz.prog.info? 9).map (fun i => (i.zero, i.size, i.bytes)) = some (some (.string { data := #[] }), 1, 16) := by kernel_rfl
theorem und_strs14 : Tryz.prog.underlying 25 = some (.slice 9) := by kernel_rfl
def pieL (path : List UInt8) (ver : Nat) (s : List UInt8) : List (List UInt8) := [putB 4 path.length, path, putB 8 ver, s]
set_option maxRecDepth 100000 in
set_option maxHeartbeats 1000000 in
theorem pieces_one (path s : List UInt8) (ver b c : Nat) (w : World) (hp : path.length ≤ 1048576) (hv : U64 ver) (hb : w.cell? ⟨b, 0, none⟩ = some (.string (bs s))) :
  Calls Tryz.prog 62 #[.string (bs path), .int .u64 (ver : Int), .slice (some ⟨b, 0, none⟩) 1 c] w fun e w' => ∃ ad cap, e = .returned (.slice ad 4 cap) ∧ Sl w' (.slice ad 4 cap) ((pieL path ver s).map strV) ∧ Ext w w' := by
 have GP := Lib.hid (fun W => Put32_any path.length W (by unfold U32; omega))
 have GV := Lib.hid (fun W => Put64_any ver W hv)
 have HPI : Hid (pieL path ver s = [putB 4 path.length, path, putB 8 ver, s]) := Lib.hid rfl
 have hwl : IntKind.u32.wrap (path.length : Int) = (path.length : Int) := by rw [IntKind.wrap_u32]; omega
 generalize pieL path ver s = P at *
 generalize putB 4 path.length = p4 at *
 generalize putB 8 ver = p8 at *
 clear hp hv
 go_enter Tryz.func62, Tryz.ntmps62
 go_wp2_with (first
  | (go_at_call 67; with_reducible refine (GP.out _).mono ?_; rintro e w1 ⟨rfl, hx1⟩)
  | (go_at_call 88; with_reducible refine (GV.out _).mono ?_; rintro e w2 ⟨rfl, hx2⟩; have hc2 := ((hx1.trans hx2).alloc (.cells #[.string (bs p4), .string (bs path), .string (bs p8)] 9)).cell_of hb)
  | (at_builtin; refine wpl_append rfl (Operand.tmp 14) (Operand.tmp 15) 25 rfl und_strs14 info_str14 rfl (by omega) w2.heap.size (by simp) (.slice (some ⟨w2.heap.size, 0, none⟩) 3 3) [strV p4, strV path, strV p8] rfl ⟨rfl, .inr ⟨w2.heap.size, 3, #[.string (bs p4), .string (bs path), .string (bs p8)], rfl, Nat.le_refl _, heap_alloc_new _ _, Nat.le_refl _, by unfold maxLen; omega, rfl, rfl⟩⟩ ⟨b, 0, none⟩ 1 c [strV s] rfl rfl (fun j u hj => by
    match j, hj with
    | 0, hj => simp at hj; subst hj; rw [Addr.add_lit]; exact hc2
    | j + 1, hj => simp at hj) (oneCells [s] (fun _ => rfl)) (by simp) ?_; intro v' w3 hrow3 hb3 hk3))
 go_returns
 have hsz := (hx1.trans hx2).size
 obtain ⟨ad, cap, hv⟩ := hrow3.sl.look
 have hv4 : v' = .slice ad 4 cap := hv
 subst hv4
 refine ⟨ad, cap, rfl, ?_, ((hx1.trans hx2).alloc _).trans_below hb3⟩
 rw [HPI.out]
 exact hrow3.sl
end Go.Proofs.YtclekllaikcglaaGreat

/- Contracts: layer 14: Close, and the document's. -/
namespace Go.Proofs.YtclekllaikcglaaGreat
open Go Go.RowKit
def envL (key : List UInt8) (ep : Nat) (nonce text : List UInt8) : List UInt8 :=
 [1] ++ putB 4 ep ++ nonce ++ xorL text (ctrS (rks (derL key lblC 16)) nonce 0 text.length)
def tagL (key path : List UInt8) (ver : Nat) (s : List UInt8) : List UInt8 := macL (derL key lblT 32) (putB 4 path.length ++ path ++ putB 8 ver ++ s)
theorem pieL_flat (path s : List UInt8) (ver : Nat) : (pieL path ver s).flatten = putB 4 path.length ++ path ++ putB 8 ver ++ s := by simp [pieL]
theorem envL_length (key : List UInt8) (ep : Nat) (nonce text : List UInt8) (hn : nonce.length = 12) : (envL key ep nonce text).length = 17 + text.length := by
 unfold envL
 have h := ctrS_length (rks (derL key lblC 16)) nonce 0 text.length (rks_length _) hn
 simp only [List.length_append, putB_length, hn, List.length_singleton]
 rw [xorL_length _ _ h.symm]
set_option maxRecDepth 100000 in
set_option maxHeartbeats 2000000 in
theorem Close_yes (r m : Nat) (E : Eps) (n : Nat) (key path nonce text : List UInt8) (ver : Nat) (w : World) (h : RingAt w r m E n) (hn : 0 < n) (hn32 : n < 4294967296) (hs : lookE E n = some key) (hkl : key.length ≤ 1099511627776)
  (hv : U64 ver) (hno : nonce.length = 12) (hp : path.length ≤ 1048576) (ht : text.length ≤ 1048576) :
  Calls Tryz.prog 41 #[.pointer (some ⟨r, 0, none⟩), .string (bs path), .int .u64 (ver : Int), .string (bs nonce), .string (bs text)] w fun e w' => e = .returned (.tuple #[.string (bs (envL key n nonce text ++ tagL key path ver (envL key n nonce text))), .int .i64 0]) ∧ Ext w w' := by
 have GN := Lib.hid (ring_Newest r m E n w h hn)
 have GK := Lib.hid (ring_Keys r m E n n w h hn hs hkl)
 have hkc : (derL key lblC 16).length = 16 := derL_length _ _ _ (by omega)
 have hkt : (derL key lblT 32).length = 32 := derL_length _ _ _ (by omega)
 have GT : Hid (∀ W, Calls Tryz.prog 63 #[.string (bs (derL key lblC 16)), .string (bs nonce), .int .u32 0, .string (bs text)] W fun e w' => e = .returned (.tuple #[.string (bs (xorL text (ctrS (rks (derL key lblC 16)) nonce 0 text.length))), .int .i64 0]) ∧ Ext W w') := Lib.hid fun W => Turn_ok _ nonce text 0 W hkc hno ht (by omega) (by omega)
 have GP := Lib.hid (fun W => Put32_any n W (by unfold U32; omega))
 have hel := envL_length key n nonce text hno
 have GPI := Lib.hid (fun b c W hb => pieces_one path (envL key n nonce text) ver b c W hp hv hb)
 have GM : Hid (∀ ad cap W, Sl W (.slice ad 4 cap) ((pieL path ver (envL key n nonce text)).map strV) → Calls Tryz.prog 68 #[.string (bs (derL key lblT 32)), .slice ad 4 cap] W fun e w' => e = .returned (.string (bs (tagL key path ver (envL key n nonce text)))) ∧ Ext W w') := Lib.hid fun ad cap W hsl => by
  have := macOf_any (derL key lblT 32) (pieL path ver (envL key n nonce text)) ad cap W (by omega) (by simp [pieL]) (by rw [pieL_flat]; simp only [List.length_append, putB_length, hel]; omega) hsl
  rw [pieL_flat] at this
  exact this
 have htl : (tagL key path ver (envL key n nonce text)).length = 32 := macL_length _ _
 have hxl : (xorL text (ctrS (rks (derL key lblC 16)) nonce 0 text.length)).length = text.length := xorL_length _ _ (ctrS_length _ _ _ _ (rks_length _) hno).symm
 have hp4 := putB_length 4 n
 generalize tagL key path ver (envL key n nonce text) = tag at *
 have HEN : Hid (envL key n nonce text = [1] ++ putB 4 n ++ nonce ++ xorL text (ctrS (rks (derL key lblC 16)) nonce 0 text.length)) := Lib.hid rfl
 generalize envL key n nonce text = env at *
 generalize xorL text (ctrS (rks (derL key lblC 16)) nonce 0 text.length) = body at *
 generalize derL key lblC 16 = kc at *
 generalize derL key lblT 32 = kt at *
 generalize putB 4 n = p4 at *
 generalize pieL path ver env = P at *
 obtain ⟨one, hone⟩ : ∃ one : List UInt8, one = [1] := ⟨_, rfl⟩
 rw [← hone] at HEN
 have hlit : ({ data := #[1] } : ByteArray) = bs one := by rw [hone]; rfl
 have hol : one.length = 1 := by rw [hone]; rfl
 have hne : ((nonce.length : Int) != 12) = false := by simp; omega
 have hpl : decide ((1048576 : Int) < (path.length : Int)) = false := by simp; omega
 have htx : decide ((1048576 : Int) < (text.length : Int)) = false := by simp; omega
 have HX := Lib.hid (Ext.refl w)
 have g1 : ¬ 9223372036854775807 < one.length + p4.length := by omega
 have g2 : ¬ 9223372036854775807 < one.length + p4.length + nonce.length := by omega
 have g3 : ¬ 9223372036854775807 < one.length + p4.length + nonce.length + body.length := by omega
 have g4 : ¬ 9223372036854775807 < env.length + tag.length := by omega
 clear h hn hn32 hs hkl hv hno hp ht hkc hkt hel htl hxl hp4 hone hol
 go_enter Tryz.func41, Tryz.ntmps41
 go_upto_region 14 with (first
  | (go_at_call 66; refine GN.out.mono ?_; rintro e w' ⟨rfl, rfl⟩)
  | (go_at_call 59; refine GK.out.mono ?_; rintro e w1 ⟨rfl, hx1⟩; have hq := HX.out.trans hx1; clear HX hx1; have HX := Lib.hid hq; clear hq)
  | (go_at_call 63; with_reducible refine (GT.out _).mono ?_; rintro e w1 ⟨rfl, hx1⟩; have hq := HX.out.trans hx1; clear HX hx1; have HX := Lib.hid hq; clear hq)
  | (go_at_call 67; with_reducible refine (GP.out _).mono ?_; rintro e w1 ⟨rfl, hx1⟩; have hq := HX.out.trans hx1; clear HX hx1; have HX := Lib.hid hq; clear hq))
 rw [← show env = one ++ (p4 ++ (nonce ++ body)) by rw [HEN.out]; simp only [List.append_assoc]]
 obtain ⟨w4, hw4⟩ : ∃ x, x = w1 := ⟨_, rfl⟩
 rw [← hw4] at HX ⊢
 clear hw4
 go_wp2_with (first
  | (go_at_call 62; refine (GPI.out _ _ _ (cell_blk (i := 0) (heap_alloc_new w4 _) rfl)).mono ?_; rintro e w5 ⟨ad, cap, rfl, hsl, hx5⟩; have HSL := Lib.hid hsl; clear hsl)
  | (go_at_call 68; refine (GM.out ad cap _ HSL.out).mono ?_; rintro e w6 ⟨rfl, hx6⟩))
 go_returns
 exact ⟨rfl, ((HX.out.alloc _).trans hx5).trans hx6⟩
end Go.Proofs.YtclekllaikcglaaGreat

/- Contracts: layer 14: what Close refuses; the document's Close. -/
namespace Go.Proofs.YtclekllaikcglaaGreat
open Go Go.RowKit
set_option maxRecDepth 100000 in
theorem Close_arg (r : Nat) (path nonce text : List UInt8) (ver : Nat) (w : World) (hn : nonce.length ≠ 12) :
  Calls Tryz.prog 41 #[.pointer (some ⟨r, 0, none⟩), .string (bs path), .int .u64 (ver : Int), .string (bs nonce), .string (bs text)] w fun e w' => e = .returned (.tuple #[.string (bs []), .int .i64 2]) ∧ w = w' := by
 have hne : ((nonce.length : Int) != 12) = true := by simp; omega
 clear hn
 go_enter Tryz.func41, Tryz.ntmps41
 go_wp2
 go_returns
 exact ⟨rfl, rfl⟩
set_option maxRecDepth 100000 in
theorem refTurn_ok (key nonce s : List UInt8) (f : Nat) (w : World) (hk : key.length = 16) (hn : nonce.length = 12) (h1 : s.length ≤ 1048576) (h2 : f < 4294967296) (h : f + (s.length + 15) / 16 ≤ 4294967296) :
  Calls Tryz.prog 104 #[.string (bs key), .string (bs nonce), .int .u32 (f : Int), .string (bs s)] w fun e w' => e = .returned (.tuple #[.string (bs (xorL s (ctrS (rks key) nonce f s.length))), .int .i64 0]) ∧ Ext w w' := by
 have hsl := ctrS_length (rks key) nonce f s.length (rks_length key) hn
 have GS := Lib.hid (fun W => refStream_ok key nonce f s.length W hk hn h1 h2 h)
 generalize ctrS (rks key) nonce f s.length = x at *
 have GX := Lib.hid (fun W => RefXor_any s x W hsl.symm (by omega))
 clear hsl
 go_enter Tryz.func104, Tryz.ntmps104
 go_wp2_with (first
  | (go_at_call 121; refine (GS.out _).mono ?_; rintro e w1 ⟨rfl, hx1⟩)
  | (go_at_call 101; refine (GX.out _).mono ?_; rintro e w2 ⟨rfl, hx2⟩))
 go_returns
 exact ⟨rfl, hx1.trans hx2⟩
set_option maxRecDepth 100000 in
set_option maxHeartbeats 1000000 in
theorem refTag_any (kt path s : List UInt8) (ver : Nat) (w : World) (hk : kt.length ≤ 1000) (hp : path.length ≤ 1048576) (hs : s.length ≤ 1048700) (hv : U64 ver) :
  Calls Tryz.prog 103 #[.string (bs kt), .string (bs path), .int .u64 (ver : Int), .string (bs s)] w fun e w' => e = .returned (.string (bs (macL kt (putB 4 path.length ++ path ++ putB 8 ver ++ s)))) ∧ Ext w w' := by
 have G4 := Lib.hid (fun W => RefPut4_any path.length W (by unfold U64; omega))
 have G8 := Lib.hid (fun W => RefPut8_any ver W hv)
 have h4 := putB_length 4 path.length
 have h8 := putB_length 8 ver
 have GO := Lib.hid (fun W => refMac_any kt (putB 4 path.length ++ path ++ putB 8 ver ++ s) W (by omega) (by simp only [List.length_append, h4, h8]; omega))
 have hw : IntKind.u64.wrap (path.length : Int) = (path.length : Int) := by rw [IntKind.wrap_u64]; omega
 generalize putB 4 path.length = p4 at *
 generalize putB 8 ver = p8 at *
 have g1 : ¬ 9223372036854775807 < p4.length + path.length := by omega
 have g2 : ¬ 9223372036854775807 < p4.length + path.length + p8.length := by omega
 have g3 : ¬ 9223372036854775807 < p4.length + path.length + p8.length + s.length := by omega
 obtain ⟨T, hT⟩ : ∃ T, p4 ++ path ++ p8 ++ s = T := ⟨_, rfl⟩
 rw [hT] at GO ⊢
 have HT : Hid (p4 ++ (path ++ (p8 ++ s)) = T) := Lib.hid (by rw [← hT]; simp only [List.append_assoc])
 clear hT h4 h8 hk hp hs hv
 go_enter Tryz.func103, Tryz.ntmps103
 go_wp2_with (first
  | (go_at_call 108; with_reducible refine (G4.out _).mono ?_; rintro e w1 ⟨rfl, hx1⟩)
  | (go_at_call 108; with_reducible refine (G8.out _).mono ?_; rintro e w2 ⟨rfl, hx2⟩)
  | (go_at_call 120; rw [HT.out]; with_reducible refine (GO.out _).mono ?_; rintro e w3 ⟨rfl, hx3⟩))
 go_returns
 exact ⟨rfl, (hx1.trans hx2).trans hx3⟩
end Go.Proofs.YtclekllaikcglaaGreat

/- Contracts: layer 14: Size, Epoch. -/
namespace Go.Proofs.YtclekllaikcglaaGreat
open Go Go.RowKit
def epR (s : List UInt8) : Nat × Int := if s.length < 49 ∨ 1048625 < s.length ∨ s.getD 0 0 ≠ 1 then (0, 7) else ((Get32 s 1).1, 0)
set_option maxRecDepth 100000 in
theorem Size_any (n : Nat) (w : World) (hn : n ≤ 2000000) :
  Calls Tryz.prog 69 #[.int .i64 (n : Int)] w fun e w' => e = .returned (.int .i64 ((n + 49 : Nat) : Int)) ∧ w = w' := by
 have hm : max (n : Int) 0 = (n : Int) := by omega
 go_enter Tryz.func69, Tryz.ntmps69
 go_wp2
 go_returns
 exact ⟨ret_int (by omega), rfl⟩
set_option maxRecDepth 100000 in
set_option maxHeartbeats 1000000 in
theorem Epoch_any (s : List UInt8) (w : World) (hl : s.length ≤ 1099511627776) :
  Calls Tryz.prog 42 #[.string (bs s)] w fun e w' => e = .returned (.tuple #[.int .u32 ((epR s).1 : Int), .int .i64 (epR s).2]) ∧ Ext w w' := by
 have Z0 : Hid (∀ W, Calls Tryz.prog 69 #[.int .i64 0] W fun e w' => e = .returned (.int .i64 49) ∧ W = w') := Lib.hid fun W => Size_any 0 W (by omega)
 have Z1 : Hid (∀ W, Calls Tryz.prog 69 #[.int .i64 1048576] W fun e w' => e = .returned (.int .i64 1048625) ∧ W = w') := Lib.hid fun W => Size_any 1048576 W (by omega)
 unfold epR
 by_cases h1 : s.length < 49
 ·rw [if_pos (Or.inl h1)]
  have i1 : decide ((s.length : Int) < 49) = true := by simp; omega
  clear h1
  go_enter Tryz.func42, Tryz.ntmps42
  go_wp2_with (first
  | (go_at_call 69; with_reducible refine (Z0.out _).mono ?_; rintro e w' ⟨rfl, rfl⟩)
  | (go_at_call 69; with_reducible refine (Z1.out _).mono ?_; rintro e w' ⟨rfl, rfl⟩))
  go_returns
  exact ⟨rfl, Ext.refl _⟩
 have i1 : decide ((s.length : Int) < 49) = false := by simp; omega
 by_cases h2 : 1048625 < s.length
 ·rw [if_pos (Or.inr (Or.inl h2))]
  have i2 : decide ((1048625 : Int) < (s.length : Int)) = true := by simp; omega
  clear h1 h2
  go_enter Tryz.func42, Tryz.ntmps42
  go_wp2_with (first
  | (go_at_call 69; with_reducible refine (Z0.out _).mono ?_; rintro e w' ⟨rfl, rfl⟩)
  | (go_at_call 69; with_reducible refine (Z1.out _).mono ?_; rintro e w' ⟨rfl, rfl⟩))
  go_returns
  exact ⟨rfl, Ext.refl _⟩
 have i2 : decide ((1048625 : Int) < (s.length : Int)) = false := by simp; omega
 have hix : ∀ W, (Instr.index 9 (.string (bs s)) (.int .i64 0)).run Tryz.prog W = .ok (.int .u8 ((s.getD 0 0).toNat : Int)) W := fun W => run_index_str s 0 (by omega) W
 by_cases h3 : s.getD 0 0 = 1
 ·rw [if_neg (fun h => by rcases h with h | h | h; exact h1 h; exact h2 h; exact h h3)]
  have i3 : (((s.getD 0 0).toNat : Int) != 1) = false := by rw [h3]; rfl
  have GG : Hid (∀ W, Calls Tryz.prog 65 #[.string (bs s), .int .i64 1] W fun e w' => e = .returned (.tuple #[.int .u32 ((Get32 s 1).1 : Int), .bool (Get32 s 1).2]) ∧ Ext W w') := Lib.hid fun W => (Get32_any s 1 W hl).mono fun e w' h => ⟨h.1, Ext.of_eq h.2⟩
  generalize (Get32 s 1).1 = g at *
  generalize (Get32 s 1).2 = gb at *
  generalize s.getD 0 0 = x at *
  clear h1 h2 h3
  go_enter Tryz.func42, Tryz.ntmps42
  go_wp2_with (first
  | (go_at_call 69; with_reducible refine (Z0.out _).mono ?_; rintro e w' ⟨rfl, rfl⟩)
  | (go_at_call 69; with_reducible refine (Z1.out _).mono ?_; rintro e w' ⟨rfl, rfl⟩)
  | (go_at_call 65; with_reducible refine (GG.out _).mono ?_; rintro e w1 ⟨rfl, hx1⟩))
  go_returns
  exact ⟨rfl, hx1⟩
 ·rw [if_pos (Or.inr (Or.inr h3))]
  have i3 : (((s.getD 0 0).toNat : Int) != 1) = true := by
   simp only [bne_iff_ne, ne_eq]
   intro h
   exact h3 (UInt8.toNat_inj.1 (by show _ = 1; omega))
  generalize s.getD 0 0 = x at *
  clear h1 h2 h3
  go_enter Tryz.func42, Tryz.ntmps42
  go_wp2_with (first
  | (go_at_call 69; with_reducible refine (Z0.out _).mono ?_; rintro e w' ⟨rfl, rfl⟩)
  | (go_at_call 69; with_reducible refine (Z1.out _).mono ?_; rintro e w' ⟨rfl, rfl⟩))
  go_returns
  exact ⟨rfl, Ext.refl _⟩
set_option maxRecDepth 100000 in
theorem refSize_any (n : Nat) (w : World) (hn : n ≤ 2000000) :
  Calls Tryz.prog 98 #[.int .i64 (n : Int)] w fun e w' => e = .returned (.int .i64 ((n + 49 : Nat) : Int)) ∧ w = w' := by
 have hm : max (n : Int) 0 = (n : Int) := by omega
 go_enter Tryz.func98, Tryz.ntmps98
 go_wp2
 go_returns
 exact ⟨ret_int (by omega), rfl⟩
set_option maxRecDepth 100000 in
set_option maxHeartbeats 1000000 in
theorem refEpoch_any (s : List UInt8) (w : World) (hl : s.length ≤ 1099511627776) :
  Calls Tryz.prog 74 #[.string (bs s)] w fun e w' => e = .returned (.tuple #[.int .u32 ((epR s).1 : Int), .int .i64 (epR s).2]) ∧ Ext w w' := by
 have Z0 : Hid (∀ W, Calls Tryz.prog 98 #[.int .i64 0] W fun e w' => e = .returned (.int .i64 49) ∧ W = w') := Lib.hid fun W => refSize_any 0 W (by omega)
 have Z1 : Hid (∀ W, Calls Tryz.prog 98 #[.int .i64 1048576] W fun e w' => e = .returned (.int .i64 1048625) ∧ W = w') := Lib.hid fun W => refSize_any 1048576 W (by omega)
 unfold epR
 by_cases h1 : s.length < 49
 ·rw [if_pos (Or.inl h1)]
  have i1 : decide ((s.length : Int) < 49) = true := by simp; omega
  clear h1
  go_enter Tryz.func74, Tryz.ntmps74
  go_wp2_with (first
  | (go_at_call 98; with_reducible refine (Z0.out _).mono ?_; rintro e w' ⟨rfl, rfl⟩)
  | (go_at_call 98; with_reducible refine (Z1.out _).mono ?_; rintro e w' ⟨rfl, rfl⟩))
  go_returns
  exact ⟨rfl, Ext.refl _⟩
 have i1 : decide ((s.length : Int) < 49) = false := by simp; omega
 by_cases h2 : 1048625 < s.length
 ·rw [if_pos (Or.inr (Or.inl h2))]
  have i2 : decide ((1048625 : Int) < (s.length : Int)) = true := by simp; omega
  clear h1 h2
  go_enter Tryz.func74, Tryz.ntmps74
  go_wp2_with (first
  | (go_at_call 98; with_reducible refine (Z0.out _).mono ?_; rintro e w' ⟨rfl, rfl⟩)
  | (go_at_call 98; with_reducible refine (Z1.out _).mono ?_; rintro e w' ⟨rfl, rfl⟩))
  go_returns
  exact ⟨rfl, Ext.refl _⟩
 have i2 : decide ((1048625 : Int) < (s.length : Int)) = false := by simp; omega
 have hix : ∀ W, (Instr.index 9 (.string (bs s)) (.int .i64 0)).run Tryz.prog W = .ok (.int .u8 ((s.getD 0 0).toNat : Int)) W := fun W => run_index_str s 0 (by omega) W
 by_cases h3 : s.getD 0 0 = 1
 ·rw [if_neg (fun h => by rcases h with h | h | h; exact h1 h; exact h2 h; exact h h3)]
  have i3 : (((s.getD 0 0).toNat : Int) != 1) = false := by rw [h3]; rfl
  have GG : Hid (∀ W, Calls Tryz.prog 99 #[.string (bs s), .int .i64 1, .int .i64 4] W fun e w' => e = .returned (.tuple #[.int .u64 ((Get32 s 1).1 : Int), .bool (Get32 s 1).2]) ∧ Ext W w') := Lib.hid fun W => (RefGet4_any s 1 W hl).mono fun e w' h => ⟨h.1, Ext.of_eq h.2⟩
  have hg32 := Get32_lt s 1
  generalize (Get32 s 1).1 = g at *
  generalize (Get32 s 1).2 = gb at *
  have hwg : IntKind.u32.wrap (g : Int) = (g : Int) := by rw [IntKind.wrap_u32]; omega
  generalize s.getD 0 0 = x at *
  clear h1 h2 h3
  go_enter Tryz.func74, Tryz.ntmps74
  go_wp2_with (first
  | (go_at_call 98; with_reducible refine (Z0.out _).mono ?_; rintro e w' ⟨rfl, rfl⟩)
  | (go_at_call 98; with_reducible refine (Z1.out _).mono ?_; rintro e w' ⟨rfl, rfl⟩)
  | (go_at_call 99; with_reducible refine (GG.out _).mono ?_; rintro e w1 ⟨rfl, hx1⟩))
  go_returns
  exact ⟨rfl, hx1⟩
 ·rw [if_pos (Or.inr (Or.inr h3))]
  have i3 : (((s.getD 0 0).toNat : Int) != 1) = true := by
   simp only [bne_iff_ne, ne_eq]
   intro h
   exact h3 (UInt8.toNat_inj.1 (by show _ = 1; omega))
  generalize s.getD 0 0 = x at *
  clear h1 h2 h3
  go_enter Tryz.func74, Tryz.ntmps74
  go_wp2_with (first
  | (go_at_call 98; with_reducible refine (Z0.out _).mono ?_; rintro e w' ⟨rfl, rfl⟩)
  | (go_at_call 98; with_reducible refine (Z1.out _).mono ?_; rintro e w' ⟨rfl, rfl⟩))
  go_returns
  exact ⟨rfl, Ext.refl _⟩
end Go.Proofs.YtclekllaikcglaaGreat

/- Contracts: layer 14: Open. -/
namespace Go.Proofs.YtclekllaikcglaaGreat
open Go Go.RowKit
set_option maxRecDepth 100000 in
theorem next_any (b1 b2 f t : Nat) (s : List UInt8) (w : World) (h1 : w.heap[b1]? = some (.cells #[.int .i64 (f : Int)] 3)) (h2 : w.heap[b2]? = some (.cells #[.string (bs s)] 9)) (hf : f ≤ t) (ht : t ≤ s.length) (_hs : s.length ≤ 1099511627776) :
  Calls Tryz.prog 60 #[.int .i64 (t : Int), .pointer (some ⟨b1, 0, none⟩), .pointer (some ⟨b2, 0, none⟩)] w fun e w' => e = .returned (.string (bs ((s.drop f).take (t - f)))) ∧ w' = w.setCell ⟨b1, 0, none⟩ (.int .i64 (t : Int)) := by
 have c1 := cell_blk (i := 0) h1 rfl
 have c2 := cell_blk (i := 0) h2 rfl
 have hne : b2 ≠ b1 := by rintro rfl; rw [h1] at h2; cases h2
 have f1 : w.frozen? ⟨b1, 0, none⟩ = false := frozen_blk h1
 have c3 : ∀ v, (w.setCell ⟨b1, 0, none⟩ v).cell? ⟨b2, 0, none⟩ = some (.string (bs s)) := fun v => cell_blk (i := 0) ((heap_setCell_other w ⟨b1, 0, none⟩ v hne).trans h2) rfl
 have hfi : (f : Int) ≤ (t : Int) := by omega
 have hti : (t : Int) ≤ (s.length : Int) := by omega
 have hx : (bs s).extract f t = bs ((s.drop f).take (t - f)) := bs_extract s f t
 clear h1 h2
 go_enter Tryz.func60, Tryz.ntmps60
 go_wp2
 go_returns
 exact ⟨rfl, rfl⟩
def bodyL (s : List UInt8) : List UInt8 := (s.drop 17).take (s.length - 32 - 17)
def nonceL (s : List UInt8) : List UInt8 := (s.drop 5).take 12
def okL (key path : List UInt8) (ver : Nat) (s : List UInt8) : Bool := rightL (tagL key path ver (s.take (s.length - 32))) (s.drop (s.length - 32))
def openR (key path : List UInt8) (ver : Nat) (s : List UInt8) : List UInt8 × Int :=
 if okL key path ver s then (xorL (bodyL s) (ctrS (rks (derL key lblC 16)) (nonceL s) 0 (bodyL s).length), 0) else ([], 141)
def pieS (T : List (List UInt8)) : Loud.Spec := ⟨fun v _ w => ∃ ad cap, v = .slice ad 4 cap ∧ Sl w (.slice ad 4 cap) (T.map strV), fun _ _ _ _ ⟨ad, cap, h1, h2⟩ hx => ⟨ad, cap, h1, h2.ext hx⟩⟩
set_option maxRecDepth 100000 in
set_option maxHeartbeats 4000000 in
theorem Open_core (r m : Nat) (E : Eps) (n ep : Nat) (key path s : List UInt8) (ver : Nat) (w : World) (h : RingAt w r m E n) (hn : 0 < n) (hep : epR s = (ep, 0)) (hs : lookE E ep = some key) (hkl : key.length ≤ 1099511627776)
  (hv : U64 ver) (hp : path.length ≤ 1048576) :
  Calls Tryz.prog 37 #[.pointer (some ⟨r, 0, none⟩), .string (bs path), .int .u64 (ver : Int), .string (bs s)] w fun e w' => e = .returned (.tuple #[.string (bs (openR key path ver s).1), .int .i64 (openR key path ver s).2]) ∧ Ext w w' := by
 have hsl : 49 ≤ s.length ∧ s.length ≤ 1048625 := by
  unfold epR at hep
  split at hep
  ·injection hep with _ h2; cases h2
  ·rename_i hc; constructor
   ·exact Nat.le_of_not_lt fun hh => hc (Or.inl hh)
   ·exact Nat.le_of_not_lt fun hh => hc (Or.inr (Or.inl hh))
 have ge := fun W => Epoch_any s W (by omega)
 rw [hep] at ge
 have GE := Lib.hid ge
 have GK := Lib.hid (fun W (hx : Ext w W) => ring_Keys r m E n ep W (h.ext hx) hn hs hkl)
 have hpl : decide ((1048576 : Int) < (path.length : Int)) = false := by simp; omega
 obtain ⟨en, hen⟩ : ∃ en, s.length - 32 = en := ⟨_, rfl⟩
 have heni : (s.length : Int) - 32 = (en : Int) := by omega
 have hwe : IntKind.i64.wrap (en : Int) = (en : Int) := by rw [IntKind.wrap_i64]; omega
 have GPI : Hid (∀ b c W, W.heap[b]? = some (.cells #[.string (bs (s.take en))] 9) → Calls Tryz.prog 62 #[.string (bs path), .int .u64 (ver : Int), .slice (some ⟨b, 0, none⟩) 1 c] W fun e w' => ∃ ad cap, e = .returned (.slice ad 4 cap) ∧ Sl w' (.slice ad 4 cap) ((pieL path ver (s.take en)).map strV) ∧ Ext W w') := Lib.hid fun b c W hb => pieces_one path (s.take en) ver b c W hp hv (cell_blk hb rfl)
 have hkt : (derL key lblT 32).length = 32 := derL_length _ _ _ (by omega)
 have hkc : (derL key lblC 16).length = 16 := derL_length _ _ _ (by omega)
 have GC : Hid (∀ ad cap W, Sl W (.slice ad 4 cap) ((pieL path ver (s.take en)).map strV) → Calls Tryz.prog 61 #[.string (bs (derL key lblT 32)), .string (bs (s.drop en)), .slice ad 4 cap] W fun e w' => e = .returned (.bool (okL key path ver s)) ∧ Ext W w') := Lib.hid fun ad cap W hsl2 => by
  have := macCheck_any (derL key lblT 32) (s.drop en) (pieL path ver (s.take en)) ad cap W (by omega) (by rw [List.length_drop]; omega) (by simp [pieL]) (by rw [pieL_flat]; simp only [List.length_append, putB_length, List.length_take]; omega) hsl2
  rw [pieL_flat] at this
  unfold okL
  rw [hen]
  exact this
 have hbl : (bodyL s).length ≤ 1048576 := by unfold bodyL; rw [List.length_take, List.length_drop]; omega
 have hnl : (nonceL s).length = 12 := by unfold nonceL; rw [List.length_take, List.length_drop]; omega
 have GT : Hid (∀ W, Calls Tryz.prog 63 #[.string (bs (derL key lblC 16)), .string (bs (nonceL s)), .int .u32 0, .string (bs (bodyL s))] W fun e w' => e = .returned (.tuple #[.string (bs (xorL (bodyL s) (ctrS (rks (derL key lblC 16)) (nonceL s) 0 (bodyL s).length))), .int .i64 0]) ∧ Ext W w') := Lib.hid fun W => Turn_ok _ _ _ 0 W hkc hnl hbl (by omega) (by omega)
 have hda : (bs s).extract en s.length = bs (s.drop en) := by rw [bs_extract, List.take_of_length_le (by rw [List.length_drop]; omega)]
 have hel : (en : Int) ≤ (s.length : Int) := by omega
 have HOR : Hid (openR key path ver s = if okL key path ver s then (xorL (bodyL s) (ctrS (rks (derL key lblC 16)) (nonceL s) 0 (bodyL s).length), 0) else ([], 141)) := Lib.hid rfl
 generalize openR key path ver s = R at *
 generalize xorL (bodyL s) (ctrS (rks (derL key lblC 16)) (nonceL s) 0 (bodyL s).length) = text at *
 generalize okL key path ver s = ok at *
 generalize derL key lblC 16 = kc at *
 generalize derL key lblT 32 = kt at *
 generalize pieL path ver (s.take en) = T at *
 clear h ge hep hs hkt hkc hbl hnl
 go_enter Tryz.func37, Tryz.ntmps37
 go_upto_region 14 with (first
  | (go_at_call 42; with_reducible refine (GE.out _).mono ?_; rintro e w1 ⟨rfl, hx1⟩; have hc1 := hx1.cell_of (cell_blk (i := 0) (heap_alloc_new w _) rfl))
  | (go_at_call 59; with_reducible refine (GK.out _ (((Ext.refl w).alloc _).trans hx1)).mono ?_; rintro e w2 ⟨rfl, hx2⟩; have hc2 := hx2.cell_of hc1; have hc3 := fun o => ((Ext.refl w2).alloc o).cell_of hc2))
 have hsw : w.heap.size < w2.heap.size := by have h1 := hx1.size; have h2 := hx2.size; simp at h1; omega
 obtain ⟨w3, hw3⟩ : ∃ w3, w2.alloc (.cells #[.int .i64 0] 3) = w3 := ⟨_, rfl⟩
 have a3 : w3.heap[w2.heap.size]? = some (.cells #[.int .i64 ((0 : Nat) : Int)] 3) := by rw [← hw3]; exact heap_alloc_new _ _
 have s3 : w3.heap[w.heap.size]? = some (.cells #[.string (bs s)] 9) := by rw [← hw3]; exact ((hx1.trans hx2).alloc _).keep (heap_alloc_new w _)
 have x3 : Ext w w3 := by rw [← hw3]; exact ((((Ext.refl w).alloc _).trans hx1).trans hx2).alloc _
 rw [hw3]
 clear hw3 hc1 hc2 hc3 GE GK hx1 hx2
 obtain ⟨a, ha⟩ : ∃ a, w2.heap.size = a := ⟨_, rfl⟩
 rw [ha] at a3 hsw ⊢
 clear ha
 have hSne : w.heap.size ≠ a := by omega
 obtain ⟨w4, hw4⟩ : ∃ w4, w4 = w3.setCell ⟨a, 0, none⟩ (.int .i64 ((5 : Nat) : Int)) := ⟨_, rfl⟩
 obtain ⟨w5, hw5⟩ : ∃ w5, w5 = w4.setCell ⟨a, 0, none⟩ (.int .i64 ((17 : Nat) : Int)) := ⟨_, rfl⟩
 obtain ⟨w6, hw6⟩ : ∃ w6, w6 = w5.setCell ⟨a, 0, none⟩ (.int .i64 (en : Int)) := ⟨_, rfl⟩
 have a4 : w4.heap[a]? = some (.cells #[.int .i64 ((5 : Nat) : Int)] 3) := by rw [hw4]; exact heap_setCell_same (i := 0) _ a3
 have a5 : w5.heap[a]? = some (.cells #[.int .i64 ((17 : Nat) : Int)] 3) := by rw [hw5]; exact heap_setCell_same (i := 0) _ a4
 have s4 : w4.heap[w.heap.size]? = some (.cells #[.string (bs s)] 9) := by rw [hw4]; exact (heap_setCell_other _ _ _ hSne).trans s3
 have s5 : w5.heap[w.heap.size]? = some (.cells #[.string (bs s)] 9) := by rw [hw5]; exact (heap_setCell_other _ _ _ hSne).trans s4
 have s6 : w6.heap[w.heap.size]? = some (.cells #[.string (bs s)] 9) := by rw [hw6]; exact (heap_setCell_other _ _ _ hSne).trans s5
 have x6 : Ext w w6 := by rw [hw6, hw5, hw4]; exact ((x3.setCell (Nat.le_of_lt hsw) _).setCell (Nat.le_of_lt hsw) _).setCell (Nat.le_of_lt hsw) _
 have N1 : Hid (Calls Tryz.prog 60 #[.int .i64 5, .pointer (some ⟨a, 0, none⟩), .pointer (some ⟨w.heap.size, 0, none⟩)] w3 fun e w' => e = .returned (.string (bs ((s.drop 0).take 5))) ∧ w4 = w') := Lib.hid ((next_any a w.heap.size 0 5 s w3 a3 s3 (by omega) (by omega) (by omega)).mono fun e w' h => ⟨h.1, hw4.trans h.2.symm⟩)
 have N2 : Hid (Calls Tryz.prog 60 #[.int .i64 17, .pointer (some ⟨a, 0, none⟩), .pointer (some ⟨w.heap.size, 0, none⟩)] w4 fun e w' => e = .returned (.string (bs (nonceL s))) ∧ w5 = w') := Lib.hid ((next_any a w.heap.size 5 17 s w4 a4 s4 (by omega) (by omega) (by omega)).mono fun e w' h => ⟨h.1, hw5.trans h.2.symm⟩)
 have N3 : Hid (Calls Tryz.prog 60 #[.int .i64 (en : Int), .pointer (some ⟨a, 0, none⟩), .pointer (some ⟨w.heap.size, 0, none⟩)] w5 fun e w' => e = .returned (.string (bs (bodyL s))) ∧ w6 = w') := Lib.hid (by
  refine (next_any a w.heap.size 17 en s w5 a5 s5 (by omega) (by omega) (by omega)).mono fun e w' h => ⟨?_, hw6.trans h.2.symm⟩
  rw [h.1]
  unfold bodyL
  rw [hen])
 have cs6 := cell_blk (i := 0) s6 rfl
 have X6 := Lib.hid x6
 clear hw4 hw5 hw6 a3 a4 a5 s3 s4 s5 s6 x3 x6
 go_upto_region 16 with (first
  | (go_at_call 60; with_reducible refine N1.out.mono ?_; rintro e w' ⟨rfl, rfl⟩)
  | (go_at_call 60; with_reducible refine N2.out.mono ?_; rintro e w' ⟨rfl, rfl⟩)
  | (go_at_call 60; with_reducible refine N3.out.mono ?_; rintro e w' ⟨rfl, rfl⟩))
 refine Loud.wp_region_weave 13 w6 (Loud.sps [.val (.string (bs kt)), .val (.string (bs s)), .val (.int .i64 (en : Int)), .val (.string (bs (s.drop en))), .val (.string (bs path)), .val (.int .u64 (ver : Int)), .val (.string (bs s)), .val (.int .i64 (en : Int)), .val (.string (bs (s.take en))), .blk 1 1 (.cells #[.string (bs (s.take en))] 9), pieS T, .val (.bool ok), .val (.bool (!ok))]) (by kernel_rfl) (by kernel_rfl) (by show Ext _ _; repeat (first | exact Ext.refl _ | assumption | (with_reducible refine Ext.drew ?_) | (with_reducible refine Ext.drewN ?_ _) | (with_reducible refine Ext.alloc ?_ _) | (refine Ext.trans ?_ (by assumption)))) (Loud.sps_st _) ?wAx1 ?whAx1 ?whSx1 ?whFx1
 case whAx1 => intro u K hK; simp only [List.take_succ_cons, List.take_zero, Loud.puts]; go_simp; exact hK
 case whSx1 =>
  refine ⟨?wsx1_0, ?wsx1_1, ?wsx1_2, ?wsx1_3, ?wsx1_4, ?wsx1_5, ?wsx1_6, ?wsx1_7, ?wsx1_8, ?wsx1_9, ?wsx1_10, ?wsx1_11, ?wsx1_12, trivial⟩
  all_goals (intro u β wq hq h; repeat (obtain ⟨h1, h⟩ := h; first | (replace h1 := h1 rfl; simp only [go_sem] at h1; try (obtain ⟨h1, h1b⟩ := h1)) | (have hno := (h1 : Region.binds _ _ = true → _); clear hno h1)))
  case wsx1_1 =>
   refine Or.inl ⟨rfl, fun K hK => ?_⟩
   have hqc := hq.cell_of cs6
   go_simp
   exact hK _ 0 _ (Ext.refl _) rfl
  case wsx1_6 =>
   refine Or.inl ⟨rfl, fun K hK => ?_⟩
   have hqc := hq.cell_of cs6
   go_simp
   exact hK _ 0 _ (Ext.refl _) rfl
  case wsx1_9 =>
   refine Or.inl ⟨rfl, fun K hK => ?_⟩
   go_simp
   exact hK _ _ _ ((Ext.refl _).alloc _) ⟨rfl, heap_alloc_new _ _⟩
  case wsx1_10 =>
   refine Or.inl ⟨rfl, fun K hK => ?_⟩
   go_simp
   refine (GPI.out _ _ _ (by assumption)).mono ?_; rintro e w1 ⟨ad, cap, rfl, hsl, hx1⟩; exact ⟨_, rfl, hK _ 0 _ hx1 ⟨ad, cap, rfl, hsl⟩⟩
  case wsx1_11 =>
   refine Or.inl ⟨rfl, fun K hK => ?_⟩
   obtain ⟨cap_, hu_, hs_⟩ := h1b
   go_simp
   refine (GC.out _ _ _ hs_).mono ?_; rintro e w1 ⟨rfl, hx1⟩; exact ⟨_, rfl, hK _ 0 _ hx1 rfl⟩
  all_goals (first | refine Or.inl ⟨rfl, fun K hK => ?_⟩ | refine Or.inl ⟨Loud.wanted_of rfl rfl (congrArg some (by assumption)), fun K hK => ?_⟩); go_simp; exact hK _ 0 _ (Ext.refl _) rfl
 intro u β w8 hq h
 have h0 := h 0 (by omega)
 have h1 := h 1 (by omega)
 have h2 := h 2 (by omega)
 have h3 := h 3 (by omega)
 have h4 := h 4 (by omega)
 have h5 := h 5 (by omega)
 have h6 := h 6 (by omega)
 have h7 := h 7 (by omega)
 have h8 := h 8 (by omega)
 have h9 := h 9 (by omega)
 have h10 := h 10 (by omega)
 have h11 := h 11 (by omega)
 have h12 := h 12 (by omega)
 clear h
 simp only [go_sem] at h0 h1 h2 h3 h4 h5 h6 h7 h8 h9 h10 h11 h12
 simp only [List.drop_succ_cons, List.drop_zero]
 rw [h12]
 cases ok
 ·rw [if_neg (by simp)] at HOR
  go_wp2
  go_returns
  exact ⟨by rw [HOR.out]; rfl, X6.out.trans hq⟩
 ·rw [if_pos rfl] at HOR
  go_wp2_with (go_at_call 63; with_reducible refine (GT.out _).mono ?_; rintro e w9 ⟨rfl, hx9⟩)
  go_returns
  exact ⟨by rw [HOR.out]; rfl, (X6.out.trans hq).trans hx9⟩
end Go.Proofs.YtclekllaikcglaaGreat

/- Contracts: layer 14: the document's Close. -/
namespace Go.Proofs.YtclekllaikcglaaGreat
open Go Go.RowKit
set_option maxRecDepth 100000 in
theorem refClose_arg (d : Nat) (path nonce text : List UInt8) (ver : Nat) (w : World) (hn : nonce.length ≠ 12) :
  Calls Tryz.prog 84 #[.pointer (some ⟨d, 0, none⟩), .string (bs path), .int .u64 (ver : Int), .string (bs nonce), .string (bs text)] w fun e w' => e = .returned (.tuple #[.string (bs []), .int .i64 2]) ∧ w = w' := by
 have hne : ((nonce.length : Int) != 12) = true := by simp; omega
 clear hn
 go_enter Tryz.func84, Tryz.ntmps84
 go_wp2
 go_returns
 exact ⟨rfl, rfl⟩
set_option maxRecDepth 100000 in
set_option maxHeartbeats 2000000 in
theorem refClose_yes (B d : Nat) (E0 : Eps) (n : Nat) (key path nonce text : List UInt8) (ver : Nat) (w : World) (h : DocAt w B d (E0 ++ [(n, key)])) (hE : E0.length ≤ 900) (hn32 : n < 4294967296) (hs : lookE (E0 ++ [(n, key)]) n = some key) (hkl : key.length ≤ 1099511627776)
  (hv : U64 ver) (hno : nonce.length = 12) (hp : path.length ≤ 1048576) (ht : text.length ≤ 1048576) :
  Calls Tryz.prog 84 #[.pointer (some ⟨d, 0, none⟩), .string (bs path), .int .u64 (ver : Int), .string (bs nonce), .string (bs text)] w fun e w' => e = .returned (.tuple #[.string (bs (envL key n nonce text ++ tagL key path ver (envL key n nonce text))), .int .i64 0]) ∧ Ext w w' := by
 have GN := Lib.hid (fun W (hx : Ext w W) => ref_ring_Newest B d E0 n key W (h.ext hx) (by omega))
 have GK := Lib.hid (fun W (hx : Ext w W) => ref_ring_Keys B d (E0 ++ [(n, key)]) n W (h.ext hx) (by simp; omega) hs hkl)
 have hkc : (derL key lblC 16).length = 16 := derL_length _ _ _ (by omega)
 have hkt : (derL key lblT 32).length = 32 := derL_length _ _ _ (by omega)
 have GT : Hid (∀ W, Calls Tryz.prog 104 #[.string (bs (derL key lblC 16)), .string (bs nonce), .int .u32 0, .string (bs text)] W fun e w' => e = .returned (.tuple #[.string (bs (xorL text (ctrS (rks (derL key lblC 16)) nonce 0 text.length))), .int .i64 0]) ∧ Ext W w') := Lib.hid fun W => refTurn_ok _ nonce text 0 W hkc hno ht (by omega) (by omega)
 have GP := Lib.hid (fun W => RefPut4_any n W (by unfold U64; omega))
 have hel := envL_length key n nonce text hno
 have GM := Lib.hid (fun W => refTag_any (derL key lblT 32) path (envL key n nonce text) ver W (by omega) hp (by omega) hv)
 have HTG : Hid (tagL key path ver (envL key n nonce text) = macL (derL key lblT 32) (putB 4 path.length ++ path ++ putB 8 ver ++ envL key n nonce text)) := Lib.hid rfl
 rw [← HTG.out] at GM
 clear HTG
 have htl : (tagL key path ver (envL key n nonce text)).length = 32 := macL_length _ _
 have hxl : (xorL text (ctrS (rks (derL key lblC 16)) nonce 0 text.length)).length = text.length := xorL_length _ _ (ctrS_length _ _ _ _ (rks_length _) hno).symm
 have hp4 := putB_length 4 n
 generalize tagL key path ver (envL key n nonce text) = tag at *
 have HEN : Hid (envL key n nonce text = [1] ++ putB 4 n ++ nonce ++ xorL text (ctrS (rks (derL key lblC 16)) nonce 0 text.length)) := Lib.hid rfl
 generalize envL key n nonce text = env at *
 generalize xorL text (ctrS (rks (derL key lblC 16)) nonce 0 text.length) = body at *
 generalize derL key lblC 16 = kc at *
 generalize derL key lblT 32 = kt at *
 generalize putB 4 n = p4 at *
 obtain ⟨one, hone⟩ : ∃ one : List UInt8, one = [1] := ⟨_, rfl⟩
 rw [← hone] at HEN
 have hlit : ({ data := #[1] } : ByteArray) = bs one := by rw [hone]; rfl
 have hol : one.length = 1 := by rw [hone]; rfl
 have hne : ((nonce.length : Int) != 12) = false := by simp; omega
 have hpl : decide ((1048576 : Int) < (path.length : Int)) = false := by simp; omega
 have htx : decide ((1048576 : Int) < (text.length : Int)) = false := by simp; omega
 have hwn : IntKind.u64.wrap (n : Int) = (n : Int) := by rw [IntKind.wrap_u64]; omega
 have HX := Lib.hid (Ext.refl w)
 have g1 : ¬ 9223372036854775807 < one.length + p4.length := by omega
 have g2 : ¬ 9223372036854775807 < one.length + p4.length + nonce.length := by omega
 have g3 : ¬ 9223372036854775807 < one.length + p4.length + nonce.length + body.length := by omega
 have g4 : ¬ 9223372036854775807 < env.length + tag.length := by omega
 clear h hE hn32 hs hkl hv hno hp ht hkc hkt hel htl hxl hp4 hone hol
 go_enter Tryz.func84, Tryz.ntmps84
 go_upto_region 8 with (first
  | (go_at_call 105; with_reducible refine (GN.out _ HX.out).mono ?_; rintro e w1 ⟨rfl, hx1⟩; have hq := HX.out.trans hx1; clear HX hx1; have HX := Lib.hid hq; clear hq)
  | (go_at_call 102; with_reducible refine (GK.out _ HX.out).mono ?_; rintro e w1 ⟨rfl, hx1⟩; have hq := HX.out.trans hx1; clear HX hx1; have HX := Lib.hid hq; clear hq)
  | (go_at_call 104; with_reducible refine (GT.out _).mono ?_; rintro e w1 ⟨rfl, hx1⟩; have hq := HX.out.trans hx1; clear HX hx1; have HX := Lib.hid hq; clear hq)
  | (go_at_call 108; with_reducible refine (GP.out _).mono ?_; rintro e w1 ⟨rfl, hx1⟩; have hq := HX.out.trans hx1; clear HX hx1; have HX := Lib.hid hq; clear hq))
 rw [← show env = one ++ (p4 ++ (nonce ++ body)) by rw [HEN.out]; simp only [List.append_assoc]]
 go_wp2_with (go_at_call 103; with_reducible refine (GM.out _).mono ?_; rintro e w6 ⟨rfl, hx6⟩)
 go_returns
 exact ⟨rfl, HX.out.trans hx6⟩
end Go.Proofs.YtclekllaikcglaaGreat

/- Contracts: layer 14: the document's Open. -/
namespace Go.Proofs.YtclekllaikcglaaGreat
open Go Go.RowKit
theorem rightL_full (z t : List UInt8) (hz : z.length = 32) (ht : t.length = 32) : rightL z t = (z == t) := by
 unfold rightL
 rw [ht, List.take_of_length_le (by omega)]
 by_cases h : z = t
 ·subst h; simp
 ·simp [h]
set_option maxRecDepth 100000 in
set_option maxHeartbeats 4000000 in
theorem refOpen_core (B d : Nat) (E : Eps) (ep : Nat) (key path s : List UInt8) (ver : Nat) (w : World) (h : DocAt w B d E) (hl : E.length ≤ 1000) (hep : epR s = (ep, 0)) (hs : lookE E ep = some key) (hkl : key.length ≤ 1099511627776)
  (hv : U64 ver) (hp : path.length ≤ 1048576) :
  Calls Tryz.prog 77 #[.pointer (some ⟨d, 0, none⟩), .string (bs path), .int .u64 (ver : Int), .string (bs s)] w fun e w' => e = .returned (.tuple #[.string (bs (openR key path ver s).1), .int .i64 (openR key path ver s).2]) ∧ Ext w w' := by
 have hsl : 49 ≤ s.length ∧ s.length ≤ 1048625 := by
  unfold epR at hep
  split at hep
  ·injection hep with _ h2; cases h2
  ·rename_i hc; constructor
   ·exact Nat.le_of_not_lt fun hh => hc (Or.inl hh)
   ·exact Nat.le_of_not_lt fun hh => hc (Or.inr (Or.inl hh))
 have ge := fun W => refEpoch_any s W (by omega)
 rw [hep] at ge
 have GE := Lib.hid ge
 have GK := Lib.hid (fun W (hx : Ext w W) => ref_ring_Keys B d E ep W (h.ext hx) hl hs hkl)
 have hpl : decide ((1048576 : Int) < (path.length : Int)) = false := by simp; omega
 obtain ⟨en, hen⟩ : ∃ en, s.length - 32 = en := ⟨_, rfl⟩
 have heni : (s.length : Int) - 32 = (en : Int) := by omega
 have hwe : IntKind.i64.wrap (en : Int) = (en : Int) := by rw [IntKind.wrap_i64]; omega
 have hkt : (derL key lblT 32).length = 32 := derL_length _ _ _ (by omega)
 have hkc : (derL key lblC 16).length = 16 := derL_length _ _ _ (by omega)
 have hds : (s.drop en).length = 32 := by rw [List.length_drop]; omega
 have hok : okL key path ver s = (tagL key path ver (s.take en) == s.drop en) := by
  unfold okL
  rw [hen]
  exact rightL_full _ _ (macL_length _ _) hds
 have GTG := Lib.hid (fun W => refTag_any (derL key lblT 32) path (s.take en) ver W (by omega) hp (by rw [List.length_take]; omega) hv)
 have HTG : Hid (tagL key path ver (s.take en) = macL (derL key lblT 32) (putB 4 path.length ++ path ++ putB 8 ver ++ s.take en)) := Lib.hid rfl
 rw [← HTG.out] at GTG
 clear HTG
 have hbl : (bodyL s).length ≤ 1048576 := by unfold bodyL; rw [List.length_take, List.length_drop]; omega
 have hnl : (nonceL s).length = 12 := by unfold nonceL; rw [List.length_take, List.length_drop]; omega
 have GT : Hid (∀ W, Calls Tryz.prog 104 #[.string (bs (derL key lblC 16)), .string (bs (nonceL s)), .int .u32 0, .string (bs (bodyL s))] W fun e w' => e = .returned (.tuple #[.string (bs (xorL (bodyL s) (ctrS (rks (derL key lblC 16)) (nonceL s) 0 (bodyL s).length))), .int .i64 0]) ∧ Ext W w') := Lib.hid fun W => refTurn_ok _ _ _ 0 W hkc hnl hbl (by omega) (by omega)
 have hda : (bs s).extract en s.length = bs (s.drop en) := by rw [bs_extract, List.take_of_length_le (by rw [List.length_drop]; omega)]
 have hdn : (bs s).extract 5 17 = bs (nonceL s) := bs_extract s 5 17
 have hdb : (bs s).extract 17 en = bs (bodyL s) := by rw [bs_extract]; unfold bodyL; rw [hen]
 have hel : (en : Int) ≤ (s.length : Int) := by omega
 have h17 : (17 : Int) ≤ (en : Int) := by omega
 have h17s : (17 : Int) ≤ (s.length : Int) := by omega
 have HOR : Hid (openR key path ver s = if okL key path ver s then (xorL (bodyL s) (ctrS (rks (derL key lblC 16)) (nonceL s) 0 (bodyL s).length), 0) else ([], 141)) := Lib.hid rfl
 generalize openR key path ver s = R at *
 generalize xorL (bodyL s) (ctrS (rks (derL key lblC 16)) (nonceL s) 0 (bodyL s).length) = text at *
 generalize okL key path ver s = ok at *
 generalize tagL key path ver (s.take en) = tag at *
 generalize derL key lblC 16 = kc at *
 generalize derL key lblT 32 = kt at *
 have HX := Lib.hid (Ext.refl w)
 clear h ge hep hs hkt hkc hbl hnl hds hl
 go_enter Tryz.func77, Tryz.ntmps77
 go_upto_region 10 with (first
  | (go_at_call 74; with_reducible refine (GE.out _).mono ?_; rintro e w1 ⟨rfl, hx1⟩; have hq := HX.out.trans hx1; clear HX hx1; have HX := Lib.hid hq; clear hq)
  | (go_at_call 102; with_reducible refine (GK.out _ HX.out).mono ?_; rintro e w1 ⟨rfl, hx1⟩; have hq := HX.out.trans hx1; clear HX hx1; have HX := Lib.hid hq; clear hq))
 refine Loud.wp_region_weave 11 w1 (Loud.sps [.val (.string (bs kt)), .val (.string (bs path)), .val (.int .u64 (ver : Int)), .val (.string (bs s)), .val (.int .i64 (en : Int)), .val (.string (bs (s.take en))), .val (.string (bs tag)), .val (.string (bs s)), .val (.int .i64 (en : Int)), .val (.string (bs (s.drop en))), .val (.bool (!(tag == s.drop en)))]) (by kernel_rfl) (by kernel_rfl) (by show Ext _ _; repeat (first | exact Ext.refl _ | assumption | (with_reducible refine Ext.drew ?_) | (with_reducible refine Ext.drewN ?_ _) | (with_reducible refine Ext.alloc ?_ _) | (refine Ext.trans ?_ (by assumption)))) (Loud.sps_st _) ?wAx1 ?whAx1 ?whSx1 ?whFx1
 case whAx1 => intro u K hK; simp only [List.take_succ_cons, List.take_zero, Loud.puts]; go_simp; exact hK
 case whSx1 =>
  refine ⟨?wsx1_0, ?wsx1_1, ?wsx1_2, ?wsx1_3, ?wsx1_4, ?wsx1_5, ?wsx1_6, ?wsx1_7, ?wsx1_8, ?wsx1_9, ?wsx1_10, trivial⟩
  all_goals (intro u β wq hq h; repeat (obtain ⟨h1, h⟩ := h; first | (replace h1 := h1 rfl; simp only [go_sem] at h1; try (obtain ⟨h1, h1b⟩ := h1)) | (have hno := (h1 : Region.binds _ _ = true → _); clear hno h1)))
  case wsx1_6 =>
   refine Or.inl ⟨rfl, fun K hK => ?_⟩
   go_simp
   refine (GTG.out _).mono ?_; rintro e w1 ⟨rfl, hx1⟩; exact ⟨_, rfl, hK _ 0 _ hx1 rfl⟩
  all_goals (first | refine Or.inl ⟨rfl, fun K hK => ?_⟩ | refine Or.inl ⟨Loud.wanted_of rfl rfl (congrArg some (by assumption)), fun K hK => ?_⟩); go_simp; exact hK _ 0 _ (Ext.refl _) rfl
 intro u β w8 hq h
 have h0 := h 0 (by omega)
 have h1 := h 1 (by omega)
 have h2 := h 2 (by omega)
 have h3 := h 3 (by omega)
 have h4 := h 4 (by omega)
 have h5 := h 5 (by omega)
 have h6 := h 6 (by omega)
 have h7 := h 7 (by omega)
 have h8 := h 8 (by omega)
 have h9 := h 9 (by omega)
 have h10 := h 10 (by omega)
 clear h
 simp only [go_sem] at h0 h1 h2 h3 h4 h5 h6 h7 h8 h9 h10
 simp only [List.drop_succ_cons, List.drop_zero]
 rw [h10]
 rw [← hok]
 have HX8 := Lib.hid (HX.out.trans hq)
 clear hq
 cases hok2 : ok
 ·rw [hok2, if_neg (by simp)] at HOR
  go_wp2
  go_returns
  exact ⟨by rw [HOR.out]; rfl, HX8.out⟩
 ·rw [hok2, if_pos rfl] at HOR
  clear h0 h1 h2 h3 h4 h5 h6 h7 h8 h9 h10
  go_wp2
  refine Loud.wp_region_weave 12 w8 (Loud.sps [.val (.string (bs kc)), .val (.string (bs s)), .val (.string (bs (nonceL s))), .val (.string (bs s)), .val (.int .i64 (en : Int)), .val (.string (bs (bodyL s))), .val (.tuple #[.string (bs text), .int .i64 0]), .val (.tuple #[.string (bs text), .int .i64 0]), .val (.string (bs text)), .val (.int .i64 0), .val (.string (bs text)), .val (.int .i64 0)]) (by kernel_rfl) (by kernel_rfl) (by show Ext _ _; repeat (first | exact Ext.refl _ | assumption | (with_reducible refine Ext.drew ?_) | (with_reducible refine Ext.drewN ?_ _) | (with_reducible refine Ext.alloc ?_ _) | (refine Ext.trans ?_ (by assumption)))) (Loud.sps_st _) ?wAx2 ?whAx2 ?whSx2 ?whFx2
  case whAx2 => intro u K hK; simp only [List.take_succ_cons, List.take_zero, Loud.puts]; go_simp; exact hK
  case whSx2 =>
   refine ⟨?wsx2_0, ?wsx2_1, ?wsx2_2, ?wsx2_3, ?wsx2_4, ?wsx2_5, ?wsx2_6, ?wsx2_7, ?wsx2_8, ?wsx2_9, ?wsx2_10, ?wsx2_11, trivial⟩
   all_goals (intro u β wq hq h; repeat (obtain ⟨h1, h⟩ := h; first | (replace h1 := h1 rfl; simp only [go_sem] at h1; try (obtain ⟨h1, h1b⟩ := h1)) | (have hno := (h1 : Region.binds _ _ = true → _); clear hno h1)))
   case wsx2_6 =>
    refine Or.inl ⟨rfl, fun K hK => ?_⟩
    go_simp
    refine (GT.out _).mono ?_; rintro e w1 ⟨rfl, hx1⟩; exact ⟨_, rfl, hK _ 0 _ hx1 rfl⟩
   all_goals (first | refine Or.inl ⟨rfl, fun K hK => ?_⟩ | refine Or.inl ⟨Loud.wanted_of rfl rfl (congrArg some (by assumption)), fun K hK => ?_⟩); go_simp; exact hK _ 0 _ (Ext.refl _) rfl
  intro u β w9 hq h
  have h0 := h 0 (by omega)
  have h1 := h 1 (by omega)
  have h2 := h 2 (by omega)
  have h3 := h 3 (by omega)
  have h4 := h 4 (by omega)
  have h5 := h 5 (by omega)
  have h6 := h 6 (by omega)
  have h7 := h 7 (by omega)
  have h8 := h 8 (by omega)
  have h9 := h 9 (by omega)
  have h10 := h 10 (by omega)
  have h11 := h 11 (by omega)
  clear h
  simp only [go_sem] at h0 h1 h2 h3 h4 h5 h6 h7 h8 h9 h10 h11
  simp only [List.drop_succ_cons, List.drop_zero]
  rw [h11]
  rw [h10]
  go_wp2
  go_returns
  exact ⟨by rw [HOR.out]; rfl, HX8.out.trans hq⟩
end Go.Proofs.YtclekllaikcglaaGreat

/- Contracts: layer 14: what Open refuses. -/
namespace Go.Proofs.YtclekllaikcglaaGreat
open Go Go.RowKit
theorem epR_cases (s : List UInt8) : epR s = (0, 7) ∨ ∃ ep, epR s = (ep, 0) := by
 unfold epR
 split
 ·exact .inl rfl
 ·exact .inr ⟨_, rfl⟩
set_option maxRecDepth 100000 in
theorem Open_form (r : Nat) (path s : List UInt8) (ver : Nat) (w : World) (hl : s.length ≤ 1099511627776) (hep : epR s = (0, 7)) :
  Calls Tryz.prog 37 #[.pointer (some ⟨r, 0, none⟩), .string (bs path), .int .u64 (ver : Int), .string (bs s)] w fun e w' => e = .returned (.tuple #[.string (bs []), .int .i64 7]) ∧ Ext w w' := by
 have ge := fun W => Epoch_any s W hl
 rw [hep] at ge
 have GE := Lib.hid ge
 clear ge hep
 go_enter Tryz.func37, Tryz.ntmps37
 go_wp2_with (go_at_call 42; refine (GE.out _).mono ?_; rintro e w1 ⟨rfl, hx1⟩)
 go_returns
 exact ⟨rfl, ((Ext.refl w).alloc _).trans hx1⟩
set_option maxRecDepth 100000 in
theorem refOpen_form (d : Nat) (path s : List UInt8) (ver : Nat) (w : World) (hl : s.length ≤ 1099511627776) (hep : epR s = (0, 7)) :
  Calls Tryz.prog 77 #[.pointer (some ⟨d, 0, none⟩), .string (bs path), .int .u64 (ver : Int), .string (bs s)] w fun e w' => e = .returned (.tuple #[.string (bs []), .int .i64 7]) ∧ Ext w w' := by
 have ge := fun W => refEpoch_any s W hl
 rw [hep] at ge
 have GE := Lib.hid ge
 clear ge hep
 go_enter Tryz.func77, Tryz.ntmps77
 go_wp2_with (go_at_call 74; refine (GE.out _).mono ?_; rintro e w1 ⟨rfl, hx1⟩)
 go_returns
 exact ⟨rfl, hx1⟩
set_option maxRecDepth 100000 in
theorem Open_none (r m : Nat) (E : Eps) (n ep : Nat) (path s : List UInt8) (ver : Nat) (w : World) (h : RingAt w r m E n) (hn : 0 < n) (hl : s.length ≤ 1099511627776) (hep : epR s = (ep, 0)) (hs : lookE E ep = none) (hp : path.length ≤ 1048576) :
  Calls Tryz.prog 37 #[.pointer (some ⟨r, 0, none⟩), .string (bs path), .int .u64 (ver : Int), .string (bs s)] w fun e w' => e = .returned (.tuple #[.string (bs []), .int .i64 140]) ∧ Ext w w' := by
 have ge := fun W => Epoch_any s W hl
 rw [hep] at ge
 have GE := Lib.hid ge
 have GK := Lib.hid (fun W (hx : Ext w W) => ring_Keys_none r m E n ep W (h.ext hx) hn hs)
 have hpl : decide ((1048576 : Int) < (path.length : Int)) = false := by simp; omega
 clear ge hep h hs hp
 go_enter Tryz.func37, Tryz.ntmps37
 go_wp2_with (first
  | (go_at_call 42; refine (GE.out _).mono ?_; rintro e w1 ⟨rfl, hx1⟩; have hq := ((Ext.refl w).alloc _).trans hx1)
  | (go_at_call 59; refine (GK.out _ hq).mono ?_; rintro e w' ⟨rfl, rfl⟩))
 go_returns
 exact ⟨rfl, hq⟩
set_option maxRecDepth 100000 in
theorem refOpen_none (B d : Nat) (E : Eps) (ep : Nat) (path s : List UInt8) (ver : Nat) (w : World) (h : DocAt w B d E) (hE : E ≠ []) (hl1 : E.length ≤ 1000) (hl : s.length ≤ 1099511627776) (hep : epR s = (ep, 0)) (hs : lookE E ep = none) (hp : path.length ≤ 1048576) :
  Calls Tryz.prog 77 #[.pointer (some ⟨d, 0, none⟩), .string (bs path), .int .u64 (ver : Int), .string (bs s)] w fun e w' => e = .returned (.tuple #[.string (bs []), .int .i64 140]) ∧ Ext w w' := by
 have ge := fun W => refEpoch_any s W hl
 rw [hep] at ge
 have GE := Lib.hid ge
 have GK := Lib.hid (fun W (hx : Ext w W) => ref_ring_Keys_none B d E ep W (h.ext hx) hE hl1 hs)
 have hpl : decide ((1048576 : Int) < (path.length : Int)) = false := by simp; omega
 clear ge hep h hs hp hE hl1
 go_enter Tryz.func77, Tryz.ntmps77
 go_wp2_with (first
  | (go_at_call 74; refine (GE.out _).mono ?_; rintro e w1 ⟨rfl, hx1⟩)
  | (go_at_call 102; refine (GK.out _ hx1).mono ?_; rintro e w' ⟨rfl, rfl⟩))
 go_returns
 exact ⟨rfl, hx1⟩
end Go.Proofs.YtclekllaikcglaaGreat

/- Contracts: layer 14: Open, whatever the bytes. -/
namespace Go.Proofs.YtclekllaikcglaaGreat
open Go Go.RowKit
def openAny (E : Eps) (path : List UInt8) (ver : Nat) (s : List UInt8) : List UInt8 × Int :=
 if (epR s).2 = 7 then ([], 7) else match lookE E (epR s).1 with
  | none => ([], 140)
  | some key => openR key path ver s
theorem look_key {E : Eps} {ep : Nat} {key : List UInt8} (h : ∀ p ∈ E, p.2.length = 32) (hk : lookE E ep = some key) : key.length = 32 := by
 unfold lookE at hk
 obtain ⟨p, hp, rfl⟩ := Option.map_eq_some_iff.1 hk
 exact h p (List.mem_of_find?_eq_some hp)
theorem Open_any (r m : Nat) (E : Eps) (n : Nat) (path s : List UInt8) (ver : Nat) (w : World) (h : RingAt w r m E n) (hn : 0 < n) (hl : s.length ≤ 1099511627776) (hkl : ∀ p ∈ E, p.2.length = 32) (hv : U64 ver) (hp : path.length ≤ 1048576) :
  Calls Tryz.prog 37 #[.pointer (some ⟨r, 0, none⟩), .string (bs path), .int .u64 (ver : Int), .string (bs s)] w fun e w' => e = .returned (.tuple #[.string (bs (openAny E path ver s).1), .int .i64 (openAny E path ver s).2]) ∧ Ext w w' := by
 rcases epR_cases s with he | ⟨ep, he⟩
 ·rw [show openAny E path ver s = ([], 7) by unfold openAny; rw [he]; rfl]
  exact Open_form r path s ver w hl he
 ·cases hk : lookE E ep with
  | none =>
   rw [show openAny E path ver s = ([], 140) by unfold openAny; rw [he]; simp only [hk]; rfl]
   exact Open_none r m E n ep path s ver w h hn hl he hk hp
  | some key =>
   rw [show openAny E path ver s = openR key path ver s by unfold openAny; rw [he]; simp only [hk]; rfl]
   exact Open_core r m E n ep key path s ver w h hn he hk (by have := look_key hkl hk; omega) hv hp
theorem refOpen_any (B d : Nat) (E : Eps) (path s : List UInt8) (ver : Nat) (w : World) (h : DocAt w B d E) (hE : E ≠ []) (hel : E.length ≤ 1000) (hl : s.length ≤ 1099511627776) (hkl : ∀ p ∈ E, p.2.length = 32) (hv : U64 ver) (hp : path.length ≤ 1048576) :
  Calls Tryz.prog 77 #[.pointer (some ⟨d, 0, none⟩), .string (bs path), .int .u64 (ver : Int), .string (bs s)] w fun e w' => e = .returned (.tuple #[.string (bs (openAny E path ver s).1), .int .i64 (openAny E path ver s).2]) ∧ Ext w w' := by
 rcases epR_cases s with he | ⟨ep, he⟩
 ·rw [show openAny E path ver s = ([], 7) by unfold openAny; rw [he]; rfl]
  exact refOpen_form d path s ver w hl he
 ·cases hk : lookE E ep with
  | none =>
   rw [show openAny E path ver s = ([], 140) by unfold openAny; rw [he]; simp only [hk]; rfl]
   exact refOpen_none B d E ep path s ver w h hE hel hl he hk hp
  | some key =>
   rw [show openAny E path ver s = openR key path ver s by unfold openAny; rw [he]; simp only [hk]; rfl]
   exact refOpen_core B d E ep key path s ver w h hel he hk (by have := look_key hkl hk; omega) hv hp
end Go.Proofs.YtclekllaikcglaaGreat

/- Contracts: layers 13 and 14: the statements' Full, nonce, heavy. -/
namespace Go.Proofs.YtclekllaikcglaaGreat
open Go Go.RowKit
def z32 : List UInt8 := List.replicate 32 0
theorem z32_length : z32.length = 32 := List.length_replicate
def z12 : List UInt8 := List.replicate 12 0
theorem z12_length : z12.length = 12 := List.length_replicate
set_option maxRecDepth 100000 in
theorem full13 (s : List UInt8) (w : World) (_hl : s.length ≤ 140737488351232) :
  Calls Tryz.prog 9 #[.string (bs s)] w fun e w' => e = .returned (.string (bs (padTo 32 s))) ∧ Ext w w' := by
 have hmk : ∀ w : World, (Instr.makeSlice 27 (.int .i64 32) (.int .i64 32)).run Tryz.prog w = .ok (.slice (some ⟨w.heap.size, 0, none⟩) 32 32) (w.alloc (.cells (bcells z32) 5)) := fun w => mk_bytes 32 (by omega) w
 have HSZ := Lib.hid (show splice z32 0 (s.take 32) = padTo 32 s from splice_zeros 32 s)
 go_enter Tryz.func9, Tryz.ntmps9
 go_wp2_with (refine wpl_copy_str rfl rfl und_bytes info_u8 rfl rfl (L := z32) (heap_alloc_new w _) (by rw [z32_length]; decide) ?_; intro w2 hb2 _ hbel; rw [HSZ.out] at hb2; have kc := fun c => to_str_of (c := c) hb2 (padTo_length 32 _); have hx2 : Ext w w2 := ((Ext.refl w).alloc _).trans_below hbel; clear hb2)
 go_returns
 exact ⟨rfl, hx2⟩
end Go.Proofs.YtclekllaikcglaaGreat

/- Contracts: layer 14: the statements' rings. -/
namespace Go.Proofs.YtclekllaikcglaaGreat
open Go Go.RowKit
end Go.Proofs.YtclekllaikcglaaGreat

/- Plain laws on rings' keys. -/
namespace Go.Proofs.YtclekllaikcglaaGreat
open Go Go.RowKit
def AscE (E : Eps) : Prop := E.Pairwise (fun p q => p.1 < q.1)
theorem AscE.gone {E : Eps} (h : AscE E) (e : Nat) : AscE (goneE E e) := List.Pairwise.sublist List.eraseP_sublist h
theorem AscE.snoc {E : Eps} {n : Nat} {key : List UInt8} (h : AscE E) (hl : ∀ p ∈ E, p.1 < n) : AscE (E ++ [(n, key)]) := by
 unfold AscE
 rw [List.pairwise_append]
 exact ⟨h, by simp, fun a ha b hb => by simp at hb; subst hb; exact hl a ha⟩
theorem lookE_cons (p : Nat × List UInt8) (E : Eps) (e : Nat) : lookE (p :: E) e = if p.1 = e then some p.2 else lookE E e := by
 unfold lookE
 by_cases h : p.1 = e
 ·rw [List.find?_cons_of_pos (by simpa using h), if_pos h]; rfl
 ·rw [List.find?_cons_of_neg (by simpa using h), if_neg h]
theorem lookE_right {E F : Eps} {e : Nat} (h : lookE E e = none) : lookE (E ++ F) e = lookE F e := by
 induction E with
 | nil => rfl
 | cons p E ih =>
  rw [List.cons_append, lookE_cons]
  rw [lookE_cons] at h
  split at h
  ·cases h
  ·rw [if_neg (by assumption)]; exact ih h
theorem lookE_not {E : Eps} {e : Nat} (h : ∀ p ∈ E, p.1 ≠ e) : lookE E e = none := by
 induction E with
 | nil => rfl
 | cons p E ih =>
  rw [lookE_cons, if_neg (h p (by simp))]
  exact ih fun q hq => h q (by simp [hq])
theorem gone_key {E : Eps} (h : ∀ p ∈ E, p.2.length = 32) (e : Nat) : ∀ p ∈ goneE E e, p.2.length = 32 := fun p hp => h p (List.mem_of_mem_eraseP hp)
end Go.Proofs.YtclekllaikcglaaGreat

/- Plain laws of layer 14: what was closed opens. -/
namespace Go.Proofs.YtclekllaikcglaaGreat
open Go Go.RowKit
theorem tagL_length (key path : List UInt8) (ver : Nat) (s : List UInt8) : (tagL key path ver s).length = 32 := macL_length _ _
theorem env_parts (e t : List UInt8) (ht : t.length = 32) : (e ++ t).take ((e ++ t).length - 32) = e ∧ (e ++ t).drop ((e ++ t).length - 32) = t := by
 rw [List.length_append, ht, Nat.add_sub_cancel]
 exact ⟨List.take_left' rfl, List.drop_left' rfl⟩
theorem env_open (key path nonce text : List UInt8) (ep ver : Nat) (hn : nonce.length = 12) :
  let e := envL key ep nonce text
  let s := e ++ tagL key path ver e
  nonceL s = nonce ∧ bodyL s = xorL text (ctrS (rks (derL key lblC 16)) nonce 0 text.length) ∧ okL key path ver s = true := by
 intro e s
 have hel := envL_length key ep nonce text hn
 have htl := tagL_length key path ver e
 have hp := env_parts e (tagL key path ver e) htl
 have h4 := putB_length 4 ep
 have hsl : s.length = 49 + text.length := by show (e ++ _).length = _; rw [List.length_append, htl]; show (envL key ep nonce text).length + 32 = _; rw [hel]; omega
 have he : e = ([1] ++ putB 4 ep) ++ (nonce ++ xorL text (ctrS (rks (derL key lblC 16)) nonce 0 text.length)) := by show envL key ep nonce text = _; unfold envL; simp only [List.append_assoc]
 have hxl : (xorL text (ctrS (rks (derL key lblC 16)) nonce 0 text.length)).length = text.length := xorL_length _ _ (ctrS_length _ _ _ _ (rks_length _) hn).symm
 have hs : s = ([1] ++ putB 4 ep) ++ (nonce ++ (xorL text (ctrS (rks (derL key lblC 16)) nonce 0 text.length) ++ tagL key path ver e)) := by
  show e ++ tagL key path ver e = _
  generalize tagL key path ver e = T
  rw [he]; simp only [List.append_assoc]
 have h5 : ([1] ++ putB 4 ep).length = 5 := by rw [List.length_append, h4]; rfl
 refine ⟨?_, ?_, ?_⟩
 ·unfold nonceL
  rw [hs, List.drop_left' h5, List.take_left' hn]
 ·unfold bodyL
  rw [hsl, hs, show (17 : Nat) = 5 + 12 from rfl, ← List.drop_drop, List.drop_left' h5, List.drop_left' hn, show 49 + text.length - 32 - (5 + 12) = text.length by omega, List.take_left' hxl]
 ·unfold okL
  rw [hp.1, hp.2, rightL_full _ _ htl htl]
  simp
theorem open_close (key path nonce text : List UInt8) (ep ver : Nat) (hn : nonce.length = 12) : openR key path ver (envL key ep nonce text ++ tagL key path ver (envL key ep nonce text)) = (text, 0) := by
 obtain ⟨h1, h2, h3⟩ := env_open key path nonce text ep ver hn
 have hcl := ctrS_length (rks (derL key lblC 16)) nonce 0 text.length (rks_length _) hn
 have hxl := xorL_length text (ctrS (rks (derL key lblC 16)) nonce 0 text.length) hcl.symm
 unfold openR
 rw [h3, if_pos rfl, h1, h2, hxl, xorL_back _ _ hcl.symm]
theorem ep_env (key path nonce text : List UInt8) (ep ver : Nat) (hn : nonce.length = 12) (he : ep < 4294967296) (ht : text.length ≤ 1048576) : epR (envL key ep nonce text ++ tagL key path ver (envL key ep nonce text)) = (ep, 0) := by
 have hel := envL_length key ep nonce text hn
 have htl := tagL_length key path ver (envL key ep nonce text)
 have hsl : (envL key ep nonce text ++ tagL key path ver (envL key ep nonce text)).length = 49 + text.length := by rw [List.length_append, hel, htl]; omega
 have hs : ∀ T : List UInt8, ∃ r, envL key ep nonce text ++ T = 1 :: (putB 4 ep ++ r) := fun T => ⟨nonce ++ (xorL text (ctrS (rks (derL key lblC 16)) nonce 0 text.length) ++ T), by
  unfold envL
  simp only [List.append_assoc, List.cons_append, List.nil_append]⟩
 obtain ⟨r, hr⟩ := hs (tagL key path ver (envL key ep nonce text))
 unfold epR
 rw [if_neg (fun h => by
  rcases h with h | h | h
  ·omega
  ·omega
  ·exact h (by rw [hr]; rfl))]
 have h4 := putB_length 4 ep
 unfold Get32
 rw [if_pos ⟨by omega, by omega⟩]
 have hseg : seg (envL key ep nonce text ++ tagL key path ver (envL key ep nonce text)) (1 : Int).toNat 4 = putB 4 ep := by
  rw [hr]
  show ((1 :: (putB 4 ep ++ r)).drop 1).take 4 = _
  rw [List.drop_one, List.tail_cons, List.take_left' h4]
 rw [hseg]
 have hg : getB (putB 4 ep) = ep := by
  simp only [putB, List.range, List.range.loop, List.map_cons, List.map_nil]
  simp only [getB, List.foldl_cons, List.foldl_nil]
  rw [UInt8.toNat_ofNat', UInt8.toNat_ofNat', UInt8.toNat_ofNat', UInt8.toNat_ofNat']
  simp only [Nat.reduceSub, Nat.reduceMul, Nat.reducePow]
  omega
 rw [hg]
end Go.Proofs.YtclekllaikcglaaGreat
