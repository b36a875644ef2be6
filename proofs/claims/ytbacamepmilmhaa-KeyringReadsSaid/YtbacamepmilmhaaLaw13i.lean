/- The statements of layer 13: KeyringReads. -/
import Derived.Test.YtbacamepmilmhaaLaw13e
import Derived.Deep.CutRange
set_option linter.unusedVariables false
namespace Go.Proofs.Ytbacamepmilmhaa
open Go Go.RowKit

structure DO (w0 : World) (d : Nat) (E : Eps) (W : World) : Prop where
  ext : Ext w0 W
  doc : DocAt W w0.heap.size d E
def RotO (w0 : World) (d : Nat) (E : Eps) (key : List UInt8) (v : Value) (E' : Eps) : Prop := ∀ W, DO w0 d E W → Calls Try.prog 36 #[.pointer (some ⟨d, 0, none⟩), .string (bs key)] W fun e w' => e = .returned v ∧ DO w0 d E' w'
theorem do_rotate (w0 : World) (d : Nat) {E : Eps} {n : Nat} (hI : RI E n) (hn : n < 4294967295) (key : List UInt8) (h32 : key.length = 32) : ∃ v E' n', n' ≤ n + 1 ∧ RI E' n' ∧ RotO w0 d E key v E' := by
  have h64 := hI.len
  by_cases hf : E.length < 64
  · have hI2 := hI.rot (key := key) hf h32
    obtain ⟨E0, k0, hE⟩ := hI.last
    refine ⟨.tuple #[.int .u32 ((n + 1 : Nat) : Int), .int .i64 0], E ++ [(n + 1, key)], n + 1, Nat.le_refl _, hI2, fun W h => ?_⟩
    subst hE
    refine (ref_ring_Rotate w0.heap.size d E0 n k0 key W h.doc h.ext.size h32 (by simpa using hf) hn).mono ?_
    rintro e w' ⟨rfl, h1, hb, _⟩
    exact ⟨rfl, h.ext.trans_below hb (Nat.le_refl _), h1⟩
  · obtain ⟨E0, k0, hE⟩ := hI.last
    refine ⟨.tuple #[.int .u32 0, .int .i64 4], E, n, by omega, hI, fun W h => ?_⟩
    subst hE
    simp at hf h64
    refine (ref_ring_Rotate_full w0.heap.size d E0 n k0 key W h.doc h32 (by omega) (by omega)).mono ?_
    rintro e w' ⟨rfl, hx⟩
    exact ⟨rfl, h.ext.trans hx, h.doc.ext hx⟩
def RdY (E : Eps) (W : World) (e : Ending) (w' : World) : Prop := ∃ r m, e = .returned (.tuple #[.pointer (some ⟨r, 0, none⟩), .int .i64 0]) ∧ RingAt w' r m E (lastE E) ∧ Ext W w'
def RdZ (E : Eps) (W : World) (e : Ending) (w' : World) : Prop := ∃ B d, e = .returned (.pointer (some ⟨d, 0, none⟩)) ∧ DocAt w' B d E ∧ Ext W w'
theorem read_some (s : List UInt8) (E : Eps) (W : World) (hs : s.length ≤ 1000000) (h : readE s = some E) : Calls Try.prog 40 #[.string (bs s)] W (RdY E W) := by
  refine (ring_Read s W hs).mono ?_
  rintro e w' (⟨h1, _⟩ | ⟨E1, r, m, h1, rfl, _, _, h2, _, _, h3⟩)
  · rw [h] at h1; cases h1
  · rw [h] at h1; injection h1 with h1; subst h1; exact ⟨r, m, rfl, h2, h3⟩
theorem read_no (s : List UInt8) (W : World) (hs : s.length ≤ 1000000) (h : readE s = none) : Calls Try.prog 40 #[.string (bs s)] W fun e w' => e = .returned (.tuple #[.pointer none, .int .i64 7]) ∧ Ext W w' := by
  refine (ring_Read s W hs).mono ?_
  rintro e w' (⟨_, h1, h2⟩ | ⟨E1, r, m, h1, _⟩)
  · exact ⟨h1, h2⟩
  · rw [h] at h1; cases h1
theorem refRead_some (s : List UInt8) (E : Eps) (W : World) (hs : s.length ≤ 1000000) (h : readE s = some E) : Calls Try.prog 41 #[.string (bs s)] W (RdZ E W) := by
  refine (ref_Read s W hs).mono ?_
  rintro e w' (⟨h1, _⟩ | ⟨E1, d, h1, rfl, h2, h3⟩)
  · rw [h] at h1; cases h1
  · rw [h] at h1; injection h1 with h1; subst h1; exact ⟨_, d, rfl, h2, h3⟩
theorem refRead_no (s : List UInt8) (W : World) (hs : s.length ≤ 1000000) (h : readE s = none) : Calls Try.prog 41 #[.string (bs s)] W fun e w' => e = .returned (.pointer none) ∧ Ext W w' := by
  refine (ref_Read s W hs).mono ?_
  rintro e w' (⟨_, h1, h2⟩ | ⟨E1, d, h1, _⟩)
  · exact ⟨h1, h2⟩
  · rw [h] at h1; cases h1
theorem readE_good (s : List UInt8) (E : Eps) (h : readE s = some E) : RI E (lastE E) ∧ lastE E < 4294967296 := by
  unfold readE at h
  split at h
  · rename_i hc
    have hg := readN_good s _ E (by omega) h
    exact ⟨hg.ri hc.1 hc.2.1, hg.small⟩
  · cases h
set_option maxRecDepth 100000 in
set_option maxHeartbeats 16000000 in
theorem law_KeyringReads (w : World) (s : List UInt8) (l : List ActL) (ad : Option Addr) (cap : Nat) (own : Bool) (pos : Int) (vl : UInt8) (ha : s.length ≤ 140737488351232) (hl : l.length ≤ maxLen) (h : SlA w ad l) (hpos : ∃ x : Nat, pos = x ∧ x < 65536) :
    Calls Try.prog 9 #[.string (bs s), .slice ad l.length cap, .bool own, .int .u16 pos, .int .u8 (vl.toNat : Int)] w fun e w' => e = .returned (.bool true) ∧ Ext w w' := by
  have GW := Lib.hid works13
  have GH := Lib.hid (heavy13 l ad cap w h hl)
  cases hh : heavyA l
  case true =>
    rw [hh] at GH
    clear hh h hl
    go_enter Try.func9, Try.ntmps9
    go_wp2_with (first
      | (go_at_call 29; (with_reducible refine GH.out.mono ?_); rintro e w' ⟨rfl, rfl⟩)
      | (go_at_call 30; (with_reducible refine (GW.out _).mono ?_); rintro e w1 ⟨rfl, hx1⟩))
    go_returns
    exact ⟨rfl, hx1⟩
  case false =>
  rw [hh] at GH
  by_cases h4000 : 4000 < s.length
  · have h4i : (4000 : Int) < (s.length : Int) := by omega
    clear hh h hl h4000
    go_enter Try.func9, Try.ntmps9
    go_wp2_with (first
      | (go_at_call 29; (with_reducible refine GH.out.mono ?_); rintro e w' ⟨rfl, rfl⟩)
      | (go_at_call 30; (with_reducible refine (GW.out _).mono ?_); rintro e w1 ⟨rfl, hx1⟩))
    go_returns
    exact ⟨rfl, hx1⟩
  obtain ⟨hl80, hkey⟩ := heavyA_no hh
  have HKEY := Lib.hid hkey
  have HL := Lib.hid h
  have h4d : decide ((4000 : Int) < (s.length : Int)) = false := by simp; omega
  have hs4 : s.length ≤ 4000 := by omega
  obtain ⟨len, hlen⟩ : ∃ len, l.length = len := ⟨_, rfl⟩
  rw [hlen] at GH hl80
  have HLEN := Lib.hid hlen
  rw [hlen]
  clear hh h hl hkey hlen h4000
  obtain ⟨x, rfl, hx16⟩ := hpos
  have HPOS := Lib.hid hx16
  have HX0 : Hid (Ext w w) := Lib.hid (Ext.refl w)
  clear hx16
  go_enter Try.func9, Try.ntmps9
  go_upto_if 25 with (go_at_call 29; (with_reducible refine GH.out.mono ?_); rintro e w' ⟨rfl, rfl⟩)
  go_cut [0] from 25 to 54 (fun s0 wc => ∃ s2 : List UInt8, s0 = .string (bs s2) ∧ s2.length ≤ 1000000 ∧ Hid (Ext w wc))
  case first =>
    cases own
    · go_wp2_with fail
      go_meet
      case rel => exact ⟨s, rfl, by omega, HX0⟩
    · have GF0 : Hid (∀ W, Calls Try.prog 26 #[.string { data := #[107] }] W fun e w' => e = .returned (.string (bs (padTo 32 [107]))) ∧ Ext W w') := Lib.hid fun W => full13 [107] W (by simp)
      have GND := Lib.hid (fun W => ref_ring_New (padTo 32 [107]) W)
      have h1 : (padTo 32 [107]).length = 32 := padTo_length 32 _
      generalize padTo 32 [107] = ka at *
      have I1 := Lib.hid (ri_one ka h1)
      clear h1
      go_upto_region 6 with (first
        | (go_at_call 26; (with_reducible refine (GF0.out _).mono ?_); rintro e w2 ⟨rfl, hx2⟩)
        | (go_at_call 34; (with_reducible refine (GND.out _).mono ?_); rintro e w5 ⟨d, rfl, hd, hx5⟩; have HD : Hid (DO w d [(1, ka)] w5) := Lib.hid ⟨hx2.trans hx5, hd.mono hx2.size⟩; clear hd hx5))
      go_loopg [12] len (fun k s12 wr => ∃ (i n : Nat) (E : Eps), s12 = .int .i64 (i : Int) ∧ i + k = len ∧ n ≤ i + 1 ∧ Hid (RI E n) ∧ Hid (DO w d E wr))
      case atStart => exact ⟨0, 1, _, rfl, by omega, by omega, I1, HD⟩
      case round =>
        obtain ⟨i, n, E, rfl, hik, hni, HI, HX⟩ := hrel
        clear HD I1 GF0 GND HX0
        cases gk with
        | zero =>
          obtain rfl : i = len := by omega
          have GB := Lib.hid (fun (W : World) (h : DO w d E W) => ref_ring_Bytes w.heap.size d E n W h.doc HI.out (by omega))
          have hbl : (bytesE E).length = 1 + 36 * E.length := bytesE_length E HI.out.key
          have hE64 := HI.out.len
          obtain ⟨T, hT⟩ : ∃ T, bytesE E = T := ⟨_, rfl⟩
          rw [hT] at GB hbl
          obtain ⟨n0, hn0⟩ : ∃ n0, T.length = n0 := ⟨_, rfl⟩
          have hT0 : 0 < n0 ∧ n0 ≤ 4000 := by omega
          have kt := to_bytes T
          rw [hn0] at kt
          have hcap0 := fun W => capOf_ge 5 W n0
          have HT := Lib.hid hn0
          have HCAP := Lib.hid hcap0
          clear hcap0 hbl hn0 hT hE64
          go_upto_region 10 with (go_at_call 39; (with_reducible refine (GB.out _ HX.out).mono ?_); rintro e w3 ⟨rfl, hx3⟩; have h1 := HX.out.ext.trans hx3; have HY := Lib.hid h1; clear h1 hx3)
          clear kt GB
          obtain ⟨w4, hw4⟩ : ∃ w4, w3 = w4 := ⟨_, rfl⟩
          rw [hw4] at HY ⊢
          have hcap := HCAP.out w4
          clear hw4 HCAP
          obtain ⟨cpb, hcp⟩ : ∃ cp, capOf 5 w4 n0 = cp := ⟨_, rfl⟩
          rw [hcp] at hcap ⊢
          obtain ⟨w5, hw5⟩ : ∃ w5, (w4.alloc (Obj.cells (bcells (T ++ List.replicate (cpb - n0) 0)) 5 (cpb, cpb + 1))).drew = w5 := ⟨_, rfl⟩
          have hx5 : Ext w4 w5 := by rw [← hw5]; exact ((Ext.refl _).alloc _).drew
          have hb5 : w5.heap[w4.heap.size]? = some (.cells (bcells (T ++ List.replicate (cpb - n0) 0)) 5 (cpb, cpb + 1)) := by rw [← hw5, heap_drew]; exact heap_alloc_new _ _
          rw [hw5]
          clear hw5 hcp
          have hx16 := HPOS.out
          have hq : x % n0 < n0 := Nat.mod_lt _ (by omega)
          have hrm : (x : Int).tmod (n0 : Int) = ((x % n0 : Nat) : Int) := by rw [Int.tmod_eq_emod_of_nonneg (by omega)]; omega
          have hwx : IntKind.i64.wrap (x : Int) = (x : Int) := by rw [IntKind.wrap_i64]; omega
          obtain ⟨q, hqe⟩ : ∃ q, x % n0 = q := ⟨_, rfl⟩
          rw [hqe] at hq hrm
          have hwq : IntKind.i64.wrap (q : Int) = (q : Int) := by rw [IntKind.wrap_i64]; omega
          have hn0 : ¬ n0 = 0 := by omega
          have hqi : (q : Int) < (n0 : Int) := by omega
          have hqL : q < T.length := by rw [HT.out]; exact hq
          have hcell : w5.cell? ⟨w4.heap.size, q, none⟩ = some (.int .u8 (T[q].toNat : Int)) := cell_blk hb5 (bcells_left _ _ _ hqL)
          have hfz : w5.frozen? ⟨w4.heap.size, q, none⟩ = false := frozen_spare hb5 (by omega)
          have o2 := heap_setCell_same (i := q) (.int .u8 (vl.toNat : Int)) hb5
          rw [bcells_set_left _ _ _ _ hqL] at o2
          obtain ⟨w6, hw6⟩ : ∃ x, w5.setCell ⟨w4.heap.size, q, none⟩ (.int .u8 (vl.toNat : Int)) = x := ⟨_, rfl⟩
          have hx6 : Ext w w6 := by rw [← hw6]; exact (HY.out.trans hx5).setCell (p := ⟨w4.heap.size, q, none⟩) HY.out.size _
          rw [hw6] at o2
          have hls : (T.set q vl).length = n0 := by rw [List.length_set]; exact HT.out
          have kc := fun c => to_str_blk (c := c) (n := n0) o2 hls
          have HX6 := Lib.hid hx6
          have hset : ((T.set q vl).length ≤ 1000000) := by omega
          clear hqe hx5 hb5 o2 hx6 hls hx16 hik hni
          go_wp2_with fail
          go_meet
          case rel => exact ⟨_, rfl, hset, HX6⟩
        | succ k =>
        have hil : i < len := by omega
        obtain ⟨b, o, rfl, hb, hat⟩ := HL.out i (by have := HLEN.out; omega)
        have hat2 := hat.ext HX.out.ext
        have hkl := HKEY.out _ (List.getElem_mem (by have := HLEN.out; omega : i < l.length))
        obtain ⟨⟨go, ep, key, fit⟩, hx⟩ : ∃ x, l[i]'(by have := HLEN.out; omega) = x := ⟨_, rfl⟩
        rw [hx] at hat2 hkl
        obtain ⟨_, _, c2, _⟩ := hat2
        have hkl2 : key.length ≤ 200 := hkl
        clear hat hx hkl hb
        dsimp only at c2
        have GF := Lib.hid (full13 key)
        obtain ⟨v, E', n', hn', hI', hC⟩ := do_rotate w d HI.out (by omega) (padTo 32 key) (padTo_length 32 key)
        unfold RotO at hC
        generalize padTo 32 key = key2 at *
        have hk1 : key.length ≤ 140737488351232 := by omega
        have GC := Lib.hid hC
        have HI2 := Lib.hid hI'
        clear hI' hC
        go_wp2_with (first
          | (go_at_call 26; (with_reducible refine (GF.out _ hk1).mono ?_); rintro e w3 ⟨rfl, hx1⟩; have HX2 : Hid (DO w d E w3) := Lib.hid ⟨HX.out.ext.trans hx1, HX.out.doc.ext hx1⟩; clear hx1)
          | (go_at_call 36; (with_reducible refine (GC.out _ HX2.out).mono ?_); rintro e w4 ⟨rfl, h1⟩; have HX4 := Lib.hid h1; clear h1))
        go_roundg k
        case measure => omega
        case rel => exact ⟨i + 1, n', E', by go_num, by omega, by omega, HI2, HX4⟩
  case rest =>
  obtain ⟨s2, rfl, hs2, HX⟩ := hcut
  clear HX0
  cases hr : readE s2 with
  | none =>
    have GR := Lib.hid (fun W => read_no s2 W hs2 hr)
    have GD := Lib.hid (fun W => refRead_no s2 W hs2 hr)
    clear hr
    go_wp2_with (first
      | (go_at_call 40; (with_reducible refine (GR.out _).mono ?_); rintro e w2 ⟨rfl, hx2⟩; have h1 := HX.out.trans hx2; clear HX hx2; have HX := Lib.hid h1; clear h1)
      | (go_at_call 41; (with_reducible refine (GD.out _).mono ?_); rintro e w2 ⟨rfl, hx2⟩; have h1 := HX.out.trans hx2; clear HX hx2; have HX := Lib.hid h1; clear h1)
      | (go_at_call 30; (with_reducible refine (GW.out _).mono ?_); rintro e w1 ⟨rfl, hx1⟩))
    go_returns
    exact ⟨by simp, HX.out.trans hx1⟩
  | some E =>
    obtain ⟨hI, h32⟩ := readE_good s2 E hr
    have GR := Lib.hid (fun W => read_some s2 E W hs2 hr)
    have GD := Lib.hid (fun W => refRead_some s2 E W hs2 hr)
    have GS := Lib.hid (fun (r m B d : Nat) (W : World) (h1 : RingAt W r m E (lastE E)) (h2 : DocAt W B d E) => ring_same r m B d E (lastE E) W h1 h2 hI h32)
    clear hr hI h32
    go_wp2_with (first
      | (go_at_call 40; (with_reducible refine (GR.out _).mono ?_); rintro e w2 ⟨r, m, rfl, hR, hx2⟩; have h1 := HX.out.trans hx2; clear HX hx2; have HX := Lib.hid h1; have HR := Lib.hid hR; clear h1 hR)
      | (go_at_call 41; (with_reducible refine (GD.out _).mono ?_); rintro e w3 ⟨B, d, rfl, hD, hx2⟩; have h1 := HX.out.trans hx2; clear HX; have HX := Lib.hid h1; have HD := Lib.hid hD; have HR2 := Lib.hid (HR.out.ext hx2); clear h1 hD hx2)
      | (go_at_call 37; (with_reducible refine (GS.out r m B d _ HR2.out HD.out).mono ?_); rintro e w4 ⟨rfl, hx2⟩; have h1 := HX.out.trans hx2; clear HX hx2; have HX := Lib.hid h1; clear h1)
      | (go_at_call 30; (with_reducible refine (GW.out _).mono ?_); rintro e w1 ⟨rfl, hx1⟩))
    go_returns
    exact ⟨by simp, HX.out.trans hx1⟩
end Go.Proofs.Ytbacamepmilmhaa
