import Derived.Test.YtclekllaikcglaaGreatMap
import Derived.Deep.CutRange
import Derived.Laws.Bits64b

/- The library's choice of a pivot at uint32, and the breaking of patterns. -/
namespace Go.Proofs.YtclekllaikcglaaGreat
open Go Go.RowKit
open Go.Sort (swp PermIn SortedIn ltInt Holds)
structure OB (w0 : World) (sb : Nat) (w : World) : Prop where
 ext : Ext w0 w
 new : w0.heap.size ≤ sb
 cell : ∃ c : Int, w.heap[sb]? = some (.cells #[.int .i64 c] 3)
def O2 (p : Nat → Prop) (w0 : World) (sb : Nat) (e : Ending) (w' : World) : Prop :=
 ∃ x y : Nat, e = .returned (.tuple #[.int .i64 x, .int .i64 y]) ∧ p x ∧ p y ∧ OB w0 sb w'
theorem OB.drewN {w0 w : World} {sb : Nat} (h : OB w0 sb w) (k : Nat) : OB w0 sb (w.drewN k) := ⟨h.ext.drewN k, h.new, h.cell⟩
theorem OB.set {w0 w : World} {sb : Nat} (h : OB w0 sb w) (c : Int) : OB w0 sb (w.setCell ⟨sb, 0, none⟩ (.int .i64 c)) := by
 obtain ⟨c0, hc⟩ := h.cell
 exact ⟨h.ext.setCell h.new _, h.new, c, by rw [heap_setCell_same (i := 0) _ hc]; rfl⟩
theorem holds_ext {w w' : World} {g off : Nat} {d : Array Int} (h : Holds e32 w g off d) (hg : g < w.heap.size) (hx : Ext w w') : Holds e32 w' g off d := holds_heap h (hx.block hg)
set_option maxRecDepth 1000000 in
set_option maxHeartbeats 4000000 in
theorem order32 (g off cap a b n sb : Nat) (d : Array Int) (w0 w : World) (hH : Holds e32 w0 g off d) (hn : d.size = n) (hg : g < w0.heap.size) (ho : OB w0 sb w) (ha : a < n) (hb : b < n) (p : Nat → Prop) (pa : p a) (pb : p b) (_hsz : n ≤ 1000000) :
  Calls Tryz.prog 162 #[.slice (some ⟨g, off, none⟩) n cap, .int .i64 a, .int .i64 b, .pointer (some ⟨sb, 0, none⟩)] w (O2 p w0 sb) := by
 obtain ⟨G, hG⟩ := names_of d
 have hcw : ∀ t, t < n → w.cell? ⟨g, off + t, none⟩ = some (.int .u32 (G t)) := fun t ht => by
  rw [hG]; exact (holds_ext hH hg ho.ext t (by rw [hn]; exact ht)).1
 obtain ⟨c, hc⟩ := ho.cell
 have c1 := cell_blk (i := 0) hc rfl
 have f1 : w.frozen? ⟨sb, 0, none⟩ = false := frozen_blk hc
 have HO := Lib.hid ho
 clear hG hH hn hg ho hc
 go_enter Tryz.func162, Tryz.ntmps162
 go_wp2
 go_quiet (first | (go_at_call 136; refine Calls.quiet_of_same (less32 _ _ _)))
 go_wp2
 ·go_returns
  exact ⟨b, a, rfl, pb, pa, (HO.out.drewN nq).set _⟩
 ·go_returns
  exact ⟨a, b, rfl, pa, pb, HO.out.drewN nq⟩
def M3 (p : Nat → Prop) (w0 : World) (sb : Nat) (e : Ending) (w' : World) : Prop := ∃ x : Nat, e = .returned (.int .i64 x) ∧ p x ∧ OB w0 sb w'
set_option maxRecDepth 1000000 in
set_option maxHeartbeats 4000000 in
theorem median32 (g off cap a b c n sb : Nat) (d : Array Int) (w0 w : World) (hH : Holds e32 w0 g off d) (hn : d.size = n) (hg : g < w0.heap.size) (ho : OB w0 sb w) (p : Nat → Prop) (hp : ∀ x, p x → x < n) (pa : p a) (pb : p b) (pc : p c) (hsz : n ≤ 1000000) :
  Calls Tryz.prog 156 #[.slice (some ⟨g, off, none⟩) n cap, .int .i64 a, .int .i64 b, .int .i64 c, .pointer (some ⟨sb, 0, none⟩)] w (M3 p w0 sb) := by
 have GO := Lib.hid (fun (a b : Nat) (ha : p a) (hb : p b) (W : World) (ho : OB w0 sb W) => order32 g off cap a b n sb d w0 W hH hn hg ho (hp a ha) (hp b hb) p ha hb hsz)
 have HO := Lib.hid ho
 clear hH hn hg ho hp
 go_enter Tryz.func156, Tryz.ntmps156
 go_wp2_with (go_at_call 162; (with_reducible refine (GO.out _ _ (by assumption) (by assumption) _ HO.out).mono ?_); rintro e w1 ⟨x1, y1, rfl, hx1, hy1, ho1⟩; clear HO; have HO := Lib.hid ho1; clear ho1)
 go_returns
 exact ⟨_, rfl, by assumption, HO.out⟩
set_option maxRecDepth 1000000 in
set_option maxHeartbeats 4000000 in
theorem medAdj32 (g off cap a n sb : Nat) (d : Array Int) (w0 w : World) (hH : Holds e32 w0 g off d) (hn : d.size = n) (hg : g < w0.heap.size) (ho : OB w0 sb w) (p : Nat → Prop) (hp : ∀ x, p x → x < n) (ha : 1 ≤ a) (han : a < n) (pa : p (a - 1)) (pb : p a) (pc : p (a + 1)) (hsz : n ≤ 1000000) :
  Calls Tryz.prog 155 #[.slice (some ⟨g, off, none⟩) n cap, .int .i64 a, .pointer (some ⟨sb, 0, none⟩)] w (M3 p w0 sb) := by
 have GM := Lib.hid (median32 g off cap (a - 1) a (a + 1) n sb d w0 w hH hn hg ho p hp pa pb pc hsz)
 obtain ⟨x, hx⟩ : ∃ x, a - 1 = x := ⟨_, rfl⟩
 obtain ⟨y, hy⟩ : ∃ y, a + 1 = y := ⟨_, rfl⟩
 have hxi : (a : Int) - 1 = (x : Int) := by omega
 have hyi : (a : Int) + 1 = (y : Int) := by omega
 rw [hx, hy] at GM
 clear hx hy hH hn hg ho hp pa pb pc
 go_enter Tryz.func155, Tryz.ntmps155
 go_wp2_with (go_at_call 156; (with_reducible refine GM.out.mono ?_); rintro e w1 ⟨x1, rfl, hx1, ho1⟩; have HO := Lib.hid ho1; clear ho1)
 go_returns
 exact ⟨_, rfl, hx1, HO.out⟩
def CP (a b : Nat) (w : World) (e : Ending) (w' : World) : Prop := ∃ (x : Nat) (h : Int), e = .returned (.tuple #[.int .i64 x, .int .i64 h]) ∧ a ≤ x ∧ x < b ∧ Ext w w'
set_option maxRecDepth 1000000 in
set_option maxHeartbeats 8000000 in
theorem pivot32 (g off cap a b n : Nat) (d : Array Int) (w : World) (hH : Holds e32 w g off d) (hn : d.size = n) (hg : g < w.heap.size) (hab : a < b) (hb : b ≤ n) (hsz : n ≤ 1000000) :
  Calls Tryz.prog 133 #[.slice (some ⟨g, off, none⟩) n cap, .int .i64 a, .int .i64 b] w (CP a b w) := by
 obtain ⟨p, hp⟩ : ∃ p : Nat → Prop, ∀ x, p x ↔ (a ≤ x ∧ x < b) := ⟨fun x => a ≤ x ∧ x < b, fun x => Iff.rfl⟩
 have hpn : ∀ x, p x → x < n := fun x hx => by have := (hp x).1 hx; omega
 obtain ⟨m, hm⟩ : ∃ m, b - a = m := ⟨_, rfl⟩
 obtain ⟨q, hq⟩ : ∃ q, m / 4 = q := ⟨_, rfl⟩
 obtain ⟨i, hi⟩ : ∃ i, a + q = i := ⟨_, rfl⟩
 obtain ⟨j, hj⟩ : ∃ j, a + q * 2 = j := ⟨_, rfl⟩
 obtain ⟨k, hk⟩ : ∃ k, a + q * 3 = k := ⟨_, rfl⟩
 have hmi : (b : Int) - (a : Int) = (m : Int) := by omega
 have hqi : (m : Int) / 4 = (q : Int) := by omega
 have hii : (a : Int) + (q : Int) = (i : Int) := by omega
 have hji : (a : Int) + (q : Int) * 2 = (j : Int) := by omega
 have hki : (a : Int) + (q : Int) * 3 = (k : Int) := by omega
 have pj : p j := (hp j).2 (by omega)
 have pi : Hid (8 ≤ m → p i) := Lib.hid fun h => (hp i).2 (by omega)
 have pk : Hid (8 ≤ m → p k) := Lib.hid fun h => (hp k).2 (by omega)
 have GM := Lib.hid (fun (x y z : Nat) (hx : p x) (hy : p y) (hz : p z) (W : World) (sb : Nat) (ho : OB w sb W) => median32 g off cap x y z n sb d w W hH hn hg ho p hpn hx hy hz hsz)
 have GI := Lib.hid (fun (h : 50 ≤ m) (W : World) (sb : Nat) (ho : OB w sb W) => medAdj32 g off cap i n sb d w W hH hn hg ho p hpn (by omega) (by omega) ((hp _).2 (by omega)) ((hp _).2 (by omega)) ((hp _).2 (by omega)) hsz)
 have GJ := Lib.hid (fun (h : 50 ≤ m) (W : World) (sb : Nat) (ho : OB w sb W) => medAdj32 g off cap j n sb d w W hH hn hg ho p hpn (by omega) (by omega) ((hp _).2 (by omega)) ((hp _).2 (by omega)) ((hp _).2 (by omega)) hsz)
 have GK := Lib.hid (fun (h : 50 ≤ m) (W : World) (sb : Nat) (ho : OB w sb W) => medAdj32 g off cap k n sb d w W hH hn hg ho p hpn (by omega) (by omega) ((hp _).2 (by omega)) ((hp _).2 (by omega)) ((hp _).2 (by omega)) hsz)
 have HP := Lib.hid hp
 have HO : Hid (OB w w.heap.size (w.alloc (.cells #[.int .i64 0] 3))) := Lib.hid ⟨(Ext.refl w).alloc _, Nat.le_refl _, 0, heap_alloc_new _ _⟩
 have hm1 : m ≤ 1000000 := by omega
 have hq1 : q ≤ 1000000 := by omega
 have hi1 : i ≤ 1000000 := by omega
 have hj1 : j ≤ 1000000 := by omega
 have hk1 : k ≤ 2000000 := by omega
 clear hH hn hg hp hpn hm hq hi hj hk
 go_enter Tryz.func133, Tryz.ntmps133
 go_upto_if 32 with fail
 go_cut [11] from 13 to 56 (fun s11 wc => ∃ x : Nat, s11 = .int .i64 x ∧ p x ∧ OB w w.heap.size wc)
 case first =>
  by_cases h8 : 8 ≤ m
  ·have h8i : (8 : Int) ≤ (m : Int) := by omega
   have pi := pi.out h8
   have pk := pk.out h8
   by_cases h50 : 50 ≤ m
   ·have h50i : (50 : Int) ≤ (m : Int) := by omega
    have GI := Lib.hid (GI.out h50)
    have GJ := Lib.hid (GJ.out h50)
    have GK := Lib.hid (GK.out h50)
    go_wp2_with (go_at_call 155; (with_reducible refine (GI.out _ _ HO.out).mono ?_); rintro e w1 ⟨x1, rfl, hx1, ho1⟩; clear HO GI; have HO := Lib.hid ho1; clear ho1)
    go_wp2_with (go_at_call 155; (with_reducible refine (GJ.out _ _ HO.out).mono ?_); rintro e w1 ⟨x2, rfl, hx2, ho1⟩; clear HO GJ; have HO := Lib.hid ho1; clear ho1)
    go_wp2_with (go_at_call 155; (with_reducible refine (GK.out _ _ HO.out).mono ?_); rintro e w1 ⟨x3, rfl, hx3, ho1⟩; clear HO GK; have HO := Lib.hid ho1; clear ho1)
    go_wp2_with (go_at_call 156; (with_reducible refine (GM.out _ _ _ hx1 hx2 hx3 _ _ HO.out).mono ?_); rintro e w1 ⟨x4, rfl, hx4, ho1⟩; clear HO; have HO := Lib.hid ho1; clear ho1)
    go_meet
    case rel => exact ⟨x4, rfl, hx4, HO.out⟩
   ·have h50i : ¬ (50 : Int) ≤ (m : Int) := by omega
    go_wp2_with (go_at_call 156; (with_reducible refine (GM.out _ _ _ pi pj pk _ _ HO.out).mono ?_); rintro e w1 ⟨x4, rfl, hx4, ho1⟩; clear HO; have HO := Lib.hid ho1; clear ho1)
    go_meet
    case rel => exact ⟨x4, rfl, hx4, HO.out⟩
  ·have h8i : ¬ (8 : Int) ≤ (m : Int) := by omega
   go_wp2_with fail
   go_meet
   case rel => exact ⟨j, rfl, pj, HO.out⟩
 case rest =>
 obtain ⟨x, rfl, hx, ho⟩ := hcut
 obtain ⟨c, hc⟩ := ho.cell
 have c1 := cell_blk (i := 0) hc rfl
 have HX := Lib.hid ((HP.out x).1 hx)
 have HO := Lib.hid ho.ext
 clear ho hc hx
 go_wp2
 all_goals go_returns
 all_goals exact ⟨x, _, rfl, HX.out.1, HX.out.2, HO.out⟩
end Go.Proofs.YtclekllaikcglaaGreat

/- The library's breaking of patterns at uint32. -/
namespace Go.Proofs.YtclekllaikcglaaGreat
open Go Go.RowKit
open Go.Sort (swp PermIn SortedIn ltInt Holds permIn_trans permIn_refl swp_permIn)
theorem SW.but_new {w0 w w' : World} {g off n rb : Nat} {d : Array Int} (h : SW g off n w0 d w) (hb : But [rb] w w') (hr : w0.heap.size ≤ rb) (hg : g < w0.heap.size) : SW g off n w0 d w' := by
 have hw : w'.heap[g]? = w.heap[g]? := hb.block g (h.lt hg) (by simp; omega)
 refine ⟨holds_heap h.holds hw, h.size, ⟨hb.os.trans h.but.os, hb.tape.trans h.but.tape, hb.output.trans h.but.output, Nat.le_trans h.but.size hb.size, fun k hk hn => ?_⟩, fun cs T fz hc => by rw [hw]; exact h.shape cs T fz hc⟩
 rw [hb.block k (Nat.lt_of_lt_of_le hk h.but.size) (by simp; omega)]
 exact h.but.block k hk hn
def BP (g off n a b : Nat) (w0 : World) (d : Array Int) (e : Ending) (w' : World) : Prop := ∃ d', e = .returned (.tuple #[]) ∧ PermIn a b d d' ∧ SW g off n w0 d' w'
set_option maxRecDepth 1000000 in
set_option maxHeartbeats 8000000 in
theorem break32 (g off cap a b n : Nat) (d : Array Int) (w0 w : World) (hs : SW g off n w0 d w) (hg : g < w0.heap.size) (hab : a ≤ b) (hb : b ≤ n) (hsz : n ≤ 255) :
  Calls Tryz.prog 132 #[.slice (some ⟨g, off, none⟩) n cap, .int .i64 a, .int .i64 b] w (BP g off n a b w0 d) := by
 obtain ⟨m, hm⟩ : ∃ m, b - a = m := ⟨_, rfl⟩
 have hmi : (b : Int) - (a : Int) = (m : Int) := by omega
 have HS := Lib.hid hs
 clear hs
 by_cases h8 : 8 ≤ m
 ·have h8i : (8 : Int) ≤ (m : Int) := by omega
  have GP := Lib.hid (pow32 m (by omega) (by omega))
  have hM1 := Sort.two_pow_bitsLen_le (n := m) (by omega)
  have hM0 : 0 < 2 ^ Sort.bitsLen m := Nat.pow_pos (by omega)
  generalize 2 ^ Sort.bitsLen m = M at *
  obtain ⟨M1, hMM⟩ : ∃ M1, M - 1 = M1 := ⟨_, rfl⟩
  have hMi : (M : Int) - 1 = (M1 : Int) := by omega
  have hMw : IntKind.u64.wrap (M1 : Int) = (M1 : Int) := by rw [IntKind.wrap_u64]; omega
  obtain ⟨q, hq⟩ : ∃ q, m / 4 = q := ⟨_, rfl⟩
  have hqi : (m : Int) / 4 = (q : Int) := by omega
  obtain ⟨j, hj⟩ : ∃ j, a + q * 2 = j := ⟨_, rfl⟩
  have hji : (a : Int) + (q : Int) * 2 = (j : Int) := by omega
  obtain ⟨i0, hi0⟩ : ∃ i0, j - 1 = i0 := ⟨_, rfl⟩
  have hii : (j : Int) - 1 = (i0 : Int) := by omega
  have hmw : IntKind.u64.wrap (m : Int) = (m : Int) := by rw [IntKind.wrap_u64]; omega
  have hq1 : q ≤ 255 := by omega
  have hj1 : j ≤ 1000 := by omega
  have hi1 : i0 + 1 = j := by omega
  have hja : a + 4 ≤ j := by omega
  have hjb : j + 2 ≤ b := by omega
  have hMm : M1 < 2 * m := by omega
  have hM9 : M1 ≤ 1000 := by omega
  have HAB := Lib.hid hm
  clear hm hMM hq hj hi0 hM1 hM0
  obtain ⟨rb, hrb⟩ : ∃ rb, w.heap.size = rb := ⟨_, rfl⟩
  have hr0 : w0.heap.size ≤ rb := by rw [← hrb]; exact HS.out.but.size
  have HRB := Lib.hid hrb
  clear hrb
  go_enter Tryz.func132, Tryz.ntmps132
  go_wp2_with (go_at_call 153; (with_reducible refine (GP.out _).mono ?_); rintro e w1 ⟨rfl, rfl⟩)
  have hs1 : SW g off n w0 d (w.alloc (.cells #[.int .u64 (m : Int)] 201)) := HS.out.ext hg ((Ext.refl w).alloc _)
  have hc1 : (w.alloc (.cells #[.int .u64 (m : Int)] 201)).heap[rb]? = some (.cells #[.int .u64 (m : Int)] 201) := by rw [← HRB.out]; exact heap_alloc_new _ _
  rw [HRB.out]
  have HS1 := Lib.hid hs1
  have HC1 := Lib.hid hc1
  clear hs1 hc1 HS HRB hmw
  go_loopg [9] 3 (fun k s9 wr => ∃ (i v : Nat) (dk : Array Int), s9 = .int .i64 i ∧ i + k = j + 2 ∧ k ≤ 3 ∧ v < 18446744073709551616 ∧ Hid (PermIn a b d dk) ∧ SW g off n w0 dk wr ∧ wr.heap[rb]? = some (.cells #[.int .u64 v] 201))
  case atStart => exact ⟨i0, m, d, rfl, by omega, by omega, by omega, Lib.hid (permIn_refl _ _ _), HS1.out, HC1.out⟩
  case round =>
   obtain ⟨i, v, dk, rfl, hik, hk3, hv, HP, hs, hc⟩ := hrel
   have HJ := Lib.hid hs
   have HC := Lib.hid hc
   clear hs hc HS1 HC1
   cases gk with
   | zero =>
    obtain rfl : i = j + 2 := by omega
    have hlt : decide (((j + 2 : Nat) : Int) ≤ (j : Int) + 1) = false := by simp
    have hlt2 : decide ((j : Int) + 2 ≤ (j : Int) + 1) = false := by simp
    go_wp2
    go_end0
    exact ⟨dk, rfl, HP.out, HJ.out⟩
   | succ k =>
   have hij : (i : Int) ≤ (j : Int) + 1 := by omega
   have hia : a ≤ i := by omega
   have hib : i < b := by omega
   have GN := Lib.hid (next32 rb v wr HC.out)
   go_upto_if 43 with (go_at_call 154; (with_reducible refine GN.out.mono ?_); rintro e w1 ⟨v1, rfl, hv1, hb1, hc1⟩; obtain ⟨o, ho⟩ : ∃ o, v1 &&& M1 = o := ⟨_, rfl⟩; have hand : bits .and .u64 (v1 : Int) (M1 : Int) = (o : Int) := (by rw [bits_and_u64_nat v1 M1 hv1 (by omega), ho]); have hoM : o ≤ M1 := (by rw [← ho]; exact Nat.and_le_right); have how : IntKind.i64.wrap (o : Int) = (o : Int) := (by rw [IntKind.wrap_i64]; omega); have HJ1 := Lib.hid (HJ.out.but_new hb1 hr0 hg); have HC1 := Lib.hid hc1; clear hb1 hc1 ho)
   go_cut [10] from 26 to 64 (fun s10 wc => ∃ o2 : Nat, s10 = .int .i64 o2 ∧ o2 < m ∧ wc = w1)
   case first =>
    by_cases hom : m ≤ o
    ·have hod : decide (m ≤ o) = true := by simpa using hom
     go_wp2_with fail
     go_meet
     case rel => exact ⟨o - m, by go_num, by omega, rfl⟩
    ·have hod : decide (m ≤ o) = false := by simpa using hom
     go_wp2_with fail
     go_meet
     case rel => exact ⟨o, rfl, by omega, rfl⟩
   case rest =>
   obtain ⟨o2, rfl, ho2, rfl⟩ := hcut
   obtain ⟨t, ht⟩ : ∃ t, a + o2 = t := ⟨_, rfl⟩
   have hti : (a : Int) + (o2 : Int) = (t : Int) := by omega
   have htn : t < n := by have := HAB.out; omega
   have hin : i < n := by omega
   have htb : Hid (a ≤ t ∧ t < b) := Lib.hid (by have := HAB.out; omega)
   obtain ⟨G, hG⟩ := names_of dk
   have hcw := HJ1.out.cells G hG
   have hfw := HJ1.out.frz
   have HG := Lib.hid hG
   obtain ⟨v', hy'⟩ := cell?_setCell_some (w := wc) (p := ⟨g, off + i, none⟩) (x := .int .u32 (G t)) (q := ⟨g, off + t, none⟩) (hcw t htn)
   clear hG ht hand how hoM HJ HC GN
   go_wp2
   go_region
   have hs2 := (HJ1.out.swap (i := i) (j := t) hin htn (HG.out _) (HG.out _)).drew
   have hb2 : But [g] wc ((wc.setCell ⟨g, off + i, none⟩ (.int .u32 (G t))).setCell ⟨g, off + t, none⟩ (.int .u32 (G i))).drew := (((But.refl _ _).setCell (.inl (by simp)) _).setCell (.inl (by simp)) _).drew
   have HS2 := Lib.hid hs2
   have HC2 := Lib.hid (hb2.keep HC1.out (by simp; omega))
   have HP2 : Hid (PermIn a b d (swp dk i t)) := Lib.hid (permIn_trans _ _ _ a b HP.out (swp_permIn dk a b i t hia hib htb.out.1 htb.out.2 (by rw [HJ1.out.size]; exact hb)))
   clear hs2 hb2 hcw hfw hy' v'
   go_wp2
   go_roundg k
   case measure => omega
   case rel => exact ⟨i + 1, v1, _, by go_num, by omega, by omega, hv1, HP2, HS2.out, HC2.out⟩
 ·have h8i : ¬ (8 : Int) ≤ (m : Int) := by omega
  go_enter Tryz.func132, Tryz.ntmps132
  go_wp2
  go_end0
  exact ⟨d, rfl, permIn_refl _ _ _, HS.out⟩
end Go.Proofs.YtclekllaikcglaaGreat
