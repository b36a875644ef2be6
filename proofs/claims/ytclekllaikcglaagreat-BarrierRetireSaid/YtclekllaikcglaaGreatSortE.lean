/- The library's choice of a pivot at uint32, and the breaking of patterns. -/
import Derived.Test.YtclekllaikcglaaGreatSort
import Derived.Deep.CutRange
namespace Go.Proofs.YtclekllaikcglaaGreat
open Go Go.RowKit
open Go.Sort (swp PermIn SortedIn ltInt Holds)

/-- The row holds d, and the count of swaps lies in a block of the call's own. -/
structure OB (w0 : World) (sb : Nat) (w : World) : Prop where
  ext : Ext w0 w
  new : w0.heap.size ≤ sb
  cell : ∃ c : Int, w.heap[sb]? = some (.cells #[.int .i64 c] 3)
def O2 (p : Nat → Prop) (w0 : World) (sb : Nat) (e : Ending) (w' : World) : Prop :=
  ∃ x y : Nat, e = .returned (.tuple #[.int .i64 x, .int .i64 y]) ∧ p x ∧ p y ∧ OB w0 sb w'
theorem OB.drewN {w0 w : World} {sb : Nat} (h : OB w0 sb w) (k : Nat) : OB w0 sb (w.drewN k) := ⟨h.ext.drewN k, h.new, h.cell⟩
theorem OB.set {w0 w : World} {sb : Nat} (h : OB w0 sb w) (c : Int) : OB w0 sb (w.setCell ⟨sb, 0, none⟩ (.int .i64 c)) := by
  obtain ⟨c0, hc⟩ := h.cell
  exact ⟨h.ext.setCell h.new _, h.new, c, by rw [heap_setCell_same (i := 0) _ hc]; rfl⟩
theorem holds_ext {w w' : World} {g off : Nat} {d : Array Int} (h : Holds e32 w g off d) (hg : g < w.heap.size) (hx : Ext w w') : Holds e32 w' g off d := holds_heap h (hx.block hg)
set_option maxRecDepth 1000000 in
set_option maxHeartbeats 4000000 in
theorem order32 (g off cap a b n sb : Nat) (d : Array Int) (w0 w : World) (hH : Holds e32 w0 g off d) (hn : d.size = n) (hg : g < w0.heap.size) (ho : OB w0 sb w) (ha : a < n) (hb : b < n) (p : Nat → Prop) (pa : p a) (pb : p b) (hsz : n ≤ 1000000) :
    Calls Tryz.prog 162 #[.slice (some ⟨g, off, none⟩) n cap, .int .i64 a, .int .i64 b, .pointer (some ⟨sb, 0, none⟩)] w (O2 p w0 sb) := by
  obtain ⟨G, hG⟩ := names_of d
  have hcw : ∀ t, t < n → w.cell? ⟨g, off + t, none⟩ = some (.int .u32 (G t)) := fun t ht => by
    rw [hG]; exact (holds_ext hH hg ho.ext t (by rw [hn]; exact ht)).1
  obtain ⟨c, hc⟩ := ho.cell
  have c1 := cell_blk (i := 0) hc rfl
  have f1 : w.frozen? ⟨sb, 0, none⟩ = false := frozen_blk hc
  have HO := Lib.hid ho
  clear hG hH hn hg ho hc
  go_enter Tryz.func162, Tryz.ntmps162
  go_wp2
  go_quiet (first | (go_at_call 136; refine Calls.quiet_of_same (less32 _ _ _)))
  go_wp2
  · go_returns
    exact ⟨b, a, rfl, pb, pa, (HO.out.drewN nq).set _⟩
  · go_returns
    exact ⟨a, b, rfl, pa, pb, HO.out.drewN nq⟩
def M3 (p : Nat → Prop) (w0 : World) (sb : Nat) (e : Ending) (w' : World) : Prop := ∃ x : Nat, e = .returned (.int .i64 x) ∧ p x ∧ OB w0 sb w'
set_option maxRecDepth 1000000 in
set_option maxHeartbeats 4000000 in
theorem median32 (g off cap a b c n sb : Nat) (d : Array Int) (w0 w : World) (hH : Holds e32 w0 g off d) (hn : d.size = n) (hg : g < w0.heap.size) (ho : OB w0 sb w) (p : Nat → Prop) (hp : ∀ x, p x → x < n) (pa : p a) (pb : p b) (pc : p c) (hsz : n ≤ 1000000) :
    Calls Tryz.prog 156 #[.slice (some ⟨g, off, none⟩) n cap, .int .i64 a, .int .i64 b, .int .i64 c, .pointer (some ⟨sb, 0, none⟩)] w (M3 p w0 sb) := by
  have GO := Lib.hid (fun (a b : Nat) (ha : p a) (hb : p b) (W : World) (ho : OB w0 sb W) => order32 g off cap a b n sb d w0 W hH hn hg ho (hp a ha) (hp b hb) p ha hb hsz)
  have HO := Lib.hid ho
  clear hH hn hg ho hp
  go_enter Tryz.func156, Tryz.ntmps156
  go_wp2_with (go_at_call 162; (with_reducible refine (GO.out _ _ (by assumption) (by assumption) _ HO.out).mono ?_); rintro e w1 ⟨x1, y1, rfl, hx1, hy1, ho1⟩; clear HO; have HO := Lib.hid ho1; clear ho1)
  go_returns
  exact ⟨_, rfl, by assumption, HO.out⟩
set_option maxRecDepth 1000000 in
set_option maxHeartbeats 4000000 in
theorem medAdj32 (g off cap a n sb : Nat) (d : Array Int) (w0 w : World) (hH : Holds e32 w0 g off d) (hn : d.size = n) (hg : g < w0.heap.size) (ho : OB w0 sb w) (p : Nat → Prop) (hp : ∀ x, p x → x < n) (ha : 1 ≤ a) (han : a < n) (pa : p (a - 1)) (pb : p a) (pc : p (a + 1)) (hsz : n ≤ 1000000) :
    Calls Tryz.prog 155 #[.slice (some ⟨g, off, none⟩) n cap, .int .i64 a, .pointer (some ⟨sb, 0, none⟩)] w (M3 p w0 sb) := by
  have GM := Lib.hid (median32 g off cap (a - 1) a (a + 1) n sb d w0 w hH hn hg ho p hp pa pb pc hsz)
  obtain ⟨x, hx⟩ : ∃ x, a - 1 = x := ⟨_, rfl⟩
  obtain ⟨y, hy⟩ : ∃ y, a + 1 = y := ⟨_, rfl⟩
  have hxi : (a : Int) - 1 = (x : Int) := by omega
  have hyi : (a : Int) + 1 = (y : Int) := by omega
  rw [hx, hy] at GM
  clear hx hy hH hn hg ho hp pa pb pc
  go_enter Tryz.func155, Tryz.ntmps155
  go_wp2_with (go_at_call 156; (with_reducible refine GM.out.mono ?_); rintro e w1 ⟨x1, rfl, hx1, ho1⟩; have HO := Lib.hid ho1; clear ho1)
  go_returns
  exact ⟨_, rfl, hx1, HO.out⟩
def CP (a b : Nat) (w : World) (e : Ending) (w' : World) : Prop := ∃ (x : Nat) (h : Int), e = .returned (.tuple #[.int .i64 x, .int .i64 h]) ∧ a ≤ x ∧ x < b ∧ Ext w w'
set_option maxRecDepth 1000000 in
set_option maxHeartbeats 8000000 in
theorem pivot32 (g off cap a b n : Nat) (d : Array Int) (w : World) (hH : Holds e32 w g off d) (hn : d.size = n) (hg : g < w.heap.size) (hab : a < b) (hb : b ≤ n) (hsz : n ≤ 1000000) :
    Calls Tryz.prog 133 #[.slice (some ⟨g, off, none⟩) n cap, .int .i64 a, .int .i64 b] w (CP a b w) := by
  obtain ⟨p, hp⟩ : ∃ p : Nat → Prop, ∀ x, p x ↔ (a ≤ x ∧ x < b) := ⟨fun x => a ≤ x ∧ x < b, fun x => Iff.rfl⟩
  have hpn : ∀ x, p x → x < n := fun x hx => by have := (hp x).1 hx; omega
  obtain ⟨m, hm⟩ : ∃ m, b - a = m := ⟨_, rfl⟩
  obtain ⟨q, hq⟩ : ∃ q, m / 4 = q := ⟨_, rfl⟩
  obtain ⟨i, hi⟩ : ∃ i, a + q = i := ⟨_, rfl⟩
  obtain ⟨j, hj⟩ : ∃ j, a + q * 2 = j := ⟨_, rfl⟩
  obtain ⟨k, hk⟩ : ∃ k, a + q * 3 = k := ⟨_, rfl⟩
  have hmi : (b : Int) - (a : Int) = (m : Int) := by omega
  have hqi : (m : Int) / 4 = (q : Int) := by omega
  have hii : (a : Int) + (q : Int) = (i : Int) := by omega
  have hji : (a : Int) + (q : Int) * 2 = (j : Int) := by omega
  have hki : (a : Int) + (q : Int) * 3 = (k : Int) := by omega
  have pj : p j := (hp j).2 (by omega)
  have pi : Hid (8 ≤ m → p i) := Lib.hid fun h => (hp i).2 (by omega)
  have pk : Hid (8 ≤ m → p k) := Lib.hid fun h => (hp k).2 (by omega)
  have GM := Lib.hid (fun (x y z : Nat) (hx : p x) (hy : p y) (hz : p z) (W : World) (sb : Nat) (ho : OB w sb W) => median32 g off cap x y z n sb d w W hH hn hg ho p hpn hx hy hz hsz)
  have GI := Lib.hid (fun (h : 50 ≤ m) (W : World) (sb : Nat) (ho : OB w sb W) => medAdj32 g off cap i n sb d w W hH hn hg ho p hpn (by omega) (by omega) ((hp _).2 (by omega)) ((hp _).2 (by omega)) ((hp _).2 (by omega)) hsz)
  have GJ := Lib.hid (fun (h : 50 ≤ m) (W : World) (sb : Nat) (ho : OB w sb W) => medAdj32 g off cap j n sb d w W hH hn hg ho p hpn (by omega) (by omega) ((hp _).2 (by omega)) ((hp _).2 (by omega)) ((hp _).2 (by omega)) hsz)
  have GK := Lib.hid (fun (h : 50 ≤ m) (W : World) (sb : Nat) (ho : OB w sb W) => medAdj32 g off cap k n sb d w W hH hn hg ho p hpn (by omega) (by omega) ((hp _).2 (by omega)) ((hp _).2 (by omega)) ((hp _).2 (by omega)) hsz)
  have HP := Lib.hid hp
  have HO : Hid (OB w w.heap.size (w.alloc (.cells #[.int .i64 0] 3))) := Lib.hid ⟨(Ext.refl w).alloc _, Nat.le_refl _, 0, heap_alloc_new _ _⟩
  have hm1 : m ≤ 1000000 := by omega
  have hq1 : q ≤ 1000000 := by omega
  have hi1 : i ≤ 1000000 := by omega
  have hj1 : j ≤ 1000000 := by omega
  have hk1 : k ≤ 2000000 := by omega
  clear hH hn hg hp hpn hm hq hi hj hk
  go_enter Tryz.func133, Tryz.ntmps133
  go_upto_if 32 with fail
  go_cut [11] from 13 to 56 (fun s11 wc => ∃ x : Nat, s11 = .int .i64 x ∧ p x ∧ OB w w.heap.size wc)
  case first =>
    by_cases h8 : 8 ≤ m
    · have h8i : (8 : Int) ≤ (m : Int) := by omega
      have pi := pi.out h8
      have pk := pk.out h8
      by_cases h50 : 50 ≤ m
      · have h50i : (50 : Int) ≤ (m : Int) := by omega
        have GI := Lib.hid (GI.out h50)
        have GJ := Lib.hid (GJ.out h50)
        have GK := Lib.hid (GK.out h50)
        go_wp2_with (go_at_call 155; (with_reducible refine (GI.out _ _ HO.out).mono ?_); rintro e w1 ⟨x1, rfl, hx1, ho1⟩; clear HO GI; have HO := Lib.hid ho1; clear ho1)
        go_wp2_with (go_at_call 155; (with_reducible refine (GJ.out _ _ HO.out).mono ?_); rintro e w1 ⟨x2, rfl, hx2, ho1⟩; clear HO GJ; have HO := Lib.hid ho1; clear ho1)
        go_wp2_with (go_at_call 155; (with_reducible refine (GK.out _ _ HO.out).mono ?_); rintro e w1 ⟨x3, rfl, hx3, ho1⟩; clear HO GK; have HO := Lib.hid ho1; clear ho1)
        go_wp2_with (go_at_call 156; (with_reducible refine (GM.out _ _ _ hx1 hx2 hx3 _ _ HO.out).mono ?_); rintro e w1 ⟨x4, rfl, hx4, ho1⟩; clear HO; have HO := Lib.hid ho1; clear ho1)
        go_meet
        case rel => exact ⟨x4, rfl, hx4, HO.out⟩
      · have h50i : ¬ (50 : Int) ≤ (m : Int) := by omega
        go_wp2_with (go_at_call 156; (with_reducible refine (GM.out _ _ _ pi pj pk _ _ HO.out).mono ?_); rintro e w1 ⟨x4, rfl, hx4, ho1⟩; clear HO; have HO := Lib.hid ho1; clear ho1)
        go_meet
        case rel => exact ⟨x4, rfl, hx4, HO.out⟩
    · have h8i : ¬ (8 : Int) ≤ (m : Int) := by omega
      go_wp2_with fail
      go_meet
      case rel => exact ⟨j, rfl, pj, HO.out⟩
  case rest =>
  obtain ⟨x, rfl, hx, ho⟩ := hcut
  obtain ⟨c, hc⟩ := ho.cell
  have c1 := cell_blk (i := 0) hc rfl
  have HX := Lib.hid ((HP.out x).1 hx)
  have HO := Lib.hid ho.ext
  clear ho hc hx
  go_wp2
  all_goals go_returns
  all_goals exact ⟨x, _, rfl, HX.out.1, HX.out.2, HO.out⟩
end Go.Proofs.YtclekllaikcglaaGreat
