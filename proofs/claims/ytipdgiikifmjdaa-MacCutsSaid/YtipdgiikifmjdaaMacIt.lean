/- Contracts: layer 3, the program's Derive: a range over a function. -/
import Derived.RangeFuncNested
import Derived.RangeFuncBound
import Derived.RangeFuncCalls
import Derived.RangeFuncLeaves
import Derived.Shelf.Abstract
import Derived.Shelf.RegionOpen
import Derived.OwnWalkIn
import Derived.TacticsInMore
import Derived.LoopNIn
import Derived.LoopIn
import Derived.Test.YtipdgiikifmjdaaMacD
namespace Go.Proofs.Ytipdgiikifmjdaa
open Go Go.RowKit Go.Shelf
attribute [local go_sem] Oper.semAt_some

/-- A text of 32 bytes. -/
abbrev T32 := { x : List UInt8 // x.length = 32 }
def flat32 (l : List T32) : List UInt8 := (l.map (·.1)).flatten
theorem flat32_snoc (l : List T32) (x : T32) : flat32 (l ++ [x]) = flat32 l ++ x.1 := by simp [flat32]
theorem flat32_length : ∀ l : List T32, (flat32 l).length = 32 * l.length
  | [] => rfl
  | x :: l => by
    have := flat32_length l
    have hx := x.2
    unfold flat32 at this ⊢
    rw [List.map_cons, List.flatten_cons, List.length_append, this, hx, List.length_cons]; omega
def t32 (key label : List UInt8) (i : Nat) : T32 := ⟨tL key label (i + 1), macL_length _ _⟩
def upto32 (key label : List UInt8) (k : Nat) : List T32 := (List.range k).map (t32 key label)
theorem upto32_succ (key label : List UInt8) (k : Nat) : upto32 key label (k + 1) = upto32 key label k ++ [t32 key label k] := by simp [upto32, List.range_succ]
theorem upto32_length (key label : List UInt8) (k : Nat) : (upto32 key label k).length = k := by simp [upto32]
theorem flat_upto (key label : List UInt8) : ∀ k, flat32 (upto32 key label k) = derN key label k
  | 0 => rfl
  | k + 1 => by rw [upto32_succ, flat32_snoc, flat_upto key label k]; rfl
theorem mac_three (key a b c : List UInt8) (B : Nat) (w : World) (hk : key.length ≤ 1099511627776) (hs : a.length + (b.length + c.length) ≤ 1099511627000) (h : w.heap[B]? = some (.cells #[.string (bs a), .string (bs b), .string (bs c)] 9)) :
    Calls Try.prog 21 #[.string (bs key), .slice (some ⟨B, 0, none⟩) 3 3] w fun e w' => e = .returned (.string (bs (macL key (a ++ (b ++ c))))) ∧ Ext w w' := by
  have hsl : Sl w (.slice (some ⟨B, 0, none⟩) [a, b, c].length 3) ([a, b, c].map strV) :=
    ⟨_, _, rfl, fun i hi => ⟨B, 0, rfl, blk_lt h, by
      match i, hi with
      | 0, _ => exact cell_blk h rfl
      | 1, _ => exact cell_blk h rfl
      | 2, _ => exact cell_blk h rfl⟩⟩
  have h := macOf_any key [a, b, c] _ _ w hk (by simp) (by simpa using hs) hsl
  rw [show [a, b, c].flatten = a ++ (b ++ c) by simp] at h
  exact h
theorem Ext.grown {w w' : World} (h : Ext w w') : w.grownBy w' none := ⟨h.os, h.tape, h.output, h.size, fun _ hk _ => Ext.block h hk⟩
theorem heap_alloc2 (w : World) (o1 o2 : Obj) : ((w.alloc o1).alloc o2).heap[w.heap.size + 1]? = some o2 := by
  have := heap_alloc_new (w.alloc o1) o2
  rwa [World.size_alloc] at this
/-- What the rows' iterator asks of a round. -/
def KeepsTwo (B1 B2 : Nat) (A B : World) : Prop := (∀ v, A.cell? ⟨B1, 0, none⟩ = some v → B.cell? ⟨B1, 0, none⟩ = some v) ∧ (∀ v, A.cell? ⟨B2, 0, none⟩ = some v → B.cell? ⟨B2, 0, none⟩ = some v)
theorem KeepsTwo.t {B1 B2 : Nat} {A B C : World} (h : KeepsTwo B1 B2 A B) (k : KeepsTwo B1 B2 B C) : KeepsTwo B1 B2 A C := ⟨fun v hv => k.1 v (h.1 v hv), fun v hv => k.2 v (h.2 v hv)⟩
set_option maxRecDepth 100000 in
set_option maxHeartbeats 2000000 in
theorem rows1_in (n : Nat) (hn : 1 ≤ n) (l B1 B2 : Nat) (key label : List UInt8) (hk : key.length ≤ 1099511627776) (hl : label.length ≤ 1099511620000) (J Jx : List T32 → World → Prop) (W : World) (hJ : AbidesFrom W.heap.size J)
    (hY : ∀ pre x W1, J pre W1 → pre.length < 255 → YieldAt Fence.wide (n - 1) Try.prog l #[.string (bs x.1)] W1 fun e W' =>
      (e = .returned (.bool true) ∧ J (pre ++ [x]) W' ∧ KeepsTwo B1 B2 W1 W') ∨ (e = .returned (.bool false) ∧ Jx (pre ++ [x]) W'))
    (h1 : W.cell? ⟨B1, 0, none⟩ = some (.string (bs key))) (h2 : W.cell? ⟨B2, 0, none⟩ = some (.string (bs label))) (h0 : J [] W) :
    CallsIn Fence.wide n Try.prog 50 #[.func (.yield l) #[] #[], .pointer (some ⟨B1, 0, none⟩), .pointer (some ⟨B2, 0, none⟩)] W fun e W' => (∃ v, e = .returned v) ∧
      ((∃ xs, xs = upto32 key label 255 ∧ J xs W') ∨ (∃ pre, (∃ k, k ≤ 255 ∧ pre = upto32 key label k) ∧ Jx pre W')) := by
  refine callsIn_of_wp Try.func50 rfl trivial ?_ rfl
  simp only [Try.ntmps50, List.size_toArray, List.length_cons, List.length_nil, Nat.reduceAdd, Nat.reduceSub, Array.replicate_succ, Array.replicate_zero, List.push_toArray, List.append_toArray, List.nil_append, List.cons_append]
  gi_wp2
  gi_loopw [4, 6] (fun t i wr => ∃ k : Nat, k ≤ 255 ∧ t = .string (bs (tL key label k)) ∧ i = .int .i64 k ∧ J (upto32 key label k) wr ∧ wr.cell? ⟨B1, 0, none⟩ = some (.string (bs key)) ∧ wr.cell? ⟨B2, 0, none⟩ = some (.string (bs label))) (fun _ i _ => 255 - (intOf i).toNat)
  case atStart => exact ⟨0, by omega, rfl, rfl, h0, h1, h2⟩
  case round =>
    obtain ⟨k, hk1, rfl, rfl, hJs, hc1, hc2⟩ := hrel
    by_cases hlt : k < 255
    · have htl := tL_length key label k
      have GM := Lib.hid (fun (B : Nat) (W : World) (h : W.heap[B]? = some (.cells #[.string (bs (tL key label k)), .string (bs label), .string (bs [b8 (k + 1)])] 9)) => mac_three key (tL key label k) label [b8 (k + 1)] B W hk (by simp; omega) h)
      have hw8 : IntKind.u8.wrap ((k : Int) + 1) = ((b8 (k + 1)).toNat : Int) := by rw [b8_toNat _ (by omega), IntKind.wrap_u8]; omega
      have ks := one_str (b8 (k + 1))
      have HT : Hid (tL key label (k + 1) = macL key (tL key label k ++ (label ++ [b8 (k + 1)]))) := Lib.hid rfl
      have HJ := Lib.hid hJs
      have HY := Lib.hid (hY (upto32 key label k) (t32 key label k))
      rw [show (t32 key label k).1 = macL key (tL key label k ++ (label ++ [b8 (k + 1)])) from rfl] at HY
      clear hJs hY
      generalize tL key label k = t at *
      generalize b8 (k + 1) = b at *
      gi_wp2_with (refine ⟨trivial, ?_⟩; gi_at_call 21; refine (callsIn_wide.2 (GM.out _ _ (heap_alloc2 _ _ _))).mono ?_; rintro e w1 ⟨rfl, hx1⟩; have hx : Ext wr w1 := (((Ext.refl wr).alloc _).alloc _).trans hx1; have hJ1 := hJ _ _ _ none HJ.out hx.grown (fun r h => by cases h); obtain ⟨fn, tmps, assign, body, hy, hR⟩ := HY.out w1 hJ1 (by rw [upto32_length]; exact hlt); have HR := Lib.hid hR; clear hR hJ1; have hd1 := hx.cell_of hc1; have hd2 := hx.cell_of hc2)
      refine HR.out.mono ?_
      rintro e W3 (⟨rfl, hJ3, hk3⟩ | ⟨rfl, hJx3⟩)
      · have HJ3 := Lib.hid hJ3
        clear hJ3
        gi_wp2
        go_roundw
        case measure => simp [intOf]; omega
        case rel => exact ⟨k + 1, by omega, by rw [HT.out], by go_num, by rw [upto32_succ]; exact HJ3.out, hk3.1 _ hd1, hk3.2 _ hd2⟩
      · have HJ3 := Lib.hid hJx3
        clear hJx3
        gi_wp2
        refine bodyPost_ret (results_none rfl _ _ _) rfl ?_
        exact ⟨⟨_, rfl⟩, .inr ⟨_, ⟨k + 1, by omega, (upto32_succ _ _ _).symm⟩, HJ3.out⟩⟩
    · obtain rfl : k = 255 := by omega
      gi_wp2
      go_end0
      exact ⟨⟨_, rfl⟩, .inl ⟨_, rfl, hJs⟩⟩
theorem rows_stops (n : Nat) (hn : 1 ≤ n) (B1 B2 : Nat) (key label : List UInt8) (hk : key.length ≤ 1099511627776) (hl : label.length ≤ 1099511620000) (w : World) (hB1 : B1 < w.heap.size) (hB2 : B2 < w.heap.size)
    (h1 : w.cell? ⟨B1, 0, none⟩ = some (.string (bs key))) (h2 : w.cell? ⟨B2, 0, none⟩ = some (.string (bs label))) :
    SeqStopsK Fence.wide n Try.prog 50 #[.pointer (some ⟨B1, 0, none⟩), .pointer (some ⟨B2, 0, none⟩)] (fun x : T32 => #[Value.string (bs x.1)]) (KeepsTwo B1 B2) (fun xs => xs = upto32 key label 255) (fun pre => ∃ k, k ≤ 255 ∧ pre = upto32 key label k) 255 w := fun l J Jx W hW hJ _ hY h0 =>
  rows1_in n hn l B1 B2 key label hk hl J Jx W hJ hY ((hW.cell (p := ⟨B1, 0, none⟩) hB1).trans h1) ((hW.cell (p := ⟨B2, 0, none⟩) hB2).trans h2) h0
set_option maxRecDepth 100000 in
theorem rows_any (key label : List UInt8) (w : World) :
    Calls Try.prog 40 #[.string (bs key), .string (bs label)] w fun e w' => e = .returned (.func (.func 50) #[] #[.pointer (some ⟨w.heap.size, 0, none⟩), .pointer (some ⟨w.heap.size + 1, 0, none⟩)]) ∧ w' = (w.alloc (.cells #[.string (bs key)] 9)).alloc (.cells #[.string (bs label)] 9) := by
  go_enter Try.func40, Try.ntmps40
  go_wp2
  go_returns
  exact ⟨rfl, rfl⟩
theorem derive_end (key label : List UInt8) (n : Nat) (w W : World) (D : Nat) (d : List UInt8) (hr : d.take n = derL key label n) (tmps : Array Value) (h6 : tmps.getD 6 undef = .pointer (some ⟨w.heap.size + 1, 0, none⟩)) (h7 : tmps.getD 7 undef = .bool true)
    (hf : (W.setCell ⟨w.heap.size + 1, 0, none⟩ (.string (bs (d.take n)))).heap[w.heap.size + 1]? = some (.cells (#[Value.string (bs d)].setIfInBounds 0 (.string (bs (d.take n)))) 9 (0, 0))) (hb : Below w.heap.size w (W.setCell ⟨w.heap.size + 1, 0, none⟩ (.string (bs (d.take n))))) (hD : w.heap.size + 1 < D) (hDl : D < (W.setCell ⟨w.heap.size + 1, 0, none⟩ (.string (bs (d.take n)))).heap.size)
    (hK : (W.setCell ⟨w.heap.size + 1, 0, none⟩ (.string (bs (d.take n)))).heap[D]? = some (.deferred (some []))) :
    LeavesInM Fence.wide 3 Try.prog Try.f22 tmps (fun e w' => e = Ending.returned (Value.tuple #[Value.string (bs (derL key label n)), Value.bool true]) ∧ Ext w w') [] FrameMode.returning ((W.setCell ⟨w.heap.size + 1, 0, none⟩ (.string (bs (d.take n)))).putObj D (Obj.deferred none)) := by
  have hc : ((W.setCell ⟨w.heap.size + 1, 0, none⟩ (.string (bs (d.take n)))).putObj D (Obj.deferred none)).cell? ⟨w.heap.size + 1, 0, none⟩ = some (.string (bs (d.take n))) :=
    (World.cell?_of_block (World.putObj_heap_other (by show w.heap.size + 1 ≠ D; omega))).trans (cell_blk hf rfl)
  refine ⟨.tuple #[.string (bs (d.take n)), .bool true], ?_, by rw [hr], hb.trans (belowK_b (w := w) (Nat.le_refl _) _ D _ _ (by omega) hK rfl rfl)⟩
  rw [results_cell_tmp rfl, h6, h7]
  simp [go_sem, hc]
set_option maxRecDepth 100000 in
set_option maxHeartbeats 2000000 in
theorem derive_yes (key label : List UInt8) (n : Nat) (w : World) (hk : key.length ≤ 1099511627776) (hl : label.length ≤ 1099511620000) (hn1 : 1 ≤ n) (hn2 : n ≤ 8160) :
    Calls Try.prog 22 #[.string (bs key), .string (bs label), .int .i64 (n : Int)] w fun e w' => e = .returned (.tuple #[.string (bs (derL key label n)), .bool true]) ∧ Ext w w' := by
  refine (callsIn_wide (n := 3)).1 ?_
  refine callsIn_of_wp_marks Try.func22 rfl trivial ?_ rfl
  simp only [Try.ntmps22, List.size_toArray, List.length_cons, List.length_nil, Nat.reduceAdd, Nat.reduceSub, Array.replicate_succ, Array.replicate_zero, List.push_toArray, List.append_toArray, List.nil_append, List.cons_append]
  gi_wp2_with (refine ⟨trivial, ?_⟩; gi_at_call 40; refine (callsIn_wide.2 (rows_any key label _)).mono ?_; rintro e w1 ⟨rfl, rfl⟩)
  obtain ⟨W0, hW0⟩ : ∃ W0, (((w.alloc (.cells #[.int .i64 (n : Int)] 3)).alloc (.cells #[.string { data := #[] }] 9)).alloc (.cells #[.string (bs key)] 9)).alloc (.cells #[.string (bs label)] 9) = W0 := ⟨_, rfl⟩
  have hsz : W0.heap.size = w.heap.size + 4 := by rw [← hW0]; simp
  have k0 : W0.heap[w.heap.size]? = some (.cells #[.int .i64 (n : Int)] 3) := by rw [← hW0]; exact heap_alloc_old _ _ (heap_alloc_old _ _ (heap_alloc_old _ _ (heap_alloc_new _ _)))
  have k1 : W0.heap[w.heap.size + 1]? = some (.cells #[.string (bs [])] 9) := by rw [← hW0]; exact heap_alloc_old _ _ (heap_alloc_old _ _ (heap_alloc2 _ _ _))
  have k2 : W0.cell? ⟨w.heap.size + 2, 0, none⟩ = some (.string (bs key)) := by
    rw [← hW0]
    have := heap_alloc_old _ (.cells #[.string (bs label)] 9) (heap_alloc_new ((w.alloc (.cells #[.int .i64 (n : Int)] 3)).alloc (.cells #[.string { data := #[] }] 9)) (.cells #[.string (bs key)] 9))
    rw [World.size_alloc, World.size_alloc] at this
    exact cell_blk this rfl
  have k3 : W0.cell? ⟨w.heap.size + 3, 0, none⟩ = some (.string (bs label)) := by
    rw [← hW0]
    have := heap_alloc_new (((w.alloc (.cells #[.int .i64 (n : Int)] 3)).alloc (.cells #[.string { data := #[] }] 9)).alloc (.cells #[.string (bs key)] 9)) (.cells #[.string (bs label)] 9)
    rw [World.size_alloc, World.size_alloc, World.size_alloc] at this
    exact cell_blk this rfl
  have kx : Ext w W0 := by rw [← hW0]; exact ((((Ext.refl w).alloc _).alloc _).alloc _).alloc _
  rw [hW0]
  clear hW0
  have own : ∀ (A B : World) (row : Option Nat) (b : Nat) (o : Obj), A.heap[b]? = some o → b < W0.heap.size → A.grownBy B row → (∀ r, row = some r → W0.heap.size ≤ r) → B.heap[b]? = some o := fun A B row b o h hb hg hr =>
    (hg.block b (blk_lt h) (fun e => by have := hr b e.symm; omega)).trans h
  refine wpIn_rangeFunc_ownF (α := T32) (a₁ := ?a1) rfl (by omega) (gf := 50) (lb := #[.pointer (some ⟨w.heap.size + 2, 0, none⟩), .pointer (some ⟨w.heap.size + 3, 0, none⟩)]) rfl trivial (enters_of Try.func50 (by kernel_rfl) rfl)
    (rows_stops _ (by omega) (w.heap.size + 2) (w.heap.size + 3) key label hk hl W0 (by omega) (by omega) k2 k3) KeepsTwo.t ?kb (Below.refl _ _) (fun _ => rfl)
    (fun pre W => W.heap[w.heap.size]? = some (.cells #[.int .i64 (n : Int)] 3) ∧ W.heap[w.heap.size + 1]? = some (.cells #[.string (bs (flat32 pre))] 9) ∧ Below w.heap.size w W)
    (fun c pre W => c = .exit 0 ∧ n ≤ 32 * pre.length ∧ W.heap[w.heap.size]? = some (.cells #[.int .i64 (n : Int)] 3) ∧ W.heap[w.heap.size + 1]? = some (.cells #[.string (bs (flat32 pre))] 9) ∧ Below w.heap.size w W)
    ?hI ?hIx ⟨k0, k1, kx⟩ ?assign ?body ?done ?stop
  case kb =>
    intro W l o o' hl _ _ _
    have : ∀ b, b < l → (W.putObj l o').cell? ⟨b, 0, none⟩ = W.cell? ⟨b, 0, none⟩ := fun b hb => World.cell?_of_block (World.putObj_heap_other (by show b ≠ l; omega))
    exact ⟨fun v hv => (this _ (by omega)).trans hv, fun v hv => (this _ (by omega)).trans hv⟩
  case hI =>
    rintro s A B row ⟨h1, h2, h3⟩ hg hr
    exact ⟨own A B row _ _ h1 (by omega) hg (fun r e => (hr r e).1), own A B row _ _ h2 (by omega) hg (fun r e => (hr r e).1), h3.grown hg (Nat.le_of_lt (blk_lt h1)) (fun r e => by have := (hr r e).1; omega)⟩
  case hIx =>
    rintro c s A B row ⟨h0, h00, h1, h2, h3⟩ hg hr
    exact ⟨h0, h00, own A B row _ _ h1 (by omega) hg (fun r e => (hr r e).1), own A B row _ _ h2 (by omega) hg (fun r e => (hr r e).1), h3.grown hg (Nat.le_of_lt (blk_lt h1)) (fun r e => by have := (hr r e).1; omega)⟩
  case assign =>
    intro l x W K hK
    gi_wp2
    exact hK
  case body =>
    rintro l pre x W ⟨hc, hf, hb⟩ hlen
    have hfl := flat32_length pre
    obtain ⟨y, hy⟩ := x
    have c0 : W.cell? ⟨w.heap.size, 0, none⟩ = some (.int .i64 (n : Int)) := cell_blk hc rfl
    have c1 : W.cell? ⟨w.heap.size + 1, 0, none⟩ = some (.string (bs (flat32 pre))) := cell_blk hf rfl
    have f1 : W.frozen? ⟨w.heap.size + 1, 0, none⟩ = false := frozen_blk hf
    have HF := Lib.hid (fun v => heap_setCell_same (i := 0) v hf)
    have HC := Lib.hid (fun v => (heap_setCell_other W ⟨w.heap.size + 1, 0, none⟩ v (k := w.heap.size) (by show w.heap.size ≠ w.heap.size + 1; omega)).trans hc)
    have HB := Lib.hid (fun v => hb.setCell (p := ⟨w.heap.size + 1, 0, none⟩) (by show w.heap.size ≤ w.heap.size + 1; omega) v)
    have HK : Hid (∀ v, KeepsTwo (w.heap.size + 2) (w.heap.size + 3) W (W.setCell ⟨w.heap.size + 1, 0, none⟩ v)) := Lib.hid fun v => ⟨fun u hu => (World.cell?_of_block (heap_setCell_other _ _ _ (by show w.heap.size + 2 ≠ w.heap.size + 1; omega))).trans hu, fun u hu => (World.cell?_of_block (heap_setCell_other _ _ _ (by show w.heap.size + 3 ≠ w.heap.size + 1; omega))).trans hu⟩
    have HS : Hid (flat32 (pre ++ [⟨y, hy⟩]) = flat32 pre ++ y) := Lib.hid (flat32_snoc _ _)
    clear hc hf hb
    have hlen' : pre.length < 255 := hlen
    clear hlen
    by_cases hbr : n ≤ 32 * (pre.length + 1)
    · generalize flat32 pre = t at *
      gi_wp2
      exact ⟨KeepsOthers.setCell _ _ _, rfl, by rw [List.length_append]; exact hbr, HC.out _, by rw [HS.out]; exact HF.out _, HB.out _⟩
    · generalize flat32 pre = t at *
      gi_wp2
      exact ⟨KeepsOthers.setCell _ _ _, HK.out _, HC.out _, by rw [HS.out]; exact HF.out _, HB.out _⟩
  case done =>
    rintro D xs W hD rfl ⟨hc, hf, hb⟩ hK
    rw [flat_upto] at hf
    have hdl := derN_length key label 255
    have hres := derL_of key label n 255 (by omega) (by omega)
    have HR := Lib.hid hres
    clear hres
    generalize derN key label 255 = d at *
    have c0 : W.cell? ⟨w.heap.size, 0, none⟩ = some (.int .i64 (n : Int)) := cell_blk hc rfl
    have c1 : W.cell? ⟨w.heap.size + 1, 0, none⟩ = some (.string (bs d)) := cell_blk hf rfl
    have f1 : W.frozen? ⟨w.heap.size + 1, 0, none⟩ = false := frozen_blk hf
    have HK := Lib.hid ((heap_setCell_other W ⟨w.heap.size + 1, 0, none⟩ (.string (bs (d.take n))) (k := D) (by show D ≠ w.heap.size + 1; omega)).trans hK)
    have HF := Lib.hid (heap_setCell_same (i := 0) (.string (bs (d.take n))) hf)
    have HB := Lib.hid (hb.setCell (p := ⟨w.heap.size + 1, 0, none⟩) (by show w.heap.size ≤ w.heap.size + 1; omega) (.string (bs (d.take n))))
    clear hK hf hb hc
    gi_wp2
    refine ⟨by simp, .inl ⟨_, _, rfl, run_takeDeferred HK.out, ?_⟩⟩
    exact derive_end key label n w W D _ HR.out _ rfl rfl HF.out HB.out (by omega) (blk_lt HK.out) HK.out
  case stop =>
    rintro D c pre W hD ⟨k, hk255, rfl⟩ ⟨rfl, hle, hc, hf, hb⟩ hK
    rw [upto32_length] at hle
    rw [flat_upto] at hf
    have hdl := derN_length key label k
    have hres := derL_of key label n k hle hk255
    have HR := Lib.hid hres
    clear hres
    generalize derN key label k = d at *
    have c0 : W.cell? ⟨w.heap.size, 0, none⟩ = some (.int .i64 (n : Int)) := cell_blk hc rfl
    have c1 : W.cell? ⟨w.heap.size + 1, 0, none⟩ = some (.string (bs d)) := cell_blk hf rfl
    have f1 : W.frozen? ⟨w.heap.size + 1, 0, none⟩ = false := frozen_blk hf
    have HK := Lib.hid ((heap_setCell_other W ⟨w.heap.size + 1, 0, none⟩ (.string (bs (d.take n))) (k := D) (by show D ≠ w.heap.size + 1; omega)).trans hK)
    have HF := Lib.hid (heap_setCell_same (i := 0) (.string (bs (d.take n))) hf)
    have HB := Lib.hid (hb.setCell (p := ⟨w.heap.size + 1, 0, none⟩) (by show w.heap.size ≤ w.heap.size + 1; omega) (.string (bs (d.take n))))
    clear hK hf hb hc
    gi_wp2
    refine ⟨by simp, .inl ⟨_, _, rfl, run_takeDeferred HK.out, ?_⟩⟩
    exact derive_end key label n w W D _ HR.out _ rfl rfl HF.out HB.out (by omega) (blk_lt HK.out) HK.out
set_option maxRecDepth 100000 in
set_option maxHeartbeats 1000000 in
theorem derive_no (key label : List UInt8) (n : Int) (w : World) (h : n < 1 ∨ 8160 < n) :
    Calls Try.prog 22 #[.string (bs key), .string (bs label), .int .i64 n] w fun e w' => e = .returned (.tuple #[.string (bs []), .bool false]) ∧ Ext w w' := by
  have two : n < 1 ∨ (¬ n < 1 ∧ 8160 < n) := by omega
  clear h
  rcases two with h1 | ⟨h1, h2⟩
  · go_enter Try.func22, Try.ntmps22
    go_wp2
    refine bodyPost_ret ?_ rfl ⟨rfl, ((Ext.refl w).alloc _).alloc _⟩
    have hc := cell_blk (i := 0) (heap_alloc2 w (.cells #[.int .i64 n] 3) (.cells #[.string { data := #[] }] 9)) rfl
    rw [results_cell_tmp rfl]
    simp [go_sem, hc]
    rfl
  · go_enter Try.func22, Try.ntmps22
    go_wp2
    refine bodyPost_ret ?_ rfl ⟨rfl, ((Ext.refl w).alloc _).alloc _⟩
    have hc := cell_blk (i := 0) (heap_alloc2 w (.cells #[.int .i64 n] 3) (.cells #[.string { data := #[] }] 9)) rfl
    rw [results_cell_tmp rfl]
    simp [go_sem, hc]
    rfl
end Go.Proofs.Ytipdgiikifmjdaa
