import Derived.ArgAppend
import Derived.Test.YtclekllaikcglaaGreatNew
import Derived.Test.YtclekllaikcglaaGreatRefAes
import Derived.Test.YtclekllaikcglaaGreatWeave

/- Contracts: layer 4, the document's Rounds. -/
namespace Go.Proofs.YtclekllaikcglaaGreat
open Go Go.RowKit
def RowB (w : World) (B : Nat) (v : Value) (l : List UInt8) : Prop :=
 ∃ (g : Nat) (cs : Array Value) (fz : Nat × Nat), v = .slice (some ⟨g, 0, none⟩) l.length cs.size ∧ B ≤ g ∧ w.heap[g]? = some (.cells cs 5 fz) ∧ (fz = (0, 0) ∨ fz = (cs.size, cs.size + 1)) ∧ cs.toList.take l.length = l.map byteV ∧ l.length ≤ cs.size
theorem RowB.look {w : World} {B : Nat} {v : Value} {l : List UInt8} (h : RowB w B v l) : ∃ (g : Nat) (cs : Array Value), v = .slice (some ⟨g, 0, none⟩) l.length cs.size ∧ B ≤ g := by
 obtain ⟨g, cs, fz, hv, hB, _⟩ := h
 exact ⟨g, cs, hv, hB⟩
theorem RowB.cell {w : World} {B g cap n : Nat} {l : List UInt8} (h : RowB w B (.slice (some ⟨g, 0, none⟩) n cap) l) (i : Nat) (hi : i < l.length) : w.cell? ⟨g, i, none⟩ = some (byteV l[i]) := by
 obtain ⟨g', cs, fz, hv, hB, hh, hf, ht, hl⟩ := h
 cases hv
 refine cell_blk hh ?_
 have : (cs.toList.take l.length)[i]? = some (byteV l[i]) := by rw [ht]; simp [hi]
 rw [List.getElem?_take, if_pos hi] at this
 simpa using this
theorem RowB.fits {w : World} {B g cap n : Nat} {l : List UInt8} (h : RowB w B (.slice (some ⟨g, 0, none⟩) n cap) l) : l.length ≤ cap := by
 obtain ⟨g', cs, fz, hv, hB, hh, hf, ht, hl⟩ := h
 injection hv with _ _ h3
 omega
theorem RowB.keep {w w' : World} {B g cap n : Nat} {l : List UInt8} (h : RowB w B (.slice (some ⟨g, 0, none⟩) n cap) l) (hk : w'.heap[g]? = w.heap[g]?) : RowB w' B (.slice (some ⟨g, 0, none⟩) n cap) l := by
 obtain ⟨g', cs, fz, hv, hB, hh, hf, ht, hl⟩ := h
 have hg : g = g' := by injection hv with h1; injection h1 with h1; injection h1
 subst hg
 exact ⟨g, cs, fz, hv, hB, hk.trans hh, hf, ht, hl⟩
theorem rowStr_ne {w : World} {B B' g cap n : Nat} {l : List UInt8} {o : Value} {xs : List Value} (h : RowB w B (.slice (some ⟨g, 0, none⟩) n cap) l) (hr : Row w B' 9 o xs) : some g ≠ o.ownBlock := by
 obtain ⟨g', cs, fz, hv, hB, hh, hf, ht, hl⟩ := h
 have hg : g = g' := by injection hv with h1; injection h1 with h1; injection h1
 subst hg
 rcases hr.look with ⟨rfl, _⟩ | ⟨g2, cap2, cur, rfl, _, hh2, _⟩
 ·intro e; cases e
 ·intro e
  cases e
  rw [hh] at hh2
  cases hh2
theorem RowB.ext {w w' : World} {B : Nat} {v : Value} {l : List UInt8} (h : RowB w B v l) (hx : Ext w w') : RowB w' B v l := by
 obtain ⟨g, cs, fz, hv, hB, hh, hf, ht, hl⟩ := h
 exact ⟨g, cs, fz, hv, hB, hx.keep hh, hf, ht, hl⟩
theorem RowB.lt {w : World} {B : Nat} {v : Value} {l : List UInt8} (h : RowB w B v l) : ∀ b, v.ownBlock = some b → B ≤ b ∧ b < w.heap.size := by
 obtain ⟨g, cs, fz, rfl, hB, hh, hf, ht, hl⟩ := h
 intro b hb
 cases hb
 exact ⟨hB, blk_lt hh⟩
theorem RowB.of_row {w : World} {B : Nat} {v : Value} {l : List UInt8} (h : Row w B 5 v (l.map byteV)) (hne : l ≠ []) : RowB w B v l := by
 rcases h.look with ⟨_, h2⟩ | ⟨g, cap, cur, hv, hB, hh, h3, h5, h6⟩
 ·exact absurd (List.map_eq_nil_iff.1 h2) hne
 ·rw [List.length_map] at hv h3 h6
  subst h5
  exact ⟨g, cur, (0, 0), hv, hB, hh, .inl rfl, h6, h3⟩
theorem wpl_appB {ops : Array Oper} {rest : List Oper} {o : Oper} {a : Act} {Q : Exit → Act → World → Prop} {w : World} (B : Nat) (hB : B ≤ w.heap.size) (v : Value) (l : List UInt8) (z : UInt8) (hgd : o.guard = none) (s x : Operand)
  (ho : o.op = .call { callee := .builtin .append, args := #[s, x], argTypes := #[27, 27] }) (hs : a.eval s = v) (hrow : RowB w B v l)
  (nb c : Nat) (hx : a.eval x = .slice (some ⟨nb, 0, none⟩) 1 c) (hnb : w.heap[nb]? = some (.cells #[.int .u8 (z.toNat : Int)] 5)) (hlen : l.length ≤ 140737488355000)
  (h : ∀ v' w', RowB w' B v' (l ++ [z]) → Below B w w' → (∀ k, k < w.heap.size → v.ownBlock ≠ some k → w'.heap[k]? = w.heap[k]?) → (∀ b, v'.ownBlock = some b → v.ownBlock = some b ∨ w.heap.size ≤ b) → wpList Tryz.prog ops Q rest (a.put o.dst v') w') : wpList Tryz.prog ops Q (o :: rest) a w := by
 obtain ⟨i0, hi, hz0, hz1, hz2⟩ := info_parts info_u8
 obtain ⟨g, cs, fz, hv, hgB, hh, hf, ht, hl⟩ := id hrow
 subst hv
 have hnc : ∀ j u, [byteV z][j]? = some u → w.cell? ((⟨nb, 0, none⟩ : Addr).add j) = some u := by
  intro j u hj
  match j, hj with
  | 0, hj => simp at hj; subst hj; rw [Addr.add_lit]; exact cell_blk hnb rfl
  | j + 1, hj => simp at hj
 have holds : ∀ j u, (l.map byteV)[j]? = some u → w.cell? ⟨g, 0 + j, none⟩ = some u := by
  intro j u hj
  rw [List.getElem?_map] at hj
  obtain ⟨y, hy, rfl⟩ := Option.map_eq_some_iff.1 hj
  obtain ⟨hjl, rfl⟩ := List.getElem?_eq_some_iff.1 hy
  rw [Nat.zero_add]
  exact hrow.cell j hjl
 refine wpList_append_arg w hgd s x 27 ho 5 i0 (.int .u8 0) 1 1 und_bytes hi hz0 hz1 hz2 rfl (by decide) g 0 l.length cs.size (l.map byteV) hs (by simp) holds ⟨nb, 0, none⟩ 1 c [byteV z] hx rfl hnc (fun u hu => by simp at hu; subst hu; rfl) ?_ (by unfold maxLen; omega) (by omega) ?_ ?_
 ·intro hr j hj
  have hj0 : j = 0 := by simpa using hj
  subst hj0
  have hlt : l.length < cs.size := by omega
  rw [show 0 + l.length * 1 + 0 = l.length by omega]
  refine ⟨by rw [cell_blk (v := cs[l.length]) hh (by simp [hlt])]; rfl, ?_⟩
  rcases hf with rfl | rfl
  ·exact frozen_blk hh
  ·exact frozen_spare hh hlt
 ·intro hr
  have hlt : l.length < cs.size := by omega
  rw [show 0 + l.length * 1 = l.length by omega]
  show wpList _ _ _ _ _ (w.setCell ⟨g, l.length, none⟩ (byteV z))
  refine h _ _ ⟨g, cs.setIfInBounds l.length (byteV z), fz, ?_, hgB, heap_setCell_same _ hh, by simpa using hf, ?_, by simp; omega⟩ (Below.setCell (Below.refl _ _) hgB _) (fun k _ hne => heap_setCell_other _ _ _ (fun e => hne (by rw [e]; rfl))) (fun b hb => .inl hb)
  ·simp
  ·rw [List.length_append, List.map_append, Array.toList_setIfInBounds, ← ht]
   show List.take (l.length + 1) _ = _ ++ [byteV z]
   rw [List.take_succ_eq_append_getElem (by simp [hlt]), List.take_set_of_le (by omega)]
   simp
 ·intro hr v' w' hown hg
  have hr2 := World.ownsRow.lt hown
  refine h v' w' (RowB.of_row (l := l ++ [z]) ?_ (by simp)) ((Below.refl B w).grown hg hB (fun k hk => by cases hk)) (fun k hk _ => hg.block k hk (by simp)) (fun b hb => .inr (hr2 b hb).1)
  have hrow' : Row w' w.heap.size 5 v' ((l ++ [z]).map byteV) := by
   unfold Row
   rw [List.length_map, List.length_append, List.map_append]
   exact hown
  exact hrow'.mono hB
theorem rowB_ne {w : World} {B gb : Nat} {v : Value} {l x : List UInt8} (h : RowB w B v l) (hl : 4 < l.length) (hg : w.heap[gb]? = some (.cells (bcells x) 5)) (hx : x.length = 4) : ∀ b, v.ownBlock = some b → b ≠ gb := by
 obtain ⟨g, cs, fz, rfl, hB, hh, hf, ht, hll⟩ := h
 intro b hb e
 cases hb
 subst e
 rw [hg] at hh
 cases hh
 rw [bcells_size, hx] at hll
 omega
theorem take_len {K : List UInt8} (hK : K.length = 176) (n : Nat) (h : n ≤ 176) : (K.take n).length = n := by rw [List.length_take, hK]; omega
theorem take_get {K : List UInt8} (hK : K.length = 176) (n i : Nat) (h : i < n) (hn : i < 176) : (K.take n)[i]'(by rw [List.length_take, hK]; omega) = K.getD i 0 := by
 rw [List.getElem_take]
 simp [List.getD, show i < K.length by rw [hK]; exact hn]
theorem take_next {K : List UInt8} (hK : K.length = 176) (n : Nat) (h : n < 176) : K.take (n + 1) = K.take n ++ [K.getD n 0] := by
 rw [List.take_succ_eq_append_getElem (by rw [hK]; exact h)]
 simp [List.getD, show n < K.length by rw [hK]; exact h]
theorem bI_length (key : List UInt8) (n : Nat) : (bI key n).length = 4 := by unfold bI; split <;> rfl
set_option maxRecDepth 100000 in
set_option maxHeartbeats 8000000 in
theorem refRounds_of (key K : List UInt8) (fac : Nat → UInt8) (bf : Nat → List UInt8) (HKL : Hid (K.length = 176)) (HKK : Hid (K.take 16 = key)) (HBL : Hid (∀ n, (bf n).length = 4)) (HF4 : Hid (fac 4 = 1))
  (HFO : Hid (∀ i k, 4 ≤ i → i < 44 → k < 4 → K.getD (4 * i + k) 0 = x8 (K.getD (4 * i - 16 + k) 0) ((bf i).getD k 0)))
  (HFA : Hid (∀ i, 4 ≤ i → fac (i + 1) = if i % 4 = 0 then tw (fac i) else fac i))
  (HBF : Hid (∀ i, bf i = if i % 4 = 0 then [x8 (boxO (K.getD (4 * i - 3) 0)) (fac i), boxO (K.getD (4 * i - 2) 0), boxO (K.getD (4 * i - 1) 0), boxO (K.getD (4 * i - 4) 0)] else [K.getD (4 * i - 4) 0, K.getD (4 * i - 3) 0, K.getD (4 * i - 2) 0, K.getD (4 * i - 1) 0]))
  (hk : key.length = 16) (tb to_ cp : Nat) (w : World) (hT : ∀ x : UInt8, w.cell? ⟨tb, to_ + x.toNat, none⟩ = some (.int .u8 ((boxO x).toNat : Int))) :
  Calls Tryz.prog 160 #[.string (bs key), .slice (some ⟨tb, to_, none⟩) 256 cp] w (RetRow w 9 ((rkL K).map strV)) := by
 have kt := to_bytes key
 have hcp := capOf_ge 5 w key.length
 have HT := Lib.hid hT
 have GT : Hid (∀ (r : UInt8) W, Calls Tryz.prog 167 #[.int .u8 (r.toNat : Int), .int .u8 2] W fun e w' => e = .returned (.int .u8 ((tw r).toNat : Int)) ∧ W = w') := Lib.hid fun r W => by
  have := refTimes_any r 2 W
  rw [gm_two] at this; exact this
 have HK := Lib.hid hk
 clear hT hk
 go_enter Tryz.func160, Tryz.ntmps160
 go_wp2
 obtain ⟨c0, hc0⟩ : ∃ c0, capOf 5 w key.length = c0 := ⟨_, rfl⟩
 rw [hc0] at hcp ⊢
 obtain ⟨W1, hW1⟩ : ∃ W1, (w.alloc (.cells (bcells (key ++ List.replicate (c0 - key.length) 0)) 5 (c0, c0 + 1))).drew = W1 := ⟨_, rfl⟩
 have hx1 : Ext w W1 := by rw [← hW1]; exact ((Ext.refl w).alloc _).drew
 have hcs : (bcells (key ++ List.replicate (c0 - key.length) 0)).size = c0 := by rw [bcells_size, List.length_append, List.length_replicate]; omega
 have hrow0 : RowB W1 w.heap.size (.slice (some ⟨w.heap.size, 0, none⟩) key.length c0) key := by
  refine ⟨w.heap.size, bcells (key ++ List.replicate (c0 - key.length) 0), (c0, c0 + 1), by rw [hcs], Nat.le_refl _, by rw [← hW1]; exact heap_alloc_new w _, .inr (by rw [hcs]), ?_, by omega⟩
  show ((key ++ List.replicate (c0 - key.length) 0).map byteV).take key.length = _
  rw [List.map_append, List.take_left' (by simp)]
 rw [hW1]
 clear hW1 hcs kt hc0 hcp
 go_loopw [5, 6, 7, 8, 9] (fun v r i _ _ wr => ∃ n : Nat, 4 ≤ n ∧ n ≤ 44 ∧ RowB wr w.heap.size v (K.take (4 * n)) ∧ r = .int .u8 ((fac n).toNat : Int) ∧ i = .int .i64 n ∧ Ext w wr) (fun _ _ i _ _ _ => 44 - (intOf i).toNat)
 case atStart => exact ⟨4, by omega, by omega, by rw [HKK.out]; exact hrow0, by rw [HF4.out]; rfl, rfl, hx1⟩
 case round =>
  clear hrow0 hx1
  obtain ⟨n, hn4, hn, hrow, rfl, rfl, hx⟩ := hrel
  by_cases hlt : n < 44
  ·have hln := take_len HKL.out (4 * n) (by omega)
   obtain ⟨g, cs, rfl, hg⟩ := hrow.look
   obtain ⟨L, hL⟩ : ∃ L, (K.take (4 * n)).length = L := ⟨_, rfl⟩
   have hLn : L = 4 * n := by omega
   obtain ⟨a4, ha4⟩ : ∃ a : Nat, 4 * (n : Int) - 4 = (a : Int) := ⟨4 * n - 4, by omega⟩
   have c4 := hrow.cell a4 (by omega)
   rw [take_get HKL.out _ a4 (by omega) (by omega)] at c4
   have hw4 : IntKind.i64.wrap (a4 : Int) = (a4 : Int) := by rw [IntKind.wrap_i64]; omega
   have hl4 : (a4 : Int) < (L : Int) := by omega
   obtain ⟨a3, ha3⟩ : ∃ a : Nat, 4 * (n : Int) - 3 = (a : Int) := ⟨4 * n - 3, by omega⟩
   have c3 := hrow.cell a3 (by omega)
   rw [take_get HKL.out _ a3 (by omega) (by omega)] at c3
   have hw3 : IntKind.i64.wrap (a3 : Int) = (a3 : Int) := by rw [IntKind.wrap_i64]; omega
   have hl3 : (a3 : Int) < (L : Int) := by omega
   obtain ⟨a2, ha2⟩ : ∃ a : Nat, 4 * (n : Int) - 2 = (a : Int) := ⟨4 * n - 2, by omega⟩
   have c2 := hrow.cell a2 (by omega)
   rw [take_get HKL.out _ a2 (by omega) (by omega)] at c2
   have hw2 : IntKind.i64.wrap (a2 : Int) = (a2 : Int) := by rw [IntKind.wrap_i64]; omega
   have hl2 : (a2 : Int) < (L : Int) := by omega
   obtain ⟨a1, ha1⟩ : ∃ a : Nat, 4 * (n : Int) - 1 = (a : Int) := ⟨4 * n - 1, by omega⟩
   have c1 := hrow.cell a1 (by omega)
   rw [take_get HKL.out _ a1 (by omega) (by omega)] at c1
   have hw1 : IntKind.i64.wrap (a1 : Int) = (a1 : Int) := by rw [IntKind.wrap_i64]; omega
   have hl1 : (a1 : Int) < (L : Int) := by omega
   have hw0 : IntKind.i64.wrap (4 * (n : Int)) = 4 * (n : Int) := by rw [IntKind.wrap_i64]; omega
   have hbi : bf n = if n % 4 = 0 then [x8 (boxO (K.getD a3 0)) (fac n), boxO (K.getD a2 0), boxO (K.getD a1 0), boxO (K.getD a4 0)] else [K.getD a4 0, K.getD a3 0, K.getD a2 0, K.getD a1 0] := by
    rw [HBF.out n, show 4 * n - 4 = a4 by omega, show 4 * n - 3 = a3 by omega, show 4 * n - 2 = a2 by omega, show 4 * n - 1 = a1 by omega]
   have hfac := HFA.out n hn4
   rw [hL] at hrow ⊢
   have HROW := Lib.hid hrow
   clear hrow hln hLn hL
   generalize (fac n) = r at *
   generalize K.getD a4 0 = x0 at *
   generalize K.getD a3 0 = x1 at *
   generalize K.getD a2 0 = x2 at *
   generalize K.getD a1 0 = x3 at *
   have q4 : wr.cell? ⟨g, a4, none⟩ = some (.int .u8 (x0.toNat : Int)) := c4
   have q3 : wr.cell? ⟨g, a3, none⟩ = some (.int .u8 (x1.toNat : Int)) := c3
   have q2 : wr.cell? ⟨g, a2, none⟩ = some (.int .u8 (x2.toNat : Int)) := c2
   have q1 : wr.cell? ⟨g, a1, none⟩ = some (.int .u8 (x3.toNat : Int)) := c1
   clear c4 c3 c2 c1
   by_cases hm : n % 4 = 0
   ·rw [if_pos hm] at hbi hfac
    have HBI := Lib.hid hbi; have HFAC := Lib.hid hfac
    clear hbi hfac
    have hmod : (n : Int) % 4 = 0 := by omega
    have hmod2 : (n : Int).tmod 4 = 0 := by rw [Int.tmod_eq_emod_of_nonneg (by omega)]; exact hmod
    go_wp2
    refine Loud.wp_region_weave 25 wr (Loud.sps [.val (.slice (some ⟨g, 0, none⟩) L cs.size), .val (.int .i64 (n : Int)), .val (.int .i64 (4 * (n : Int))), .val (.int .i64 (a4 : Int)), .val (.pointer (some ⟨g, a4, none⟩)), .val (.int .u8 (x0.toNat : Int)), .val (.slice (some ⟨g, 0, none⟩) L cs.size), .val (.int .i64 (n : Int)), .val (.int .i64 (4 * (n : Int))), .val (.int .i64 (a3 : Int)), .val (.pointer (some ⟨g, a3, none⟩)), .val (.int .u8 (x1.toNat : Int)), .val (.slice (some ⟨g, 0, none⟩) L cs.size), .val (.int .i64 (n : Int)), .val (.int .i64 (4 * (n : Int))), .val (.int .i64 (a2 : Int)), .val (.pointer (some ⟨g, a2, none⟩)), .val (.int .u8 (x2.toNat : Int)), .val (.slice (some ⟨g, 0, none⟩) L cs.size), .val (.int .i64 (n : Int)), .val (.int .i64 (4 * (n : Int))), .val (.int .i64 (a1 : Int)), .val (.pointer (some ⟨g, a1, none⟩)), .val (.int .u8 (x3.toNat : Int)), .blk 4 4 (.cells #[.int .u8 (x0.toNat : Int), .int .u8 (x1.toNat : Int), .int .u8 (x2.toNat : Int), .int .u8 (x3.toNat : Int)] 5)]) (by kernel_rfl) (by kernel_rfl) (by show Ext _ _; repeat (first | exact Ext.refl _ | assumption | (with_reducible refine Ext.drew ?_) | (with_reducible refine Ext.drewN ?_ _) | (with_reducible refine Ext.alloc ?_ _) | (refine Ext.trans ?_ (by assumption)))) (Loud.sps_st _) ?wAx1 ?whAx1 ?whSx1 ?whFx1
    case whAx1 => intro u K hK; simp only [List.take_succ_cons, List.take_zero, Loud.puts]; go_simp; exact hK
    case whSx1 =>
     refine ⟨?wsx1_0, ?wsx1_1, ?wsx1_2, ?wsx1_3, ?wsx1_4, ?wsx1_5, ?wsx1_6, ?wsx1_7, ?wsx1_8, ?wsx1_9, ?wsx1_10, ?wsx1_11, ?wsx1_12, ?wsx1_13, ?wsx1_14, ?wsx1_15, ?wsx1_16, ?wsx1_17, ?wsx1_18, ?wsx1_19, ?wsx1_20, ?wsx1_21, ?wsx1_22, ?wsx1_23, ?wsx1_24, trivial⟩
     all_goals (intro u β wq hq h; repeat (obtain ⟨h1, h⟩ := h; first | (replace h1 := h1 rfl; simp only [go_sem] at h1; try (obtain ⟨h1, h1b⟩ := h1)) | (have hno := (h1 : Region.binds _ _ = true → _); clear hno h1)))
     case wsx1_5 =>
      refine Or.inl ⟨rfl, fun K hK => ?_⟩
      have hqc := hq.cell_of q4
      go_simp
      exact hK _ 0 _ (Ext.refl _) rfl
     case wsx1_11 =>
      refine Or.inl ⟨rfl, fun K hK => ?_⟩
      have hqc := hq.cell_of q3
      go_simp
      exact hK _ 0 _ (Ext.refl _) rfl
     case wsx1_17 =>
      refine Or.inl ⟨rfl, fun K hK => ?_⟩
      have hqc := hq.cell_of q2
      go_simp
      exact hK _ 0 _ (Ext.refl _) rfl
     case wsx1_23 =>
      refine Or.inl ⟨rfl, fun K hK => ?_⟩
      have hqc := hq.cell_of q1
      go_simp
      exact hK _ 0 _ (Ext.refl _) rfl
     case wsx1_24 =>
      refine Or.inl ⟨rfl, fun K hK => ?_⟩
      go_simp
      exact hK _ _ _ ((Ext.refl _).alloc _) ⟨rfl, heap_alloc_new _ _⟩
     all_goals (first | refine Or.inl ⟨rfl, fun K hK => ?_⟩ | refine Or.inl ⟨Loud.wanted_of rfl rfl (congrArg some (by assumption)), fun K hK => ?_⟩); go_simp; exact hK _ 0 _ (Ext.refl _) rfl
    intro u β w5 hq h
    have h0 := h 0 (by omega)
    have h1 := h 1 (by omega)
    have h2 := h 2 (by omega)
    have h3 := h 3 (by omega)
    have h4 := h 4 (by omega)
    have h5 := h 5 (by omega)
    have h6 := h 6 (by omega)
    have h7 := h 7 (by omega)
    have h8 := h 8 (by omega)
    have h9 := h 9 (by omega)
    have h10 := h 10 (by omega)
    have h11 := h 11 (by omega)
    have h12 := h 12 (by omega)
    have h13 := h 13 (by omega)
    have h14 := h 14 (by omega)
    have h15 := h 15 (by omega)
    have h16 := h 16 (by omega)
    have h17 := h 17 (by omega)
    have h18 := h 18 (by omega)
    have h19 := h 19 (by omega)
    have h20 := h 20 (by omega)
    have h21 := h 21 (by omega)
    have h22 := h 22 (by omega)
    have h23 := h 23 (by omega)
    have h24 := h 24 (by omega)
    clear h
    simp only [go_sem] at h0 h1 h2 h3 h4 h5 h6 h7 h8 h9 h10 h11 h12 h13 h14 h15 h16 h17 h18 h19 h20 h21 h22 h23 h24
    simp only [List.drop_succ_cons, List.drop_zero]
    obtain ⟨hv24, hb24⟩ := h24
    rw [hv24]
    obtain ⟨gb1, hgb1⟩ : ∃ x, x = β 24 := ⟨_, rfl⟩
    rw [← hgb1] at hb24
    rw [← hgb1]
    have d0 := cell_blk (i := 0) hb24 rfl
    have d1 := cell_blk (i := 1) hb24 rfl
    have d2 := cell_blk (i := 2) hb24 rfl
    have d3 := cell_blk (i := 3) hb24 rfl
    have hxw := hx.trans hq
    have HXW := Lib.hid hxw
    have t0 := hxw.cell_of (HT.out x0)
    have hi0 : (x0.toNat : Int) < 256 := by have := x0.toNat_lt; omega
    have t1 := hxw.cell_of (HT.out x1)
    have hi1 : (x1.toNat : Int) < 256 := by have := x1.toNat_lt; omega
    have t2 := hxw.cell_of (HT.out x2)
    have hi2 : (x2.toNat : Int) < 256 := by have := x2.toNat_lt; omega
    have t3 := hxw.cell_of (HT.out x3)
    have hi3 : (x3.toNat : Int) < 256 := by have := x3.toNat_lt; omega
    have hxr := bxor8n (x := ((boxO x1).toNat : Int)) (y := (r.toNat : Int)) (boxO x1).toNat r.toNat rfl rfl (boxO x1).toNat_lt r.toNat_lt
    rw [← x8_toNat] at hxr
    have HR5 := Lib.hid (HROW.out.ext hq)
    clear hxw hgb1 hb24 hv24 h0 h1 h2 h3 h5 h6 h7 h8 h9 h10 h11 h12 h13 h14 h15 h16 h17 h18 h19 h20 h21 h22 h23 hq
    generalize boxO x0 = y0 at *
    generalize boxO x1 = y1 at *
    generalize boxO x2 = y2 at *
    generalize boxO x3 = y3 at *
    generalize x8 y1 r = z1 at *
    go_wp2
    refine Loud.wp_region_weave 27 w5 (Loud.sps [.val (.slice (some ⟨tb, to_, none⟩) 256 cp), .val (.slice (some ⟨gb1, 0, none⟩) 4 4), .val (.pointer (some ⟨gb1, 1, none⟩)), .val (.int .u8 (x1.toNat : Int)), .val (.pointer (some ⟨tb, to_ + x1.toNat, none⟩)), .val (.int .u8 (y1.toNat : Int)), .val (.int .u8 (r.toNat : Int)), .val (.int .u8 (z1.toNat : Int)), .val (.slice (some ⟨tb, to_, none⟩) 256 cp), .val (.slice (some ⟨gb1, 0, none⟩) 4 4), .val (.pointer (some ⟨gb1, 2, none⟩)), .val (.int .u8 (x2.toNat : Int)), .val (.pointer (some ⟨tb, to_ + x2.toNat, none⟩)), .val (.int .u8 (y2.toNat : Int)), .val (.slice (some ⟨tb, to_, none⟩) 256 cp), .val (.slice (some ⟨gb1, 0, none⟩) 4 4), .val (.pointer (some ⟨gb1, 3, none⟩)), .val (.int .u8 (x3.toNat : Int)), .val (.pointer (some ⟨tb, to_ + x3.toNat, none⟩)), .val (.int .u8 (y3.toNat : Int)), .val (.slice (some ⟨tb, to_, none⟩) 256 cp), .val (.slice (some ⟨gb1, 0, none⟩) 4 4), .val (.pointer (some ⟨gb1, 0, none⟩)), .val (.int .u8 (x0.toNat : Int)), .val (.pointer (some ⟨tb, to_ + x0.toNat, none⟩)), .val (.int .u8 (y0.toNat : Int)), .blk 4 4 (.cells #[.int .u8 (z1.toNat : Int), .int .u8 (y2.toNat : Int), .int .u8 (y3.toNat : Int), .int .u8 (y0.toNat : Int)] 5)]) (by kernel_rfl) (by kernel_rfl) (by show Ext _ _; repeat (first | exact Ext.refl _ | assumption | (with_reducible refine Ext.drew ?_) | (with_reducible refine Ext.drewN ?_ _) | (with_reducible refine Ext.alloc ?_ _) | (refine Ext.trans ?_ (by assumption)))) (Loud.sps_st _) ?wAx2 ?whAx2 ?whSx2 ?whFx2
    case whAx2 => intro u K hK; simp only [List.take_succ_cons, List.take_zero, Loud.puts]; go_simp; exact hK
    case whSx2 =>
     refine ⟨?wsx2_0, ?wsx2_1, ?wsx2_2, ?wsx2_3, ?wsx2_4, ?wsx2_5, ?wsx2_6, ?wsx2_7, ?wsx2_8, ?wsx2_9, ?wsx2_10, ?wsx2_11, ?wsx2_12, ?wsx2_13, ?wsx2_14, ?wsx2_15, ?wsx2_16, ?wsx2_17, ?wsx2_18, ?wsx2_19, ?wsx2_20, ?wsx2_21, ?wsx2_22, ?wsx2_23, ?wsx2_24, ?wsx2_25, ?wsx2_26, trivial⟩
     all_goals (intro u β wq hq h; repeat (obtain ⟨h1, h⟩ := h; first | (replace h1 := h1 rfl; simp only [go_sem] at h1; try (obtain ⟨h1, h1b⟩ := h1)) | (have hno := (h1 : Region.binds _ _ = true → _); clear hno h1)))
     case wsx2_3 =>
      refine Or.inl ⟨rfl, fun K hK => ?_⟩
      have hqc := hq.cell_of d1
      go_simp
      exact hK _ 0 _ (Ext.refl _) rfl
     case wsx2_5 =>
      refine Or.inl ⟨rfl, fun K hK => ?_⟩
      have hqc := hq.cell_of t1
      go_simp
      exact hK _ 0 _ (Ext.refl _) rfl
     case wsx2_11 =>
      refine Or.inl ⟨rfl, fun K hK => ?_⟩
      have hqc := hq.cell_of d2
      go_simp
      exact hK _ 0 _ (Ext.refl _) rfl
     case wsx2_13 =>
      refine Or.inl ⟨rfl, fun K hK => ?_⟩
      have hqc := hq.cell_of t2
      go_simp
      exact hK _ 0 _ (Ext.refl _) rfl
     case wsx2_17 =>
      refine Or.inl ⟨rfl, fun K hK => ?_⟩
      have hqc := hq.cell_of d3
      go_simp
      exact hK _ 0 _ (Ext.refl _) rfl
     case wsx2_19 =>
      refine Or.inl ⟨rfl, fun K hK => ?_⟩
      have hqc := hq.cell_of t3
      go_simp
      exact hK _ 0 _ (Ext.refl _) rfl
     case wsx2_23 =>
      refine Or.inl ⟨rfl, fun K hK => ?_⟩
      have hqc := hq.cell_of d0
      go_simp
      exact hK _ 0 _ (Ext.refl _) rfl
     case wsx2_25 =>
      refine Or.inl ⟨rfl, fun K hK => ?_⟩
      have hqc := hq.cell_of t0
      go_simp
      exact hK _ 0 _ (Ext.refl _) rfl
     case wsx2_26 =>
      refine Or.inl ⟨rfl, fun K hK => ?_⟩
      go_simp
      exact hK _ _ _ ((Ext.refl _).alloc _) ⟨rfl, heap_alloc_new _ _⟩
     all_goals (first | refine Or.inl ⟨rfl, fun K hK => ?_⟩ | refine Or.inl ⟨Loud.wanted_of rfl rfl (congrArg some (by assumption)), fun K hK => ?_⟩); go_simp; exact hK _ 0 _ (Ext.refl _) rfl
    intro u β w7 hq h
    have h0 := h 0 (by omega)
    have h1 := h 1 (by omega)
    have h2 := h 2 (by omega)
    have h3 := h 3 (by omega)
    have h4 := h 4 (by omega)
    have h5 := h 5 (by omega)
    have h6 := h 6 (by omega)
    have h7 := h 7 (by omega)
    have h8 := h 8 (by omega)
    have h9 := h 9 (by omega)
    have h10 := h 10 (by omega)
    have h11 := h 11 (by omega)
    have h12 := h 12 (by omega)
    have h13 := h 13 (by omega)
    have h14 := h 14 (by omega)
    have h15 := h 15 (by omega)
    have h16 := h 16 (by omega)
    have h17 := h 17 (by omega)
    have h18 := h 18 (by omega)
    have h19 := h 19 (by omega)
    have h20 := h 20 (by omega)
    have h21 := h 21 (by omega)
    have h22 := h 22 (by omega)
    have h23 := h 23 (by omega)
    have h24 := h 24 (by omega)
    have h25 := h 25 (by omega)
    have h26 := h 26 (by omega)
    clear h
    simp only [go_sem] at h0 h1 h2 h3 h4 h5 h6 h7 h8 h9 h10 h11 h12 h13 h14 h15 h16 h17 h18 h19 h20 h21 h22 h23 h24 h25 h26
    simp only [List.drop_succ_cons, List.drop_zero]
    obtain ⟨hv26, hb26⟩ := h26
    rw [hv26]
    have hR7 := HR5.out.ext hq
    have hx7 := HXW.out.trans hq
    go_wp2_with (go_at_call 167; with_reducible refine (GT.out r _).mono ?_; rintro e w' ⟨rfl, rfl⟩)
    obtain ⟨wo, hwo⟩ : ∃ x, x = w7 := ⟨_, rfl⟩
    have HGB : Hid (wo.heap[(β 26)]? = some (.cells (bcells (bf n)) 5)) := Lib.hid (by rw [hwo]; exact (by rw [HBI.out]; exact hb26))
    have HRO : Hid (RowB wo w.heap.size (.slice (some ⟨g, 0, none⟩) L cs.size) (K.take (4 * n))) := Lib.hid (by rw [hwo]; exact hR7)
    have HXO : Hid (Ext w wo) := Lib.hid (by rw [hwo]; exact hx7)
    rw [← hwo]
    clear hb26 hR7 hx7 hq h0 h1 h2 h3 h4 h5 h6 h7 h8 h9 h10 h11 h12 h13 h14 h15 h16 h17 h18 h19 h20 h21 h22 h23 h24 h25 hv26 hwo
    obtain ⟨gb, hgb⟩ : ∃ x, x = (β 26) := ⟨_, rfl⟩
    rw [← hgb] at HGB
    rw [← hgb]
    clear hgb
    go_loopw [5, 9] (fun v k wr => ∃ j : Nat, j ≤ 4 ∧ RowB wr w.heap.size v (K.take (4 * n + j)) ∧ k = .int .i64 j ∧ wr.heap[gb]? = some (.cells (bcells (bf n)) 5) ∧ (∀ b, v.ownBlock = some b → b ≠ gb) ∧ Ext w wr) (fun _ k _ => 4 - (intOf k).toNat)
    case atStart => exact ⟨0, by omega, HRO.out, rfl, HGB.out, rowB_ne HRO.out (by rw [take_len HKL.out (4 * n) (by omega)]; omega) HGB.out ((HBL.out n)), HXO.out⟩
    case round =>
     clear HGB HRO HXO
     obtain ⟨j, hj, hrow, rfl, hgb, hne, hx⟩ := hrel
     by_cases hjl : j < 4
     ·have hln := take_len HKL.out (4 * n + j) (by omega)
      obtain ⟨g2, cs2, rfl, hg2⟩ := hrow.look
      obtain ⟨M, hM⟩ : ∃ M, (K.take (4 * n + j)).length = M := ⟨_, rfl⟩
      have hML : M = 4 * n + j := by omega
      obtain ⟨ix, hix⟩ : ∃ ix : Nat, 4 * (n : Int) - 16 + (j : Int) = (ix : Int) := ⟨4 * n - 16 + j, by omega⟩
      obtain ⟨a16, ha16⟩ : ∃ a : Nat, 4 * (n : Int) - 16 = (a : Int) := ⟨4 * n - 16, by omega⟩
      have hix2 : (a16 : Int) + (j : Int) = (ix : Int) := by omega
      have hbl : (bf n).length = 4 := (HBL.out n)
      have q1 := hrow.cell ix (by omega)
      have q2 := cell_blk (i := j) hgb (bcells_at (bf n) j (by omega))
      rw [take_get HKL.out _ ix (by omega) (by omega)] at q1
      rw [show (bf n)[j]'(by omega) = (bf n).getD j 0 by simp [List.getD, show j < (bf n).length by omega]] at q2
      have hfore := HFO.out n j hn4 hlt hjl
      rw [show 4 * n - 16 + j = ix by omega] at hfore
      have HSN := take_next HKL.out (4 * n + j) (by omega)
      rw [hfore] at HSN
      rw [hM] at hrow ⊢
      have HRW := Lib.hid hrow
      have HGB := Lib.hid hgb
      have HS := Lib.hid HSN
      have hMb : M ≤ 180 := by omega
      have hixM : (ix : Int) < (M : Int) := by omega
      have HM := Lib.hid hM
      clear hrow hgb HSN hfore hln hML hM hix
      generalize K.getD ix 0 = x at *
      generalize (bf n).getD j 0 = y at *
      have hxr := bxor8n (x := (x.toNat : Int)) (y := (y.toNat : Int)) x.toNat y.toNat rfl rfl x.toNat_lt y.toNat_lt
      rw [← x8_toNat] at hxr
      have hj4 : (j : Int) < 4 := by omega
      have hw1 : IntKind.i64.wrap (4 * (n : Int)) = 4 * (n : Int) := by rw [IntKind.wrap_i64]; omega
      have hw2 : IntKind.i64.wrap (a16 : Int) = (a16 : Int) := by rw [IntKind.wrap_i64]; omega
      have hw3 : IntKind.i64.wrap (ix : Int) = (ix : Int) := by rw [IntKind.wrap_i64]; omega
      have hq1 : wr.cell? ⟨g2, ix, none⟩ = some (.int .u8 (x.toNat : Int)) := q1
      go_wp2
      refine Loud.wp_region_weave 15 wr (Loud.sps [.val (.slice (some ⟨g2, 0, none⟩) M cs2.size), .val (.slice (some ⟨g2, 0, none⟩) M cs2.size), .val (.int .i64 (n : Int)), .val (.int .i64 (4 * (n : Int))), .val (.int .i64 (a16 : Int)), .val (.int .i64 (j : Int)), .val (.int .i64 (ix : Int)), .val (.pointer (some ⟨g2, ix, none⟩)), .val (.int .u8 (x.toNat : Int)), .val (.slice (some ⟨gb, 0, none⟩) 4 4), .val (.int .i64 (j : Int)), .val (.pointer (some ⟨gb, j, none⟩)), .val (.int .u8 (y.toNat : Int)), .val (.int .u8 ((x8 x y).toNat : Int)), .blk 1 1 (.cells #[.int .u8 ((x8 x y).toNat : Int)] 5)]) (by kernel_rfl) (by kernel_rfl) (by show Ext _ _; repeat (first | exact Ext.refl _ | assumption | (with_reducible refine Ext.drew ?_) | (with_reducible refine Ext.drewN ?_ _) | (with_reducible refine Ext.alloc ?_ _) | (refine Ext.trans ?_ (by assumption)))) (Loud.sps_st _) ?wAx3 ?whAx3 ?whSx3 ?whFx3
      case whAx3 => intro u K hK; simp only [List.take_succ_cons, List.take_zero, Loud.puts]; go_simp; exact hK
      case whSx3 =>
       refine ⟨?wsx3_0, ?wsx3_1, ?wsx3_2, ?wsx3_3, ?wsx3_4, ?wsx3_5, ?wsx3_6, ?wsx3_7, ?wsx3_8, ?wsx3_9, ?wsx3_10, ?wsx3_11, ?wsx3_12, ?wsx3_13, ?wsx3_14, trivial⟩
       all_goals (intro u β wq hq h; repeat (obtain ⟨h1, h⟩ := h; first | (replace h1 := h1 rfl; simp only [go_sem] at h1; try (obtain ⟨h1, h1b⟩ := h1)) | (have hno := (h1 : Region.binds _ _ = true → _); clear hno h1)))
       case wsx3_8 =>
        refine Or.inl ⟨rfl, fun K hK => ?_⟩
        have hqc := hq.cell_of hq1
        go_simp
        exact hK _ 0 _ (Ext.refl _) rfl
       case wsx3_12 =>
        refine Or.inl ⟨rfl, fun K hK => ?_⟩
        have hqc := hq.cell_of q2
        go_simp
        exact hK _ 0 _ (Ext.refl _) rfl
       case wsx3_14 =>
        refine Or.inl ⟨rfl, fun K hK => ?_⟩
        go_simp
        exact hK _ _ _ ((Ext.refl _).alloc _) ⟨rfl, heap_alloc_new _ _⟩
       all_goals (first | refine Or.inl ⟨rfl, fun K hK => ?_⟩ | refine Or.inl ⟨Loud.wanted_of rfl rfl (congrArg some (by assumption)), fun K hK => ?_⟩); go_simp; exact hK _ 0 _ (Ext.refl _) rfl
      intro u β w5 hq h
      have h0 := h 0 (by omega)
      have h1 := h 1 (by omega)
      have h2 := h 2 (by omega)
      have h3 := h 3 (by omega)
      have h4 := h 4 (by omega)
      have h5 := h 5 (by omega)
      have h6 := h 6 (by omega)
      have h7 := h 7 (by omega)
      have h8 := h 8 (by omega)
      have h9 := h 9 (by omega)
      have h10 := h 10 (by omega)
      have h11 := h 11 (by omega)
      have h12 := h 12 (by omega)
      have h13 := h 13 (by omega)
      have h14 := h 14 (by omega)
      clear h
      simp only [go_sem] at h0 h1 h2 h3 h4 h5 h6 h7 h8 h9 h10 h11 h12 h13 h14
      simp only [List.drop_succ_cons, List.drop_zero]
      obtain ⟨hv14, hb14⟩ := h14
      rw [h0, hv14]
      have hrw5 := HRW.out.ext hq
      have hgb5 := hq.keep HGB.out
      have hgl5 := blk_lt hgb5
      have hgl : w.heap.size ≤ w5.heap.size := (hx.trans hq).size
      go_wp2_with (at_builtin; refine wpl_appB w.heap.size hgl (.slice (some ⟨g2, 0, none⟩) M cs2.size) (K.take (4 * n + j)) (x8 x y) rfl (Operand.tmp 79) (Operand.tmp 93) rfl rfl hrw5 (β 14) 1 rfl hb14 (by rw [HM.out]; omega) ?_; intro v' w6 hrow6 hbel6 hkb6 hown6)
      go_roundw
      case measure => simp [intOf]; omega
      case rel =>
       refine ⟨j + 1, by omega, by rw [← Nat.add_assoc, HS.out]; exact hrow6, by go_num, ?_, ?_, (hx.trans hq).trans_below hbel6⟩
       ·exact (hkb6 gb hgl5 (fun e => hne gb e rfl)).trans hgb5
       ·intro b hb
        rcases hown6 b hb with h | h
        ·exact hne b h
        ·omega
     ·obtain rfl : j = 4 := by omega
      have HRW := Lib.hid hrow
      clear hrow hgb hne
      go_wp2
      go_roundw
      case measure => simp [intOf]; omega
      case rel =>
       refine ⟨n + 1, by omega, by omega, by rw [show 4 * (n + 1) = 4 * n + 4 by omega]; exact HRW.out, by rw [HFAC.out], by go_num, hx⟩
   ·rw [if_neg hm] at hbi hfac
    have HBI := Lib.hid hbi; have HFAC := Lib.hid hfac
    clear hbi hfac
    obtain ⟨e, he⟩ : ∃ e : Nat, (n : Int) % 4 = (e : Int) := ⟨n % 4, by omega⟩
    have he2 : (n : Int).tmod 4 = (e : Int) := by rw [Int.tmod_eq_emod_of_nonneg (by omega)]; exact he
    have he0 : ((e : Int) == 0) = false := by simp; omega
    go_wp2
    refine Loud.wp_region_weave 25 wr (Loud.sps [.val (.slice (some ⟨g, 0, none⟩) L cs.size), .val (.int .i64 (n : Int)), .val (.int .i64 (4 * (n : Int))), .val (.int .i64 (a4 : Int)), .val (.pointer (some ⟨g, a4, none⟩)), .val (.int .u8 (x0.toNat : Int)), .val (.slice (some ⟨g, 0, none⟩) L cs.size), .val (.int .i64 (n : Int)), .val (.int .i64 (4 * (n : Int))), .val (.int .i64 (a3 : Int)), .val (.pointer (some ⟨g, a3, none⟩)), .val (.int .u8 (x1.toNat : Int)), .val (.slice (some ⟨g, 0, none⟩) L cs.size), .val (.int .i64 (n : Int)), .val (.int .i64 (4 * (n : Int))), .val (.int .i64 (a2 : Int)), .val (.pointer (some ⟨g, a2, none⟩)), .val (.int .u8 (x2.toNat : Int)), .val (.slice (some ⟨g, 0, none⟩) L cs.size), .val (.int .i64 (n : Int)), .val (.int .i64 (4 * (n : Int))), .val (.int .i64 (a1 : Int)), .val (.pointer (some ⟨g, a1, none⟩)), .val (.int .u8 (x3.toNat : Int)), .blk 4 4 (.cells #[.int .u8 (x0.toNat : Int), .int .u8 (x1.toNat : Int), .int .u8 (x2.toNat : Int), .int .u8 (x3.toNat : Int)] 5)]) (by kernel_rfl) (by kernel_rfl) (by show Ext _ _; repeat (first | exact Ext.refl _ | assumption | (with_reducible refine Ext.drew ?_) | (with_reducible refine Ext.drewN ?_ _) | (with_reducible refine Ext.alloc ?_ _) | (refine Ext.trans ?_ (by assumption)))) (Loud.sps_st _) ?wAx4 ?whAx4 ?whSx4 ?whFx4
    case whAx4 => intro u K hK; simp only [List.take_succ_cons, List.take_zero, Loud.puts]; go_simp; exact hK
    case whSx4 =>
     refine ⟨?wsx4_0, ?wsx4_1, ?wsx4_2, ?wsx4_3, ?wsx4_4, ?wsx4_5, ?wsx4_6, ?wsx4_7, ?wsx4_8, ?wsx4_9, ?wsx4_10, ?wsx4_11, ?wsx4_12, ?wsx4_13, ?wsx4_14, ?wsx4_15, ?wsx4_16, ?wsx4_17, ?wsx4_18, ?wsx4_19, ?wsx4_20, ?wsx4_21, ?wsx4_22, ?wsx4_23, ?wsx4_24, trivial⟩
     all_goals (intro u β wq hq h; repeat (obtain ⟨h1, h⟩ := h; first | (replace h1 := h1 rfl; simp only [go_sem] at h1; try (obtain ⟨h1, h1b⟩ := h1)) | (have hno := (h1 : Region.binds _ _ = true → _); clear hno h1)))
     case wsx4_5 =>
      refine Or.inl ⟨rfl, fun K hK => ?_⟩
      have hqc := hq.cell_of q4
      go_simp
      exact hK _ 0 _ (Ext.refl _) rfl
     case wsx4_11 =>
      refine Or.inl ⟨rfl, fun K hK => ?_⟩
      have hqc := hq.cell_of q3
      go_simp
      exact hK _ 0 _ (Ext.refl _) rfl
     case wsx4_17 =>
      refine Or.inl ⟨rfl, fun K hK => ?_⟩
      have hqc := hq.cell_of q2
      go_simp
      exact hK _ 0 _ (Ext.refl _) rfl
     case wsx4_23 =>
      refine Or.inl ⟨rfl, fun K hK => ?_⟩
      have hqc := hq.cell_of q1
      go_simp
      exact hK _ 0 _ (Ext.refl _) rfl
     case wsx4_24 =>
      refine Or.inl ⟨rfl, fun K hK => ?_⟩
      go_simp
      exact hK _ _ _ ((Ext.refl _).alloc _) ⟨rfl, heap_alloc_new _ _⟩
     all_goals (first | refine Or.inl ⟨rfl, fun K hK => ?_⟩ | refine Or.inl ⟨Loud.wanted_of rfl rfl (congrArg some (by assumption)), fun K hK => ?_⟩); go_simp; exact hK _ 0 _ (Ext.refl _) rfl
    intro u β w5 hq h
    have h0 := h 0 (by omega)
    have h1 := h 1 (by omega)
    have h2 := h 2 (by omega)
    have h3 := h 3 (by omega)
    have h4 := h 4 (by omega)
    have h5 := h 5 (by omega)
    have h6 := h 6 (by omega)
    have h7 := h 7 (by omega)
    have h8 := h 8 (by omega)
    have h9 := h 9 (by omega)
    have h10 := h 10 (by omega)
    have h11 := h 11 (by omega)
    have h12 := h 12 (by omega)
    have h13 := h 13 (by omega)
    have h14 := h 14 (by omega)
    have h15 := h 15 (by omega)
    have h16 := h 16 (by omega)
    have h17 := h 17 (by omega)
    have h18 := h 18 (by omega)
    have h19 := h 19 (by omega)
    have h20 := h 20 (by omega)
    have h21 := h 21 (by omega)
    have h22 := h 22 (by omega)
    have h23 := h 23 (by omega)
    have h24 := h 24 (by omega)
    clear h
    simp only [go_sem] at h0 h1 h2 h3 h4 h5 h6 h7 h8 h9 h10 h11 h12 h13 h14 h15 h16 h17 h18 h19 h20 h21 h22 h23 h24
    simp only [List.drop_succ_cons, List.drop_zero]
    obtain ⟨hv24, hb24⟩ := h24
    rw [hv24]
    go_wp2
    obtain ⟨wo, hwo⟩ : ∃ x, x = w5 := ⟨_, rfl⟩
    have HGB : Hid (wo.heap[(β 24)]? = some (.cells (bcells (bf n)) 5)) := Lib.hid (by rw [hwo]; exact (by rw [HBI.out]; exact hb24))
    have HRO : Hid (RowB wo w.heap.size (.slice (some ⟨g, 0, none⟩) L cs.size) (K.take (4 * n))) := Lib.hid (by rw [hwo]; exact (HROW.out.ext hq))
    have HXO : Hid (Ext w wo) := Lib.hid (by rw [hwo]; exact (hx.trans hq))
    rw [← hwo]
    clear hb24 hq h0 h1 h2 h3 h4 h5 h6 h7 h8 h9 h10 h11 h12 h13 h14 h15 h16 h17 h18 h19 h20 h21 h22 h23 hv24 hwo
    obtain ⟨gb, hgb⟩ : ∃ x, x = (β 24) := ⟨_, rfl⟩
    rw [← hgb] at HGB
    rw [← hgb]
    clear hgb
    go_loopw [5, 9] (fun v k wr => ∃ j : Nat, j ≤ 4 ∧ RowB wr w.heap.size v (K.take (4 * n + j)) ∧ k = .int .i64 j ∧ wr.heap[gb]? = some (.cells (bcells (bf n)) 5) ∧ (∀ b, v.ownBlock = some b → b ≠ gb) ∧ Ext w wr) (fun _ k _ => 4 - (intOf k).toNat)
    case atStart => exact ⟨0, by omega, HRO.out, rfl, HGB.out, rowB_ne HRO.out (by rw [take_len HKL.out (4 * n) (by omega)]; omega) HGB.out ((HBL.out n)), HXO.out⟩
    case round =>
     clear HGB HRO HXO
     obtain ⟨j, hj, hrow, rfl, hgb, hne, hx⟩ := hrel
     by_cases hjl : j < 4
     ·have hln := take_len HKL.out (4 * n + j) (by omega)
      obtain ⟨g2, cs2, rfl, hg2⟩ := hrow.look
      obtain ⟨M, hM⟩ : ∃ M, (K.take (4 * n + j)).length = M := ⟨_, rfl⟩
      have hML : M = 4 * n + j := by omega
      obtain ⟨ix, hix⟩ : ∃ ix : Nat, 4 * (n : Int) - 16 + (j : Int) = (ix : Int) := ⟨4 * n - 16 + j, by omega⟩
      obtain ⟨a16, ha16⟩ : ∃ a : Nat, 4 * (n : Int) - 16 = (a : Int) := ⟨4 * n - 16, by omega⟩
      have hix2 : (a16 : Int) + (j : Int) = (ix : Int) := by omega
      have hbl : (bf n).length = 4 := (HBL.out n)
      have q1 := hrow.cell ix (by omega)
      have q2 := cell_blk (i := j) hgb (bcells_at (bf n) j (by omega))
      rw [take_get HKL.out _ ix (by omega) (by omega)] at q1
      rw [show (bf n)[j]'(by omega) = (bf n).getD j 0 by simp [List.getD, show j < (bf n).length by omega]] at q2
      have hfore := HFO.out n j hn4 hlt hjl
      rw [show 4 * n - 16 + j = ix by omega] at hfore
      have HSN := take_next HKL.out (4 * n + j) (by omega)
      rw [hfore] at HSN
      rw [hM] at hrow ⊢
      have HRW := Lib.hid hrow
      have HGB := Lib.hid hgb
      have HS := Lib.hid HSN
      have hMb : M ≤ 180 := by omega
      have hixM : (ix : Int) < (M : Int) := by omega
      have HM := Lib.hid hM
      clear hrow hgb HSN hfore hln hML hM hix
      generalize K.getD ix 0 = x at *
      generalize (bf n).getD j 0 = y at *
      have hxr := bxor8n (x := (x.toNat : Int)) (y := (y.toNat : Int)) x.toNat y.toNat rfl rfl x.toNat_lt y.toNat_lt
      rw [← x8_toNat] at hxr
      have hj4 : (j : Int) < 4 := by omega
      have hw1 : IntKind.i64.wrap (4 * (n : Int)) = 4 * (n : Int) := by rw [IntKind.wrap_i64]; omega
      have hw2 : IntKind.i64.wrap (a16 : Int) = (a16 : Int) := by rw [IntKind.wrap_i64]; omega
      have hw3 : IntKind.i64.wrap (ix : Int) = (ix : Int) := by rw [IntKind.wrap_i64]; omega
      have hq1 : wr.cell? ⟨g2, ix, none⟩ = some (.int .u8 (x.toNat : Int)) := q1
      go_wp2
      refine Loud.wp_region_weave 15 wr (Loud.sps [.val (.slice (some ⟨g2, 0, none⟩) M cs2.size), .val (.slice (some ⟨g2, 0, none⟩) M cs2.size), .val (.int .i64 (n : Int)), .val (.int .i64 (4 * (n : Int))), .val (.int .i64 (a16 : Int)), .val (.int .i64 (j : Int)), .val (.int .i64 (ix : Int)), .val (.pointer (some ⟨g2, ix, none⟩)), .val (.int .u8 (x.toNat : Int)), .val (.slice (some ⟨gb, 0, none⟩) 4 4), .val (.int .i64 (j : Int)), .val (.pointer (some ⟨gb, j, none⟩)), .val (.int .u8 (y.toNat : Int)), .val (.int .u8 ((x8 x y).toNat : Int)), .blk 1 1 (.cells #[.int .u8 ((x8 x y).toNat : Int)] 5)]) (by kernel_rfl) (by kernel_rfl) (by show Ext _ _; repeat (first | exact Ext.refl _ | assumption | (with_reducible refine Ext.drew ?_) | (with_reducible refine Ext.drewN ?_ _) | (with_reducible refine Ext.alloc ?_ _) | (refine Ext.trans ?_ (by assumption)))) (Loud.sps_st _) ?wAx5 ?whAx5 ?whSx5 ?whFx5
      case whAx5 => intro u K hK; simp only [List.take_succ_cons, List.take_zero, Loud.puts]; go_simp; exact hK
      case whSx5 =>
       refine ⟨?wsx5_0, ?wsx5_1, ?wsx5_2, ?wsx5_3, ?wsx5_4, ?wsx5_5, ?wsx5_6, ?wsx5_7, ?wsx5_8, ?wsx5_9, ?wsx5_10, ?wsx5_11, ?wsx5_12, ?wsx5_13, ?wsx5_14, trivial⟩
       all_goals (intro u β wq hq h; repeat (obtain ⟨h1, h⟩ := h; first | (replace h1 := h1 rfl; simp only [go_sem] at h1; try (obtain ⟨h1, h1b⟩ := h1)) | (have hno := (h1 : Region.binds _ _ = true → _); clear hno h1)))
       case wsx5_8 =>
        refine Or.inl ⟨rfl, fun K hK => ?_⟩
        have hqc := hq.cell_of hq1
        go_simp
        exact hK _ 0 _ (Ext.refl _) rfl
       case wsx5_12 =>
        refine Or.inl ⟨rfl, fun K hK => ?_⟩
        have hqc := hq.cell_of q2
        go_simp
        exact hK _ 0 _ (Ext.refl _) rfl
       case wsx5_14 =>
        refine Or.inl ⟨rfl, fun K hK => ?_⟩
        go_simp
        exact hK _ _ _ ((Ext.refl _).alloc _) ⟨rfl, heap_alloc_new _ _⟩
       all_goals (first | refine Or.inl ⟨rfl, fun K hK => ?_⟩ | refine Or.inl ⟨Loud.wanted_of rfl rfl (congrArg some (by assumption)), fun K hK => ?_⟩); go_simp; exact hK _ 0 _ (Ext.refl _) rfl
      intro u β w5 hq h
      have h0 := h 0 (by omega)
      have h1 := h 1 (by omega)
      have h2 := h 2 (by omega)
      have h3 := h 3 (by omega)
      have h4 := h 4 (by omega)
      have h5 := h 5 (by omega)
      have h6 := h 6 (by omega)
      have h7 := h 7 (by omega)
      have h8 := h 8 (by omega)
      have h9 := h 9 (by omega)
      have h10 := h 10 (by omega)
      have h11 := h 11 (by omega)
      have h12 := h 12 (by omega)
      have h13 := h 13 (by omega)
      have h14 := h 14 (by omega)
      clear h
      simp only [go_sem] at h0 h1 h2 h3 h4 h5 h6 h7 h8 h9 h10 h11 h12 h13 h14
      simp only [List.drop_succ_cons, List.drop_zero]
      obtain ⟨hv14, hb14⟩ := h14
      rw [h0, hv14]
      have hrw5 := HRW.out.ext hq
      have hgb5 := hq.keep HGB.out
      have hgl5 := blk_lt hgb5
      have hgl : w.heap.size ≤ w5.heap.size := (hx.trans hq).size
      go_wp2_with (at_builtin; refine wpl_appB w.heap.size hgl (.slice (some ⟨g2, 0, none⟩) M cs2.size) (K.take (4 * n + j)) (x8 x y) rfl (Operand.tmp 79) (Operand.tmp 93) rfl rfl hrw5 (β 14) 1 rfl hb14 (by rw [HM.out]; omega) ?_; intro v' w6 hrow6 hbel6 hkb6 hown6)
      go_roundw
      case measure => simp [intOf]; omega
      case rel =>
       refine ⟨j + 1, by omega, by rw [← Nat.add_assoc, HS.out]; exact hrow6, by go_num, ?_, ?_, (hx.trans hq).trans_below hbel6⟩
       ·exact (hkb6 gb hgl5 (fun e => hne gb e rfl)).trans hgb5
       ·intro b hb
        rcases hown6 b hb with h | h
        ·exact hne b h
        ·omega
     ·obtain rfl : j = 4 := by omega
      have HRW := Lib.hid hrow
      clear hrow hgb hne
      go_wp2
      go_roundw
      case measure => simp [intOf]; omega
      case rel =>
       refine ⟨n + 1, by omega, by omega, by rw [show 4 * (n + 1) = 4 * n + 4 by omega]; exact HRW.out, by rw [HFAC.out], by go_num, hx⟩
  ·obtain rfl : n = 44 := by omega
   rw [show K.take (4 * 44) = K from List.take_of_length_le (by rw [HKL.out]; omega)] at hrow
   obtain ⟨g, cs, rfl, hg⟩ := hrow.look
   have HROW := Lib.hid hrow
   have hcsz : 176 ≤ cs.size := by
    have := hrow.fits
    rw [HKL.out] at this
    exact this
   rw [HKL.out] at HROW ⊢
   clear hrow
   go_wp2
   obtain ⟨wo, hwo⟩ : ∃ x, x = wr := ⟨_, rfl⟩
   subst hwo
   go_loopw [10, 11] (fun o i wr => ∃ k : Nat, k ≤ 11 ∧ i = .int .i64 k ∧ Row wr w.heap.size 9 o (((rkL K).take k).map strV) ∧ RowB wr w.heap.size (.slice (some ⟨g, 0, none⟩) 176 cs.size) K ∧ Ext w wr) (fun _ i _ => 11 - (intOf i).toNat)
   case atStart => exact ⟨0, by omega, rfl, Row.nil _ _ _, HROW.out, hx⟩
   case round =>
    clear HROW hx
    obtain ⟨k, hk, rfl, hrow, hrb, hx⟩ := hrel
    have hsz := hx.size
    by_cases hlk : k < 11
    ·have hrl := rkey_length K HKL.out k (by omega)
     have kc := fun c => to_str wr g (16 * k) c (rkey K k) (fun i hi => by
      have hi16 : i < 16 := by omega
      have := hrb.cell (16 * k + i) (by rw [HKL.out]; omega)
      rw [this]
      simp [rkey, byteV])
     rw [hrl] at kc
     have HS : Hid (((rkL K).take (k + 1)).map strV = ((rkL K).take k).map strV ++ [strV (rkey K k)]) := Lib.hid (by
      rw [List.take_succ_eq_append_getElem (by rw [rkL_length]; exact hlk), List.map_append, List.map_cons, List.map_nil]
      simp [rkL])
     have HL : Hid ((((rkL K).take k).map strV).length = k) := Lib.hid (by rw [List.length_map, List.length_take, rkL_length]; omega)
     have HRB := Lib.hid hrb
     have HRW := Lib.hid hrow
     obtain ⟨c1, hc1⟩ : ∃ c1 : Nat, (cs.size : Int) - 16 * (k : Int) = (c1 : Int) := ⟨cs.size - 16 * k, by omega⟩
     clear hrb hrow hrl
     generalize (rkL K).take k = pre at *
     generalize rkey K k = rk at *
     go_wp2_with (at_builtin; refine wpl_append rfl (Operand.tmp 99) (Operand.tmp 108) 25 rfl und_strsR info_strR rfl (by omega) w.heap.size (by simp; omega) _ (pre.map strV) rfl (HRW.out.ext ((Ext.refl wr).alloc _)) ⟨wr.heap.size, 0, none⟩ 1 1 [strV rk] rfl rfl (cells_one_new _ _ _) (oneCells [rk] (fun _ => rfl)) (by rw [HL.out]; omega) ?_; intro v' w3 hrow3 hb3 hkb3)
     go_roundw
     case measure => simp [intOf]; omega
     case rel =>
      repeat apply Exists.intro
      refine ⟨?_, rfl⟩
      refine ⟨k + 1, by omega, by go_num, by rw [HS.out]; exact hrow3, ?_, (hx.alloc _).trans_below hb3⟩
      have hrb1 := HRB.out.ext ((Ext.refl wr).alloc (.cells #[.string (bs rk)] 9))
      have hlt1 : g < wr.heap.size := (HRB.out.lt g rfl).2
      exact hrb1.keep (hkb3 g (by simp; omega) (rowStr_ne hrb1 (HRW.out.ext ((Ext.refl wr).alloc _))))
    ·obtain rfl : k = 11 := by omega
     rw [List.take_of_length_le (by rw [rkL_length]; omega)] at hrow
     clear hrb
     go_wp2
     go_returns
     exact ⟨_, rfl, hrow, hx⟩
theorem refRounds_any (key : List UInt8) (hk : key.length = 16) (tb to_ cp : Nat) (w : World) (hT : ∀ x : UInt8, w.cell? ⟨tb, to_ + x.toNat, none⟩ = some (.int .u8 ((boxO x).toNat : Int))) :
  Calls Tryz.prog 160 #[.string (bs key), .slice (some ⟨tb, to_, none⟩) 256 cp] w (RetRow w 9 ((rkL (rks key)).map strV)) :=
 refRounds_of key (rks key) (fun n => (wsN key n).2) (bI key) (Lib.hid (rks_length key)) (Lib.hid (rks_key key hk)) (Lib.hid (bI_length key)) (Lib.hid (wsN_four key)) (Lib.hid (rks_fore key)) (Lib.hid (wsN_fac key)) (Lib.hid (fun _ => rfl)) hk tb to_ cp w hT
end Go.Proofs.YtclekllaikcglaaGreat
