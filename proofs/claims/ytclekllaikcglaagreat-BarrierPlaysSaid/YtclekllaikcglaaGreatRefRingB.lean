import Derived.Test.YtclekllaikcglaaGreatRing
import Derived.Test.YtclekllaikcglaaGreatRingK
import Derived.Test.YtclekllaikcglaaGreatSeal
import Derived.Maps.AppendAt

/- Contracts: layer 13, the document's ring: Rotate that fails, Retire. -/
namespace Go.Proofs.YtclekllaikcglaaGreat
open Go Go.RowKit
set_option maxRecDepth 100000 in
theorem ref_ring_Rotate_arg (d : Nat) (key : List UInt8) (w : World) (hk : key.length ≠ 32) (_hl : key.length ≤ 140737488351232) :
  Calls Tryz.prog 81 #[.pointer (some ⟨d, 0, none⟩), .string (bs key)] w fun e w' => e = .returned (.tuple #[.int .u32 0, .int .i64 2]) ∧ w = w' := by
 have hne : ((key.length : Int) != 32) = true := by simp; omega
 go_enter Tryz.func81, Tryz.ntmps81
 go_wp2
 go_returns
 exact ⟨rfl, rfl⟩
set_option maxRecDepth 100000 in
theorem ref_ring_Rotate_full (B d : Nat) (E0 : Eps) (n : Nat) (k0 key : List UInt8) (w : World) (h : DocAt w B d (E0 ++ [(n, k0)])) (hk : key.length = 32) (hE : 64 ≤ E0.length + 1) (hE2 : E0.length ≤ 1000) :
  Calls Tryz.prog 81 #[.pointer (some ⟨d, 0, none⟩), .string (bs key)] w fun e w' => e = .returned (.tuple #[.int .u32 0, .int .i64 4]) ∧ Ext w w' := by
 have GN := Lib.hid (ref_ring_Newest B d E0 n k0 w h hE2)
 have hlen : (E0 ++ [(n, k0)]).length = E0.length + 1 := by simp
 obtain ⟨g, cap, hd, hBd, hBg, hgl, hgd, hown, _⟩ := h.look (by simp)
 generalize E0 ++ [(n, k0)] = E at *
 have hne : ((key.length : Int) != 32) = false := by simp; omega
 have hle : (64 : Int) ≤ (E.length : Int) := by omega
 have HD := Lib.hid hd
 clear hlen hE hE2 hd hown h hk hBd hBg hgl hgd
 go_enter Tryz.func81, Tryz.ntmps81
 go_upto_region 4 with (go_at_call 105; refine GN.out.mono ?_; rintro e w1 ⟨rfl, hx1⟩; have hc0 := cell_blk (i := 0) (hx1.keep HD.out) rfl)
 go_wp2_with fail
 go_returns
 exact ⟨rfl, hx1⟩
set_option maxRecDepth 100000 in
theorem ref_ring_Retire_new (B d : Nat) (E0 : Eps) (n : Nat) (k0 : List UInt8) (w : World) (h : DocAt w B d (E0 ++ [(n, k0)])) (hl : E0.length ≤ 1000) :
  Calls Tryz.prog 83 #[.pointer (some ⟨d, 0, none⟩), .int .u32 (n : Int)] w fun e w' => e = .returned (.int .i64 2) ∧ Ext w w' := by
 have GN := Lib.hid (ref_ring_Newest B d E0 n k0 w h hl)
 clear h
 go_enter Tryz.func83, Tryz.ntmps83
 go_wp2_with (go_at_call 105; with_reducible refine GN.out.mono ?_; rintro e w1 ⟨rfl, hx1⟩)
 go_returns
 exact ⟨rfl, hx1⟩
set_option maxRecDepth 100000 in
theorem ref_ring_Retire_none (B d : Nat) (E0 : Eps) (n ep : Nat) (k0 : List UInt8) (w : World) (h : DocAt w B d (E0 ++ [(n, k0)])) (hl : E0.length ≤ 999) (he : ep ≠ n) (hs : lookE (E0 ++ [(n, k0)]) ep = none) :
  Calls Tryz.prog 83 #[.pointer (some ⟨d, 0, none⟩), .int .u32 (ep : Int)] w fun e w' => e = .returned (.int .i64 3) ∧ Ext w w' := by
 have GN := Lib.hid (ref_ring_Newest B d E0 n k0 w h (by omega))
 have GA := Lib.hid (fun W (hx : Ext w W) => ref_at_none B d (E0 ++ [(n, k0)]) ep W (h.ext hx) (by simp) (by simp; omega) hs)
 have hne : ((ep : Int) == (n : Int)) = false := by simp; omega
 clear h hs
 go_enter Tryz.func83, Tryz.ntmps83
 go_wp2_with (first
  | (go_at_call 105; with_reducible refine GN.out.mono ?_; rintro e w1 ⟨rfl, hx1⟩)
  | (go_at_call 107; with_reducible refine (GA.out _ hx1).mono ?_; rintro e w' ⟨rfl, rfl⟩))
 go_returns
 exact ⟨rfl, hx1⟩
theorem erase_at : ∀ (E : Eps) (ep k : Nat) (hk : k < E.length), (∀ j (hj : j < k), (E[j]'(by omega)).1 ≠ ep) → E[k].1 = ep → goneE E ep = E.take k ++ E.drop (k + 1)
 | [], _, _, h, _, _ => by simp at h
 | p :: E, ep, 0, _, _, h => by
  have : (p.1 == ep) = true := by simpa using h
  simp [goneE, this]
 | p :: E, ep, k + 1, hk, hj, h => by
  have h0 := hj 0 (by omega)
  have : (p.1 == ep) = false := by simpa using h0
  have ih := erase_at E ep k (by simpa using hk) (fun j hjk => hj (j + 1) (by omega)) h
  simp only [goneE] at ih ⊢
  simp [this, ih]
theorem asc_inj {E : Eps} (h : AscE E) (i j : Nat) (hi : i < E.length) (hj : j < E.length) (he : E[i].1 = E[j].1) : i = j := by
 have hp := List.pairwise_iff_getElem.1 h
 rcases Nat.lt_trichotomy i j with hl | hl | hl
 ·have := hp i j hi hj hl; omega
 ·exact hl
 ·have := hp j i hj hi hl; omega
theorem oneCell_entC (E : Eps) : ∀ u ∈ E.flatMap entC, u.oneCell' = true := by
 intro u hu
 obtain ⟨p, _, hp⟩ := List.mem_flatMap.1 hu
 simp only [entC, List.mem_cons, List.not_mem_nil, or_false] at hp
 rcases hp with rfl | rfl <;> rfl
theorem flatC_drop : ∀ (k : Nat) (E : Eps), (E.flatMap entC).drop (2 * k) = (E.drop k).flatMap entC
 | 0, E => rfl
 | k + 1, [] => by simp
 | k + 1, p :: E => by
  rw [List.flatMap_cons, show 2 * (k + 1) = (entC p).length + 2 * k by simp [entC]; omega, ← List.drop_drop, List.drop_left, flatC_drop k E]
  rfl
theorem flatC_take : ∀ (k : Nat) (E : Eps), (E.flatMap entC).take (2 * k) = (E.take k).flatMap entC
 | 0, E => by simp
 | k + 1, [] => by simp
 | k + 1, p :: E => by
  rw [List.flatMap_cons, show 2 * (k + 1) = (entC p).length + 2 * k by simp [entC]; omega, List.take_length_add_append, flatC_take k E]
  rfl
theorem own_look' {w : World} {B n size : Nat} {e : TypeId} {v : Value} {xs : List Value} (h : w.ownsRow B e size v n xs) (hn : 0 < n) : ∃ g cap, v = .slice (some ⟨g, 0, none⟩) n cap ∧ B ≤ g := by
 rcases h.2 with ⟨_, h0⟩ | ⟨g, cap, cur, hv, hg, _⟩
 ·omega
 ·exact ⟨g, cap, hv, hg⟩
theorem addr_add' (g off j : Nat) : (⟨g, off, none⟩ : Addr).add j = ⟨g, off + j, none⟩ := by
 by_cases h : j = 0 <;> simp [Addr.add, h]
theorem wpl_appEs {ops : Array Oper} {rest : List Oper} {o : Oper} {a : Act} {Q : Exit → Act → World → Prop} {w : World} (B : Nat) (hB : B ≤ w.heap.size) (v : Value) (n : Nat) (xs : List Value) (F : Eps) (hgd : o.guard = none) (s x : Operand)
  (ho : o.op = .call { callee := .builtin .append, args := #[s, x], argTypes := #[89, 89] }) (hs : a.eval s = v) (hown : w.ownsRow B 93 2 v n xs)
  (g off m c : Nat) (hx : a.eval x = .slice (some ⟨g, off, none⟩) m c) (hm : F.length = m) (hc : ∀ j u, (F.flatMap entC)[j]? = some u → w.cell? ⟨g, off + j, none⟩ = some u) (hlen : n + m ≤ 2000)
  (h : ∀ v' w', w'.ownsRow B 93 2 v' (n + m) (xs ++ F.flatMap entC) → w.grownBy w' v.ownBlock → (v'.ownBlock = v.ownBlock ∨ v'.ownBlock = some w.heap.size) → wpList Tryz.prog ops Q rest (a.put o.dst v') w') : wpList Tryz.prog ops Q (o :: rest) a w := by
 obtain ⟨i0, hi, hz0, hz1, hz2⟩ := info_parts2 info_entry
 refine wpList_append_own_at w hgd s x 89 ho B 93 i0 _ 2 24 und_entries hi hz0 hz1 hz2 rfl (by omega) v n xs hs hown ⟨g, off, none⟩ m c (F.flatMap entC) hx (by rw [flatC_length, hm]) ?_ (oneCell_entC F) (by unfold maxLen; omega) (by omega) hB ?_
 ·intro j u hj
  rw [addr_add']
  exact hc j u hj
 ·intro v' w' h1 h2 _ h4
  exact h v' w' h1 h2 h4
set_option maxRecDepth 100000 in
set_option maxHeartbeats 4000000 in
theorem ref_ring_Retire (B d : Nat) (E0 : Eps) (n ep : Nat) (k0 : List UInt8) (w : World) (h : DocAt w B d (E0 ++ [(n, k0)])) (hB : B ≤ w.heap.size) (hl : E0.length ≤ 900) (he : ep ≠ n) (ha : AscE (E0 ++ [(n, k0)])) {s : List UInt8} (hs : lookE (E0 ++ [(n, k0)]) ep = some s) :
  Calls Tryz.prog 83 #[.pointer (some ⟨d, 0, none⟩), .int .u32 (ep : Int)] w fun e w' => e = .returned (.int .i64 0) ∧ DocAt w' B d (goneE (E0 ++ [(n, k0)]) ep) ∧ Below B w w' ∧ KeepsD d w w' := by
 have GN := Lib.hid (ref_ring_Newest B d E0 n k0 w h (by omega))
 have hlen : (E0 ++ [(n, k0)]).length = E0.length + 1 := by simp
 have hlast : ∀ k, (hk : k < (E0 ++ [(n, k0)]).length) → (E0 ++ [(n, k0)])[k].1 = ep → k < E0.length := fun k hk hke => by
  rcases Nat.lt_or_ge k E0.length with h | h
  ·exact h
  ·exfalso
   have : k = E0.length := by omega
   subst this
   simp at hke
   exact he hke.symm
 obtain ⟨g, cap, hd, hBd, hBg, hgl, hgd, hown, hc⟩ := h.look (by simp)
 have GA0 := fun W (hx : Ext w W) => ref_at B d (E0 ++ [(n, k0)]) ep W (h.ext hx) (by simp) (by omega)
 generalize E0 ++ [(n, k0)] = E at *
 obtain ⟨k, hk, hke⟩ : ∃ k, ∃ hk : k < E.length, E[k].1 = ep := by
  apply Classical.byContradiction
  intro hno
  rw [lookE_none E ep (fun j hj hje => hno ⟨j, hj, hje⟩)] at hs
  cases hs
 have hkl := hlast k hk hke
 have GA : Hid (∀ W, Ext w W → Calls Tryz.prog 107 #[.pointer (some ⟨d, 0, none⟩), .int .u32 (ep : Int)] W fun e w' => e = .returned (.int .i64 (k : Int)) ∧ W = w') := Lib.hid fun W hx => (GA0 W hx).mono (by
  rintro e w' ⟨⟨k', hk', rfl, hke', _⟩ | ⟨_, hno⟩, hw⟩
  ·rw [asc_inj ha k' k hk' hk (by omega)]; exact ⟨rfl, hw⟩
  ·rw [hno] at hs; cases hs)
 have hge := erase_at E ep k hk (fun j hj hje => by have := asc_inj ha j k (by omega) hk (by omega); omega) hke
 rw [hge]
 have HOWN := Lib.hid hown
 have HG : Hid (∃ cs, w.heap[g]? = some (.cells cs 93)) := Lib.hid (by
  rcases hown.2 with ⟨h0, _⟩ | ⟨g', _, cur, hv, _, hh, _⟩
  ·cases h0
  ·injection hv with hv; injection hv with hv; injection hv with hv
   subst hv; exact ⟨cur, hh⟩)
 have hne : ((ep : Int) == (n : Int)) = false := by simp; omega
 have HD := Lib.hid hd
 obtain ⟨N, hN⟩ : ∃ N, E.length = N := ⟨_, rfl⟩
 obtain ⟨k1, hk1⟩ : ∃ k1, k + 1 = k1 := ⟨_, rfl⟩
 rw [hN] at HD HOWN
 have hk1N : k1 < N := by omega
 have hkN : k ≤ N := by omega
 have hN9 : N ≤ 1000 := by omega
 have hk1i : (k : Int) + 1 = (k1 : Int) := by omega
 have hki : (k : Int) ≤ (N : Int) := by omega
 have hk1n : (k1 : Int) ≤ (N : Int) := by omega
 have HC := Lib.hid hc
 have HN := Lib.hid hN
 have HK1 := Lib.hid hk1
 have hcap : N ≤ cap ∧ cap ≤ maxLen := by
  rcases HOWN.out.2 with ⟨h0, _⟩ | ⟨g', cap', cur, hv, _, hh, h1, h2, _⟩
  ·cases h0
  ·injection hv with _ _ hv; subst hv; exact ⟨h1, h2⟩
 clear h hs hge hown hd hlast GA0 ha hke hk hkl hc hN hk1 hlen
 go_enter Tryz.func83, Tryz.ntmps83
 go_upto_region 7 with (first
  | (go_at_call 105; with_reducible refine GN.out.mono ?_; rintro e w1 ⟨rfl, hx1⟩; have hc0 := cell_blk (i := 0) (hx1.keep HD.out) rfl)
  | (go_at_call 107; with_reducible refine (GA.out _ hx1).mono ?_; rintro e w' ⟨rfl, rfl⟩))
 have HO1 := Lib.hid (ownsRow_ext HOWN.out hx1)
 have hcl : ∀ j u, (E.flatMap entC)[j]? = some u → w1.cell? ⟨g, j, none⟩ = some u := fun j u hj => by
  have := HO1.out.cells (g := g) rfl j u hj
  rw [addr_add', Nat.zero_add] at this
  exact this
 have HCL := Lib.hid hcl
 have HT : Hid (∀ j u, ((E.take k).flatMap entC)[j]? = some u → w1.cell? ⟨g, 0 + j, none⟩ = some u) := Lib.hid fun j u hj => by
  rw [Nat.zero_add]
  refine HCL.out j u ?_
  rw [← flatC_take, List.getElem?_take] at hj
  split at hj
  ·exact hj
  ·cases hj
 have HDR : Hid (∀ j u, ((E.drop k1).flatMap entC)[j]? = some u → w1.cell? ⟨g, k1 * 2 + j, none⟩ = some u) := Lib.hid fun j u hj => by
  refine HCL.out (k1 * 2 + j) u ?_
  rw [← flatC_drop, List.getElem?_drop] at hj
  rw [Nat.mul_comm]; exact hj
 have hs1 := hx1.size
 clear hcl
 go_upto_region 8 with (at_builtin; refine wpl_appEs B (by omega) (.slice none 0 0) 0 [] (E.take k) rfl (Operand.tmp 16) (Operand.tmp 22) rfl rfl (World.ownsRow_nil _ _ _ _) g 0 k cap rfl (by rw [List.length_take, HN.out]; omega) HT.out (by omega) ?_; intro v2 w2 ho2 hg2 hb2; have HO2 := Lib.hid ho2; have HG2 := Lib.hid hg2; have HB2 := Lib.hid hb2; clear ho2 hg2 hb2)
 have hk2 : ∀ b o, w1.heap[b]? = some o → w2.heap[b]? = some o := fun b o hb => (HG2.out.block b (blk_lt hb) (by simp [Value.ownBlock])).trans hb
 have HK2 := Lib.hid hk2
 have hd2 := hk2 d _ (hx1.keep HD.out)
 have HD2 := Lib.hid hd2
 have c0 := cell_blk (i := 0) hd2 rfl
 clear hk2 hd2 hc0
 have hs2 := HG2.out.size
 have HDR2 : Hid (∀ j u, ((E.drop k1).flatMap entC)[j]? = some u → w2.cell? ⟨g, k1 * 2 + j, none⟩ = some u) := Lib.hid fun j u hj => by
  have hc := HDR.out j u hj
  have hgl1 : g < w1.heap.size := by omega
  have := HG2.out.block g hgl1 (by simp [Value.ownBlock])
  rw [World.cell?_of_block (w := w1) this]; exact hc
 go_wp2_with (at_builtin; refine wpl_appEs B (by omega) v2 (0 + k) ([] ++ (E.take k).flatMap entC) (E.drop k1) rfl (Operand.tmp 25) (Operand.tmp 32) rfl rfl HO2.out g (k1 * 2) (N - k1) (cap - k1) rfl (by rw [List.length_drop, HN.out]) HDR2.out (by omega) ?_; intro v3 w3 ho3 hg3 hb3; have hnd : some d ≠ v2.ownBlock := (by rcases HB2.out with h | h <;> rw [h] <;> simp [Value.ownBlock]; have := blk_lt HD.out; omega); have hd3 := (hg3.block d (blk_lt HD2.out) hnd).trans HD2.out; have c3 := cell_blk (i := 0) hd3 rfl; have f3 : w3.frozen? ⟨d, 0, none⟩ = false := frozen_blk hd3; have HD3 := Lib.hid hd3; obtain ⟨g3, cap3, hv3, _⟩ := own_look' ho3 (by omega); subst hv3; have HO3 := Lib.hid ho3; have HG3 := Lib.hid hg3; clear ho3 hg3 hb3 hnd hd3)
 go_returns
 have hrow := own_set (u := .slice (some ⟨g3, 0, none⟩) (0 + k + (N - k1)) cap3) HO3.out HD3.out (by decide)
 have e1 : (E.take k ++ E.drop k1).length = k + (N - k1) := by rw [List.length_append, List.length_take, List.length_drop, HN.out]; omega
 have e2 : [] ++ (E.take k).flatMap entC ++ (E.drop k1).flatMap entC = (E.take k ++ E.drop k1).flatMap entC := by simp
 rw [Nat.zero_add, e2] at hrow
 have hb1 : Below B w w1 := hx1.mono hB
 have hb2 : Below B w w2 := hb1.grown HG2.out (by omega) (by intro k h; simp [Value.ownBlock] at h)
 have hb3 : Below B w w3 := hb2.grown HG3.out (by omega) (fun k h => (HO2.out.lt k h).1)
 rw [HK1.out]
 refine ⟨rfl, ⟨_, heap_setCell_same (i := 0) _ HD3.out, hBd, by rw [e1]; exact hrow⟩, hb3.setCell hBd _, ?_⟩
 intro b o hb hbd _
 have hb1 := HK2.out b o (hx1.keep hb)
 have hlt := blk_lt hb
 refine (heap_setCell_other _ _ _ hbd).trans ((HG3.out.block b (blk_lt hb1) ?_).trans hb1)
 rcases HB2.out with h | h <;> rw [h] <;> simp [Value.ownBlock]
 omega
end Go.Proofs.YtclekllaikcglaaGreat
