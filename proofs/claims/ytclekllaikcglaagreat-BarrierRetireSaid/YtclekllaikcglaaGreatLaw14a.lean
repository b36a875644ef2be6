/- Contracts: layers 13 and 14: the statements' Full, nonce, heavy. -/
import Derived.Test.YtclekllaikcglaaGreatSeal
namespace Go.Proofs.YtclekllaikcglaaGreat
open Go Go.RowKit

def z32 : List UInt8 := List.replicate 32 0
theorem z32_length : z32.length = 32 := List.length_replicate
def z12 : List UInt8 := List.replicate 12 0
theorem z12_length : z12.length = 12 := List.length_replicate
set_option maxRecDepth 100000 in
theorem full13 (s : List UInt8) (w : World) (_hl : s.length ≤ 140737488351232) :
    Calls Tryz.prog 9 #[.string (bs s)] w fun e w' => e = .returned (.string (bs (padTo 32 s))) ∧ Ext w w' := by
  have hmk : ∀ w : World, (Instr.makeSlice 27 (.int .i64 32) (.int .i64 32)).run Tryz.prog w = .ok (.slice (some ⟨w.heap.size, 0, none⟩) 32 32) (w.alloc (.cells (bcells z32) 5)) := fun w => mk_bytes 32 (by omega) w
  have HSZ := Lib.hid (show splice z32 0 (s.take 32) = padTo 32 s from splice_zeros 32 s)
  go_enter Tryz.func9, Tryz.ntmps9
  go_wp2_with (refine wpl_copy_str rfl rfl und_bytes info_u8 rfl rfl (L := z32) (heap_alloc_new w _) (by rw [z32_length]; decide) ?_; intro w2 hb2 _ hbel; rw [HSZ.out] at hb2; have kc := fun c => to_str_of (c := c) hb2 (padTo_length 32 _); have hx2 : Ext w w2 := ((Ext.refl w).alloc _).trans_below hbel; clear hb2)
  go_returns
  exact ⟨rfl, hx2⟩
/-- How many bytes the first k texts have. -/
def sumL (l : List (List UInt8)) (k : Nat) : Nat := ((l.take k).map List.length).sum
theorem sumL_succ (l : List (List UInt8)) (k : Nat) (h : k < l.length) : sumL l (k + 1) = sumL l k + l[k].length := by
  unfold sumL
  rw [List.take_succ_eq_append_getElem h, List.map_append, List.sum_append]
  simp
theorem sumL_le (l : List (List UInt8)) (C : Nat) (hb : ∀ x ∈ l, x.length ≤ C) : ∀ k, sumL l k ≤ k * C
  | 0 => Nat.zero_le _
  | k + 1 => by
    have ih := sumL_le l C hb k
    rw [Nat.succ_mul]
    by_cases h : k < l.length
    · have hx := hb _ (List.getElem_mem h)
      rw [sumL_succ l k h]; omega
    · have e : sumL l (k + 1) = sumL l k := by
        unfold sumL
        rw [List.take_of_length_le (by omega), List.take_of_length_le (by omega)]
      rw [e]; omega
/-- More than a statement plays. -/
def heavyB (keys l : List (List UInt8)) : Bool := decide (1500 < sumL l l.length + sumL keys (min keys.length 30)) || decide (8 < keys.length)
end Go.Proofs.YtclekllaikcglaaGreat
namespace Go.Proofs.YtclekllaikcglaaGreat
open Go Go.RowKit

/-- The keys of a ring that k of some texts have come to. -/
def epsN (keys : List (List UInt8)) : Nat → Eps
  | 0 => [(1, padTo 32 [107])]
  | k + 1 => epsN keys k ++ [(k + 2, padTo 32 (keys.getD k []))]
theorem epsN_length (keys : List (List UInt8)) : ∀ k, (epsN keys k).length = k + 1
  | 0 => rfl
  | k + 1 => by rw [epsN, List.length_append, epsN_length keys k]; rfl
theorem epsN_le (keys : List (List UInt8)) : ∀ k, ∀ p ∈ epsN keys k, p.1 ≤ k + 1
  | 0, p, h => by simp [epsN] at h; subst h; exact Nat.le_refl _
  | k + 1, p, h => by
    rw [epsN, List.mem_append] at h
    rcases h with h | h
    · have := epsN_le keys k p h; omega
    · simp at h; subst h; exact Nat.le_refl _
theorem epsN_key (keys : List (List UInt8)) : ∀ k, ∀ p ∈ epsN keys k, p.2.length = 32
  | 0, p, h => by simp [epsN] at h; subst h; exact padTo_length 32 _
  | k + 1, p, h => by
    rw [epsN, List.mem_append] at h
    rcases h with h | h
    · exact epsN_key keys k p h
    · simp at h; subst h; exact padTo_length 32 _
theorem epsN_new (keys : List (List UInt8)) (k e : Nat) (he : k + 1 < e) : lookE (epsN keys k) e = none :=
  lookE_none _ _ (fun j hj h => by have := epsN_le keys k _ (List.getElem_mem hj); omega)
theorem epsN_last (keys : List (List UInt8)) (k : Nat) : ∃ E0 key, epsN keys k = E0 ++ [(k + 1, key)] ∧ E0.length = k ∧ key.length = 32 ∧ lookE (epsN keys k) (k + 1) = some key := by
  have look : ∀ (E0 : Eps) (key : List UInt8), (∀ p ∈ E0, p.1 ≠ k + 1) → lookE (E0 ++ [(k + 1, key)]) (k + 1) = some key := by
    intro E0 key h
    have := lookE_first (E0 ++ [(k + 1, key)]) (k + 1) E0.length (by simp) (fun j hj => by
      rw [List.getElem_append_left hj]; exact h _ (List.getElem_mem hj)) (by simp)
    rw [this]; simp
  cases k with
  | zero => exact ⟨[], padTo 32 [107], rfl, rfl, padTo_length 32 _, look [] _ (by simp)⟩
  | succ k => exact ⟨epsN keys k, padTo 32 (keys.getD k []), rfl, epsN_length keys k, padTo_length 32 _, look _ _ (fun p hp => by have := epsN_le keys k p hp; omega)⟩
theorem DocAt.mono {w : World} {B B' d : Nat} {E : Eps} (h : DocAt w B d E) (hB : B' ≤ B) : DocAt w B' d E := by
  obtain ⟨v, hd, hb, hown⟩ := h
  refine ⟨v, hd, by omega, hown.1, ?_⟩
  rcases hown.2 with h0 | ⟨g, cap, cur, hv, hg, q⟩
  · exact .inl h0
  · exact .inr ⟨g, cap, cur, hv, by omega, q⟩
theorem DocAt.but {w w' : World} {B d r m : Nat} {E E' : Eps} {n : Nat} (h : DocAt w B d E) (hr : RingAt w r m E' n) (hb : But [r, m] w w') : DocAt w' B d E := by
  obtain ⟨L, clk, _, _, h1, h2⟩ := hr
  obtain ⟨v, hd, hB, hown⟩ := h
  have ne1 : d ∉ [r, m] := by
    simp only [List.mem_cons, List.not_mem_nil, or_false, not_or]
    exact ⟨fun e => (by rw [e, h1] at hd; cases hd), fun e => (by rw [e, h2] at hd; cases hd)⟩
  refine ⟨v, hb.keep hd ne1, hB, hown.1, ?_⟩
  rcases hown.2 with h0 | ⟨g, cap, cur, hv, hg, hh, q⟩
  · exact .inl h0
  · have ne2 : g ∉ [r, m] := by
      simp only [List.mem_cons, List.not_mem_nil, or_false, not_or]
      exact ⟨fun e => (by rw [e, h1] at hh; cases hh), fun e => (by rw [e, h2] at hh; cases hh)⟩
    exact .inr ⟨g, cap, cur, hv, hg, hb.keep hh ne2, q⟩
theorem RingAt.keepsD {w w' : World} {B d r m : Nat} {E E' : Eps} {n : Nat} (h : RingAt w r m E n) (hd : DocAt w B d E') (hk : KeepsD d w w') : RingAt w' r m E n := by
  obtain ⟨L, clk, a, b, h1, h2⟩ := h
  obtain ⟨v, hdd, _, _⟩ := hd
  refine ⟨L, clk, a, b, hk r _ h1 (fun e => by rw [e, hdd] at h1; cases h1) (fun cs fz e => by cases e), hk m _ h2 (fun e => by rw [e, hdd] at h2; cases h2) (fun cs fz e => by cases e)⟩
end Go.Proofs.YtclekllaikcglaaGreat
