/- The statements of layer 6: the walk of ShareAll. -/
import Derived.Test.YtgjaefolmnelcaaLaw06d
import Derived.Test.YtgjaefolmnelcaaPlain06
namespace Go.Proofs.Ytgjaefolmnelcaa
open Go Go.RowKit

set_option maxRecDepth 100000 in
set_option maxHeartbeats 1000000 in
theorem all_out (w : World) (secret other : List UInt8) (l : List (List UInt8)) (ad : Option Addr) (cap : Nat) (last : UInt8) (h1 : Rch06 secret) (h2 : Rch06 other) (hl : l.length ≤ 140737488351232) (hs : ∀ x ∈ l, x.length ≤ 140737488351232) (hv : Sl w (.slice ad l.length cap) (l.map strV))
    (h : heavyB l = true ∨ 16 ≤ l.length ∨ secret.length < 1 ∨ 64 < secret.length ∨ 1024 < other.length) :
    Calls Try.prog 10 #[.string (bs secret), .string (bs other), .slice ad l.length cap, .int .u8 last.toNat] w fun e w' => e = .returned (.bool true) ∧ Ext w w' := by
  have g1 := heavy06_any l ad cap w hl hs hv
  have G0 := Lib.hid works06
  have h1 := h1.le
  have h2 := h2.le
  cases hh : heavyB l with
  | true =>
    rw [hh] at g1
    have G1 := Lib.hid g1
    clear g1 h hv hs hh
    go_enter Try.func10, Try.ntmps10
    go_wp2_with (first
      | (go_at_call 28; with_reducible refine G1.out.mono ?_; rintro e w' ⟨rfl, rfl⟩)
      | (go_at_call 29; with_reducible refine (G0.out _).mono ?_; rintro e w9 ⟨rfl, hx9⟩))
    go_returns
    exact ⟨rfl, hx9⟩
  | false =>
    rw [hh] at g1
    have G1 := Lib.hid g1
    clear g1 hv hs
    by_cases b1 : 16 ≤ l.length
    · clear hh h
      go_enter Try.func10, Try.ntmps10
      go_wp2_with (first
        | (go_at_call 28; with_reducible refine G1.out.mono ?_; rintro e w' ⟨rfl, rfl⟩)
        | (go_at_call 29; with_reducible refine (G0.out _).mono ?_; rintro e w9 ⟨rfl, hx9⟩))
      go_returns
      exact ⟨rfl, hx9⟩
    · have b1' : l.length < 16 := by omega
      by_cases b2 : secret.length < 1
      · clear hh h b1
        go_enter Try.func10, Try.ntmps10
        go_wp2_with (first
          | (go_at_call 28; with_reducible refine G1.out.mono ?_; rintro e w' ⟨rfl, rfl⟩)
          | (go_at_call 29; with_reducible refine (G0.out _).mono ?_; rintro e w9 ⟨rfl, hx9⟩))
        go_returns
        exact ⟨rfl, hx9⟩
      · have b2' : 1 ≤ secret.length := by omega
        by_cases b3 : 64 < secret.length
        · clear hh h b1 b2
          go_enter Try.func10, Try.ntmps10
          go_wp2_with (first
            | (go_at_call 28; with_reducible refine G1.out.mono ?_; rintro e w' ⟨rfl, rfl⟩)
            | (go_at_call 29; with_reducible refine (G0.out _).mono ?_; rintro e w9 ⟨rfl, hx9⟩))
          go_returns
          exact ⟨rfl, hx9⟩
        · have b3' : secret.length ≤ 64 := by omega
          have b4 : 1024 < other.length := by rcases h with h | h
                                              · rw [hh] at h; cases h
                                              · omega
          clear hh h b1 b2 b3
          go_enter Try.func10, Try.ntmps10
          go_wp2_with (first
            | (go_at_call 28; with_reducible refine G1.out.mono ?_; rintro e w' ⟨rfl, rfl⟩)
            | (go_at_call 29; with_reducible refine (G0.out _).mono ?_; rintro e w9 ⟨rfl, hx9⟩))
          go_returns
          exact ⟨rfl, hx9⟩
/-- What is known of the shares: all but the k-th, the k-th, any other one in its place. -/
structure Know (n q k : Nat) (secret : List UInt8) (S U : List (List UInt8)) : Prop where
  hk : k < n + 1
  lenS : S.length = n + 1
  lenU : U.length = n + 1
  at_ : ∀ i (hi : i < n + 1), S[i]'(by omega) = shareB (i + 1) (n + 1) (U[i]'(by omega))
  text : ∀ i (hi : i < n + 1), (U[i]'(by omega)).length = q
  add : ∀ i (hi : i < n + 1), i ≠ k → addS (got (n + 1) U k i) (S[i]'(by omega)) = (0, got (n + 1) U k (i + 1))
  same : got (n + 1) U k (k + 1) = got (n + 1) U k k
  small : ∀ i, (got (n + 1) U k i).length ≤ 17
  less : secretS (got (n + 1) U k (n + 1)) = none
  more : ∀ t : List UInt8, t.length = q → addS (got (n + 1) U k (n + 1)) (shareB (k + 1) (n + 1) t) = (0, got (n + 1) U k (n + 1) ++ [(k + 1, n + 1, t)])
  had : addS (got (n + 1) U k (n + 1) ++ [(k + 1, n + 1, U[k]'(by omega))]) (S[k]'(by omega)) = (8, got (n + 1) U k (n + 1) ++ [(k + 1, n + 1, U[k]'(by omega))])
  all : secretS (got (n + 1) U k (n + 1) ++ [(k + 1, n + 1, U[k]'(by omega))]) = some secret
  other : ∀ o : List UInt8, o.length = q → secretS (got (n + 1) U k (n + 1) ++ [(k + 1, n + 1, xorL (xorL (U[k]'(by omega)) secret) o)]) = some o
theorem know_of (n q k : Nat) (secret : List UInt8) (S U : List (List UInt8)) (hn16 : n < 16) (hs : secret.length = q) (hq1 : 1 ≤ q) (hq2 : q ≤ 64) (hk : k < n + 1) (hLS : S.length = n + 1) (hlen : U.length = n + 1)
    (hU : ∀ x ∈ U, x.length = q) (hS : ∀ i (hi : i < n + 1), S[i]'(by omega) = shareB (i + 1) (n + 1) (U[i]'(by omega))) (hall : lastS (List.replicate q 0) U = secret) : Know n q k secret S U := by
  have hq : ∀ i (hi : i < n + 1), (U[i]'(by omega)).length = q := fun i hi => hU _ (List.getElem_mem _)
  have hread : ∀ i t, i < n + 1 → t.length = q → readS (shareB (i + 1) (n + 1) t) = some (i + 1, n + 1, t) := fun i t hi ht => readS_share _ _ _ (by omega) (by omega) (by omega) (by omega) (by omega)
  have hg : ∀ i x, x ∈ got (n + 1) U k i → x.2.1 = n + 1 ∧ x.2.2.length = q ∧ x.1 ≠ k + 1 ∧ x.1 < i + 1 := by
    intro i x hx
    obtain ⟨j, hj, hji, hjk, rfl⟩ := got_mem hx
    exact ⟨rfl, hU _ (List.getElem_mem hj), by simp; omega, by simp; omega⟩
  have hglen : (got (n + 1) U k (n + 1)).length + 1 = n + 1 := by have := got_length (n + 1) U k (by omega); rw [hlen] at this; exact this
  have hfull : ∀ t : List UInt8, t.length = q → secretS (got (n + 1) U k (n + 1) ++ [(k + 1, n + 1, t)]) = some (xorL (lastS (List.replicate q 0) (U.eraseIdx k)) t) := by
    intro t ht
    rw [secretS_full (n := n + 1) (q := q) _ (by
        intro x hx
        simp only [List.mem_append, List.mem_singleton] at hx
        rcases hx with hx | rfl
        · exact ⟨(hg _ x hx).1, (hg _ x hx).2.1⟩
        · exact ⟨rfl, ht⟩) (by simp) (by simp; omega)]
    have := got_texts (n + 1) U k
    rw [hlen] at this
    rw [List.map_append, this, List.map_cons, List.map_nil, lastS_snoc]
  refine ⟨hk, hLS, hlen, hS, hq, ?_, got_same _ _ _, ?_, ?_, ?_, ?_, ?_, ?_⟩
  · intro i hi hik
    rw [hS i hi, got_next (n + 1) U k i (by omega) hik]
    exact add_new (hread i _ hi (hq i hi)) (hq i hi) (fun x hx => ⟨(hg _ x hx).1, (hg _ x hx).2.1, by have := (hg _ x hx).2.2.2; omega⟩)
  · intro i
    have := got_len_le (n + 1) U k i
    omega
  · exact secretS_less (n := n + 1) _ (fun x hx => (hg _ x hx).1) (by omega)
  · intro t ht
    exact add_new (hread k t hk ht) ht (fun x hx => ⟨(hg _ x hx).1, (hg _ x hx).2.1, (hg _ x hx).2.2.1⟩)
  · rw [hS k hk]
    refine add_had (hread k _ hk (hq k hk)) (hq k hk) (fun x hx => ?_) ⟨_, List.mem_append_right _ (List.mem_singleton.2 rfl), rfl⟩
    simp only [List.mem_append, List.mem_singleton] at hx
    rcases hx with hx | rfl
    · exact ⟨(hg _ x hx).1, (hg _ x hx).2.1⟩
    · exact ⟨rfl, hq k hk⟩
  · rw [hfull _ (hq k hk), erase_xor q U k (by omega), hall]
  · intro o ho
    have hk' := hq k hk
    rw [hfull _ (by rw [xorL_length _ _ (by rw [xorL_length _ _ (by omega)]; omega), xorL_length _ _ (by omega), hk'])]
    rw [← xorL_assoc, ← xorL_assoc, erase_xor q U k (by omega), hall, xorL_self, hs, zeros_xorL _ _ ho]
theorem know (n q k : Nat) (secret : List UInt8) (T : List (List UInt8)) (hn : T.length = n) (hn16 : n < 16) (hs : secret.length = q) (hq1 : 1 ≤ q) (hq2 : q ≤ 64) (hT : ∀ x ∈ T, x.length = q) (hk : k < n + 1) :
    Know n q k secret (splitL secret T) (T ++ [lastS secret T]) := by
  subst hn
  refine know_of T.length q k secret _ _ hn16 hs hq1 hq2 hk (splitL_length _ _) (by simp) ?_ ?_ (all_secret q secret T hs hT)
  · intro x hx
    simp only [List.mem_append, List.mem_singleton] at hx
    rcases hx with hx | rfl
    · exact hT x hx
    · rw [lastS_length secret T (fun x hx => by rw [hs]; exact hT x hx), hs]
  · intro i hi
    by_cases h : i < T.length
    · rw [splitL_at secret T i h, List.getElem_append_left h]
    · obtain rfl : i = T.length := by omega
      rw [splitL_last]; simp
end Go.Proofs.Ytgjaefolmnelcaa
