/- Contracts: layer 6, shares that are read. -/
import Derived.Test.YtgjaefolmnelcaaShare
import Derived.Handy
namespace Go.Proofs.Ytgjaefolmnelcaa
open Go Go.RowKit

/-- A share, read: place, how many, bytes. -/
def okS (s : List UInt8) : Prop := ∃ i n t, s = i :: n :: t ∧ 1 ≤ t.length ∧ t.length ≤ 64 ∧ 1 ≤ n.toNat ∧ n.toNat ≤ 16 ∧ 1 ≤ i.toNat ∧ i.toNat ≤ n.toNat
def readS (s : List UInt8) : Option (Nat × Nat × List UInt8) :=
  match s with
  | i :: n :: t => if 1 ≤ t.length ∧ t.length ≤ 64 ∧ 1 ≤ n.toNat ∧ n.toNat ≤ 16 ∧ 1 ≤ i.toNat ∧ i.toNat ≤ n.toNat then some (i.toNat, n.toNat, t) else none
  | _ => none
def readV (s : List UInt8) : Value := match readS s with
  | some (i, n, t) => .tuple #[.int .i64 i, .int .i64 n, .string (bs t), .int .i64 0]
  | none => .tuple #[.int .i64 0, .int .i64 0, .string { data := #[] }, .int .i64 7]
theorem readS_short (s : List UInt8) (h : s.length < 3 ∨ 66 < s.length) : readS s = none := by
  unfold readS
  match s, h with
  | [], _ => rfl
  | [_], _ => rfl
  | i :: n :: t, h => simp only [List.length_cons] at h; simp only []; rw [if_neg]; omega
set_option maxRecDepth 100000 in
set_option maxHeartbeats 1000000 in
theorem Read_short (s : List UInt8) (w : World) (h : s.length < 3 ∨ 66 < s.length) (hl : s.length ≤ 1099511627776) :
    Calls Try.prog 33 #[.string (bs s)] w fun e w' => e = .returned (readV s) ∧ Ext w w' := by
  unfold readV; rw [readS_short s h]
  by_cases h1 : s.length < 3
  · clear h
    go_enter Try.func33, Try.ntmps33
    go_wp2
    go_returns
    exact ⟨rfl, Ext.refl _⟩
  · have h1' : 3 ≤ s.length := by omega
    have h2 : 66 < s.length := by omega
    clear h h1
    go_enter Try.func33, Try.ntmps33
    go_wp2
    go_returns
    exact ⟨rfl, Ext.refl _⟩
set_option maxRecDepth 100000 in
set_option maxHeartbeats 1000000 in
theorem Read_long (i n : UInt8) (t : List UInt8) (w : World) (h1 : 1 ≤ t.length) (h2 : t.length ≤ 64) :
    Calls Try.prog 33 #[.string (bs (i :: n :: t))] w fun e w' => e = .returned (readV (i :: n :: t)) ∧ Ext w w' := by
  have h3 : (i :: n :: t).length = t.length + 2 := rfl
  have hr : readS (i :: n :: t) = if 1 ≤ t.length ∧ t.length ≤ 64 ∧ 1 ≤ n.toNat ∧ n.toNat ≤ 16 ∧ 1 ≤ i.toNat ∧ i.toNat ≤ n.toNat then some (i.toNat, n.toNat, t) else none := rfl
  have HR := Lib.hid hr; clear hr
  have hi := i.toNat_lt
  have hn := n.toNat_lt
  by_cases a1 : n.toNat < 1
  · go_enter Try.func33, Try.ntmps33
    go_wp2
    go_quiet (fail)
    go_wp2
    go_returns
    exact ⟨by unfold readV; rw [HR.out, if_neg (by omega)], (by repeat (first | exact Ext.refl _ | assumption | (with_reducible refine Ext.drew ?_) | (with_reducible refine Ext.drewN ?_ _) | (with_reducible refine Ext.alloc ?_ _) | (refine Ext.trans ?_ (by assumption))))⟩
  by_cases a2 : 16 < n.toNat
  · go_enter Try.func33, Try.ntmps33
    go_wp2
    go_quiet (fail)
    go_wp2
    go_returns
    exact ⟨by unfold readV; rw [HR.out, if_neg (by omega)], (by repeat (first | exact Ext.refl _ | assumption | (with_reducible refine Ext.drew ?_) | (with_reducible refine Ext.drewN ?_ _) | (with_reducible refine Ext.alloc ?_ _) | (refine Ext.trans ?_ (by assumption))))⟩
  by_cases a3 : i.toNat < 1
  · go_enter Try.func33, Try.ntmps33
    go_wp2
    go_quiet (fail)
    go_wp2
    go_returns
    exact ⟨by unfold readV; rw [HR.out, if_neg (by omega)], (by repeat (first | exact Ext.refl _ | assumption | (with_reducible refine Ext.drew ?_) | (with_reducible refine Ext.drewN ?_ _) | (with_reducible refine Ext.alloc ?_ _) | (refine Ext.trans ?_ (by assumption))))⟩
  by_cases a4 : n.toNat < i.toNat
  · go_enter Try.func33, Try.ntmps33
    go_wp2
    go_quiet (fail)
    go_wp2
    go_returns
    exact ⟨by unfold readV; rw [HR.out, if_neg (by omega)], (by repeat (first | exact Ext.refl _ | assumption | (with_reducible refine Ext.drew ?_) | (with_reducible refine Ext.drewN ?_ _) | (with_reducible refine Ext.alloc ?_ _) | (refine Ext.trans ?_ (by assumption))))⟩
  go_enter Try.func33, Try.ntmps33
  go_wp2
  go_quiet (fail)
  go_wp2
  go_quiet (fail)
  go_wp2
  go_returns
  have he : (bs (i :: n :: t)).extract 2 (t.length + 2) = bs t := by rw [bs_extract]; simp
  rw [he]
  exact ⟨by unfold readV; rw [HR.out, if_pos (by omega)], (by repeat (first | exact Ext.refl _ | assumption | (with_reducible refine Ext.drew ?_) | (with_reducible refine Ext.drewN ?_ _) | (with_reducible refine Ext.alloc ?_ _) | (refine Ext.trans ?_ (by assumption))))⟩
theorem Read_any (s : List UInt8) (w : World) (hl : s.length ≤ 1099511627776) :
    Calls Try.prog 33 #[.string (bs s)] w fun e w' => e = .returned (readV s) ∧ Ext w w' := by
  by_cases h : s.length < 3 ∨ 66 < s.length
  · exact Read_short s w h hl
  · match s, h with
    | [], h => simp at h
    | [_], h => simp at h
    | i :: n :: t, h => simp only [List.length_cons] at h; exact Read_long i n t w (by omega) (by omega)

/-! ### ref Read -/
def shareV (r : Option (Nat × Nat × List UInt8)) : Value := match r with
  | some (i, n, t) => .agg #[.int .i64 i, .int .i64 n, .string (bs t)]
  | none => .agg #[.int .i64 0, .int .i64 0, .string { data := #[] }]
def errForm (r : Option (Nat × Nat × List UInt8)) : Value := match r with
  | some _ => .int .i64 0
  | none => .int .i64 7
def refReadV (s : List UInt8) : Value := .tuple #[shareV (readS s), errForm (readS s)]
set_option maxRecDepth 100000 in
set_option maxHeartbeats 1000000 in
theorem RefRead_short (s : List UInt8) (w : World) (h : s.length < 3 ∨ 66 < s.length) (hl : s.length ≤ 1099511627776) :
    Calls Try.prog 34 #[.string (bs s)] w fun e w' => e = .returned (refReadV s) ∧ Ext w w' := by
  unfold refReadV; rw [readS_short s h]
  by_cases h1 : s.length < 3
  · clear h
    go_enter Try.func34, Try.ntmps34
    go_wp2
    go_returns
    exact ⟨rfl, (by repeat (first | exact Ext.refl _ | assumption | (with_reducible refine Ext.drew ?_) | (with_reducible refine Ext.drewN ?_ _) | (with_reducible refine Ext.alloc ?_ _) | (refine Ext.trans ?_ (by assumption))))⟩
  · have h1' : 3 ≤ s.length := by omega
    have h2 : 66 < s.length := by omega
    clear h h1
    go_enter Try.func34, Try.ntmps34
    go_wp2
    go_returns
    exact ⟨rfl, (by repeat (first | exact Ext.refl _ | assumption | (with_reducible refine Ext.drew ?_) | (with_reducible refine Ext.drewN ?_ _) | (with_reducible refine Ext.alloc ?_ _) | (refine Ext.trans ?_ (by assumption))))⟩
theorem RefRead_long (i n : UInt8) (t : List UInt8) (w : World) (h1 : 1 ≤ t.length) (h2 : t.length ≤ 64) :
    Calls Try.prog 34 #[.string (bs (i :: n :: t))] w fun e w' => e = .returned (refReadV (i :: n :: t)) ∧ Ext w w' := by
  have h3 : (i :: n :: t).length = t.length + 2 := rfl
  have hr : readS (i :: n :: t) = if 1 ≤ t.length ∧ t.length ≤ 64 ∧ 1 ≤ n.toNat ∧ n.toNat ≤ 16 ∧ 1 ≤ i.toNat ∧ i.toNat ≤ n.toNat then some (i.toNat, n.toNat, t) else none := rfl
  have HR := Lib.hid hr; clear hr
  have hi := i.toNat_lt
  have hn := n.toNat_lt
  have he : (bs (i :: n :: t)).extract 2 (t.length + 2) = bs t := by rw [bs_extract]; simp
  have HE := Lib.hid he; clear he
  go_enter Try.func34, Try.ntmps34
  go_wp2
  have g0 : (0 : Int) < (t.length : Int) + 2 := by omega
  have g1 : (1 : Int) < (t.length : Int) + 2 := by omega
  have g2 : (2 : Int) ≤ (t.length : Int) + 2 := by omega
  refine Loud.wp_region_loud (fun i => decide (i=9∨i=10)) 11 (fun _ => True) (by kernel_rfl) (by kernel_rfl) trivial ?_
  simp only [List.take_succ_cons, List.take_zero]
  iterate 9 (refine Loud.lex_qe rfl rfl ?_; apply Exists.intro; refine ⟨fun wq hq => ?_, Loud.norm fun K hK => ?_⟩; (go_simp; try rfl); go_simp; refine hK _ ?_; clear hK K)
  refine Loud.lex_l rfl rfl (fun K hK => ?_); go_simp; refine hK _ _ trivial ?_; clear hK K
  refine Loud.lex_l rfl rfl (fun K hK => ?_); go_simp; refine hK _ _ trivial ?_; clear hK K
  refine Loud.lex_nil ?_
  simp only [List.drop_succ_cons, List.drop_zero]
  go_wp2
  all_goals go_returns
  all_goals first
    | exact ⟨by unfold refReadV shareV errForm; rw [HR.out, if_neg (by omega)], (by repeat (first | exact Ext.refl _ | assumption | (with_reducible refine Ext.drew ?_) | (with_reducible refine Ext.drewN ?_ _) | (with_reducible refine Ext.alloc ?_ _) | (refine Ext.trans ?_ (by assumption))))⟩
    | (rw [HE.out]; exact ⟨by unfold refReadV shareV errForm; rw [HR.out, if_pos (by omega)], (by repeat (first | exact Ext.refl _ | assumption | (with_reducible refine Ext.drew ?_) | (with_reducible refine Ext.drewN ?_ _) | (with_reducible refine Ext.alloc ?_ _) | (refine Ext.trans ?_ (by assumption))))⟩)
theorem RefRead_any (s : List UInt8) (w : World) (hl : s.length ≤ 1099511627776) :
    Calls Try.prog 34 #[.string (bs s)] w fun e w' => e = .returned (refReadV s) ∧ Ext w w' := by
  by_cases h : s.length < 3 ∨ 66 < s.length
  · exact RefRead_short s w h hl
  · match s, h with
    | [], h => simp at h
    | [_], h => simp at h
    | i :: n :: t, h => simp only [List.length_cons] at h; exact RefRead_long i n t w (by omega) (by omega)
end Go.Proofs.Ytgjaefolmnelcaa
