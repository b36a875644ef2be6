/- Contracts: layer 2, the program's sum of texts. -/
import Derived.Test.YtipdgiikifmjdaaShaE
namespace Go.Proofs.Ytipdgiikifmjdaa
open Go Go.RowKit

/-- The sum of a text. -/
def shaS (t : List UInt8) : List UInt8 := sumS (soak iv t).1 (soak iv t).2 t.length
theorem soak_step (t x : List UInt8) : soak (soak iv t).1 ((soak iv t).2 ++ x) = soak iv (t ++ x) := (soak_append t.length iv t x (Nat.le_refl _)).symm
/-- The program's hash that has taken the text t. -/
def HT (w : World) (bh : Nat) (t : List UInt8) : Prop := PH w bh (soak iv t).1 (soak iv t).2 t.length
theorem HT_add (w : World) (bh : Nat) (t x : List UInt8) (hx : t.length + x.length ≤ 1099511627776) (h : HT w bh t) :
    Calls Try.prog 17 #[.pointer (some ⟨bh, 0, none⟩), .string (bs x)] w fun e w' => e = .returned (.tuple #[]) ∧ HT w' bh (t ++ x) ∧ But [bh] w w' := by
  have := HAdd_any w bh _ _ t.length x (by omega) (soak_rest t.length iv t (Nat.le_refl _)) (by omega) h
  rw [soak_step] at this
  unfold HT
  rw [List.length_append]
  exact this
theorem HT_sum (w : World) (bh : Nat) (t : List UInt8) (hx : t.length ≤ 1099511627776) (h : HT w bh t) :
    Calls Try.prog 19 #[.pointer (some ⟨bh, 0, none⟩)] w fun e w' => e = .returned (.string (bs (shaS t))) ∧ Ext w w' :=
  HSum_any w bh _ _ t.length (soak_rest t.length iv t (Nat.le_refl _)) (by omega) h
theorem HT_new (w : World) :
    Calls Try.prog 16 #[] w fun e w' => ∃ bh, e = .returned (.pointer (some ⟨bh, 0, none⟩)) ∧ w.heap.size ≤ bh ∧ HT w' bh [] ∧ Ext w w' := by
  refine (HNew_any w).mono ?_
  rintro e w' ⟨bh, rfl, h1, h2, h3⟩
  exact ⟨bh, rfl, h1, by unfold HT; rw [soak_less iv [] (by simp)]; exact h2, h3⟩
theorem HT.ext {w w' : World} {bh : Nat} {t : List UInt8} (h : HT w bh t) (hx : Ext w w') : HT w' bh t := hx.keep h
theorem HT.but {S : List Nat} {w w' : World} {bh : Nat} {t : List UInt8} (h : HT w bh t) (hx : But S w w') (hS : bh ∉ S) : HT w' bh t := hx.keep h hS
theorem flat_take (l : List (List UInt8)) (k : Nat) (h : k < l.length) : (l.take (k + 1)).flatten = (l.take k).flatten ++ l[k] := by
  rw [List.take_succ_eq_append_getElem h, List.flatten_append, List.flatten_cons, List.flatten_nil, List.append_nil]
theorem flat_le (l : List (List UInt8)) (k : Nat) : (l.take k).flatten.length ≤ l.flatten.length := by
  have : l.flatten = (l.take k).flatten ++ (l.drop k).flatten := by rw [← List.flatten_append, List.take_append_drop]
  rw [this, List.length_append]; omega
set_option maxRecDepth 100000 in
set_option maxHeartbeats 1000000 in
theorem Of_any (w : World) (l : List (List UInt8)) (ad : Option Addr) (cap : Nat) (hl : l.length ≤ 1048576) (hs : l.flatten.length ≤ 1099511627776) (hv : Sl w (.slice ad l.length cap) (l.map strV)) :
    Calls Try.prog 12 #[.slice ad l.length cap] w fun e w' => e = .returned (.string (bs (shaS l.flatten))) ∧ Ext w w' := by
  have GN := Lib.hid HT_new
  have V := Lib.hid hv
  have HS := Lib.hid hs
  clear hv hs
  go_enter Try.func12, Try.ntmps12
  go_wp2_with (go_at_call 16; with_reducible refine (GN.out _).mono ?_; rintro e w2 ⟨bh, rfl, hb1, ht2, hx2⟩; have H2 := Lib.hid ht2; clear ht2)
  go_loopw [9] (fun i wr => ∃ k : Nat, k ≤ l.length ∧ i = .int .i64 k ∧ HT wr bh (l.take k).flatten ∧ Ext w wr) (fun i _ => l.length - (intOf i).toNat)
  case atStart => exact ⟨0, by omega, rfl, H2.out, hx2⟩
  case round =>
    obtain ⟨k, hk, rfl, ht, hx⟩ := hrel
    have HTT := Lib.hid ht
    clear ht
    by_cases hlt : k < l.length
    · obtain ⟨b, off, ha, hbl, hcell⟩ := (V.out.ext hx).str k hlt
      subst ha
      have hst := flat_take l k hlt
      have hle : (l.take k).flatten.length + l[k].length ≤ 1099511627776 := by
        have h1 := flat_le l (k + 1); rw [hst, List.length_append] at h1
        have := HS.out; omega
      have HST := Lib.hid hst
      have GA := Lib.hid (fun w h => HT_add w bh (l.take k).flatten l[k] hle h)
      clear hst hle
      go_wp2_with (go_at_call 17; with_reducible refine (GA.out wr HTT.out).mono ?_; rintro e w3 ⟨rfl, ht3, hb3⟩; have H3 := Lib.hid ht3; have hx3 : Ext w w3 := But.ext hx hb3 (by simp; omega); clear ht3 hb3)
      go_roundw
      case measure => simp [intOf]; omega
      case rel => exact ⟨k + 1, by omega, by go_num, by rw [HST.out]; exact H3.out, hx3⟩
    · obtain rfl : k = l.length := by omega
      rw [List.take_length] at HTT
      have GS := Lib.hid (fun w h => HT_sum w bh l.flatten HS.out h)
      go_wp2_with (go_at_call 19; with_reducible refine (GS.out wr HTT.out).mono ?_; rintro e w3 ⟨rfl, hx3⟩)
      go_returns
      exact ⟨rfl, hx.trans hx3⟩
end Go.Proofs.Ytipdgiikifmjdaa
