/- The statements of layer 6: the laws' walks. -/
import Derived.Test.YtgjaefolmnelcaaLaw06
namespace Go.Proofs.Ytgjaefolmnelcaa
open Go Go.RowKit

def SplitAll (w : World) (r : Option (List (List UInt8))) (e : Ending) (w' : World) : Prop :=
  ∃ ad cap, e = .returned (.tuple #[.slice ad (r.getD []).length cap, .int .i64 (if r.isSome then 0 else 2)]) ∧ Sl w' (.slice ad (r.getD []).length cap) ((r.getD []).map strV) ∧ Ext w w'
theorem SplitAll.of_post {w : World} {r : Option (List (List UInt8))} {e : Ending} {w' : World} (h : SplitPost w r e w') : SplitAll w r e w' := by
  cases r with
  | none => exact ⟨none, 0, h.1, Sl.nil _, h.2⟩
  | some xs =>
    obtain ⟨v, rfl, hrow, hx⟩ := h
    have hs := hrow.sl
    obtain ⟨ad, cap, hv⟩ := hs.look
    rw [List.length_map] at hv
    subst hv
    exact ⟨ad, cap, rfl, hs, hx⟩
theorem splitS_none (secret : List UInt8) (l : List (List UInt8)) (h : secret.length < 1 ∨ 64 < secret.length ∨ 16 ≤ l.length) : splitS secret l = none := by
  unfold splitS; rw [if_pos h]
theorem Split_all (secret : List UInt8) (l : List (List UInt8)) (ad : Option Addr) (cap : Nat) (w : World) (hl : l.length ≤ 1048576) (hs : secret.length ≤ 1048576) (hv : Sl w (.slice ad l.length cap) (l.map strV)) :
    Calls Try.prog 31 #[.string (bs secret), .slice ad l.length cap] w (SplitAll w (splitS secret l)) := by
  by_cases h : secret.length < 1 ∨ 64 < secret.length ∨ 16 ≤ l.length
  · refine (Split_arg secret l.length ad cap w h hl hs).mono ?_
    rintro e w' ⟨rfl, rfl⟩
    rw [splitS_none _ _ h]
    exact ⟨none, 0, rfl, Sl.nil _, Ext.refl _⟩
  · exact (Split_fit secret l ad cap w (by omega) (by omega) (by omega) hv).mono fun e w' h => SplitAll.of_post h
theorem RefSplit_all (secret : List UInt8) (l : List (List UInt8)) (ad : Option Addr) (cap : Nat) (w : World) (hl : l.length ≤ 1048576) (hs : secret.length ≤ 1048576) (hv : Sl w (.slice ad l.length cap) (l.map strV)) :
    Calls Try.prog 32 #[.string (bs secret), .slice ad l.length cap] w (SplitAll w (splitS secret l)) := by
  by_cases h : secret.length < 1 ∨ 64 < secret.length ∨ 16 ≤ l.length
  · refine (RefSplit_arg secret l.length ad cap w h hl hs).mono ?_
    rintro e w' ⟨rfl, rfl⟩
    rw [splitS_none _ _ h]
    exact ⟨none, 0, rfl, Sl.nil _, Ext.refl _⟩
  · exact (RefSplit_fit secret l ad cap w (by omega) (by omega) (by omega) hv).mono fun e w' h => SplitAll.of_post h
theorem splitS_len (secret : List UInt8) (l : List (List UInt8)) : ((splitS secret l).getD []).length ≤ 16 := by
  unfold splitS
  split
  · simp
  · split
    · simp [shares_length]; omega
    · simp
theorem read_vals (s : List UInt8) : ∃ (i n : Int) (t : List UInt8) (c : Int), readV s = .tuple #[.int .i64 i, .int .i64 n, .string (bs t), .int .i64 c] ∧ refReadV s = .tuple #[.agg #[.int .i64 i, .int .i64 n, .string (bs t)], .int .i64 c] := by
  unfold readV refReadV shareV errForm
  cases readS s with
  | none => exact ⟨0, 0, [], 7, rfl, rfl⟩
  | some r => obtain ⟨i, n, t⟩ := r; exact ⟨i, n, t, 0, rfl, rfl⟩
set_option maxRecDepth 100000 in
set_option maxHeartbeats 1000000 in
theorem splits_heavy (w : World) (secret : List UInt8) (l : List (List UInt8)) (ad : Option Addr) (cap : Nat) (fit : Bool) (s : List UInt8) (h1 : Rch06 secret) (h2 : Rch06 s) (hl : l.length ≤ 140737488351232) (hs : ∀ x ∈ l, x.length ≤ 140737488351232) (hv : Sl w (.slice ad l.length cap) (l.map strV))
    (h : heavyB l = true ∨ 1024 < secret.length + s.length) :
    Calls Try.prog 6 #[.string (bs secret), .slice ad l.length cap, .bool fit, .string (bs s)] w fun e w' => e = .returned (.bool true) ∧ Ext w w' := by
  have g1 := heavy06_any l ad cap w hl hs hv
  have G0 := Lib.hid works06
  cases hh : heavyB l with
  | true =>
    rw [hh] at g1
    have G1 := Lib.hid g1
    clear g1 h hv hs hh
    go_enter Try.func6, Try.ntmps6
    go_wp2_with (first
      | (go_at_call 28; with_reducible refine G1.out.mono ?_; rintro e w' ⟨rfl, rfl⟩)
      | (go_at_call 29; with_reducible refine (G0.out _).mono ?_; rintro e w9 ⟨rfl, hx9⟩))
    go_returns
    exact ⟨rfl, hx9⟩
  | false =>
    rw [hh] at g1
    have G1 := Lib.hid g1
    have hlt : 1024 < secret.length + s.length := by rcases h with h | h; · rw [hh] at h; cases h
                                                     · exact h
    have h1 := h1.le; have h2 := h2.le
    clear g1 h hv hs hh
    go_enter Try.func6, Try.ntmps6
    go_wp2_with (first
      | (go_at_call 28; with_reducible refine G1.out.mono ?_; rintro e w' ⟨rfl, rfl⟩)
      | (go_at_call 29; with_reducible refine (G0.out _).mono ?_; rintro e w9 ⟨rfl, hx9⟩))
    go_returns
    exact ⟨rfl, hx9⟩
set_option maxRecDepth 100000 in
set_option maxHeartbeats 1000000 in
theorem splits_true (w : World) (secret : List UInt8) (l : List (List UInt8)) (ad : Option Addr) (cap : Nat) (s : List UInt8) (hl : l.length ≤ 140737488351232) (hs : ∀ x ∈ l, x.length ≤ 140737488351232) (hv : Sl w (.slice ad l.length cap) (l.map strV))
    (hh : heavyB l = false) (hlt : secret.length + s.length ≤ 1024) :
    Calls Try.prog 6 #[.string (bs secret), .slice ad l.length cap, .bool true, .string (bs s)] w fun e w' => e = .returned (.bool true) ∧ Ext w w' := by
  have g1 := heavy06_any l ad cap w hl hs hv
  rw [hh] at g1
  obtain ⟨hl50, -⟩ := heavyB_no hh
  have G0 := Lib.hid works06
  have G1 := Lib.hid g1
  have V0 := Lib.hid hv
  have G2 := Lib.hid (texts06_any l secret.length ad cap w (by omega) (by omega) hv)
  have hLl : (l.map (padTo secret.length)).length = l.length := by simp
  generalize l.map (padTo secret.length) = L at G2 hLl
  have G3 := Lib.hid (fun (W : World) (ad : Option Addr) (cap : Nat) (hv : Sl W (.slice ad L.length cap) (L.map strV)) => Split_all secret L ad cap W (by omega) (by omega) hv)
  have G4 := Lib.hid (fun (W : World) (ad : Option Addr) (cap : Nat) (hv : Sl W (.slice ad L.length cap) (L.map strV)) => RefSplit_all secret L ad cap W (by omega) (by omega) hv)
  have hlen := splitS_len secret L
  generalize splitS secret L = r at G3 G4 hlen
  unfold SplitAll at G3 G4
  generalize r.getD [] = R at G3 G4 hlen
  generalize (if r.isSome = true then (0 : Int) else 2) = code at G3 G4
  obtain ⟨i, n, t, c, hr1, hr2⟩ := read_vals s
  have G5 := Lib.hid (fun w => hr1 ▸ Read_any s w (by omega))
  have G6 := Lib.hid (fun w => hr2 ▸ RefRead_any s w (by omega))
  clear g1 hv hs hh hr1 hr2 hLl
  go_enter Try.func6, Try.ntmps6
  go_wp2_with (first
    | (go_at_call 28; with_reducible refine G1.out.mono ?_; rintro e w' ⟨rfl, rfl⟩)
    | (go_at_call 29; with_reducible refine (G0.out _).mono ?_; rintro e w9 ⟨rfl, hx9⟩)
    | (go_at_call 30; refine G2.out.mono ?_; rintro e w1 ⟨v1, rfl, row1, hx1⟩; obtain ⟨ad1, cap1, hv1⟩ := row1.sl.look; rw [List.length_map] at hv1; subst hv1; have S1 := Lib.hid row1.sl; clear row1)
    | (go_at_call 31; refine (G3.out w1 _ _ S1.out).mono ?_; rintro e w2 ⟨ad2, cap2, rfl, sl2, hx2⟩; have S2 := Lib.hid sl2; clear sl2)
    | (go_at_call 32; refine (G4.out w2 _ _ (S1.out.ext hx2)).mono ?_; rintro e w3 ⟨ad3, cap3, rfl, sl3, hx3⟩; have S3 := Lib.hid sl3; clear sl3))
  have hx13 : Ext w w3 := hx1.trans (hx2.trans hx3)
  go_loopw [13] (fun o wr => ∃ k : Nat, k ≤ R.length ∧ o = .int .i64 k ∧ Ext w3 wr) (fun o _ => R.length - (intOf o).toNat)
  case atStart => exact ⟨0, by omega, rfl, Ext.refl _⟩
  case round =>
    obtain ⟨k, hk, rfl, hx⟩ := hrel
    by_cases hlt : k < R.length
    · obtain ⟨b2, o2, ha2, hb2, hc2⟩ := (S2.out.ext (hx3.trans hx)).str k hlt
      obtain ⟨b3, o3, ha3, hb3, hc3⟩ := (S3.out.ext hx).str k hlt
      subst ha2 ha3
      go_wp2
      go_quiet (fail)
      go_wp2
      go_roundw
      case measure => simp [intOf]; omega
      case rel => exact ⟨k + 1, by omega, by go_num, (by repeat (first | exact Ext.refl _ | assumption | (with_reducible refine Ext.drew ?_) | (with_reducible refine Ext.drewN ?_ _) | (with_reducible refine Ext.alloc ?_ _) | (refine Ext.trans ?_ (by assumption))))⟩
    · obtain rfl : k = R.length := by omega
      go_wp2_with (first
        | (go_at_call 33; with_reducible refine (G5.out _).mono ?_; rintro e w4 ⟨rfl, hx4⟩)
        | (go_at_call 34; with_reducible refine (G6.out _).mono ?_; rintro e w5 ⟨rfl, hx5⟩)
        | (go_at_call 29; with_reducible refine (G0.out _).mono ?_; rintro e w9 ⟨rfl, hx9⟩))
      go_returns
      exact ⟨rfl, hx13.trans (hx.trans (hx4.trans ((hx5.alloc _).trans hx9)))⟩
set_option maxRecDepth 100000 in
set_option maxHeartbeats 1000000 in
theorem splits_false (w : World) (secret : List UInt8) (l : List (List UInt8)) (ad : Option Addr) (cap : Nat) (s : List UInt8) (hl : l.length ≤ 140737488351232) (hs : ∀ x ∈ l, x.length ≤ 140737488351232) (hv : Sl w (.slice ad l.length cap) (l.map strV))
    (hh : heavyB l = false) (hlt : secret.length + s.length ≤ 1024) :
    Calls Try.prog 6 #[.string (bs secret), .slice ad l.length cap, .bool false, .string (bs s)] w fun e w' => e = .returned (.bool true) ∧ Ext w w' := by
  have g1 := heavy06_any l ad cap w hl hs hv
  rw [hh] at g1
  obtain ⟨hl50, -⟩ := heavyB_no hh
  have G0 := Lib.hid works06
  have G1 := Lib.hid g1
  have V0 := Lib.hid hv
  have G3 := Lib.hid (fun (W : World) (ad : Option Addr) (cap : Nat) (hv : Sl W (.slice ad l.length cap) (l.map strV)) => Split_all secret l ad cap W (by omega) (by omega) hv)
  have G4 := Lib.hid (fun (W : World) (ad : Option Addr) (cap : Nat) (hv : Sl W (.slice ad l.length cap) (l.map strV)) => RefSplit_all secret l ad cap W (by omega) (by omega) hv)
  have hlen := splitS_len secret l
  generalize splitS secret l = r at G3 G4 hlen
  unfold SplitAll at G3 G4
  generalize r.getD [] = R at G3 G4 hlen
  generalize (if r.isSome = true then (0 : Int) else 2) = code at G3 G4
  obtain ⟨i, n, t, c, hr1, hr2⟩ := read_vals s
  have G5 := Lib.hid (fun w => hr1 ▸ Read_any s w (by omega))
  have G6 := Lib.hid (fun w => hr2 ▸ RefRead_any s w (by omega))
  clear g1 hv hs hh hr1 hr2
  go_enter Try.func6, Try.ntmps6
  go_wp2_with (first
    | (go_at_call 28; with_reducible refine G1.out.mono ?_; rintro e w' ⟨rfl, rfl⟩)
    | (go_at_call 29; with_reducible refine (G0.out _).mono ?_; rintro e w9 ⟨rfl, hx9⟩)
    | (go_at_call 31; refine (G3.out w _ _ V0.out).mono ?_; rintro e w2 ⟨ad2, cap2, rfl, sl2, hx2⟩; have S2 := Lib.hid sl2; clear sl2)
    | (go_at_call 32; refine (G4.out w2 _ _ (V0.out.ext hx2)).mono ?_; rintro e w3 ⟨ad3, cap3, rfl, sl3, hx3⟩; have S3 := Lib.hid sl3; clear sl3))
  have hx13 : Ext w w3 := hx2.trans hx3
  go_loopw [13] (fun o wr => ∃ k : Nat, k ≤ R.length ∧ o = .int .i64 k ∧ Ext w3 wr) (fun o _ => R.length - (intOf o).toNat)
  case atStart => exact ⟨0, by omega, rfl, Ext.refl _⟩
  case round =>
    obtain ⟨k, hk, rfl, hx⟩ := hrel
    by_cases hlt : k < R.length
    · obtain ⟨b2, o2, ha2, hb2, hc2⟩ := (S2.out.ext (hx3.trans hx)).str k hlt
      obtain ⟨b3, o3, ha3, hb3, hc3⟩ := (S3.out.ext hx).str k hlt
      subst ha2 ha3
      go_wp2
      go_quiet (fail)
      go_wp2
      go_roundw
      case measure => simp [intOf]; omega
      case rel => exact ⟨k + 1, by omega, by go_num, (by repeat (first | exact Ext.refl _ | assumption | (with_reducible refine Ext.drew ?_) | (with_reducible refine Ext.drewN ?_ _) | (with_reducible refine Ext.alloc ?_ _) | (refine Ext.trans ?_ (by assumption))))⟩
    · obtain rfl : k = R.length := by omega
      go_wp2_with (first
        | (go_at_call 33; with_reducible refine (G5.out _).mono ?_; rintro e w4 ⟨rfl, hx4⟩)
        | (go_at_call 34; with_reducible refine (G6.out _).mono ?_; rintro e w5 ⟨rfl, hx5⟩)
        | (go_at_call 29; with_reducible refine (G0.out _).mono ?_; rintro e w9 ⟨rfl, hx9⟩))
      go_returns
      exact ⟨rfl, hx13.trans (hx.trans (hx4.trans ((hx5.alloc _).trans hx9)))⟩
theorem law_ShareSplits (w : World) (secret : List UInt8) (l : List (List UInt8)) (ad : Option Addr) (cap : Nat) (fit : Bool) (s : List UInt8) (h1 : Rch06 secret) (hl : l.length ≤ 140737488351232) (hs : ∀ x ∈ l, x.length ≤ 140737488351232) (hv : Sl w (.slice ad l.length cap) (l.map strV)) (h2 : Rch06 s) :
    Calls Try.prog 6 #[.string (bs secret), .slice ad l.length cap, .bool fit, .string (bs s)] w fun e w' => e = .returned (.bool true) ∧ Ext w w' := by
  by_cases h : heavyB l = true ∨ 1024 < secret.length + s.length
  · exact splits_heavy w secret l ad cap fit s h1 h2 hl hs hv h
  · have hh : heavyB l = false := by cases hb : heavyB l with
      | true => exact absurd (Or.inl hb) h
      | false => rfl
    cases fit with
    | true => exact splits_true w secret l ad cap s hl hs hv hh (by omega)
    | false => exact splits_false w secret l ad cap s hl hs hv hh (by omega)
end Go.Proofs.Ytgjaefolmnelcaa
