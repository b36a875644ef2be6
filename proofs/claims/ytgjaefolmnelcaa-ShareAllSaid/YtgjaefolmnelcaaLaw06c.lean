/- The statements of layer 6: the walk of ShareReads. -/
import Derived.Test.YtgjaefolmnelcaaLaw06b
namespace Go.Proofs.Ytgjaefolmnelcaa
open Go Go.RowKit

/-- The shares of a secret by texts as long. -/
def splitL (secret : List UInt8) (l : List (List UInt8)) : List (List UInt8) := shares (l.length + 1) l ++ [shareB (l.length + 1) (l.length + 1) (lastS secret l)]
theorem splitL_length (secret : List UInt8) (l : List (List UInt8)) : (splitL secret l).length = l.length + 1 := by simp [splitL, shares_length]
theorem splitS_some (secret : List UInt8) (l : List (List UInt8)) (h : ¬ (secret.length < 1 ∨ 64 < secret.length ∨ 16 ≤ l.length)) (hl : ∀ x ∈ l, x.length = secret.length) : splitS secret l = some (splitL secret l) := by
  unfold splitS
  rw [if_neg h, if_pos (List.all_eq_true.2 (fun x hx => by simpa using hl x hx))]; rfl
theorem readS_share (i n : Nat) (t : List UInt8) (hn : n ≤ 16) (hi : 1 ≤ i) (hin : i ≤ n) (h1 : 1 ≤ t.length) (h2 : t.length ≤ 64) : readS (shareB i n t) = some (i, n, t) := by
  simp only [shareB, readS]
  rw [b8_toNat i (by omega), b8_toNat n (by omega), if_pos (by omega)]
theorem splitL_at (secret : List UInt8) (l : List (List UInt8)) (k : Nat) (hk : k < l.length) : (splitL secret l)[k]'(by rw [splitL_length]; omega) = shareB (k + 1) (l.length + 1) l[k] := by
  simp only [splitL]
  rw [List.getElem_append_left (by rw [shares_length]; exact hk)]
  simp [shares]
theorem splitL_last (secret : List UInt8) (l : List (List UInt8)) : (splitL secret l)[l.length]'(by rw [splitL_length]; omega) = shareB (l.length + 1) (l.length + 1) (lastS secret l) := by
  simp only [splitL]
  rw [List.getElem_append_right (by rw [shares_length]; omega)]
  simp [shares_length]
theorem readS_at (secret : List UInt8) (l : List (List UInt8)) (h1 : 1 ≤ secret.length) (h2 : secret.length ≤ 64) (h3 : l.length < 16) (hl : ∀ x ∈ l, x.length = secret.length) (k : Nat) (hk : k < l.length) :
    readS ((splitL secret l)[k]'(by rw [splitL_length]; omega)) = some (k + 1, l.length + 1, l[k]) := by
  have := hl _ (List.getElem_mem hk)
  rw [splitL_at secret l k hk, readS_share _ _ _ (by omega) (by omega) (by omega) (by omega) (by omega)]
theorem readS_last (secret : List UInt8) (l : List (List UInt8)) (h1 : 1 ≤ secret.length) (h2 : secret.length ≤ 64) (h3 : l.length < 16) (hl : ∀ x ∈ l, x.length = secret.length) :
    readS ((splitL secret l)[l.length]'(by rw [splitL_length]; omega)) = some (l.length + 1, l.length + 1, lastS secret l) := by
  have := lastS_length secret l hl
  rw [splitL_last, readS_share _ _ _ (by omega) (by omega) (by omega) (by omega) (by omega)]
theorem Read_some (s : List UInt8) (w : World) (hl : s.length ≤ 1099511627776) (i n : Nat) (t : List UInt8) (h : readS s = some (i, n, t)) (i' n' : Int) (hi : (i : Int) = i') (hn : (n : Int) = n') :
    Calls Try.prog 33 #[.string (bs s)] w fun e w' => e = .returned (.tuple #[.int .i64 i', .int .i64 n', .string (bs t), .int .i64 0]) ∧ Ext w w' := by
  subst hi hn
  have hv : readV s = .tuple #[.int .i64 i, .int .i64 n, .string (bs t), .int .i64 0] := by unfold readV; rw [h]
  exact hv ▸ Read_any s w hl
theorem splitL_small (secret : List UInt8) (l : List (List UInt8)) (h2 : secret.length ≤ 64) (hl : ∀ x ∈ l, x.length = secret.length) : ∀ k (hk : k < (splitL secret l).length), (splitL secret l)[k].length ≤ 66 := by
  intro k hk
  rw [splitL_length] at hk
  by_cases h : k < l.length
  · rw [splitL_at secret l k h]
    have := hl _ (List.getElem_mem h)
    simp [shareB]; omega
  · obtain rfl : k = l.length := by omega
    rw [splitL_last]
    have := lastS_length secret l hl
    simp [shareB]; omega
theorem pad_all (n : Nat) (l : List (List UInt8)) : ∀ x ∈ l.map (padTo n), x.length = n := by
  intro x hx
  obtain ⟨y, _, rfl⟩ := List.mem_map.1 hx
  exact padTo_length n y

set_option maxRecDepth 100000 in
set_option maxHeartbeats 1000000 in
theorem reads_heavy (w : World) (secret : List UInt8) (l : List (List UInt8)) (ad : Option Addr) (cap : Nat) (h1 : Rch06 secret) (hl : l.length ≤ 140737488351232) (hs : ∀ x ∈ l, x.length ≤ 140737488351232) (hv : Sl w (.slice ad l.length cap) (l.map strV))
    (h : heavyB l = true ∨ 1024 < secret.length) :
    Calls Try.prog 7 #[.string (bs secret), .slice ad l.length cap] w fun e w' => e = .returned (.bool true) ∧ Ext w w' := by
  have g1 := heavy06_any l ad cap w hl hs hv
  have G0 := Lib.hid works06
  cases hh : heavyB l with
  | true =>
    rw [hh] at g1
    have G1 := Lib.hid g1
    clear g1 h hv hs hh
    go_enter Try.func7, Try.ntmps7
    go_wp2_with (first
      | (go_at_call 28; with_reducible refine G1.out.mono ?_; rintro e w' ⟨rfl, rfl⟩)
      | (go_at_call 29; with_reducible refine (G0.out _).mono ?_; rintro e w9 ⟨rfl, hx9⟩))
    go_returns
    exact ⟨rfl, hx9⟩
  | false =>
    rw [hh] at g1
    have G1 := Lib.hid g1
    have hlt : 1024 < secret.length := by rcases h with h | h; · rw [hh] at h; cases h
                                          · exact h
    have h1 := h1.le
    clear g1 h hv hs hh
    go_enter Try.func7, Try.ntmps7
    go_wp2_with (first
      | (go_at_call 28; with_reducible refine G1.out.mono ?_; rintro e w' ⟨rfl, rfl⟩)
      | (go_at_call 29; with_reducible refine (G0.out _).mono ?_; rintro e w9 ⟨rfl, hx9⟩))
    go_returns
    exact ⟨rfl, hx9⟩
set_option maxRecDepth 100000 in
set_option maxHeartbeats 1000000 in
theorem reads_bad (w : World) (secret : List UInt8) (l : List (List UInt8)) (ad : Option Addr) (cap : Nat) (hl : l.length ≤ 140737488351232) (hs : ∀ x ∈ l, x.length ≤ 140737488351232) (hv : Sl w (.slice ad l.length cap) (l.map strV))
    (hh : heavyB l = false) (hlt : secret.length ≤ 1024) (hb : secret.length < 1 ∨ 64 < secret.length ∨ 16 ≤ l.length) :
    Calls Try.prog 7 #[.string (bs secret), .slice ad l.length cap] w fun e w' => e = .returned (.bool true) ∧ Ext w w' := by
  have g1 := heavy06_any l ad cap w hl hs hv
  rw [hh] at g1
  obtain ⟨hl50, -⟩ := heavyB_no hh
  have G0 := Lib.hid works06
  have G1 := Lib.hid g1
  have G2 := Lib.hid (texts06_any l secret.length ad cap w (by omega) (by omega) hv)
  have hLl : (l.map (padTo secret.length)).length = l.length := by simp
  generalize l.map (padTo secret.length) = L at G2 hLl
  have G3 := Lib.hid (fun (W : World) (ad : Option Addr) (cap : Nat) => Split_arg secret L.length ad cap W (by omega) (by omega) (by omega))
  clear g1 hv hs hh hLl
  by_cases b1 : secret.length < 1
  · go_enter Try.func7, Try.ntmps7
    go_wp2_with (first
      | (go_at_call 28; with_reducible refine G1.out.mono ?_; rintro e w' ⟨rfl, rfl⟩)
      | (go_at_call 29; with_reducible refine (G0.out _).mono ?_; rintro e w9 ⟨rfl, hx9⟩)
      | (go_at_call 30; refine G2.out.mono ?_; rintro e w1 ⟨v1, rfl, row1, hx1⟩; obtain ⟨ad1, cap1, hv1⟩ := row1.sl.look; rw [List.length_map] at hv1; subst hv1; clear row1)
      | (go_at_call 31; with_reducible refine (G3.out w1 _ _).mono ?_; rintro e w2 ⟨rfl, rfl⟩))
    go_returns
    first | exact ⟨rfl, hx1.trans hx9⟩ | exact ⟨ret_bool (by simp; omega), hx1.trans hx9⟩
  · have b1' : 1 ≤ secret.length := by omega
    by_cases b2 : 64 < secret.length
    · go_enter Try.func7, Try.ntmps7
      go_wp2_with (first
        | (go_at_call 28; with_reducible refine G1.out.mono ?_; rintro e w' ⟨rfl, rfl⟩)
        | (go_at_call 29; with_reducible refine (G0.out _).mono ?_; rintro e w9 ⟨rfl, hx9⟩)
        | (go_at_call 30; refine G2.out.mono ?_; rintro e w1 ⟨v1, rfl, row1, hx1⟩; obtain ⟨ad1, cap1, hv1⟩ := row1.sl.look; rw [List.length_map] at hv1; subst hv1; clear row1)
        | (go_at_call 31; with_reducible refine (G3.out w1 _ _).mono ?_; rintro e w2 ⟨rfl, rfl⟩))
      go_returns
      first | exact ⟨rfl, hx1.trans hx9⟩ | exact ⟨ret_bool (by simp; omega), hx1.trans hx9⟩
    · have b3 : 16 ≤ l.length := by omega
      have b2' : secret.length ≤ 64 := by omega
      clear hb b1 b2
      go_enter Try.func7, Try.ntmps7
      go_wp2_with (first
        | (go_at_call 28; with_reducible refine G1.out.mono ?_; rintro e w' ⟨rfl, rfl⟩)
        | (go_at_call 29; with_reducible refine (G0.out _).mono ?_; rintro e w9 ⟨rfl, hx9⟩)
        | (go_at_call 30; refine G2.out.mono ?_; rintro e w1 ⟨v1, rfl, row1, hx1⟩; obtain ⟨ad1, cap1, hv1⟩ := row1.sl.look; rw [List.length_map] at hv1; subst hv1; clear row1)
        | (go_at_call 31; with_reducible refine (G3.out w1 _ _).mono ?_; rintro e w2 ⟨rfl, rfl⟩))
      go_returns
      first | exact ⟨rfl, hx1.trans hx9⟩ | exact ⟨ret_bool (by simp; omega), hx1.trans hx9⟩
theorem Split_ok (secret : List UInt8) (l : List (List UInt8)) (n : Nat) (hn : l.length = n) (ad : Option Addr) (cap : Nat) (w : World) (h1 : 1 ≤ secret.length) (h2 : secret.length ≤ 64) (h3 : n < 16) (hl : ∀ x ∈ l, x.length = secret.length) (hv : Sl w (.slice ad n cap) (l.map strV)) :
    Calls Try.prog 31 #[.string (bs secret), .slice ad n cap] w fun e w' => ∃ ad' cap', e = .returned (.tuple #[.slice ad' (n + 1) cap', .int .i64 0]) ∧ Sl w' (.slice ad' (n + 1) cap') ((splitL secret l).map strV) ∧ Ext w w' := by
  subst hn
  refine (Split_all secret l ad cap w (by omega) (by omega) hv).mono ?_
  rintro e w' ⟨ad', cap', rfl, hs, hx⟩
  rw [splitS_some secret l (by omega) hl] at *
  rw [show ((some (splitL secret l)).getD []).length = l.length + 1 from splitL_length secret l] at *
  exact ⟨ad', cap', rfl, hs, hx⟩
set_option maxRecDepth 100000 in
set_option maxHeartbeats 1000000 in
theorem reads_good (w : World) (secret : List UInt8) (l : List (List UInt8)) (ad : Option Addr) (cap : Nat) (hl : l.length ≤ 140737488351232) (hs : ∀ x ∈ l, x.length ≤ 140737488351232) (hv : Sl w (.slice ad l.length cap) (l.map strV))
    (hh : heavyB l = false) (h1 : 1 ≤ secret.length) (h2 : secret.length ≤ 64) (h3 : l.length < 16) :
    Calls Try.prog 7 #[.string (bs secret), .slice ad l.length cap] w fun e w' => e = .returned (.bool true) ∧ Ext w w' := by
  have g1 := heavy06_any l ad cap w hl hs hv
  rw [hh] at g1
  have G0 := Lib.hid works06
  have G1 := Lib.hid g1
  have G2 := Lib.hid (texts06_any l secret.length ad cap w (by omega) (by omega) hv)
  have hLl : (l.map (padTo secret.length)).length = l.length := by simp
  have hall := pad_all secret.length l
  generalize l.map (padTo secret.length) = L at G2 hLl hall
  have G3 := Lib.hid (fun (W : World) (ad : Option Addr) (cap : Nat) (hv : Sl W (.slice ad l.length cap) (L.map strV)) => Split_ok secret L l.length hLl ad cap W h1 h2 h3 hall hv)
  have HL := Lib.hid hLl
  have HALL := Lib.hid hall
  clear g1 hv hs hh hLl hall
  go_enter Try.func7, Try.ntmps7
  go_wp2_with (first
    | (go_at_call 28; with_reducible refine G1.out.mono ?_; rintro e w' ⟨rfl, rfl⟩)
    | (go_at_call 29; with_reducible refine (G0.out _).mono ?_; rintro e w9 ⟨rfl, hx9⟩)
    | (go_at_call 30; refine G2.out.mono ?_; rintro e w1 ⟨v1, rfl, row1, hx1⟩; obtain ⟨ad1, cap1, hv1⟩ := row1.sl.look; rw [List.length_map, HL.out] at hv1; subst hv1; have S1 := Lib.hid row1.sl; clear row1)
    | (go_at_call 31; with_reducible refine (G3.out w1 _ _ S1.out).mono ?_; rintro e w2 ⟨ad2, cap2, rfl, sl2, hx2⟩; have S2 := Lib.hid sl2; clear sl2))
  go_loopw [8] (fun o wr => ∃ k : Nat, k ≤ l.length + 1 ∧ o = .int .i64 k ∧ Ext w2 wr) (fun o _ => l.length + 1 - (intOf o).toNat)
  case atStart => exact ⟨0, by omega, rfl, Ext.refl _⟩
  case round =>
    obtain ⟨k, hk, rfl, hx⟩ := hrel
    by_cases hlt : k < l.length
    · have hk1 : k < L.length := by rw [HL.out]; exact hlt
      have hk2 : k < (splitL secret L).length := by rw [splitL_length, HL.out]; omega
      have hr := readS_at secret L h1 h2 (by rw [HL.out]; exact h3) HALL.out k hk1
      have hsm := splitL_small secret L h2 HALL.out k hk2
      have S1' := S1.out.ext (hx2.trans hx)
      have S2' := S2.out.ext hx
      obtain ⟨b1, o1, ha1, hb1, hc1⟩ : ∃ b off, ad1 = some ⟨b, off, none⟩ ∧ b < wr.heap.size ∧ wr.cell? ⟨b, off + k, none⟩ = some (.string (bs L[k])) := by
        have := S1'.at_ k (by simpa using hk1); simpa [strV] using this
      obtain ⟨b2, o2, ha2, hb2, hc2⟩ : ∃ b off, ad2 = some ⟨b, off, none⟩ ∧ b < wr.heap.size ∧ wr.cell? ⟨b, off + k, none⟩ = some (.string (bs (splitL secret L)[k])) := by
        have := S2'.at_ k (by simpa using hk2); simpa [strV] using this
      subst ha1 ha2
      have G5 := Lib.hid (fun w => Read_some (splitL secret L)[k] w (by omega) _ _ _ hr ((k : Int) + 1) ((l.length : Int) + 1) (by omega) (by rw [HL.out]; omega))
      have hlen : L[k].length = secret.length := HALL.out _ (List.getElem_mem hk1)
      have hne : ((L[k].length : Int) != (secret.length : Int)) = false := by simp [hlen]
      clear hr hsm S1' S2' hlen
      go_wp2_with (go_at_call 33; with_reducible refine (G5.out _).mono ?_; rintro e w4 ⟨rfl, hx4⟩; have hc1' := hx4.cell_of hc1)
      go_roundw
      case measure => simp [intOf]; omega
      case rel => exact ⟨k + 1, by omega, by go_num, (by repeat (first | exact Ext.refl _ | assumption | (with_reducible refine Ext.drew ?_) | (with_reducible refine Ext.drewN ?_ _) | (with_reducible refine Ext.alloc ?_ _) | (refine Ext.trans ?_ (by assumption))))⟩
    · by_cases hlt2 : k = l.length
      · subst hlt2
        have hk2 : l.length < (splitL secret L).length := by rw [splitL_length, HL.out]; omega
        have hr := readS_last secret L h1 h2 (by rw [HL.out]; exact h3) HALL.out
        have hsm := splitL_small secret L h2 HALL.out l.length hk2
        have S2' := S2.out.ext hx
        obtain ⟨b2, o2, ha2, hb2, hc2⟩ : ∃ b off, ad2 = some ⟨b, off, none⟩ ∧ b < wr.heap.size ∧ wr.cell? ⟨b, off + l.length, none⟩ = some (.string (bs (splitL secret L)[l.length])) := by
          have := S2'.at_ l.length (by simpa using hk2); simpa [strV] using this
        subst ha2
        have G5 := Lib.hid (fun w => Read_some (splitL secret L)[l.length] w (by omega) _ _ _ (by simpa only [HL.out] using hr) ((l.length : Int) + 1) ((l.length : Int) + 1) (by omega) (by omega))
        have hlen : (lastS secret L).length = secret.length := lastS_length secret L HALL.out
        have hne : (((lastS secret L).length : Int) != (secret.length : Int)) = false := by simp [hlen]
        clear hr hsm S2' hlen
        go_wp2_with (go_at_call 33; with_reducible refine (G5.out _).mono ?_; rintro e w4 ⟨rfl, hx4⟩)
        go_roundw
        case measure => simp [intOf]
        case rel => exact ⟨l.length + 1, by omega, by go_num, (by repeat (first | exact Ext.refl _ | assumption | (with_reducible refine Ext.drew ?_) | (with_reducible refine Ext.drewN ?_ _) | (with_reducible refine Ext.alloc ?_ _) | (refine Ext.trans ?_ (by assumption))))⟩
      · obtain rfl : k = l.length + 1 := by omega
        go_wp2_with (go_at_call 29; with_reducible refine (G0.out _).mono ?_; rintro e w9 ⟨rfl, hx9⟩)
        go_returns
        exact ⟨rfl, hx1.trans (hx2.trans (hx.trans hx9))⟩
theorem law_ShareReads (w : World) (secret : List UInt8) (l : List (List UInt8)) (ad : Option Addr) (cap : Nat) (h1 : Rch06 secret) (hl : l.length ≤ 140737488351232) (hs : ∀ x ∈ l, x.length ≤ 140737488351232) (hv : Sl w (.slice ad l.length cap) (l.map strV)) :
    Calls Try.prog 7 #[.string (bs secret), .slice ad l.length cap] w fun e w' => e = .returned (.bool true) ∧ Ext w w' := by
  by_cases h : heavyB l = true ∨ 1024 < secret.length
  · exact reads_heavy w secret l ad cap h1 hl hs hv h
  · have hh : heavyB l = false := by cases hb : heavyB l with
      | true => exact absurd (Or.inl hb) h
      | false => rfl
    by_cases hb : secret.length < 1 ∨ 64 < secret.length ∨ 16 ≤ l.length
    · exact reads_bad w secret l ad cap hl hs hv hh (by omega) hb
    · exact reads_good w secret l ad cap hl hs hv hh (by omega) (by omega) (by omega)
end Go.Proofs.Ytgjaefolmnelcaa
