/- The statements of layer 2: walks of the laws. -/
import Derived.Test.YtipdgiikifmjdaaShaAbc
import Derived.Test.YtipdgiikifmjdaaUnhex
import Derived.Test.YtipdgiikifmjdaaRow
namespace Go.Proofs.Ytipdgiikifmjdaa
open Go Go.RowKit

def Rch02 (l : List UInt8) : Prop := l.length ≤ reachBytes
theorem Rch02.le {l : List UInt8} (h : Rch02 l) : l.length ≤ 140737488351232 := h
def abcHex : ByteArray := { data := #[98, 97, 55, 56, 49, 54, 98, 102, 56, 102, 48, 49, 99, 102, 101, 97, 52, 49, 52, 49, 52, 48, 100, 101, 53, 100, 97, 101, 50, 50, 50, 51, 98, 48, 48, 51, 54, 49, 97, 51, 57, 54, 49, 55, 55, 97, 57, 99, 98, 52, 49, 48, 102, 102, 54, 49, 102, 50, 48, 48, 49, 53, 97, 100] }
set_option maxRecDepth 100000 in
set_option maxHeartbeats 1000000 in
theorem works02 (w : World) : Calls Try.prog 11 #[] w fun e w' => e = .returned (.bool true) ∧ Ext w w' := by
  have g1 : ∀ w : World, Calls Try.prog 12 #[.slice (some ⟨w.heap.size, 0, none⟩) 2 2] (w.alloc (.cells #[.string { data := #[97] }, .string { data := #[98, 99] }] 9))
      fun e w' => e = .returned (.string (bs (shaS [97, 98, 99]))) ∧ Ext w w' := fun w => by
    have hsl : Sl (w.alloc (.cells #[.string { data := #[97] }, .string { data := #[98, 99] }] 9)) (.slice (some ⟨w.heap.size, 0, none⟩) [[97], [98, 99]].length 2) ([[97], [98, 99]].map strV) :=
      ⟨_, _, rfl, fun i hi => ⟨w.heap.size, 0, rfl, by simp, by
        match i, hi with
        | 0, _ => exact cell_blk (heap_alloc_new w _) rfl
        | 1, _ => exact cell_blk (heap_alloc_new w _) rfl⟩⟩
    refine (Of_any _ [[97], [98, 99]] _ _ (by simp) (by simp) hsl).mono ?_
    rintro e w' ⟨rfl, hx⟩
    exact ⟨rfl, ((Ext.refl w).alloc _).trans hx⟩
  have hlen : (shaS [97, 98, 99]).length = 32 := by rw [abc_sum]; rfl
  have g2 : ∀ w : World, Calls Try.prog 29 #[.string (bs (shaS [97, 98, 99]))] w fun e w' => e = .returned (.string abcHex) ∧ Ext w w' := fun w => by
    have h := RefHex_any (shaS [97, 98, 99]) w (by rw [hlen]; omega)
    rw [abc_sum] at h ⊢
    exact h
  have g3 : ∀ w : World, Calls Try.prog 14 #[.string { data := #[120] }] w fun e w' => e = .returned (.slice none 0 0) ∧ w = w' := fun w => Words_no [120] w (by decide) (by decide)
  have G1 := Lib.hid g1; have G2 := Lib.hid g2; have G3 := Lib.hid g3
  clear g1 g2 g3 hlen
  generalize shaS [97, 98, 99] = z at G1 G2
  go_enter Try.func11, Try.ntmps11
  go_wp2_with (first
    | (go_at_call 12; with_reducible refine (G1.out _).mono ?_; rintro e w1 ⟨rfl, hx1⟩)
    | (go_at_call 29; with_reducible refine (G2.out _).mono ?_; rintro e w2 ⟨rfl, hx2⟩; unfold abcHex)
    | (go_at_call 14; with_reducible refine (G3.out _).mono ?_; rintro e w' ⟨rfl, rfl⟩))
  go_returns
  exact ⟨rfl, hx1.trans hx2⟩
set_option maxRecDepth 100000 in
set_option maxHeartbeats 2000000 in
theorem law_ShaTells (w : World) (l : List (List UInt8)) (ad : Option Addr) (cap : Nat) (hl : l.length ≤ 140737488351232) (hs : ∀ x ∈ l, x.length ≤ 140737488351232) (hv : Sl w (.slice ad l.length cap) (l.map strV)) :
    Calls Try.prog 3 #[.slice ad l.length cap] w fun e w' => e = .returned (.bool true) ∧ Ext w w' := by
  have G0 := Lib.hid works02
  have HS := Lib.hid hs
  have V := Lib.hid hv
  clear hs
  go_enter Try.func3, Try.ntmps3
  go_wp2
  go_loopw [3, 4] (fun o i wr => ∃ k : Nat, k ≤ l.length ∧ k ≤ 100 ∧ i = .int .i64 k ∧ o = .string (bs (l.take k).flatten) ∧ (l.take k).flatten.length ≤ 2048 ∧ wr = w) (fun _ i _ => 100 - (intOf i).toNat)
  case atStart => exact ⟨0, by omega, by omega, rfl, rfl, by simp, rfl⟩
  case round =>
    obtain ⟨k, hk, hk1, rfl, rfl, hfl, rfl⟩ := hrel
    by_cases hlt : k < l.length
    · by_cases h1 : k < 100
      · obtain ⟨b, off, ha, hbl, hcell⟩ := V.out.str k hlt
        subst ha
        have hll := HS.out _ (List.getElem_mem hlt)
        have hst := flat_take l k hlt
        have HST := Lib.hid hst
        have s5 : ¬ 9223372036854775807 < (l.take k).flatten.length + l[k].length := by omega
        have hfs : (l.take (k + 1)).flatten.length = (l.take k).flatten.length + l[k].length := by rw [hst, List.length_append]
        have HFS := Lib.hid hfs
        generalize l[k] = x at *
        generalize (l.take k).flatten = q at *
        clear hst hfs hv
        by_cases h2 : 2048 < q.length + x.length
        · go_wp2_with (go_at_call 11; with_reducible refine (G0.out _).mono ?_; rintro e w9 ⟨rfl, hx9⟩)
          go_returns
          exact ⟨rfl, hx9⟩
        · have h2' : q.length + x.length ≤ 2048 := by omega
          clear h2
          go_wp2
          go_roundw
          case measure => simp [intOf]; omega
          case rel => exact ⟨k + 1, by omega, by omega, by go_num, by rw [HST.out], by rw [HFS.out]; omega, trivial⟩
      · obtain rfl : k = 100 := by omega
        by_cases h3 : 100 < l.length
        · go_wp2_with (go_at_call 11; with_reducible refine (G0.out _).mono ?_; rintro e w9 ⟨rfl, hx9⟩)
          go_returns
          exact ⟨rfl, hx9⟩
        · omega
    · obtain rfl : k = l.length := by omega
      rw [List.take_length] at hfl ⊢
      have GO := Lib.hid (Of_any wr l ad cap (by omega) (by omega) hv)
      have GR := Lib.hid (fun w => RefOf_any l.flatten w (by omega))
      generalize shaS l.flatten = z at GO GR
      generalize l.flatten = q at *
      clear hv
      go_wp2_with (first
        | (go_at_call 12; with_reducible refine GO.out.mono ?_; rintro e w1 ⟨rfl, hx1⟩)
        | (go_at_call 13; with_reducible refine (GR.out _).mono ?_; rintro e w2 ⟨rfl, hx2⟩)
        | (go_at_call 11; with_reducible refine (G0.out _).mono ?_; rintro e w9 ⟨rfl, hx9⟩))
      go_returns
      exact ⟨rfl, hx1.trans (hx2.trans hx9)⟩
end Go.Proofs.Ytipdgiikifmjdaa
