import Derived.Test.YtclekllaikcglaaGreatGatherE
import Derived.Test.YtclekllaikcglaaGreatRing

/- Layer 15: a barrier as it lies in memory; what it is asked. -/
namespace Go.Proofs.YtclekllaikcglaaGreat
open Go Go.RowKit
def BCell (w : World) (b : Nat) (p : Option Addr) (st : Nat) (hd : List UInt8) (q : Option Addr) (bg : Nat) : Prop :=
 w.heap[b]? = some (.cells #[.pointer p, .int .u8 (st : Int), .string (bs hd), .pointer q, .pointer (some ⟨bg, 0, none⟩)] 73)
section
variable {w : World} {b : Nat} {p q : Option Addr} {st : Nat} {hd : List UInt8} {bg : Nat}
theorem BCell.c0 (h : BCell w b p st hd q bg) : w.cell? ⟨b, 0, none⟩ = some (.pointer p) := cell_blk (i := 0) h rfl
theorem BCell.c1 (h : BCell w b p st hd q bg) : w.cell? ⟨b, 1, none⟩ = some (.int .u8 (st : Int)) := cell_blk (i := 1) h rfl
theorem BCell.c2 (h : BCell w b p st hd q bg) : w.cell? ⟨b, 2, none⟩ = some (.string (bs hd)) := cell_blk (i := 2) h rfl
theorem BCell.c3 (h : BCell w b p st hd q bg) : w.cell? ⟨b, 3, none⟩ = some (.pointer q) := cell_blk (i := 3) h rfl
theorem BCell.c4 (h : BCell w b p st hd q bg) : w.cell? ⟨b, 4, none⟩ = some (.pointer (some ⟨bg, 0, none⟩)) := cell_blk (i := 4) h rfl
theorem BCell.fz (h : BCell w b p st hd q bg) (i : Nat) : w.frozen? ⟨b, i, none⟩ = false := frozen_blk h
end
set_option maxRecDepth 100000 in
theorem bar_made {w : World} {b : Nat} {p q : Option Addr} {st : Nat} {hd : List UInt8} {bg : Nat} (h : BCell w b p st hd q bg) :
  Calls Tryz.prog 39 #[.pointer (some ⟨b, 0, none⟩)] w fun e w' => e = .returned (.bool true) ∧ w = w' := by
 have c4 := h.c4
 clear h
 go_enter Tryz.func39, Tryz.ntmps39
 go_wp2
 go_returns
 exact ⟨rfl, rfl⟩
set_option maxRecDepth 100000 in
theorem bar_is {w : World} {b : Nat} {p q : Option Addr} {st : Nat} {hd : List UInt8} {bg : Nat} (h : BCell w b p st hd q bg) (k : Nat) :
  Calls Tryz.prog 27 #[.pointer (some ⟨b, 0, none⟩), .int .u8 (k : Int)] w fun e w' => e = .returned (.int .i64 (if st = k then 0 else 151)) ∧ w = w' := by
 have G := Lib.hid (bar_made h)
 have c1 := h.c1
 clear h
 by_cases hk : st = k
 ·have hne : ((st : Int) != (k : Int)) = false := by simp; omega
  rw [if_pos hk]
  clear hk
  go_enter Tryz.func27, Tryz.ntmps27
  go_wp2_with (go_at_call 39; with_reducible refine G.out.mono ?_; rintro e w' ⟨rfl, rfl⟩)
  go_returns
  exact ⟨rfl, rfl⟩
 ·have hne : ((st : Int) != (k : Int)) = true := by simp; omega
  rw [if_neg hk]
  clear hk
  go_enter Tryz.func27, Tryz.ntmps27
  go_wp2_with (go_at_call 39; with_reducible refine G.out.mono ?_; rintro e w' ⟨rfl, rfl⟩)
  go_returns
  exact ⟨rfl, rfl⟩
theorem bar_is0 {w : World} {b : Nat} {p q : Option Addr} {st : Nat} {hd : List UInt8} {bg : Nat} (h : BCell w b p st hd q bg) : Calls Tryz.prog 27 #[.pointer (some ⟨b, 0, none⟩), .int .u8 0] w fun e w' => e = .returned (.int .i64 (if st = 0 then 0 else 151)) ∧ w = w' := bar_is h 0
theorem bar_is1 {w : World} {b : Nat} {p q : Option Addr} {st : Nat} {hd : List UInt8} {bg : Nat} (h : BCell w b p st hd q bg) : Calls Tryz.prog 27 #[.pointer (some ⟨b, 0, none⟩), .int .u8 1] w fun e w' => e = .returned (.int .i64 (if st = 1 then 0 else 151)) ∧ w = w' := bar_is h 1
theorem bar_is2 {w : World} {b : Nat} {p q : Option Addr} {st : Nat} {hd : List UInt8} {bg : Nat} (h : BCell w b p st hd q bg) : Calls Tryz.prog 27 #[.pointer (some ⟨b, 0, none⟩), .int .u8 2] w fun e w' => e = .returned (.int .i64 (if st = 2 then 0 else 151)) ∧ w = w' := bar_is h 2
set_option maxRecDepth 100000 in
theorem bar_open {w : World} {b : Nat} {p q : Option Addr} {st : Nat} {hd : List UInt8} {bg : Nat} (h : BCell w b p st hd q bg) :
  Calls Tryz.prog 40 #[.pointer (some ⟨b, 0, none⟩)] w fun e w' => e = .returned (.int .i64 (if st = 1 then 150 else if st = 2 then 0 else 151)) ∧ w = w' := by
 have g1 := bar_is1 h
 have g2 := bar_is2 h
 by_cases h1 : st = 1
 ·rw [if_pos h1] at g1 ⊢
  have G1 := Lib.hid g1
  clear g1 g2 h h1
  go_enter Tryz.func40, Tryz.ntmps40
  go_wp2_with (go_at_call 27; with_reducible refine G1.out.mono ?_; rintro e w' ⟨rfl, rfl⟩)
  go_returns
  exact ⟨rfl, rfl⟩
 ·rw [if_neg h1] at g1 ⊢
  have G1 := Lib.hid g1
  generalize (if st = 2 then (0 : Int) else 151) = v at *
  have G2 := Lib.hid g2
  clear g1 g2 h h1
  go_enter Tryz.func40, Tryz.ntmps40
  go_wp2_with (first
   | (go_at_call 27; with_reducible refine G1.out.mono ?_; rintro e w' ⟨rfl, rfl⟩)
   | (go_at_call 27; with_reducible refine G2.out.mono ?_; rintro e w' ⟨rfl, rfl⟩))
  go_returns
  exact ⟨rfl, rfl⟩
set_option maxRecDepth 100000 in
theorem bar_Header {w : World} {b : Nat} {p q : Option Addr} {st : Nat} {hd : List UInt8} {bg : Nat} (h : BCell w b p st hd q bg) :
  Calls Tryz.prog 18 #[.pointer (some ⟨b, 0, none⟩)] w fun e w' => e = .returned (.string (bs hd)) ∧ w = w' := by
 have G := Lib.hid (bar_made h)
 have c2 := h.c2
 clear h
 go_enter Tryz.func18, Tryz.ntmps18
 go_wp2_with (go_at_call 39; with_reducible refine G.out.mono ?_; rintro e w' ⟨rfl, rfl⟩)
 go_returns
 exact ⟨rfl, rfl⟩
set_option maxRecDepth 100000 in
theorem bar_State {w : World} {b : Nat} {p q : Option Addr} {st : Nat} {hd : List UInt8} {bg : Nat} (h : BCell w b p st hd q bg) :
  Calls Tryz.prog 15 #[.pointer (some ⟨b, 0, none⟩)] w fun e w' => e = .returned (.int .u8 (st : Int)) ∧ w = w' := by
 have G := Lib.hid (bar_made h)
 have c1 := h.c1
 clear h
 go_enter Tryz.func15, Tryz.ntmps15
 go_wp2_with (go_at_call 39; with_reducible refine G.out.mono ?_; rintro e w' ⟨rfl, rfl⟩)
 go_returns
 exact ⟨rfl, rfl⟩
set_option maxRecDepth 100000 in
theorem bar_New (w : World) : Calls Tryz.prog 8 #[] w fun e w' => ∃ b bg bm, e = .returned (.pointer (some ⟨b, 0, none⟩)) ∧ BCell w' b none 0 [] none bg ∧ PG w' bg bm 0 [] ∧ w.heap.size ≤ b ∧ w.heap.size ≤ bg ∧ w.heap.size ≤ bm ∧ b ≠ bg ∧ b ≠ bm ∧ Ext w w' := by
 have G := Lib.hid (New_any w)
 go_enter Tryz.func8, Tryz.ntmps8
 go_wp2_with (go_at_call 26; with_reducible refine G.out.mono ?_; rintro e w1 ⟨bg, bm, rfl, h1, h2, h3, h4, h5, hx⟩; have H1 := Lib.hid (And.intro h1 (And.intro h2 (And.intro h3 h4))); have H5 := Lib.hid h5; have HX := Lib.hid hx; clear h1 h2 h3 h4 h5 hx)
 go_returns
 obtain ⟨h1, h2, h3, h4⟩ := H1.out
 have hs := HX.out.size
 exact ⟨w1.heap.size, bg, bm, rfl, heap_alloc_new _ _, H5.out.ext ((Ext.refl _).alloc _), hs, h1, h2, by omega, by omega, HX.out.alloc _⟩
end Go.Proofs.YtclekllaikcglaaGreat
