/- math/bits.Len at small numbers, and the sort's random numbers. -/
import Derived.Test.YtclekllaikcglaaGreatSort
import Derived.OpenShut
namespace Go.Proofs.YtclekllaikcglaaGreat
open Go Go.RowKit
set_option maxRecDepth 1000000 in
theorem len64 (x : Nat) (hx : x < 256) (w : World) : Calls Tryz.prog 140 #[.int .u64 (x : Int)] w fun e w' => e = .returned (.int .i64 ((Sort.bitsLen x : Nat) : Int)) ∧ w = w' := by
  have h1 : ¬ (4294967296 : Int) ≤ (x : Int) := by omega
  have h2 : ¬ (65536 : Int) ≤ (x : Int) := by omega
  have h3 : ¬ (256 : Int) ≤ (x : Int) := by omega
  have hw : IntKind.u8.wrap (x : Int) = (x : Int) := by rw [IntKind.wrap_u8]; omega
  go_enter Tryz.func140, Tryz.ntmps140
  go_wp2_with fail
  go_returns
  refine ⟨congrArg (fun n : Nat => Ending.returned (.int .i64 (n : Int))) ?_, rfl⟩
  clear hw h1 h2
  revert x
  decide +kernel
theorem lenU (x : Nat) (hx : x < 256) (w : World) : Calls Tryz.prog 118 #[.int .u64 (x : Int)] w fun e w' => e = .returned (.int .i64 ((Sort.bitsLen x : Nat) : Int)) ∧ w = w' := by
  have G := Lib.hid (len64 x hx w)
  go_enter Tryz.func118, Tryz.ntmps118
  go_wp2_with (go_at_call 140; (with_reducible refine G.out.mono ?_); rintro e w1 ⟨rfl, rfl⟩)
  go_returns
  exact ⟨rfl, rfl⟩
/-- A power of two that is not less, and not more than twice that. -/
theorem pow32 (x : Nat) (h1 : 1 ≤ x) (hx : x < 256) (w : World) : Calls Tryz.prog 153 #[.int .i64 (x : Int)] w fun e w' => e = .returned (.int .u64 ((2 ^ Sort.bitsLen x : Nat) : Int)) ∧ w = w' := by
  have G := Lib.hid (lenU x hx w)
  have hw : IntKind.u64.wrap (x : Int) = (x : Int) := by rw [IntKind.wrap_u64]; omega
  have hp := Sort.two_pow_bitsLen_le (n := x) (by omega)
  obtain ⟨l, hl⟩ : ∃ l, Sort.bitsLen x = l := ⟨_, rfl⟩
  have hl9 : l ≤ 8 := by
    rcases Nat.lt_or_ge 8 l with h | h
    · have := Nat.pow_le_pow_right (n := 2) (by omega) h
      rw [hl] at hp
      omega
    · exact h
  rw [hl] at G ⊢
  have hb : 2 ^ l ≤ 256 := Nat.pow_le_pow_right (n := 2) (by omega) hl9
  have hwp : IntKind.u64.wrap ((2 : Int) ^ l) = ((2 ^ l : Nat) : Int) := by
    have h2 : (2 : Int) ^ l = ((2 ^ l : Nat) : Int) := by simp
    rw [h2, IntKind.wrap_u64]
    clear h2 hp
    generalize 2 ^ l = z at *
    omega
  generalize 2 ^ l = z at *
  clear hp hl hb
  go_enter Tryz.func153, Tryz.ntmps153
  go_wp2_with (go_at_call 118; (with_reducible refine G.out.mono ?_); rintro e w1 ⟨rfl, rfl⟩)
  go_returns
  exact ⟨rfl, rfl⟩
theorem bits64 (op : BinOp) (x y : Int) : ∃ m : Nat, bits op .u64 x y = (m : Int) ∧ m < 18446744073709551616 := by
  have := wf_bits op .u64 x y
  simp only [Lit.wf, IntKind.min, IntKind.max, IntKind.signed, IntKind.bits] at this
  simp at this
  exact ⟨(bits op .u64 x y).toNat, by omega, by omega⟩
theorem step_rnd {w0 w : World} {rb v : Nat} (m : Nat) (hx : But [rb] w0 w) (hc : w.heap[rb]? = some (.cells #[.int .u64 v] 201)) :
    But [rb] w0 (w.setCell ⟨rb, 0, none⟩ (.int .u64 (m : Int))).drew ∧ (w.setCell ⟨rb, 0, none⟩ (.int .u64 (m : Int))).drew.heap[rb]? = some (.cells #[.int .u64 m] 201) :=
  ⟨(hx.setCell (.inl (by simp)) _).drew, by rw [heap_drew, heap_setCell_same (i := 0) _ hc]; rfl⟩
def NX (w0 : World) (rb : Nat) (e : Ending) (w' : World) : Prop := ∃ v : Nat, e = .returned (.int .u64 v) ∧ v < 18446744073709551616 ∧ But [rb] w0 w' ∧ w'.heap[rb]? = some (.cells #[.int .u64 v] 201)
set_option maxRecDepth 1000000 in
theorem next32 (rb v : Nat) (w : World) (hc : w.heap[rb]? = some (.cells #[.int .u64 v] 201)) :
    Calls Tryz.prog 154 #[.pointer (some ⟨rb, 0, none⟩)] w (NX w rb) := by
  have c1 := cell_blk (i := 0) hc rfl
  have f1 : w.frozen? ⟨rb, 0, none⟩ = false := frozen_blk hc
  have HX := Lib.hid (But.refl [rb] w)
  have HC := Lib.hid hc
  clear hc
  go_enter Tryz.func154, Tryz.ntmps154
  go_wp2
  go_region
  obtain ⟨v1, hv1, hl1⟩ := bits64 .xor (v : Int) (IntKind.u64.wrap ((v : Int) * 8192))
  rw [hv1]
  obtain ⟨hx, hc⟩ := step_rnd v1 HX.out HC.out
  clear hv1 HX HC c1 f1
  generalize (w.setCell ⟨rb, 0, none⟩ (.int .u64 (v1 : Int))).drew = w1 at *
  have c1 := cell_blk (i := 0) hc rfl
  have f1 : w1.frozen? ⟨rb, 0, none⟩ = false := frozen_blk hc
  have HX := Lib.hid hx
  have HC := Lib.hid hc
  clear hx hc
  go_wp2
  go_region
  obtain ⟨v2, hv2, hl2⟩ := bits64 .xor (v1 : Int) ((v1 : Int) / 128)
  rw [hv2]
  obtain ⟨hx, hc⟩ := step_rnd v2 HX.out HC.out
  clear hv2 HX HC c1 f1
  generalize (w1.setCell ⟨rb, 0, none⟩ (.int .u64 (v2 : Int))).drew = w2 at *
  have c1 := cell_blk (i := 0) hc rfl
  have f1 : w2.frozen? ⟨rb, 0, none⟩ = false := frozen_blk hc
  have HX := Lib.hid hx
  have HC := Lib.hid hc
  clear hx hc
  go_wp2
  go_region
  obtain ⟨v3, hv3, hl3⟩ := bits64 .xor (v2 : Int) (IntKind.u64.wrap ((v2 : Int) * 131072))
  rw [hv3]
  obtain ⟨hx, hc⟩ := step_rnd v3 HX.out HC.out
  clear hv3 HX HC c1 f1
  generalize (w2.setCell ⟨rb, 0, none⟩ (.int .u64 (v3 : Int))).drew = w3 at *
  have c1 := cell_blk (i := 0) hc rfl
  have HX := Lib.hid hx
  have HC := Lib.hid hc
  clear hx hc
  go_wp2
  go_returns
  exact ⟨v3, rfl, hl3, HX.out, HC.out⟩
end Go.Proofs.YtclekllaikcglaaGreat
