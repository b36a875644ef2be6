/- The statement WordTurns: for every input the law returns true, its arguments as they were. No conditions. -/
import Derived.Test.YtgjaefolmnelcaaRows
import Derived.Test.YtgjaefolmnelcaaRow
import Derived.Test.YtgjaefolmnelcaaLaw01
namespace Go.Proofs.Ytgjaefolmnelcaa.wordTurns
open Go Go.ChangeShapes Go.WideShapes Go.ChangeAt Go.RowKit
open Go.ChangeMaps (open_string shut_string)
set_option maxRecDepth 100000 in
theorem lifted (os : Os) (started : os.Started) (H : Type) (enc : TypeId × Value → H) :
    ReturnsInHanded {} Try.checked os 5 .any (Rows.wordTurnsSpec.pre6 enc Try.prog Try.f5 Rows.wordTurnsRow.domain false) (Rows.wordTurnsSpec.post enc Try.prog Try.f5 false true false false) := by
  refine law_lifted (C := Try.checked) (by kernel_rfl) started (by kernel_rfl) Try.func5
    (ChangeSpec.witness6 (enc := enc) (C := Try.checked) false ⟨#[], #[.int .u32 0, .int .i64 0, .string ByteArray.empty, .string ByteArray.empty], []⟩ 8 (by kernel_rfl) (by kernel_rfl) (by kernel_rfl) (by kernel_rfl))
    rfl (fun ds h => ?_) rfl (tb := 4) (by kernel_rfl) (by kernel_rfl) (by kernel_rfl) ?_
  · match ds, h with
    | [_, _, _, _], _ => rfl
  intro W base args ds p hval hA hsz hlt
  rw [Try.params5] at hA hval hsz
  obtain ⟨v0, vs0, d0, ds0, p0, q0, hargs, rfl, rfl, h0, r0⟩ := trodAll_cons hA
  obtain ⟨v1, vs1, d1, ds1, p1, q1, rfl, rfl, rfl, h1, r1⟩ := trodAll_cons r0
  obtain ⟨v2, vs2, d2, ds2, p2, q2, rfl, rfl, rfl, h2, r2⟩ := trodAll_cons r1
  obtain ⟨v3, vs3, d3, ds3, p3, q3, rfl, rfl, rfl, h3, r3⟩ := trodAll_cons r2
  obtain ⟨rfl, rfl, rfl⟩ := trodAll_nil r3
  obtain rfl : args = #[v0, v1, v2, v3] := by cases args; simp_all
  obtain ⟨n, rfl, rfl, rfl, w0⟩ := open_int (by kernel_rfl : Try.prog.underlying 25 = some (.int .u32)) (hval 0 25 v0 rfl rfl) h0
  obtain ⟨n, rfl⟩ := nat_u32 w0
  obtain ⟨by_, rfl, rfl, rfl, w1⟩ := open_int (by kernel_rfl : Try.prog.underlying 3 = some (.int .i64)) (hval 1 3 v1 rfl rfl) h1
  have u1 := rng_i64 w1
  obtain ⟨a, rfl, rfl, rfl, w2⟩ := open_string (by kernel_rfl : Try.prog.underlying 9 = some .string) (hval 2 9 v2 rfl rfl) h2
  have z2 := sized_string hsz (j := 2) rfl rfl
  obtain ⟨a, rfl⟩ := bs_ex a
  obtain ⟨b, rfl, rfl, rfl, w3⟩ := open_string (by kernel_rfl : Try.prog.underlying 9 = some .string) (hval 3 9 v3 rfl rfl) h3
  have z3 := sized_string hsz (j := 3) rfl rfl
  obtain ⟨b, rfl⟩ := bs_ex b
  exact law_WordTurns W n by_ a b u1 (by rw [bs_dataList] at z2; exact z2) (by rw [bs_dataList] at z3; exact z3)
theorem proved : Rows.WordTurnsSaid :=
  OpenClaim.holds_of_wide 5 Try.f5 rfl rfl rfl rfl rfl rfl rfl ⟨rfl, rfl, rfl, rfl, rfl⟩ rfl rfl rfl rfl rfl (by kernel_rfl) Try.func5 (by kernel_rfl)
    (of_decide_eq_true (by kernel_rfl)) (by unfold Func.isWrapper; first | (rw [if_pos (by decide +kernel)]; kernel_rfl) | (rw [if_neg (by decide +kernel)]; exact ⟨rfl, rfl⟩))
    (fun os started H enc _ => lifted os started H enc)
#print axioms proved
end Go.Proofs.Ytgjaefolmnelcaa.wordTurns
