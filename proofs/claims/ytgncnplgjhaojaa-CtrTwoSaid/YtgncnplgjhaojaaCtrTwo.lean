/- The statement CtrTwo: for every input the law returns true, its arguments as they were. No conditions. -/
import Derived.Test.YtgncnplgjhaojaaRows
import Derived.Test.YtgncnplgjhaojaaRow
import Derived.Test.YtgncnplgjhaojaaLaw05b
namespace Go.Proofs.Ytgncnplgjhaojaa.ctrTwo
open Go Go.ChangeShapes Go.WideShapes Go.ChangeAt Go.RowKit
open Go.ChangeMaps (open_string shut_string)
set_option maxRecDepth 100000 in
theorem lifted (os : Os) (started : os.Started) (H : Type) (enc : TypeId × Value → H) :
    ReturnsInHanded {} Try.checked os 10 .any (Rows.ctrTwoSpec.pre6 enc Try.prog Try.f10 Rows.ctrTwoRow.domain false) (Rows.ctrTwoSpec.post enc Try.prog Try.f10 false true false false) := by
  refine law_lifted (C := Try.checked) (by kernel_rfl) started (by kernel_rfl) Try.func10
    (ChangeSpec.witness6 (enc := enc) (C := Try.checked) false ⟨#[], #[.string ByteArray.empty, .string ByteArray.empty, .string ByteArray.empty, .string ByteArray.empty, .int .u32 0, .int .u32 0, .string ByteArray.empty], []⟩ 8 (by kernel_rfl) (by kernel_rfl) (by kernel_rfl) (by kernel_rfl))
    rfl (fun ds h => ?_) rfl (tb := 4) (by kernel_rfl) (by kernel_rfl) (by kernel_rfl) ?_
  · match ds, h with
    | [_, _, _, _, _, _, _], _ => rfl
  intro W base args ds p hval hA hsz hlt
  rw [Try.params10] at hA hval hsz
  obtain ⟨v0, vs0, d0, ds0, p0, q0, hargs, rfl, rfl, h0, r0⟩ := trodAll_cons hA
  obtain ⟨v1, vs1, d1, ds1, p1, q1, rfl, rfl, rfl, h1, r1⟩ := trodAll_cons r0
  obtain ⟨v2, vs2, d2, ds2, p2, q2, rfl, rfl, rfl, h2, r2⟩ := trodAll_cons r1
  obtain ⟨v3, vs3, d3, ds3, p3, q3, rfl, rfl, rfl, h3, r3⟩ := trodAll_cons r2
  obtain ⟨v4, vs4, d4, ds4, p4, q4, rfl, rfl, rfl, h4, r4⟩ := trodAll_cons r3
  obtain ⟨v5, vs5, d5, ds5, p5, q5, rfl, rfl, rfl, h5, r5⟩ := trodAll_cons r4
  obtain ⟨v6, vs6, d6, ds6, p6, q6, rfl, rfl, rfl, h6, r6⟩ := trodAll_cons r5
  obtain ⟨rfl, rfl, rfl⟩ := trodAll_nil r6
  obtain rfl : args = #[v0, v1, v2, v3, v4, v5, v6] := by cases args; simp_all
  obtain ⟨a, rfl, rfl, rfl, w0⟩ := open_string (by kernel_rfl : Try.prog.underlying 9 = some .string) (hval 0 9 v0 rfl rfl) h0
  have z0 := sized_string hsz (j := 0) rfl rfl
  obtain ⟨a, rfl⟩ := bs_ex a
  obtain ⟨b, rfl, rfl, rfl, w1⟩ := open_string (by kernel_rfl : Try.prog.underlying 9 = some .string) (hval 1 9 v1 rfl rfl) h1
  have z1 := sized_string hsz (j := 1) rfl rfl
  obtain ⟨b, rfl⟩ := bs_ex b
  obtain ⟨m, rfl, rfl, rfl, w2⟩ := open_string (by kernel_rfl : Try.prog.underlying 9 = some .string) (hval 2 9 v2 rfl rfl) h2
  have z2 := sized_string hsz (j := 2) rfl rfl
  obtain ⟨m, rfl⟩ := bs_ex m
  obtain ⟨n, rfl, rfl, rfl, w3⟩ := open_string (by kernel_rfl : Try.prog.underlying 9 = some .string) (hval 3 9 v3 rfl rfl) h3
  have z3 := sized_string hsz (j := 3) rfl rfl
  obtain ⟨n, rfl⟩ := bs_ex n
  obtain ⟨fr, rfl, rfl, rfl, w4⟩ := open_int (by kernel_rfl : Try.prog.underlying 42 = some (.int .u32)) (hval 4 42 v4 rfl rfl) h4
  obtain ⟨fr, rfl⟩ := nat_u32 w4
  obtain ⟨fo, rfl, rfl, rfl, w5⟩ := open_int (by kernel_rfl : Try.prog.underlying 42 = some (.int .u32)) (hval 5 42 v5 rfl rfl) h5
  obtain ⟨fo, rfl⟩ := nat_u32 w5
  obtain ⟨s, rfl, rfl, rfl, w6⟩ := open_string (by kernel_rfl : Try.prog.underlying 9 = some .string) (hval 6 9 v6 rfl rfl) h6
  have z6 := sized_string hsz (j := 6) rfl rfl
  obtain ⟨s, rfl⟩ := bs_ex s
  exact law_CtrTwo W a b m n fr fo s (by rw [bs_dataList] at z0; exact z0) (by rw [bs_dataList] at z1; exact z1) (by rw [bs_dataList] at z2; exact z2) (by rw [bs_dataList] at z3; exact z3) (by rw [bs_dataList] at z6; exact z6)
theorem proved : Rows.CtrTwoSaid :=
  OpenClaim.holds_of_wide 10 Try.f10 rfl rfl rfl rfl rfl rfl rfl ⟨rfl, rfl, rfl, rfl, rfl⟩ rfl rfl rfl rfl rfl (by kernel_rfl) Try.func10 (by kernel_rfl)
    (of_decide_eq_true (by kernel_rfl)) (by unfold Func.isWrapper; first | (rw [if_pos (by decide +kernel)]; kernel_rfl) | (rw [if_neg (by decide +kernel)]; exact ⟨rfl, rfl⟩))
    (fun os started H enc _ => lifted os started H enc)
#print axioms proved
end Go.Proofs.Ytgncnplgjhaojaa.ctrTwo
