/- The statement CtrTells: for every input the law returns true, its arguments as they were. No conditions. -/
import Derived.Test.YtgncnplgjhaojaaRows
import Derived.Test.YtgncnplgjhaojaaRow
import Derived.Test.YtgncnplgjhaojaaLaw05c
namespace Go.Proofs.Ytgncnplgjhaojaa.ctrTells
open Go Go.ChangeShapes Go.WideShapes Go.ChangeAt Go.RowKit
open Go.ChangeMaps (open_string shut_string)
set_option maxRecDepth 100000 in
theorem lifted (os : Os) (started : os.Started) (H : Type) (enc : TypeId × Value → H) :
    ReturnsInHanded {} Try.checked os 7 .any (Rows.ctrTellsSpec.pre6 enc Try.prog Try.f7 Rows.ctrTellsRow.domain false) (Rows.ctrTellsSpec.post enc Try.prog Try.f7 false true false false) := by
  refine law_lifted (C := Try.checked) (by kernel_rfl) started (by kernel_rfl) Try.func7
    (ChangeSpec.witness6 (enc := enc) (C := Try.checked) false ⟨#[], #[.string ByteArray.empty, .string ByteArray.empty, .bool false, .int .u32 0, .string ByteArray.empty, .int .i64 0], []⟩ 8 (by kernel_rfl) (by kernel_rfl) (by kernel_rfl) (by kernel_rfl))
    rfl (fun ds h => ?_) rfl (tb := 4) (by kernel_rfl) (by kernel_rfl) (by kernel_rfl) ?_
  · match ds, h with
    | [_, _, _, _, _, _], _ => rfl
  intro W base args ds p hval hA hsz hlt
  rw [Try.params7] at hA hval hsz
  obtain ⟨v0, vs0, d0, ds0, p0, q0, hargs, rfl, rfl, h0, r0⟩ := trodAll_cons hA
  obtain ⟨v1, vs1, d1, ds1, p1, q1, rfl, rfl, rfl, h1, r1⟩ := trodAll_cons r0
  obtain ⟨v2, vs2, d2, ds2, p2, q2, rfl, rfl, rfl, h2, r2⟩ := trodAll_cons r1
  obtain ⟨v3, vs3, d3, ds3, p3, q3, rfl, rfl, rfl, h3, r3⟩ := trodAll_cons r2
  obtain ⟨v4, vs4, d4, ds4, p4, q4, rfl, rfl, rfl, h4, r4⟩ := trodAll_cons r3
  obtain ⟨v5, vs5, d5, ds5, p5, q5, rfl, rfl, rfl, h5, r5⟩ := trodAll_cons r4
  obtain ⟨rfl, rfl, rfl⟩ := trodAll_nil r5
  obtain rfl : args = #[v0, v1, v2, v3, v4, v5] := by cases args; simp_all
  obtain ⟨key, rfl, rfl, rfl, w0⟩ := open_string (by kernel_rfl : Try.prog.underlying 9 = some .string) (hval 0 9 v0 rfl rfl) h0
  have z0 := sized_string hsz (j := 0) rfl rfl
  obtain ⟨key, rfl⟩ := bs_ex key
  obtain ⟨nonce, rfl, rfl, rfl, w1⟩ := open_string (by kernel_rfl : Try.prog.underlying 9 = some .string) (hval 1 9 v1 rfl rfl) h1
  have z1 := sized_string hsz (j := 1) rfl rfl
  obtain ⟨nonce, rfl⟩ := bs_ex nonce
  obtain ⟨fit, rfl, rfl, rfl⟩ := open_bool (by kernel_rfl : Try.prog.underlying 4 = some .bool) (hval 2 4 v2 rfl rfl) h2
  obtain ⟨fr, rfl, rfl, rfl, w3⟩ := open_int (by kernel_rfl : Try.prog.underlying 42 = some (.int .u32)) (hval 3 42 v3 rfl rfl) h3
  obtain ⟨fr, rfl⟩ := nat_u32 w3
  obtain ⟨s, rfl, rfl, rfl, w4⟩ := open_string (by kernel_rfl : Try.prog.underlying 9 = some .string) (hval 4 9 v4 rfl rfl) h4
  have z4 := sized_string hsz (j := 4) rfl rfl
  obtain ⟨s, rfl⟩ := bs_ex s
  obtain ⟨n, rfl, rfl, rfl, w5⟩ := open_int (by kernel_rfl : Try.prog.underlying 3 = some (.int .i64)) (hval 5 3 v5 rfl rfl) h5
  have u5 := rng_i64 w5
  exact law_CtrTells W key nonce fit fr s n (by rw [bs_dataList] at z0; exact z0) (by rw [bs_dataList] at z1; exact z1) (by rw [bs_dataList] at z4; exact z4) u5
theorem proved : Rows.CtrTellsSaid :=
  OpenClaim.holds_of_wide 7 Try.f7 rfl rfl rfl rfl rfl rfl rfl ⟨rfl, rfl, rfl, rfl, rfl⟩ rfl rfl rfl rfl rfl (by kernel_rfl) Try.func7 (by kernel_rfl)
    (of_decide_eq_true (by kernel_rfl)) (by unfold Func.isWrapper; first | (rw [if_pos (by decide +kernel)]; kernel_rfl) | (rw [if_neg (by decide +kernel)]; exact ⟨rfl, rfl⟩))
    (fun os started H enc _ => lifted os started H enc)
#print axioms proved
end Go.Proofs.Ytgncnplgjhaojaa.ctrTells
