/- The statement CtrBack: for every input the law returns true, its arguments as they were. No conditions. -/
import Derived.Test.YtgncnplgjhaojaaRows
import Derived.Test.YtgncnplgjhaojaaRow
import Derived.Test.YtgncnplgjhaojaaLaw05
namespace Go.Proofs.Ytgncnplgjhaojaa.ctrBack
open Go Go.ChangeShapes Go.WideShapes Go.ChangeAt Go.RowKit
open Go.ChangeMaps (open_string shut_string)
set_option maxRecDepth 100000 in
theorem lifted (os : Os) (started : os.Started) (H : Type) (enc : TypeId × Value → H) :
    ReturnsInHanded {} Try.checked os 8 .any (Rows.ctrBackSpec.pre6 enc Try.prog Try.f8 Rows.ctrBackRow.domain false) (Rows.ctrBackSpec.post enc Try.prog Try.f8 false true false false) := by
  refine law_lifted (C := Try.checked) (by kernel_rfl) started (by kernel_rfl) Try.func8
    (ChangeSpec.witness6 (enc := enc) (C := Try.checked) false ⟨#[], #[.string ByteArray.empty, .string ByteArray.empty, .int .u32 0, .string ByteArray.empty, .int .u8 0], []⟩ 8 (by kernel_rfl) (by kernel_rfl) (by kernel_rfl) (by kernel_rfl))
    rfl (fun ds h => ?_) rfl (tb := 4) (by kernel_rfl) (by kernel_rfl) (by kernel_rfl) ?_
  · match ds, h with
    | [_, _, _, _, _], _ => rfl
  intro W base args ds p hval hA hsz hlt
  rw [Try.params8] at hA hval hsz
  obtain ⟨v0, vs0, d0, ds0, p0, q0, hargs, rfl, rfl, h0, r0⟩ := trodAll_cons hA
  obtain ⟨v1, vs1, d1, ds1, p1, q1, rfl, rfl, rfl, h1, r1⟩ := trodAll_cons r0
  obtain ⟨v2, vs2, d2, ds2, p2, q2, rfl, rfl, rfl, h2, r2⟩ := trodAll_cons r1
  obtain ⟨v3, vs3, d3, ds3, p3, q3, rfl, rfl, rfl, h3, r3⟩ := trodAll_cons r2
  obtain ⟨v4, vs4, d4, ds4, p4, q4, rfl, rfl, rfl, h4, r4⟩ := trodAll_cons r3
  obtain ⟨rfl, rfl, rfl⟩ := trodAll_nil r4
  obtain rfl : args = #[v0, v1, v2, v3, v4] := by cases args; simp_all
  obtain ⟨key, rfl, rfl, rfl, w0⟩ := open_string (by kernel_rfl : Try.prog.underlying 9 = some .string) (hval 0 9 v0 rfl rfl) h0
  have z0 := sized_string hsz (j := 0) rfl rfl
  obtain ⟨key, rfl⟩ := bs_ex key
  obtain ⟨nonce, rfl, rfl, rfl, w1⟩ := open_string (by kernel_rfl : Try.prog.underlying 9 = some .string) (hval 1 9 v1 rfl rfl) h1
  have z1 := sized_string hsz (j := 1) rfl rfl
  obtain ⟨nonce, rfl⟩ := bs_ex nonce
  obtain ⟨fr, rfl, rfl, rfl, w2⟩ := open_int (by kernel_rfl : Try.prog.underlying 42 = some (.int .u32)) (hval 2 42 v2 rfl rfl) h2
  obtain ⟨fr, rfl⟩ := nat_u32 w2
  obtain ⟨s, rfl, rfl, rfl, w3⟩ := open_string (by kernel_rfl : Try.prog.underlying 9 = some .string) (hval 3 9 v3 rfl rfl) h3
  have z3 := sized_string hsz (j := 3) rfl rfl
  obtain ⟨s, rfl⟩ := bs_ex s
  obtain ⟨cut, rfl, rfl, rfl, w4⟩ := open_int (by kernel_rfl : Try.prog.underlying 5 = some (.int .u8)) (hval 4 5 v4 rfl rfl) h4
  obtain ⟨cut, rfl⟩ := nat_u8 w4
  exact law_CtrBack W key nonce fr s cut (by rw [bs_dataList] at z0; exact z0) (by rw [bs_dataList] at z1; exact z1) (by rw [bs_dataList] at z3; exact z3)
theorem proved : Rows.CtrBackSaid :=
  OpenClaim.holds_of_wide 8 Try.f8 rfl rfl rfl rfl rfl rfl rfl ⟨rfl, rfl, rfl, rfl, rfl⟩ rfl rfl rfl rfl rfl (by kernel_rfl) Try.func8 (by kernel_rfl)
    (of_decide_eq_true (by kernel_rfl)) (by unfold Func.isWrapper; first | (rw [if_pos (by decide +kernel)]; kernel_rfl) | (rw [if_neg (by decide +kernel)]; exact ⟨rfl, rfl⟩))
    (fun os started H enc _ => lifted os started H enc)
#print axioms proved
end Go.Proofs.Ytgncnplgjhaojaa.ctrBack
