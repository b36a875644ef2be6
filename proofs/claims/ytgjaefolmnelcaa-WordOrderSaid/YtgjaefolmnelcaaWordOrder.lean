/- The statement WordOrder: for every input the law returns true, its arguments as they were. No conditions. -/
import Derived.Test.YtgjaefolmnelcaaRows
import Derived.Test.YtgjaefolmnelcaaRow
import Derived.Test.YtgjaefolmnelcaaLaw01
namespace Go.Proofs.Ytgjaefolmnelcaa.wordOrder
open Go Go.ChangeShapes Go.WideShapes Go.ChangeAt Go.RowKit
open Go.ChangeMaps (open_string shut_string)
set_option maxRecDepth 100000 in
theorem lifted (os : Os) (started : os.Started) (H : Type) (enc : TypeId × Value → H) :
    ReturnsInHanded {} Try.checked os 8 .any (Rows.wordOrderSpec.pre6 enc Try.prog Try.f8 Rows.wordOrderRow.domain false) (Rows.wordOrderSpec.post enc Try.prog Try.f8 false true false false) := by
  refine law_lifted (C := Try.checked) (by kernel_rfl) started (by kernel_rfl) Try.func8
    (ChangeSpec.witness6 (enc := enc) (C := Try.checked) false ⟨#[], #[.int .u64 0, .int .u64 0, .string ByteArray.empty, .string ByteArray.empty, .string ByteArray.empty], []⟩ 8 (by kernel_rfl) (by kernel_rfl) (by kernel_rfl) (by kernel_rfl))
    rfl (fun ds h => ?_) rfl (tb := 4) (by kernel_rfl) (by kernel_rfl) (by kernel_rfl) ?_
  · match ds, h with
    | [_, _, _, _, _], _ => rfl
  intro W base args ds p hval hA hsz hlt
  rw [Try.params8] at hA hval hsz
  obtain ⟨v0, vs0, d0, ds0, p0, q0, hargs, rfl, rfl, h0, r0⟩ := trodAll_cons hA
  obtain ⟨v1, vs1, d1, ds1, p1, q1, rfl, rfl, rfl, h1, r1⟩ := trodAll_cons r0
  obtain ⟨v2, vs2, d2, ds2, p2, q2, rfl, rfl, rfl, h2, r2⟩ := trodAll_cons r1
  obtain ⟨v3, vs3, d3, ds3, p3, q3, rfl, rfl, rfl, h3, r3⟩ := trodAll_cons r2
  obtain ⟨v4, vs4, d4, ds4, p4, q4, rfl, rfl, rfl, h4, r4⟩ := trodAll_cons r3
  obtain ⟨rfl, rfl, rfl⟩ := trodAll_nil r4
  obtain rfl : args = #[v0, v1, v2, v3, v4] := by cases args; simp_all
  obtain ⟨a, rfl, rfl, rfl, w0⟩ := open_int (by kernel_rfl : Try.prog.underlying 22 = some (.int .u64)) (hval 0 22 v0 rfl rfl) h0
  obtain ⟨a, rfl, u0⟩ := nat_u64 w0
  obtain ⟨b, rfl, rfl, rfl, w1⟩ := open_int (by kernel_rfl : Try.prog.underlying 22 = some (.int .u64)) (hval 1 22 v1 rfl rfl) h1
  obtain ⟨b, rfl, u1⟩ := nat_u64 w1
  obtain ⟨x, rfl, rfl, rfl, w2⟩ := open_string (by kernel_rfl : Try.prog.underlying 9 = some .string) (hval 2 9 v2 rfl rfl) h2
  have z2 := sized_string hsz (j := 2) rfl rfl
  obtain ⟨x, rfl⟩ := bs_ex x
  obtain ⟨y, rfl, rfl, rfl, w3⟩ := open_string (by kernel_rfl : Try.prog.underlying 9 = some .string) (hval 3 9 v3 rfl rfl) h3
  have z3 := sized_string hsz (j := 3) rfl rfl
  obtain ⟨y, rfl⟩ := bs_ex y
  obtain ⟨z, rfl, rfl, rfl, w4⟩ := open_string (by kernel_rfl : Try.prog.underlying 9 = some .string) (hval 4 9 v4 rfl rfl) h4
  have z4 := sized_string hsz (j := 4) rfl rfl
  obtain ⟨z, rfl⟩ := bs_ex z
  exact law_WordOrder W a b x y z u0 u1 (by rw [bs_dataList] at z2; exact z2) (by rw [bs_dataList] at z3; exact z3) (by rw [bs_dataList] at z4; exact z4)
theorem proved : Rows.WordOrderSaid :=
  OpenClaim.holds_of_wide 8 Try.f8 rfl rfl rfl rfl rfl rfl rfl ⟨rfl, rfl, rfl, rfl, rfl⟩ rfl rfl rfl rfl rfl (by kernel_rfl) Try.func8 (by kernel_rfl)
    (of_decide_eq_true (by kernel_rfl)) (by unfold Func.isWrapper; first | (rw [if_pos (by decide +kernel)]; kernel_rfl) | (rw [if_neg (by decide +kernel)]; exact ⟨rfl, rfl⟩))
    (fun os started H enc _ => lifted os started H enc)
#print axioms proved
end Go.Proofs.Ytgjaefolmnelcaa.wordOrder
