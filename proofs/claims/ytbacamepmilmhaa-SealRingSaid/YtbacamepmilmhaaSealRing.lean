/- The statement SealRing: for every input the law returns true, its arguments as they were. No conditions. -/
import Derived.Test.YtbacamepmilmhaaRows
import Derived.Test.YtbacamepmilmhaaBase
import Derived.Test.YtbacamepmilmhaaLaw14j
namespace Go.Proofs.Ytbacamepmilmhaa.sealRing
open Go Go.ChangeShapes Go.WideShapes Go.ChangeAt Go.RowKit
open Go.ChangeMaps (open_string shut_string)
set_option maxRecDepth 100000 in
theorem lifted (os : Os) (started : os.Started) (H : Type) (enc : TypeId × Value → H) :
    ReturnsInHanded {} Try.checked os 11 .any (Rows.sealRingSpec.pre6 enc Try.prog Try.f11 Rows.sealRingRow.domain false) (Rows.sealRingSpec.post enc Try.prog Try.f11 false true false false) := by
  refine law_lifted (C := Try.checked) (by kernel_rfl) started (by kernel_rfl) Try.func11
    (ChangeSpec.witness6 (enc := enc) (C := Try.checked) false ⟨#[], #[.slice none 0 0, .string ByteArray.empty, .int .u64 0, .string ByteArray.empty, .string ByteArray.empty, .string ByteArray.empty], []⟩ 8 (by kernel_rfl) (by kernel_rfl) (by kernel_rfl) (by kernel_rfl))
    rfl (fun ds h => ?_) rfl (tb := 4) (by kernel_rfl) (by kernel_rfl) (by kernel_rfl) ?_
  · match ds, h with
    | [_, _, _, _, _, _], _ => rfl
  intro W base args ds p hval hA hsz hlt
  rw [Try.params11] at hA hval hsz
  obtain ⟨v0, vs0, d0, ds0, p0, q0, hargs, rfl, rfl, h0, r0⟩ := trodAll_cons hA
  obtain ⟨v1, vs1, d1, ds1, p1, q1, rfl, rfl, rfl, h1, r1⟩ := trodAll_cons r0
  obtain ⟨v2, vs2, d2, ds2, p2, q2, rfl, rfl, rfl, h2, r2⟩ := trodAll_cons r1
  obtain ⟨v3, vs3, d3, ds3, p3, q3, rfl, rfl, rfl, h3, r3⟩ := trodAll_cons r2
  obtain ⟨v4, vs4, d4, ds4, p4, q4, rfl, rfl, rfl, h4, r4⟩ := trodAll_cons r3
  obtain ⟨v5, vs5, d5, ds5, p5, q5, rfl, rfl, rfl, h5, r5⟩ := trodAll_cons r4
  obtain ⟨rfl, rfl, rfl⟩ := trodAll_nil r5
  obtain rfl : args = #[v0, v1, v2, v3, v4, v5] := by cases args; simp_all
  obtain ⟨keys, ad0, cap0, rfl, sl0, len0, el0⟩ := strs_in (by kernel_rfl : Try.prog.underlying 22 = some (.slice 9)) (by kernel_rfl) (by kernel_rfl) (by kernel_rfl) (hval 0 22 v0 rfl rfl) h0 (fun x hx => hlt x (by simp [hx])) hsz (j := 0) rfl rfl
  obtain ⟨path, rfl, rfl, rfl, w1⟩ := open_string (by kernel_rfl : Try.prog.underlying 9 = some .string) (hval 1 9 v1 rfl rfl) h1
  have z1 := sized_string hsz (j := 1) rfl rfl
  obtain ⟨path, rfl⟩ := bs_ex path
  obtain ⟨ver, rfl, rfl, rfl, w2⟩ := open_int (by kernel_rfl : Try.prog.underlying 23 = some (.int .u64)) (hval 2 23 v2 rfl rfl) h2
  obtain ⟨ver, rfl, u2⟩ := nat_u64 w2
  obtain ⟨n, rfl, rfl, rfl, w3⟩ := open_string (by kernel_rfl : Try.prog.underlying 9 = some .string) (hval 3 9 v3 rfl rfl) h3
  have z3 := sized_string hsz (j := 3) rfl rfl
  obtain ⟨n, rfl⟩ := bs_ex n
  obtain ⟨a, rfl, rfl, rfl, w4⟩ := open_string (by kernel_rfl : Try.prog.underlying 9 = some .string) (hval 4 9 v4 rfl rfl) h4
  have z4 := sized_string hsz (j := 4) rfl rfl
  obtain ⟨a, rfl⟩ := bs_ex a
  obtain ⟨b, rfl, rfl, rfl, w5⟩ := open_string (by kernel_rfl : Try.prog.underlying 9 = some .string) (hval 5 9 v5 rfl rfl) h5
  have z5 := sized_string hsz (j := 5) rfl rfl
  obtain ⟨b, rfl⟩ := bs_ex b
  exact law_SealRing W keys ad0 cap0 path ver n a b (by omega) el0 sl0 (by rw [bs_dataList] at z1; exact z1) u2 (by rw [bs_dataList] at z3; exact z3) (by rw [bs_dataList] at z4; exact z4) (by rw [bs_dataList] at z5; exact z5)
theorem proved : Rows.SealRingSaid :=
  OpenClaim.holds_of_wide 11 Try.f11 rfl rfl rfl rfl rfl rfl rfl ⟨rfl, rfl, rfl, rfl, rfl⟩ rfl rfl rfl rfl rfl (by kernel_rfl) Try.func11 (by kernel_rfl)
    (of_decide_eq_true (by kernel_rfl)) (by unfold Func.isWrapper; first | (rw [if_pos (by decide +kernel)]; kernel_rfl) | (rw [if_neg (by decide +kernel)]; exact ⟨rfl, rfl⟩))
    (fun os started H enc _ => lifted os started H enc)
#print axioms proved
end Go.Proofs.Ytbacamepmilmhaa.sealRing
