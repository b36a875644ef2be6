/- The statement SealBack: for every input the law returns true, its arguments as they were. No conditions. -/
import Derived.Test.YtbacamepmilmhaaRows
import Derived.Test.YtbacamepmilmhaaBase
import Derived.Test.YtbacamepmilmhaaLaw14h
namespace Go.Proofs.Ytbacamepmilmhaa.sealBack
open Go Go.ChangeShapes Go.WideShapes Go.ChangeAt Go.RowKit
open Go.ChangeMaps (open_string shut_string)
set_option maxRecDepth 100000 in
theorem lifted (os : Os) (started : os.Started) (H : Type) (enc : TypeId × Value → H) :
    ReturnsInHanded {} Try.checked os 6 .any (Rows.sealBackSpec.pre6 enc Try.prog Try.f6 Rows.sealBackRow.domain false) (Rows.sealBackSpec.post enc Try.prog Try.f6 false true false false) := by
  refine law_lifted (C := Try.checked) (by kernel_rfl) started (by kernel_rfl) Try.func6
    (ChangeSpec.witness6 (enc := enc) (C := Try.checked) false ⟨#[], #[.slice none 0 0, .slice none 0 0, .string ByteArray.empty, .int .u64 0, .string ByteArray.empty, .string ByteArray.empty, .string ByteArray.empty], []⟩ 8 (by kernel_rfl) (by kernel_rfl) (by kernel_rfl) (by kernel_rfl))
    rfl (fun ds h => ?_) rfl (tb := 4) (by kernel_rfl) (by kernel_rfl) (by kernel_rfl) ?_
  · match ds, h with
    | [_, _, _, _, _, _, _], _ => rfl
  intro W base args ds p hval hA hsz hlt
  rw [Try.params6] at hA hval hsz
  obtain ⟨v0, vs0, d0, ds0, p0, q0, hargs, rfl, rfl, h0, r0⟩ := trodAll_cons hA
  obtain ⟨v1, vs1, d1, ds1, p1, q1, rfl, rfl, rfl, h1, r1⟩ := trodAll_cons r0
  obtain ⟨v2, vs2, d2, ds2, p2, q2, rfl, rfl, rfl, h2, r2⟩ := trodAll_cons r1
  obtain ⟨v3, vs3, d3, ds3, p3, q3, rfl, rfl, rfl, h3, r3⟩ := trodAll_cons r2
  obtain ⟨v4, vs4, d4, ds4, p4, q4, rfl, rfl, rfl, h4, r4⟩ := trodAll_cons r3
  obtain ⟨v5, vs5, d5, ds5, p5, q5, rfl, rfl, rfl, h5, r5⟩ := trodAll_cons r4
  obtain ⟨v6, vs6, d6, ds6, p6, q6, rfl, rfl, rfl, h6, r6⟩ := trodAll_cons r5
  obtain ⟨rfl, rfl, rfl⟩ := trodAll_nil r6
  obtain rfl : args = #[v0, v1, v2, v3, v4, v5, v6] := by cases args; simp_all
  obtain ⟨keys, ad0, cap0, rfl, sl0, len0, el0⟩ := strs_in (by kernel_rfl : Try.prog.underlying 22 = some (.slice 9)) (by kernel_rfl) (by kernel_rfl) (by kernel_rfl) (hval 0 22 v0 rfl rfl) h0 (fun x hx => hlt x (by simp [hx])) hsz (j := 0) rfl rfl
  obtain ⟨more, ad1, cap1, rfl, sl1, len1, el1⟩ := strs_in (by kernel_rfl : Try.prog.underlying 22 = some (.slice 9)) (by kernel_rfl) (by kernel_rfl) (by kernel_rfl) (hval 1 22 v1 rfl rfl) h1 (fun x hx => hlt x (by simp [hx])) hsz (j := 1) rfl rfl
  obtain ⟨path, rfl, rfl, rfl, w2⟩ := open_string (by kernel_rfl : Try.prog.underlying 9 = some .string) (hval 2 9 v2 rfl rfl) h2
  have z2 := sized_string hsz (j := 2) rfl rfl
  obtain ⟨path, rfl⟩ := bs_ex path
  obtain ⟨ver, rfl, rfl, rfl, w3⟩ := open_int (by kernel_rfl : Try.prog.underlying 23 = some (.int .u64)) (hval 3 23 v3 rfl rfl) h3
  obtain ⟨ver, rfl, u3⟩ := nat_u64 w3
  obtain ⟨one, rfl, rfl, rfl, w4⟩ := open_string (by kernel_rfl : Try.prog.underlying 9 = some .string) (hval 4 9 v4 rfl rfl) h4
  have z4 := sized_string hsz (j := 4) rfl rfl
  obtain ⟨one, rfl⟩ := bs_ex one
  obtain ⟨two, rfl, rfl, rfl, w5⟩ := open_string (by kernel_rfl : Try.prog.underlying 9 = some .string) (hval 5 9 v5 rfl rfl) h5
  have z5 := sized_string hsz (j := 5) rfl rfl
  obtain ⟨two, rfl⟩ := bs_ex two
  obtain ⟨text, rfl, rfl, rfl, w6⟩ := open_string (by kernel_rfl : Try.prog.underlying 9 = some .string) (hval 6 9 v6 rfl rfl) h6
  have z6 := sized_string hsz (j := 6) rfl rfl
  obtain ⟨text, rfl⟩ := bs_ex text
  exact law_SealBack W keys ad0 cap0 more ad1 cap1 path ver one two text (by omega) el0 sl0 (by omega) el1 sl1 (by rw [bs_dataList] at z2; exact z2) u3 (by rw [bs_dataList] at z4; exact z4) (by rw [bs_dataList] at z5; exact z5) (by rw [bs_dataList] at z6; exact z6)
theorem proved : Rows.SealBackSaid :=
  OpenClaim.holds_of_wide 6 Try.f6 rfl rfl rfl rfl rfl rfl rfl ⟨rfl, rfl, rfl, rfl, rfl⟩ rfl rfl rfl rfl rfl (by kernel_rfl) Try.func6 (by kernel_rfl)
    (of_decide_eq_true (by kernel_rfl)) (by unfold Func.isWrapper; first | (rw [if_pos (by decide +kernel)]; kernel_rfl) | (rw [if_neg (by decide +kernel)]; exact ⟨rfl, rfl⟩))
    (fun os started H enc _ => lifted os started H enc)
#print axioms proved
end Go.Proofs.Ytbacamepmilmhaa.sealBack
