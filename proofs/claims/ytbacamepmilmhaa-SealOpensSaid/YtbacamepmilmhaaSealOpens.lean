/- The statement SealOpens: for every input the law returns true, its arguments as they were. No conditions. -/
import Derived.Test.YtbacamepmilmhaaRows
import Derived.Test.YtbacamepmilmhaaBase
import Derived.Test.YtbacamepmilmhaaLaw14g
namespace Go.Proofs.Ytbacamepmilmhaa.sealOpens
open Go Go.ChangeShapes Go.WideShapes Go.ChangeAt Go.RowKit
open Go.ChangeMaps (open_string shut_string)
set_option maxRecDepth 100000 in
theorem lifted (os : Os) (started : os.Started) (H : Type) (enc : TypeId × Value → H) :
    ReturnsInHanded {} Try.checked os 4 .any (Rows.sealOpensSpec.pre6 enc Try.prog Try.f4 Rows.sealOpensRow.domain false) (Rows.sealOpensSpec.post enc Try.prog Try.f4 false true false false) := by
  refine law_lifted (C := Try.checked) (by kernel_rfl) started (by kernel_rfl) Try.func4
    (ChangeSpec.witness6 (enc := enc) (C := Try.checked) false ⟨#[], #[.slice none 0 0, .string ByteArray.empty, .string ByteArray.empty, .int .u64 0, .int .u64 0, .string ByteArray.empty, .slice none 0 0, .slice none 0 0, .string ByteArray.empty, .bool false], []⟩ 8 (by kernel_rfl) (by kernel_rfl) (by kernel_rfl) (by kernel_rfl))
    rfl (fun ds h => ?_) rfl (tb := 4) (by kernel_rfl) (by kernel_rfl) (by kernel_rfl) ?_
  · match ds, h with
    | [_, _, _, _, _, _, _, _, _, _], _ => rfl
  intro W base args ds p hval hA hsz hlt
  rw [Try.params4] at hA hval hsz
  obtain ⟨v0, vs0, d0, ds0, p0, q0, hargs, rfl, rfl, h0, r0⟩ := trodAll_cons hA
  obtain ⟨v1, vs1, d1, ds1, p1, q1, rfl, rfl, rfl, h1, r1⟩ := trodAll_cons r0
  obtain ⟨v2, vs2, d2, ds2, p2, q2, rfl, rfl, rfl, h2, r2⟩ := trodAll_cons r1
  obtain ⟨v3, vs3, d3, ds3, p3, q3, rfl, rfl, rfl, h3, r3⟩ := trodAll_cons r2
  obtain ⟨v4, vs4, d4, ds4, p4, q4, rfl, rfl, rfl, h4, r4⟩ := trodAll_cons r3
  obtain ⟨v5, vs5, d5, ds5, p5, q5, rfl, rfl, rfl, h5, r5⟩ := trodAll_cons r4
  obtain ⟨v6, vs6, d6, ds6, p6, q6, rfl, rfl, rfl, h6, r6⟩ := trodAll_cons r5
  obtain ⟨v7, vs7, d7, ds7, p7, q7, rfl, rfl, rfl, h7, r7⟩ := trodAll_cons r6
  obtain ⟨v8, vs8, d8, ds8, p8, q8, rfl, rfl, rfl, h8, r8⟩ := trodAll_cons r7
  obtain ⟨v9, vs9, d9, ds9, p9, q9, rfl, rfl, rfl, h9, r9⟩ := trodAll_cons r8
  obtain ⟨rfl, rfl, rfl⟩ := trodAll_nil r9
  obtain rfl : args = #[v0, v1, v2, v3, v4, v5, v6, v7, v8, v9] := by cases args; simp_all
  obtain ⟨keys, ad0, cap0, rfl, sl0, len0, el0⟩ := strs_in (by kernel_rfl : Try.prog.underlying 22 = some (.slice 9)) (by kernel_rfl) (by kernel_rfl) (by kernel_rfl) (hval 0 22 v0 rfl rfl) h0 (fun x hx => hlt x (by simp [hx])) hsz (j := 0) rfl rfl
  obtain ⟨path, rfl, rfl, rfl, w1⟩ := open_string (by kernel_rfl : Try.prog.underlying 9 = some .string) (hval 1 9 v1 rfl rfl) h1
  have z1 := sized_string hsz (j := 1) rfl rfl
  obtain ⟨path, rfl⟩ := bs_ex path
  obtain ⟨other, rfl, rfl, rfl, w2⟩ := open_string (by kernel_rfl : Try.prog.underlying 9 = some .string) (hval 2 9 v2 rfl rfl) h2
  have z2 := sized_string hsz (j := 2) rfl rfl
  obtain ⟨other, rfl⟩ := bs_ex other
  obtain ⟨ver, rfl, rfl, rfl, w3⟩ := open_int (by kernel_rfl : Try.prog.underlying 23 = some (.int .u64)) (hval 3 23 v3 rfl rfl) h3
  obtain ⟨ver, rfl, u3⟩ := nat_u64 w3
  obtain ⟨want, rfl, rfl, rfl, w4⟩ := open_int (by kernel_rfl : Try.prog.underlying 23 = some (.int .u64)) (hval 4 23 v4 rfl rfl) h4
  obtain ⟨want, rfl, u4⟩ := nat_u64 w4
  obtain ⟨text, rfl, rfl, rfl, w5⟩ := open_string (by kernel_rfl : Try.prog.underlying 9 = some .string) (hval 5 9 v5 rfl rfl) h5
  have z5 := sized_string hsz (j := 5) rfl rfl
  obtain ⟨text, rfl⟩ := bs_ex text
  obtain ⟨ix, ad6, cap6, rfl, sl6, len6, el6⟩ := u16s_in (by kernel_rfl : Try.prog.underlying 40 = some (.slice 42)) (by kernel_rfl) (by kernel_rfl) (by kernel_rfl) (hval 6 40 v6 rfl rfl) h6 (fun x hx => hlt x (by simp [hx])) hsz (j := 6) rfl rfl
  obtain ⟨nb, ad7, cap7, rfl, sl7, len7⟩ := u8s_in (by kernel_rfl : Try.prog.underlying 41 = some (.slice 5)) (by kernel_rfl) (by kernel_rfl) (by kernel_rfl) (hval 7 41 v7 rfl rfl) h7 (fun x hx => hlt x (by simp [hx])) hsz (j := 7) rfl rfl
  obtain ⟨s, rfl, rfl, rfl, w8⟩ := open_string (by kernel_rfl : Try.prog.underlying 9 = some .string) (hval 8 9 v8 rfl rfl) h8
  have z8 := sized_string hsz (j := 8) rfl rfl
  obtain ⟨s, rfl⟩ := bs_ex s
  obtain ⟨own, rfl, rfl, rfl⟩ := open_bool (by kernel_rfl : Try.prog.underlying 4 = some .bool) (hval 9 4 v9 rfl rfl) h9
  exact law_SealOpens W keys ad0 cap0 path other ver want text ix ad6 cap6 nb ad7 cap7 s own (by omega) el0 sl0 (by rw [bs_dataList] at z1; exact z1) (by rw [bs_dataList] at z2; exact z2) u3 u4 (by rw [bs_dataList] at z5; exact z5) (by omega) el6 sl6 (by omega) sl7 (by rw [bs_dataList] at z8; exact z8)
theorem proved : Rows.SealOpensSaid :=
  OpenClaim.holds_of_wide 4 Try.f4 rfl rfl rfl rfl rfl rfl rfl ⟨rfl, rfl, rfl, rfl, rfl⟩ rfl rfl rfl rfl rfl (by kernel_rfl) Try.func4 (by kernel_rfl)
    (of_decide_eq_true (by kernel_rfl)) (by unfold Func.isWrapper; first | (rw [if_pos (by decide +kernel)]; kernel_rfl) | (rw [if_neg (by decide +kernel)]; exact ⟨rfl, rfl⟩))
    (fun os started H enc _ => lifted os started H enc)
#print axioms proved
end Go.Proofs.Ytbacamepmilmhaa.sealOpens
