/- The statement KeyringReads: for every input the law returns true, its arguments as they were. No conditions. -/
import Derived.Test.YtbacamepmilmhaaRows
import Derived.Test.YtbacamepmilmhaaBase
import Derived.Test.YtbacamepmilmhaaLaw13i
namespace Go.Proofs.Ytbacamepmilmhaa.keyringReads
open Go Go.ChangeShapes Go.WideShapes Go.ChangeAt Go.RowKit
open Go.ChangeMaps (open_string shut_string)
set_option maxRecDepth 100000 in
theorem lifted (os : Os) (started : os.Started) (H : Type) (enc : TypeId × Value → H) :
    ReturnsInHanded {} Try.checked os 9 .any (Rows.keyringReadsSpec.pre6 enc Try.prog Try.f9 Rows.keyringReadsRow.domain false) (Rows.keyringReadsSpec.post enc Try.prog Try.f9 false true false false) := by
  refine law_lifted (C := Try.checked) (by kernel_rfl) started (by kernel_rfl) Try.func9
    (ChangeSpec.witness6 (enc := enc) (C := Try.checked) false ⟨#[], #[.string ByteArray.empty, .slice none 0 0, .bool false, .int .u16 0, .int .u8 0], []⟩ 8 (by kernel_rfl) (by kernel_rfl) (by kernel_rfl) (by kernel_rfl))
    rfl (fun ds h => ?_) rfl (tb := 4) (by kernel_rfl) (by kernel_rfl) (by kernel_rfl) ?_
  · match ds, h with
    | [_, _, _, _, _], _ => rfl
  intro W base args ds p hval hA hsz hlt
  rw [Try.params9] at hA hval hsz
  obtain ⟨v0, vs0, d0, ds0, p0, q0, hargs, rfl, rfl, h0, r0⟩ := trodAll_cons hA
  obtain ⟨v1, vs1, d1, ds1, p1, q1, rfl, rfl, rfl, h1, r1⟩ := trodAll_cons r0
  obtain ⟨v2, vs2, d2, ds2, p2, q2, rfl, rfl, rfl, h2, r2⟩ := trodAll_cons r1
  obtain ⟨v3, vs3, d3, ds3, p3, q3, rfl, rfl, rfl, h3, r3⟩ := trodAll_cons r2
  obtain ⟨v4, vs4, d4, ds4, p4, q4, rfl, rfl, rfl, h4, r4⟩ := trodAll_cons r3
  obtain ⟨rfl, rfl, rfl⟩ := trodAll_nil r4
  obtain rfl : args = #[v0, v1, v2, v3, v4] := by cases args; simp_all
  obtain ⟨s, rfl, rfl, rfl, w0⟩ := open_string (by kernel_rfl : Try.prog.underlying 9 = some .string) (hval 0 9 v0 rfl rfl) h0
  have z0 := sized_string hsz (j := 0) rfl rfl
  obtain ⟨s, rfl⟩ := bs_ex s
  obtain ⟨l, ad1, cap1, rfl, sl1, len1⟩ := acts_in (hval 1 50 v1 rfl rfl) h1 (fun x hx => hlt x (by simp [hx]))
  obtain ⟨own, rfl, rfl, rfl⟩ := open_bool (by kernel_rfl : Try.prog.underlying 4 = some .bool) (hval 2 4 v2 rfl rfl) h2
  obtain ⟨pos, rfl, rfl, rfl, w3⟩ := open_int (by kernel_rfl : Try.prog.underlying 42 = some (.int .u16)) (hval 3 42 v3 rfl rfl) h3
  have u3 := nat_u16 w3
  obtain ⟨vl, rfl, rfl, rfl, w4⟩ := open_int (by kernel_rfl : Try.prog.underlying 5 = some (.int .u8)) (hval 4 5 v4 rfl rfl) h4
  obtain ⟨vl, rfl⟩ := nat_u8 w4
  exact law_KeyringReads W s l ad1 cap1 own pos vl (by rw [bs_dataList] at z0; exact z0) len1 sl1 u3
theorem proved : Rows.KeyringReadsSaid :=
  OpenClaim.holds_of_wide 9 Try.f9 rfl rfl rfl rfl rfl rfl rfl ⟨rfl, rfl, rfl, rfl, rfl⟩ rfl rfl rfl rfl rfl (by kernel_rfl) Try.func9 (by kernel_rfl)
    (of_decide_eq_true (by kernel_rfl)) (by unfold Func.isWrapper; first | (rw [if_pos (by decide +kernel)]; kernel_rfl) | (rw [if_neg (by decide +kernel)]; exact ⟨rfl, rfl⟩))
    (fun os started H enc _ => lifted os started H enc)
#print axioms proved
end Go.Proofs.Ytbacamepmilmhaa.keyringReads
