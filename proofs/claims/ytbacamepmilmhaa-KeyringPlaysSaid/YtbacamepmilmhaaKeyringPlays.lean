/- The statement KeyringPlays: for every input the law returns true, its arguments as they were. No conditions. -/
import Derived.Test.YtbacamepmilmhaaRows
import Derived.Test.YtbacamepmilmhaaBase
import Derived.Test.YtbacamepmilmhaaLaw13e
namespace Go.Proofs.Ytbacamepmilmhaa.keyringPlays
open Go Go.ChangeShapes Go.WideShapes Go.ChangeAt Go.RowKit
open Go.ChangeMaps (open_string shut_string)
set_option maxRecDepth 100000 in
theorem lifted (os : Os) (started : os.Started) (H : Type) (enc : TypeId × Value → H) :
    ReturnsInHanded {} Try.checked os 8 .any (Rows.keyringPlaysSpec.pre6 enc Try.prog Try.f8 Rows.keyringPlaysRow.domain false) (Rows.keyringPlaysSpec.post enc Try.prog Try.f8 false true false false) := by
  refine law_lifted (C := Try.checked) (by kernel_rfl) started (by kernel_rfl) Try.func8
    (ChangeSpec.witness6 (enc := enc) (C := Try.checked) false ⟨#[], #[.string ByteArray.empty, .slice none 0 0, .int .u32 0], []⟩ 8 (by kernel_rfl) (by kernel_rfl) (by kernel_rfl) (by kernel_rfl))
    rfl (fun ds h => ?_) rfl (tb := 4) (by kernel_rfl) (by kernel_rfl) (by kernel_rfl) ?_
  · match ds, h with
    | [_, _, _], _ => rfl
  intro W base args ds p hval hA hsz hlt
  rw [Try.params8] at hA hval hsz
  obtain ⟨v0, vs0, d0, ds0, p0, q0, hargs, rfl, rfl, h0, r0⟩ := trodAll_cons hA
  obtain ⟨v1, vs1, d1, ds1, p1, q1, rfl, rfl, rfl, h1, r1⟩ := trodAll_cons r0
  obtain ⟨v2, vs2, d2, ds2, p2, q2, rfl, rfl, rfl, h2, r2⟩ := trodAll_cons r1
  obtain ⟨rfl, rfl, rfl⟩ := trodAll_nil r2
  obtain rfl : args = #[v0, v1, v2] := by cases args; simp_all
  obtain ⟨a, rfl, rfl, rfl, w0⟩ := open_string (by kernel_rfl : Try.prog.underlying 9 = some .string) (hval 0 9 v0 rfl rfl) h0
  have z0 := sized_string hsz (j := 0) rfl rfl
  obtain ⟨a, rfl⟩ := bs_ex a
  obtain ⟨l, ad1, cap1, rfl, sl1, len1⟩ := acts_in (hval 1 50 v1 rfl rfl) h1 (fun x hx => hlt x (by simp [hx]))
  obtain ⟨ask, rfl, rfl, rfl, w2⟩ := open_int (by kernel_rfl : Try.prog.underlying 35 = some (.int .u32)) (hval 2 35 v2 rfl rfl) h2
  obtain ⟨ask, rfl⟩ := nat_u32 w2
  exact law_KeyringPlays W a l ad1 cap1 ask.toNat (by rw [bs_dataList] at z0; exact z0) len1 sl1
theorem proved : Rows.KeyringPlaysSaid :=
  OpenClaim.holds_of_wide 8 Try.f8 rfl rfl rfl rfl rfl rfl rfl ⟨rfl, rfl, rfl, rfl, rfl⟩ rfl rfl rfl rfl rfl (by kernel_rfl) Try.func8 (by kernel_rfl)
    (of_decide_eq_true (by kernel_rfl)) (by unfold Func.isWrapper; first | (rw [if_pos (by decide +kernel)]; kernel_rfl) | (rw [if_neg (by decide +kernel)]; exact ⟨rfl, rfl⟩))
    (fun os started H enc _ => lifted os started H enc)
#print axioms proved
end Go.Proofs.Ytbacamepmilmhaa.keyringPlays
