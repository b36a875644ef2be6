/- The statement BarrierRetire: for every input the law returns true, its arguments as they were. No conditions. -/
import Derived.Test.YtclekllaikcglaaGreatRows
import Derived.Test.YtclekllaikcglaaGreatBase
import Derived.Test.YtclekllaikcglaaGreatLaw15c
namespace Go.Proofs.YtclekllaikcglaaGreat.barrierRetire
open Go Go.ChangeShapes Go.WideShapes Go.ChangeAt Go.RowKit
open Go.ChangeMaps (open_string shut_string)
set_option maxRecDepth 100000 in
theorem lifted (os : Os) (started : os.Started) (H : Type) (enc : TypeId × Value → H) :
    ReturnsInHanded {} Tryz.checked os 5 .any (Rows.barrierRetireSpec.pre6 enc Tryz.prog Tryz.f5 Rows.barrierRetireRow.domain false) (Rows.barrierRetireSpec.post enc Tryz.prog Tryz.f5 false true false false) := by
  refine law_lifted (C := Tryz.checked) (by kernel_rfl) started (by kernel_rfl) Tryz.func5
    (ChangeSpec.witness6 (enc := enc) (C := Tryz.checked) false ⟨#[], #[.string ByteArray.empty, .slice none 0 0, .slice none 0 0, .string ByteArray.empty], []⟩ 8 (by kernel_rfl) (by kernel_rfl) (by kernel_rfl) (by kernel_rfl))
    rfl (fun ds h => ?_) rfl (tb := 4) (by kernel_rfl) (by kernel_rfl) (by kernel_rfl) ?_
  · match ds, h with
    | [_, _, _, _], _ => rfl
  intro W base args ds p hval hA hsz hlt
  rw [Tryz.params5] at hA hval hsz
  obtain ⟨v0, vs0, d0, ds0, p0, q0, hargs, rfl, rfl, h0, r0⟩ := trodAll_cons hA
  obtain ⟨v1, vs1, d1, ds1, p1, q1, rfl, rfl, rfl, h1, r1⟩ := trodAll_cons r0
  obtain ⟨v2, vs2, d2, ds2, p2, q2, rfl, rfl, rfl, h2, r2⟩ := trodAll_cons r1
  obtain ⟨v3, vs3, d3, ds3, p3, q3, rfl, rfl, rfl, h3, r3⟩ := trodAll_cons r2
  obtain ⟨rfl, rfl, rfl⟩ := trodAll_nil r3
  obtain rfl : args = #[v0, v1, v2, v3] := by cases args; simp_all
  obtain ⟨a, rfl, rfl, rfl, w0⟩ := open_string (by kernel_rfl : Tryz.prog.underlying 9 = some .string) (hval 0 9 v0 rfl rfl) h0
  have z0 := sized_string hsz (j := 0) rfl rfl
  obtain ⟨a, rfl⟩ := bs_ex a
  obtain ⟨keys, ad1, cap1, rfl, sl1, len1, el1⟩ := strs_in (by kernel_rfl : Tryz.prog.underlying 25 = some (.slice 9)) (by kernel_rfl) (by kernel_rfl) (by kernel_rfl) (hval 1 25 v1 rfl rfl) h1 (fun x hx => hlt x (by simp [hx])) hsz (j := 1) rfl rfl
  obtain ⟨gone, ad2, cap2, rfl, sl2, len2⟩ := u8s_in (by kernel_rfl : Tryz.prog.underlying 27 = some (.slice 5)) (by kernel_rfl) (by kernel_rfl) (by kernel_rfl) (hval 2 27 v2 rfl rfl) h2 (fun x hx => hlt x (by simp [hx])) hsz (j := 2) rfl rfl
  obtain ⟨text, rfl, rfl, rfl, w3⟩ := open_string (by kernel_rfl : Tryz.prog.underlying 9 = some .string) (hval 3 9 v3 rfl rfl) h3
  have z3 := sized_string hsz (j := 3) rfl rfl
  obtain ⟨text, rfl⟩ := bs_ex text
  exact law_BarrierRetire W a keys ad1 cap1 gone ad2 cap2 text (by rw [bs_dataList] at z0; exact z0) (by omega) el1 sl1 (by omega) sl2 (by rw [bs_dataList] at z3; exact z3)
theorem proved : Rows.BarrierRetireSaid :=
  OpenClaim.holds_of_wide 5 Tryz.f5 rfl rfl rfl rfl rfl rfl rfl ⟨rfl, rfl, rfl, rfl, rfl⟩ rfl rfl rfl rfl rfl (by kernel_rfl) Tryz.func5 (by kernel_rfl)
    (of_decide_eq_true (by kernel_rfl)) (by unfold Func.isWrapper; first | (rw [if_pos (by decide +kernel)]; kernel_rfl) | (rw [if_neg (by decide +kernel)]; exact ⟨rfl, rfl⟩))
    (fun os started H enc _ => lifted os started H enc)
#print axioms proved
end Go.Proofs.YtclekllaikcglaaGreat.barrierRetire
