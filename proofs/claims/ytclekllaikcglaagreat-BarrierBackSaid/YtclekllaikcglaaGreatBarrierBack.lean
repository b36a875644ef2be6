/- The statement BarrierBack: for every input the law returns true, its arguments as they were. No conditions. -/
import Derived.Test.YtclekllaikcglaaGreatRows
import Derived.Test.YtclekllaikcglaaGreatBase
import Derived.Test.YtclekllaikcglaaGreatBarJ
namespace Go.Proofs.YtclekllaikcglaaGreat.barrierBack
open Go Go.ChangeShapes Go.WideShapes Go.ChangeAt Go.RowKit
open Go.ChangeMaps (open_string shut_string)
set_option maxRecDepth 100000 in
theorem lifted (os : Os) (started : os.Started) (H : Type) (enc : TypeId × Value → H) :
    ReturnsInHanded {} Tryz.checked os 4 .any (Rows.barrierBackSpec.pre6 enc Tryz.prog Tryz.f4 Rows.barrierBackRow.domain false) (Rows.barrierBackSpec.post enc Tryz.prog Tryz.f4 false true false false) := by
  refine law_lifted (C := Tryz.checked) (by kernel_rfl) started (by kernel_rfl) Tryz.func4
    (ChangeSpec.witness6 (enc := enc) (C := Tryz.checked) false ⟨#[], #[.string ByteArray.empty, .string ByteArray.empty, .string ByteArray.empty, .int .u8 0, .slice none 0 0, .slice none 0 0, .bool false], []⟩ 8 (by kernel_rfl) (by kernel_rfl) (by kernel_rfl) (by kernel_rfl))
    rfl (fun ds h => ?_) rfl (tb := 4) (by kernel_rfl) (by kernel_rfl) (by kernel_rfl) ?_
  · match ds, h with
    | [_, _, _, _, _, _, _], _ => rfl
  intro W base args ds p hval hA hsz hlt
  rw [Tryz.params4] at hA hval hsz
  obtain ⟨v0, vs0, d0, ds0, p0, q0, hargs, rfl, rfl, h0, r0⟩ := trodAll_cons hA
  obtain ⟨v1, vs1, d1, ds1, p1, q1, rfl, rfl, rfl, h1, r1⟩ := trodAll_cons r0
  obtain ⟨v2, vs2, d2, ds2, p2, q2, rfl, rfl, rfl, h2, r2⟩ := trodAll_cons r1
  obtain ⟨v3, vs3, d3, ds3, p3, q3, rfl, rfl, rfl, h3, r3⟩ := trodAll_cons r2
  obtain ⟨v4, vs4, d4, ds4, p4, q4, rfl, rfl, rfl, h4, r4⟩ := trodAll_cons r3
  obtain ⟨v5, vs5, d5, ds5, p5, q5, rfl, rfl, rfl, h5, r5⟩ := trodAll_cons r4
  obtain ⟨v6, vs6, d6, ds6, p6, q6, rfl, rfl, rfl, h6, r6⟩ := trodAll_cons r5
  obtain ⟨rfl, rfl, rfl⟩ := trodAll_nil r6
  obtain rfl : args = #[v0, v1, v2, v3, v4, v5, v6] := by cases args; simp_all
  obtain ⟨a, rfl, rfl, rfl, w0⟩ := open_string (by kernel_rfl : Tryz.prog.underlying 9 = some .string) (hval 0 9 v0 rfl rfl) h0
  have z0 := sized_string hsz (j := 0) rfl rfl
  obtain ⟨a, rfl⟩ := bs_ex a
  obtain ⟨b, rfl, rfl, rfl, w1⟩ := open_string (by kernel_rfl : Tryz.prog.underlying 9 = some .string) (hval 1 9 v1 rfl rfl) h1
  have z1 := sized_string hsz (j := 1) rfl rfl
  obtain ⟨b, rfl⟩ := bs_ex b
  obtain ⟨text, rfl, rfl, rfl, w2⟩ := open_string (by kernel_rfl : Tryz.prog.underlying 9 = some .string) (hval 2 9 v2 rfl rfl) h2
  have z2 := sized_string hsz (j := 2) rfl rfl
  obtain ⟨text, rfl⟩ := bs_ex text
  obtain ⟨n, rfl, rfl, rfl, w3⟩ := open_int (by kernel_rfl : Tryz.prog.underlying 5 = some (.int .u8)) (hval 3 5 v3 rfl rfl) h3
  obtain ⟨n, rfl⟩ := nat_u8 w3
  obtain ⟨order, ad4, cap4, rfl, sl4, len4⟩ := u8s_in (by kernel_rfl : Tryz.prog.underlying 27 = some (.slice 5)) (by kernel_rfl) (by kernel_rfl) (by kernel_rfl) (hval 4 27 v4 rfl rfl) h4 (fun x hx => hlt x (by simp [hx])) hsz (j := 4) rfl rfl
  obtain ⟨keys, ad5, cap5, rfl, sl5, len5, el5⟩ := strs_in (by kernel_rfl : Tryz.prog.underlying 25 = some (.slice 9)) (by kernel_rfl) (by kernel_rfl) (by kernel_rfl) (hval 5 25 v5 rfl rfl) h5 (fun x hx => hlt x (by simp [hx])) hsz (j := 5) rfl rfl
  obtain ⟨anew, rfl, rfl, rfl⟩ := open_bool (by kernel_rfl : Tryz.prog.underlying 4 = some .bool) (hval 6 4 v6 rfl rfl) h6
  exact law_BarrierBack W a b text n order ad4 cap4 keys ad5 cap5 anew (by rw [bs_dataList] at z0; exact z0) (by rw [bs_dataList] at z1; exact z1) (by rw [bs_dataList] at z2; exact z2) (by omega) sl4 (by omega) el5 sl5
theorem proved : Rows.BarrierBackSaid :=
  OpenClaim.holds_of_wide 4 Tryz.f4 rfl rfl rfl rfl rfl rfl rfl ⟨rfl, rfl, rfl, rfl, rfl⟩ rfl rfl rfl rfl rfl (by kernel_rfl) Tryz.func4 (by kernel_rfl)
    (of_decide_eq_true (by kernel_rfl)) (by unfold Func.isWrapper; first | (rw [if_pos (by decide +kernel)]; kernel_rfl) | (rw [if_neg (by decide +kernel)]; exact ⟨rfl, rfl⟩))
    (fun os started H enc _ => lifted os started H enc)
#print axioms proved
end Go.Proofs.YtclekllaikcglaaGreat.barrierBack
