/- The statements of layer 6: the walk of ShareAll, its main road. -/
import Derived.Test.YtgjaefolmnelcaaLaw06e
namespace Go.Proofs.Ytgjaefolmnelcaa
open Go Go.RowKit

set_option maxRecDepth 100000 in
set_option maxHeartbeats 4000000 in
theorem all_good (w : World) (secret other : List UInt8) (l : List (List UInt8)) (ad : Option Addr) (cap : Nat) (last : UInt8) (hl : l.length ≤ 140737488351232) (hs : ∀ x ∈ l, x.length ≤ 140737488351232) (hv : Sl w (.slice ad l.length cap) (l.map strV))
    (hh : heavyB l = false) (h1 : 1 ≤ secret.length) (h2 : secret.length ≤ 64) (h3 : l.length < 16) (h4 : other.length ≤ 1024) :
    Calls Try.prog 10 #[.string (bs secret), .string (bs other), .slice ad l.length cap, .int .u8 last.toNat] w fun e w' => e = .returned (.bool true) ∧ Ext w w' := by
  have g1 := heavy06_any l ad cap w hl hs hv
  rw [hh] at g1
  have G0 := Lib.hid works06
  have G1 := Lib.hid g1
  have GN := Lib.hid New_any
  have G2 := Lib.hid (texts06_any l secret.length ad cap w (by omega) (by omega) hv)
  have hLl : (l.map (padTo secret.length)).length = l.length := by simp
  have hall := pad_all secret.length l
  have hkn := know l.length secret.length (last.toNat % (l.length + 1)) secret _ hLl h3 rfl h1 h2 hall (Nat.mod_lt _ (by omega))
  generalize l.map (padTo secret.length) = L at G2 hLl hall hkn
  have G3 := Lib.hid (fun (W : World) (ad : Option Addr) (cap : Nat) (hv : Sl W (.slice ad l.length cap) (L.map strV)) => Split_ok secret L l.length hLl ad cap W h1 h2 h3 hall hv)
  have HL := Lib.hid hLl
  generalize splitL secret L = S at G3 hkn
  generalize L ++ [lastS secret L] = U at hkn
  obtain ⟨k, hke⟩ : ∃ k, k = last.toNat % (l.length + 1) := ⟨_, rfl⟩
  have hrem : (last.toNat : Int).tmod ((l.length : Int) + 1) = (k : Int) := by
    rw [hke, Int.tmod_eq_emod_of_nonneg (by omega), Int.natCast_emod]; simp
  rw [← hke] at hkn
  have K := Lib.hid hkn
  have hkk := hkn.hk
  have hl256 := last.toNat_lt
  clear g1 hv hs hh hLl hall hke hkn hl
  go_enter Try.func10, Try.ntmps10
  go_wp2_with (first
    | (go_at_call 28; with_reducible refine G1.out.mono ?_; rintro e w' ⟨rfl, rfl⟩)
    | (go_at_call 30; refine G2.out.mono ?_; rintro e w1 ⟨v1, rfl, row1, hx1⟩; obtain ⟨ad1, cap1, hv1⟩ := row1.sl.look; rw [List.length_map, HL.out] at hv1; subst hv1; have S1 := Lib.hid row1.sl; clear row1)
    | (go_at_call 31; with_reducible refine (G3.out w1 _ _ S1.out).mono ?_; rintro e w2 ⟨ad2, cap2, rfl, sl2, hx2⟩; have S2 := Lib.hid sl2; clear sl2))
  obtain ⟨b2, o2, ha2, hb2, -⟩ := S2.out.at_ 0 (by simp [K.out.lenS])
  subst ha2
  have hget : ∀ j (hj : j < l.length + 1) W, Ext w2 W → W.cell? ⟨b2, o2 + j, none⟩ = some (.string (bs (S[j]'(by rw [K.out.lenS]; exact hj)))) := by
    intro j hj W hW
    obtain ⟨b, o, he, _, hc⟩ := (S2.out.ext hW).at_ j (by simpa [K.out.lenS] using hj)
    cases he
    simpa [strV] using hc
  have GET := Lib.hid hget
  clear hget
  go_wp2_with (go_at_call 35; with_reducible refine (GN.out w2).mono ?_; rintro e w3 ⟨bg, bm, rfl, hg1, hg2, hg3, hg4, hpg, hx3⟩; have P0 := Lib.hid hpg; clear hpg)
  go_wp2_with (go_at_call 35; with_reducible refine (GN.out w3).mono ?_; rintro e w4 ⟨bh, bn, rfl, hh1, hh2, hh3, hh4, hph, hx4⟩; have Q0 := Lib.hid hph; clear hph)
  have HZ := Lib.hid (got_zero (l.length + 1) U k)
  have hx04 : Ext w w4 := hx1.trans (hx2.trans (hx3.trans hx4))
  have hx24 : Ext w2 w4 := hx3.trans hx4
  have z2 := hx2.size; have z3 := hx3.size; have z4 := hx4.size; have z1 := hx1.size
  go_loopw [14] (fun o wr => ∃ i : Nat, i ≤ l.length + 1 ∧ o = .int .i64 i ∧ PG wr bg bm 0 (got (l.length + 1) U k i) ∧ PG wr bh bn 0 (got (l.length + 1) U k i) ∧ Ext w2 wr) (fun o _ => l.length + 1 - (intOf o).toNat)
  case atStart => exact ⟨0, by omega, rfl, by rw [HZ.out]; exact P0.out.ext hx4, by rw [HZ.out]; exact Q0.out, hx24⟩
  case round =>
    obtain ⟨i, hi, rfl, hp, hq, hx⟩ := hrel
    have P := Lib.hid hp; have Q := Lib.hid hq
    clear hp hq
    by_cases hlt : i < l.length + 1
    · have hc2 := GET.out i hlt wr hx
      by_cases hik : i = k
      · subst hik
        have hkk' : ((i : Int) != (i : Int)) = false := by simp
        have SM := Lib.hid K.out.same
        go_wp2
        go_roundw
        case measure => simp [intOf]; omega
        case rel => exact ⟨i + 1, by omega, by go_num, by rw [SM.out]; exact P.out, by rw [SM.out]; exact Q.out, hx⟩
      · have hkk' : ((i : Int) != (k : Int)) = true := by simp; omega
        have hadd := K.out.add i hlt hik
        have hlen66 : (S[i]'(by rw [K.out.lenS]; exact hlt)).length ≤ 1099511627776 := by
          have := K.out.at_ i hlt; rw [this]; have := K.out.text i hlt; simp [shareB]; omega
        have hsm := K.out.small i
        have GA := Lib.hid (fun (W : World) (a b : Nat) (h : PG W a b 0 (got (l.length + 1) U k i)) => Add_any W a b 0 _ (S[i]'(by rw [K.out.lenS]; exact hlt)) hlen66 (by omega) h)
        unfold AddPost at GA
        rw [hadd] at GA
        clear hadd hlen66 hsm
        go_wp2_with (first
          | (go_at_call 36; with_reducible refine (GA.out wr bg bm P.out).mono ?_; rintro e w5 ⟨rfl, hp5, hb5⟩; have P5 := Lib.hid hp5; have Q5 := Lib.hid (Q.out.but hb5 (by simp; omega) (by simp; omega)); have hx5 : Ext w2 w5 := But.ext hx hb5 (by simp; omega); have hc5 := (GET.out i hlt w5 hx5); clear hp5)
          | (go_at_call 36; with_reducible refine (GA.out w5 bh bn Q5.out).mono ?_; rintro e w6 ⟨rfl, hp6, hb6⟩; have Q6 := Lib.hid hp6; have P6 := Lib.hid (P5.out.but hb6 (by simp; omega) (by simp; omega)); have hx6 : Ext w2 w6 := But.ext hx5 hb6 (by simp; omega); clear hp6))
        go_roundw
        case measure => simp [intOf]; omega
        case rel => exact ⟨i + 1, by omega, by go_num, P6.out, Q6.out, hx6⟩
    · obtain rfl : i = l.length + 1 := by omega
      have hkS : k < S.length := by rw [K.out.lenS]; exact hkk
      have hkU : k < U.length := by rw [K.out.lenU]; exact hkk
      obtain ⟨t, htdef⟩ : ∃ t, t = U[k] := ⟨_, rfl⟩
      have hSk : S[k] = shareB (k + 1) (l.length + 1) t := by rw [htdef]; exact K.out.at_ k hkk
      have htl : t.length = secret.length := by rw [htdef]; exact K.out.text k hkk
      have hmore := K.out.more t htl
      have hhad := K.out.had
      have hsec := K.out.all
      have hless := K.out.less
      have hmore2 := K.out.more (xorL (xorL t secret) (padTo secret.length other)) (by rw [xorL_length _ _ (by rw [xorL_length _ _ htl]; simp [htl]), xorL_length _ _ htl, htl])
      have hoth := K.out.other (padTo secret.length other) (by simp)
      have h0S : 0 < S.length := by rw [K.out.lenS]; omega
      rw [← htdef] at hhad hsec hoth
      rw [show S[k]'(by rw [K.out.lenS]; exact hkk) = shareB (k + 1) (l.length + 1) t from hSk] at hhad
      have hgl := K.out.small (l.length + 1)
      have GET1 : Hid (∀ W, Ext w2 W → W.cell? ⟨b2, o2 + k, none⟩ = some (.string (bs (b8 (k + 1) :: b8 (l.length + 1) :: t)))) := Lib.hid (fun W (hW : Ext w2 W) => by have := GET.out k hkk W hW; rw [hSk] at this; exact this)
      have GET0 : Hid (∀ W, Ext w2 W → W.cell? ⟨b2, o2, none⟩ = some (.string (bs S[0]))) := Lib.hid (fun W (hW : Ext w2 W) => GET.out 0 (by omega) W hW)
      generalize got (l.length + 1) U k (l.length + 1) = gs at P Q hmore hmore2 hhad hsec hless hoth hgl
      have hpl : (padTo secret.length other).length = secret.length := by simp
      have hpd : [other].map (padTo secret.length) = [padTo secret.length other] := rfl
      have GT : Hid (∀ W : World, Calls Try.prog 30 #[.slice (some ⟨W.heap.size, 0, none⟩) 1 1, .int .i64 secret.length] (W.alloc (.cells #[.string (bs other)] 9))
          fun e w' => ∃ g cap, e = .returned (.slice (some ⟨g, 0, none⟩) 1 cap) ∧ g < w'.heap.size ∧ w'.cell? ⟨g, 0, none⟩ = some (.string (bs (padTo secret.length other))) ∧ Ext W w') := Lib.hid fun W => by
        have hsl : Sl (W.alloc (.cells #[.string (bs other)] 9)) (.slice (some ⟨W.heap.size, 0, none⟩) [other].length 1) ([other].map strV) :=
          ⟨_, _, rfl, fun i hi => ⟨W.heap.size, 0, rfl, by simp, by obtain rfl : i = 0 := by simpa using hi
                                                                    exact cell_blk (heap_alloc_new W _) rfl⟩⟩
        refine (texts06_any [other] secret.length _ _ _ (by omega) (by simp) hsl).mono ?_
        rintro e w' ⟨v, rfl, hrow, hx⟩
        rw [hpd] at hrow
        rcases hrow.look with ⟨rfl, h0⟩ | ⟨g, cap, cur, rfl, hg, hh, _⟩
        · cases h0
        · exact ⟨g, cap, rfl, blk_lt hh, hrow.cellAt 0 (by simp), ((Ext.refl W).alloc _).trans hx⟩
      generalize padTo secret.length other = o at GT hoth hpl hmore2
      have hsh : (shareB (k + 1) (l.length + 1) t).length ≤ 1099511627776 := by simp [shareB]; omega
      have hxl1 : (xorL t secret).length = secret.length := by rw [xorL_length _ _ htl]; exact htl
      have hxl : (xorL (xorL t secret) o).length = secret.length := by rw [xorL_length _ _ (by omega)]; exact hxl1
      have hsh2 : (shareB (k + 1) (l.length + 1) (xorL (xorL t secret) o)).length ≤ 1099511627776 := by simp [shareB]; omega
      have GS1 : Hid (∀ W, PG W bg bm 0 gs → Calls Try.prog 39 #[.pointer (some ⟨bg, 0, none⟩)] W fun e w' => e = .returned (.tuple #[.string { data := #[] }, .bool false]) ∧ Ext W w') :=
        Lib.hid fun W h => by have := Secret_any W bg bm 0 gs (by omega) h; rw [hless] at this; exact this
      have GA1 : Hid (∀ W a b, PG W a b 0 gs → Calls Try.prog 36 #[.pointer (some ⟨a, 0, none⟩), .string (bs (b8 (k + 1) :: b8 (l.length + 1) :: t))] W fun e w' => e = .returned (.int .i64 0) ∧ PG w' a b 0 (gs ++ [(k + 1, l.length + 1, t)]) ∧ But [a, b] W w') :=
        Lib.hid fun W a b h => by have := Add_any W a b 0 gs _ hsh (by omega) h; unfold AddPost at this; rw [hmore] at this; exact this
      have GA2 : Hid (∀ W a b, PG W a b 0 (gs ++ [(k + 1, l.length + 1, t)]) → Calls Try.prog 36 #[.pointer (some ⟨a, 0, none⟩), .string (bs (b8 (k + 1) :: b8 (l.length + 1) :: t))] W fun e w' => e = .returned (.int .i64 8) ∧ PG w' a b 0 (gs ++ [(k + 1, l.length + 1, t)]) ∧ But [a, b] W w') :=
        Lib.hid fun W a b h => by have := Add_any W a b 0 (gs ++ [(k + 1, l.length + 1, t)]) _ hsh (by simp; omega) h; unfold AddPost at this; rw [hhad] at this; exact this
      have GS2 : Hid (∀ W, PG W bg bm 0 (gs ++ [(k + 1, l.length + 1, t)]) → Calls Try.prog 39 #[.pointer (some ⟨bg, 0, none⟩)] W fun e w' => e = .returned (.tuple #[.string (bs secret), .bool true]) ∧ Ext W w') :=
        Lib.hid fun W h => by have := Secret_any W bg bm 0 _ (by simp; omega) h; rw [hsec] at this; exact this
      have GA3 : Hid (∀ W, PG W bh bn 0 gs → Calls Try.prog 36 #[.pointer (some ⟨bh, 0, none⟩), .string (bs (b8 (k + 1) :: b8 (l.length + 1) :: xorL (xorL t secret) o))] W fun e w' => e = .returned (.int .i64 0) ∧ PG w' bh bn 0 (gs ++ [(k + 1, l.length + 1, xorL (xorL t secret) o)]) ∧ But [bh, bn] W w') :=
        Lib.hid fun W h => by have := Add_any W bh bn 0 gs _ hsh2 (by omega) h; unfold AddPost at this; rw [hmore2] at this; exact this
      have GS3 : Hid (∀ W, PG W bh bn 0 (gs ++ [(k + 1, l.length + 1, xorL (xorL t secret) o)]) → Calls Try.prog 39 #[.pointer (some ⟨bh, 0, none⟩)] W fun e w' => e = .returned (.tuple #[.string (bs o), .bool true]) ∧ Ext W w') :=
        Lib.hid fun W h => by have := Secret_any W bh bn 0 _ (by simp; omega) h; rw [hoth] at this; exact this
      have hx64 : (xorL (xorL t secret) o).length ≤ 64 := by omega
      have s5 : ¬ 9223372036854775807 < 2 + (xorL (xorL t secret) o).length := by omega
      have GX1 := Lib.hid (fun W => RefXor_any t secret W htl (by omega))
      have GX2 := Lib.hid (fun W => RefXor_any (xorL t secret) o W (by omega) (by omega))
      have htn : t.length = secret.length := htl
      have HTL := Lib.hid htl
      have hcl : (((t.length : Int) + 1 + 1) != ((secret.length : Int) + 2)) = false := by rw [htl]; simp; omega
      have GN1 := Lib.hid Drop_nil; have GN2 := Lib.hid Have_nil; have GN3 := Lib.hid Secret_nil; have GN4 := Lib.hid Add_nil
      clear hmore hmore2 hhad hsec hless hoth hpl hxl hxl1 hsh hsh2 htl htn hSk htdef hpd
      go_wp2_with (first
        | (go_at_call 39; with_reducible refine (GS1.out wr P.out).mono ?_; rintro e w5 ⟨rfl, hx5⟩; have x25 := hx.trans hx5; have c5 := GET1.out w5 x25; have P5 := Lib.hid (P.out.ext hx5); have Q5 := Lib.hid (Q.out.ext hx5))
        | (go_at_call 36; with_reducible refine (GA1.out w5 bg bm P5.out).mono ?_; rintro e w6 ⟨rfl, hp6, hb6⟩; have x26 : Ext w2 w6 := But.ext x25 hb6 (by simp; omega); have c6 := GET1.out w6 x26; have P6 := Lib.hid hp6; have Q6 := Lib.hid (Q5.out.but hb6 (by simp; omega) (by simp; omega)); clear hp6)
        | (go_at_call 36; with_reducible refine (GA2.out w6 bg bm P6.out).mono ?_; rintro e w7 ⟨rfl, hp7, hb7⟩; have x27 : Ext w2 w7 := But.ext x26 hb7 (by simp; omega); have c7 := GET1.out w7 x27; have P7 := Lib.hid hp7; have Q7 := Lib.hid (Q6.out.but hb7 (by simp; omega) (by simp; omega)); clear hp7)
        | (go_at_call 39; with_reducible refine (GS2.out w7 P7.out).mono ?_; rintro e w8 ⟨rfl, hx8⟩; have x28 := x27.trans hx8; have c8 := GET1.out w8 x28; have Q8 := Lib.hid (Q7.out.ext hx8))
        | (go_at_call 30; refine (GT.out w8).mono ?_; rintro e w9 ⟨g9, cap9, rfl, hg9, hc9, hx9⟩; have x29 := x28.trans hx9; have c9 := GET1.out w9 x29; have Q9 := Lib.hid (Q8.out.ext hx9)))
      have cq : ∀ wq, Ext w9 wq → wq.cell? ⟨b2, o2 + k, none⟩ = some (.string (bs (b8 (k + 1) :: b8 (l.length + 1) :: t))) := fun wq hq => hq.cell_of c9
      have he : (bs (b8 (k + 1) :: b8 (l.length + 1) :: t)).extract 2 (t.length + 2) = bs t := by rw [bs_extract]; simp
      have hge : (2 : Int) ≤ (t.length : Int) + 1 + 1 := by omega
      have ht64 : t.length ≤ 64 := by have := HTL.out; omega
      have hki : (k : Int) < (l.length : Int) + 1 := by omega
      refine Loud.wp_region_loud (fun i => decide (i=11∨i=13)) 16 (fun w' => Ext w9 w') (by kernel_rfl) (by kernel_rfl) ((Ext.refl w9).drew) ?_
      simp only [List.take_succ_cons, List.take_zero]
      iterate 11 (refine Loud.lex_qe rfl rfl ?_; apply Exists.intro; refine ⟨fun wq hq => ?_, Loud.norm fun K hK => ?_⟩; (go_simp; try rfl); go_simp; refine hK _ ?_; clear hK K)
      refine Loud.lex_l rfl rfl (fun K hK => ?_); go_simp; refine (GX1.out _).mono ?_; rintro e w10 ⟨rfl, hw10⟩; refine ⟨_, rfl, ?_⟩; go_simp; refine hK _ _ (by show Ext _ _; repeat (first | exact Ext.refl _ | assumption | (with_reducible refine Ext.drew ?_) | (with_reducible refine Ext.drewN ?_ _) | (with_reducible refine Ext.alloc ?_ _) | (refine Ext.trans ?_ (by assumption)))) ?_; clear hK K
      iterate 1 (refine Loud.lex_qe rfl rfl ?_; apply Exists.intro; refine ⟨fun wq hq => ?_, Loud.norm fun K hK => ?_⟩; (go_simp; try rfl); go_simp; refine hK _ ?_; clear hK K)
      refine Loud.lex_l rfl rfl (fun K hK => ?_); go_simp; refine (GX2.out _).mono ?_; rintro e w11 ⟨rfl, hw11⟩; refine ⟨_, rfl, ?_⟩; go_simp; refine hK _ _ (by show Ext _ _; repeat (first | exact Ext.refl _ | assumption | (with_reducible refine Ext.drew ?_) | (with_reducible refine Ext.drewN ?_ _) | (with_reducible refine Ext.alloc ?_ _) | (refine Ext.trans ?_ (by assumption)))) ?_; clear hK K
      iterate 2 (refine Loud.lex_qe rfl rfl ?_; apply Exists.intro; refine ⟨fun wq hq => ?_, Loud.norm fun K hK => ?_⟩; (go_simp; try rfl); go_simp; refine hK _ ?_; clear hK K)
      refine Loud.lex_nil ?_
      simp only [List.drop_succ_cons, List.drop_zero]
      have x211 : Ext w2 w11 := x29.trans (by have h10 := hw10; have h11 := hw11; exact Ext.trans (Ext.trans (Ext.refl w9).drew h10) h11)
      have Q11 := Lib.hid (Q9.out.ext (by have h10 := hw10; have h11 := hw11; exact Ext.trans (Ext.trans (Ext.refl w9).drew h10) h11))
      have B11 := hw11.size
      have B10 := hw10.size
      have B29 := x29.size
      go_wp2_with (first
        | (go_at_call 36; with_reducible refine (GA3.out w11 Q11.out).mono ?_; rintro e w12 ⟨rfl, hq12, hb12⟩; have x212 : Ext w2 w12 := But.ext x211 hb12 (by simp; omega); have Q12 := Lib.hid hq12; clear hq12)
        | (go_at_call 39; with_reducible refine (GS3.out w12 Q12.out).mono ?_; rintro e w13 ⟨rfl, hx13⟩; have x213 := x212.trans hx13; have c13 := GET0.out w13 x213)
        | (go_at_call 41; with_reducible refine (GN1.out _).mono ?_; rintro e w' ⟨rfl, rfl⟩)
        | (go_at_call 38; with_reducible refine (GN2.out _).mono ?_; rintro e w' ⟨rfl, rfl⟩)
        | (go_at_call 39; with_reducible refine (GN3.out _).mono ?_; rintro e w' ⟨rfl, rfl⟩)
        | (go_at_call 36; with_reducible refine (GN4.out _ _).mono ?_; rintro e w' ⟨rfl, rfl⟩)
        | (go_at_call 29; with_reducible refine (G0.out _).mono ?_; rintro e w14 ⟨rfl, hx14⟩))
      go_returns
      exact ⟨rfl, hx1.trans (hx2.trans (x213.trans hx14))⟩
theorem law_ShareAll (w : World) (secret other : List UInt8) (l : List (List UInt8)) (ad : Option Addr) (cap : Nat) (last : UInt8) (h1 : Rch06 secret) (h2 : Rch06 other) (hl : l.length ≤ 140737488351232) (hs : ∀ x ∈ l, x.length ≤ 140737488351232) (hv : Sl w (.slice ad l.length cap) (l.map strV)) :
    Calls Try.prog 10 #[.string (bs secret), .string (bs other), .slice ad l.length cap, .int .u8 last.toNat] w fun e w' => e = .returned (.bool true) ∧ Ext w w' := by
  by_cases h : heavyB l = true ∨ 16 ≤ l.length ∨ secret.length < 1 ∨ 64 < secret.length ∨ 1024 < other.length
  · exact all_out w secret other l ad cap last h1 h2 hl hs hv h
  · have hh : heavyB l = false := by cases hb : heavyB l with
      | true => exact absurd (Or.inl hb) h
      | false => rfl
    exact all_good w secret other l ad cap last hl hs hv hh (by omega) (by omega) (by omega) (by omega)
end Go.Proofs.Ytgjaefolmnelcaa
