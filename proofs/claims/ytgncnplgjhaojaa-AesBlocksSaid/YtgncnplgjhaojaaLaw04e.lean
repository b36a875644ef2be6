/- The statements of layer 4: the walk of AesBlocks. -/
import Derived.Test.YtgncnplgjhaojaaRefBlock
import Derived.Test.YtgncnplgjhaojaaBack
namespace Go.Proofs.Ytgncnplgjhaojaa
open Go Go.RowKit

theorem rounds_ret {w w' : World} {e : Ending} {T : TypeId} {K : List UInt8} (h : RetRow w T ((rkL K).map strV) e w') :
    ∃ g cap : Nat, e = .returned (.slice (some ⟨g, 0, none⟩) 11 cap) ∧ (∀ i, i < 11 → w'.cell? ⟨g, i, none⟩ = some (.string (bs (rkey K i)))) ∧ Ext w w' := by
  obtain ⟨v, rfl, hrow, hx⟩ := h
  obtain ⟨g, cap, rfl, hc⟩ := rounds_look hrow
  exact ⟨g, cap, rfl, hc, hx⟩
set_option maxRecDepth 100000 in
set_option maxHeartbeats 4000000 in
theorem blocks_fit (w : World) (key s : List UInt8) (hkl : key.length ≤ 140737488351232) (hsl : s.length ≤ 140737488351232) (h1 : key.length + s.length ≤ 1024) :
    Calls Try.prog 5 #[.string (bs key), .string (bs s), .bool true] w fun e w' => e = .returned (.bool true) ∧ Ext w w' := by
  have G0 := Lib.hid works04
  have GT := Lib.hid Table_any
  have i1 : ¬ (1024 : Int) < (key.length : Int) + (s.length : Int) := by have := h1; omega
  have GFk := Lib.hid (fun W => full04 key W hkl)
  have GFs := Lib.hid (fun W => full04 s W hsl)
  have hk : (padTo 16 key).length = 16 := padTo_length 16 key
  have hs : (padTo 16 s).length = 16 := padTo_length 16 s
  obtain ⟨k, hkk⟩ : ∃ k, padTo 16 key = k := ⟨_, rfl⟩
  obtain ⟨x, hxx⟩ : ∃ x, padTo 16 s = x := ⟨_, rfl⟩
  rw [hkk] at GFk hk
  rw [hxx] at GFs hs
  clear hkk hxx
  have GN := Lib.hid (fun W => New_yes k W hk)
  have HKL := Lib.hid (rks_length k)
  have GM := Lib.hid (fun tb to_ cp W hT => refRounds_any k hk tb to_ cp W hT)
  have GD := Lib.hid (fun tb to_ cp W hT => refBlock_any k x hk hs tb to_ cp W hT)
  obtain ⟨K, hK⟩ : ∃ K, rks k = K := ⟨_, rfl⟩
  rw [hK] at GN HKL GM GD
  clear hK
  have GR := Lib.hid (fun c W (h : CI W c K) => Rounds_any c K W h)
  have GB := Lib.hid (fun c W (h : CI W c K) => Block_yes c K x W h hs)
  have GK := Lib.hid (fun c W (h : CI W c K) => Back_yes c K x W h hs)
  clear h1
  generalize encL K x = u at *
  have HQ := Lib.hid (Ext.refl w)
  go_enter Try.func5, Try.ntmps5
  go_upto_region 15 with (first
    | (go_at_call 18; with_reducible refine (GFk.out _).mono ?_; rintro e w1 ⟨rfl, hx_⟩; have hq_ := HQ.out.trans hx_; clear HQ; have HQ := Lib.hid hq_; clear hq_; clear hx_)
    | (go_at_call 18; with_reducible refine (GFs.out _).mono ?_; rintro e w1 ⟨rfl, hx_⟩; have hq_ := HQ.out.trans hx_; clear HQ; have HQ := Lib.hid hq_; clear hq_; clear hx_)
    | (go_at_call 19; with_reducible refine (GN.out _).mono ?_; rintro e w1 ⟨c, rfl, hcl, hci, hx_⟩; have HC := Lib.hid hci; clear hci hcl; have hq_ := HQ.out.trans hx_; clear HQ; have HQ := Lib.hid hq_; clear hq_; clear hx_)
    | (go_at_call 21; with_reducible refine (GT.out _).mono ?_; rintro e w1 ht; obtain ⟨tb, to_, cp, he, hT, hx_⟩ := table_look ht; subst he; clear ht; have hq_ := HQ.out.trans hx_; clear HQ; have HQ := Lib.hid hq_; clear hq_; have hc_ := HC.out.ext hx_; clear HC; have HC := Lib.hid hc_; clear hc_; have HT := Lib.hid hT; clear hT; clear hx_)
    | (go_at_call 20; with_reducible refine (GR.out c _ HC.out).mono ?_; rintro e w1 ht; obtain ⟨la, capA, he, hlc, hx_⟩ := rounds_ret ht; subst he; clear ht; have hq_ := HQ.out.trans hx_; clear HQ; have HQ := Lib.hid hq_; clear hq_; have hc_ := HC.out.ext hx_; clear HC; have HC := Lib.hid hc_; clear hc_; have ht_ := fun x => hx_.cell_of (HT.out x); clear HT; have HT := Lib.hid ht_; clear ht_; have HLA := Lib.hid hlc; clear hlc; clear hx_)
    | (go_at_call 22; with_reducible refine (GM.out tb to_ cp _ HT.out).mono ?_; rintro e w1 ht; obtain ⟨lb, capB, he, hlc, hx_⟩ := rounds_ret ht; subst he; clear ht; have hq_ := HQ.out.trans hx_; clear HQ; have HQ := Lib.hid hq_; clear hq_; have hc_ := HC.out.ext hx_; clear HC; have HC := Lib.hid hc_; clear hc_; have ht_ := fun x => hx_.cell_of (HT.out x); clear HT; have HT := Lib.hid ht_; clear ht_; have hl_ := fun i hi => hx_.cell_of (HLA.out i hi); clear HLA; have HLA := Lib.hid hl_; clear hl_; have HLB := Lib.hid hlc; clear hlc; clear hx_))
  go_wp2
  obtain ⟨w0, hw0⟩ : ∃ x, x = w1 := ⟨_, rfl⟩
  rw [← hw0] at HQ HC HT HLA HLB ⊢
  clear hw0
  go_loopw [12] (fun i wr => ∃ k : Nat, k ≤ 11 ∧ i = .int .i64 k ∧ Ext w0 wr) (fun i _ => 11 - (intOf i).toNat)
  case atStart => exact ⟨0, by omega, rfl, Ext.refl _⟩
  case round =>
    obtain ⟨k, hk, rfl, hxr⟩ := hrel
    by_cases hlk : k < 11
    · have ca := hxr.cell_of (HLA.out k hlk)
      have cb := hxr.cell_of (HLB.out k hlk)
      have hki : (k : Int) < 11 := by omega
      generalize rkey K k = rk at *
      go_wp2
      refine Loud.wp_region_weave 9 wr (Loud.sps [.val (.slice (some ⟨la, 0, none⟩) 11 capA), .val (.int .i64 (k : Int)), .val (.pointer (some ⟨la, k, none⟩)), .val (.string (bs rk)), .val (.slice (some ⟨lb, 0, none⟩) 11 capB), .val (.int .i64 (k : Int)), .val (.pointer (some ⟨lb, k, none⟩)), .val (.string (bs rk)), .val (.bool false)]) (by kernel_rfl) (by kernel_rfl) (by show Ext _ _; repeat (first | exact Ext.refl _ | assumption | (with_reducible refine Ext.drew ?_) | (with_reducible refine Ext.drewN ?_ _) | (with_reducible refine Ext.alloc ?_ _) | (refine Ext.trans ?_ (by assumption)))) (Loud.sps_st _) ?wAx1 ?whAx1 ?whSx1 ?whFx1
      case whAx1 => intro u K hK; simp only [List.take_succ_cons, List.take_zero, Loud.puts]; go_simp; exact hK
      case whSx1 =>
        simp only [List.take_succ_cons, List.take_zero, Loud.stepsW]
        refine ⟨?wsx1_0, ?wsx1_1, ?wsx1_2, ?wsx1_3, ?wsx1_4, ?wsx1_5, ?wsx1_6, ?wsx1_7, ?wsx1_8, trivial⟩
        case wsx1_0 =>
          intro u β wq hq h
          repeat (obtain ⟨h1, h⟩ := h; first | (replace h1 := h1 rfl; simp only [go_sem] at h1; try (obtain ⟨h1, h1b⟩ := h1)) | (have hno := (h1 : Region.binds _ _ = true → _); clear hno h1))
          refine Or.inl ⟨rfl, fun K hK => ?_⟩
          go_simp
          exact hK _ 0 _ (Ext.refl _) rfl
        case wsx1_1 =>
          intro u β wq hq h
          repeat (obtain ⟨h1, h⟩ := h; first | (replace h1 := h1 rfl; simp only [go_sem] at h1; try (obtain ⟨h1, h1b⟩ := h1)) | (have hno := (h1 : Region.binds _ _ = true → _); clear hno h1))
          refine Or.inl ⟨rfl, fun K hK => ?_⟩
          go_simp
          exact hK _ 0 _ (Ext.refl _) rfl
        case wsx1_2 =>
          intro u β wq hq h
          repeat (obtain ⟨h1, h⟩ := h; first | (replace h1 := h1 rfl; simp only [go_sem] at h1; try (obtain ⟨h1, h1b⟩ := h1)) | (have hno := (h1 : Region.binds _ _ = true → _); clear hno h1))
          refine Or.inl ⟨rfl, fun K hK => ?_⟩
          go_simp
          exact hK _ 0 _ (Ext.refl _) rfl
        case wsx1_3 =>
          intro u β wq hq h
          repeat (obtain ⟨h1, h⟩ := h; first | (replace h1 := h1 rfl; simp only [go_sem] at h1; try (obtain ⟨h1, h1b⟩ := h1)) | (have hno := (h1 : Region.binds _ _ = true → _); clear hno h1))
          refine Or.inl ⟨rfl, fun K hK => ?_⟩
          have hqc := hq.cell_of ca
          go_simp
          exact hK _ 0 _ (Ext.refl _) rfl
        case wsx1_4 =>
          intro u β wq hq h
          repeat (obtain ⟨h1, h⟩ := h; first | (replace h1 := h1 rfl; simp only [go_sem] at h1; try (obtain ⟨h1, h1b⟩ := h1)) | (have hno := (h1 : Region.binds _ _ = true → _); clear hno h1))
          refine Or.inl ⟨rfl, fun K hK => ?_⟩
          go_simp
          exact hK _ 0 _ (Ext.refl _) rfl
        case wsx1_5 =>
          intro u β wq hq h
          repeat (obtain ⟨h1, h⟩ := h; first | (replace h1 := h1 rfl; simp only [go_sem] at h1; try (obtain ⟨h1, h1b⟩ := h1)) | (have hno := (h1 : Region.binds _ _ = true → _); clear hno h1))
          refine Or.inl ⟨rfl, fun K hK => ?_⟩
          go_simp
          exact hK _ 0 _ (Ext.refl _) rfl
        case wsx1_6 =>
          intro u β wq hq h
          repeat (obtain ⟨h1, h⟩ := h; first | (replace h1 := h1 rfl; simp only [go_sem] at h1; try (obtain ⟨h1, h1b⟩ := h1)) | (have hno := (h1 : Region.binds _ _ = true → _); clear hno h1))
          refine Or.inl ⟨rfl, fun K hK => ?_⟩
          go_simp
          exact hK _ 0 _ (Ext.refl _) rfl
        case wsx1_7 =>
          intro u β wq hq h
          repeat (obtain ⟨h1, h⟩ := h; first | (replace h1 := h1 rfl; simp only [go_sem] at h1; try (obtain ⟨h1, h1b⟩ := h1)) | (have hno := (h1 : Region.binds _ _ = true → _); clear hno h1))
          refine Or.inl ⟨rfl, fun K hK => ?_⟩
          have hqc := hq.cell_of cb
          go_simp
          exact hK _ 0 _ (Ext.refl _) rfl
        case wsx1_8 =>
          intro u β wq hq h
          repeat (obtain ⟨h1, h⟩ := h; first | (replace h1 := h1 rfl; simp only [go_sem] at h1; try (obtain ⟨h1, h1b⟩ := h1)) | (have hno := (h1 : Region.binds _ _ = true → _); clear hno h1))
          refine Or.inl ⟨rfl, fun K hK => ?_⟩
          go_simp
          exact hK _ 0 _ (Ext.refl _) rfl
      intro u β w5 hq h
      have h0 := h 0 (by omega)
      have h1 := h 1 (by omega)
      have h2 := h 2 (by omega)
      have h3 := h 3 (by omega)
      have h4 := h 4 (by omega)
      have h5 := h 5 (by omega)
      have h6 := h 6 (by omega)
      have h7 := h 7 (by omega)
      have h8 := h 8 (by omega)
      clear h
      simp only [go_sem] at h0 h1 h2 h3 h4 h5 h6 h7 h8
      simp only [List.drop_succ_cons, List.drop_zero]
      rw [h8]
      have hx5 := hxr.trans hq
      go_wp2
      go_roundw
      case measure => simp [intOf]; omega
      case rel => exact ⟨k + 1, by omega, by go_num, hx5⟩
    · obtain rfl : k = 11 := by omega
      have HQ2 := Lib.hid (HQ.out.trans hxr)
      have HC2 := Lib.hid (HC.out.ext hxr)
      have HT2 := Lib.hid (fun x => hxr.cell_of (HT.out x))
      clear HQ HC HT HLA HLB hxr
      have HQ := HQ2; have HC := HC2; have HT := HT2
      clear HQ2 HC2 HT2
      go_wp2_with (first
        | (go_at_call 23; with_reducible refine (GB.out c _ HC.out).mono ?_; rintro e w1 ⟨rfl, hx_⟩; have hq_ := HQ.out.trans hx_; clear HQ; have HQ := Lib.hid hq_; clear hq_; have hc_ := HC.out.ext hx_; clear HC; have HC := Lib.hid hc_; clear hc_; have ht_ := fun x => hx_.cell_of (HT.out x); clear HT; have HT := Lib.hid ht_; clear ht_; clear hx_)
        | (go_at_call 24; with_reducible refine (GK.out c _ HC.out).mono ?_; rintro e w1 ⟨rfl, hx_⟩; have hq_ := HQ.out.trans hx_; clear HQ; have HQ := Lib.hid hq_; clear hq_; have hc_ := HC.out.ext hx_; clear HC; have HC := Lib.hid hc_; clear hc_; have ht_ := fun x => hx_.cell_of (HT.out x); clear HT; have HT := Lib.hid ht_; clear ht_; clear hx_)
        | (go_at_call 25; with_reducible refine (GD.out tb to_ cp _ HT.out).mono ?_; rintro e w1 ⟨rfl, hx_⟩; have hq_ := HQ.out.trans hx_; clear HQ; have HQ := Lib.hid hq_; clear hq_; clear hx_)
        | (go_at_call 17; with_reducible refine (G0.out _).mono ?_; rintro e w1 ⟨rfl, hx_⟩; have hq_ := HQ.out.trans hx_; clear HQ; have HQ := Lib.hid hq_; clear hq_; clear hx_))
      go_returns
      exact ⟨rfl, HQ.out⟩
set_option maxRecDepth 100000 in
set_option maxHeartbeats 4000000 in
theorem blocks_yes (w : World) (key s : List UInt8) (hk : key.length = 16) (hs : s.length = 16) (h1 : key.length + s.length ≤ 1024) :
    Calls Try.prog 5 #[.string (bs key), .string (bs s), .bool false] w fun e w' => e = .returned (.bool true) ∧ Ext w w' := by
  have G0 := Lib.hid works04
  have GT := Lib.hid Table_any
  have i1 : ¬ (1024 : Int) < (key.length : Int) + (s.length : Int) := by have := h1; omega
  obtain ⟨k, hkk⟩ : ∃ k, k = key := ⟨_, rfl⟩
  obtain ⟨x, hxx⟩ : ∃ x, x = s := ⟨_, rfl⟩
  rw [← hkk] at hk i1 ⊢
  rw [← hxx] at hs i1 ⊢
  have GN := Lib.hid (fun W => New_yes k W hk)
  have HKL := Lib.hid (rks_length k)
  have GM := Lib.hid (fun tb to_ cp W hT => refRounds_any k hk tb to_ cp W hT)
  have GD := Lib.hid (fun tb to_ cp W hT => refBlock_any k x hk hs tb to_ cp W hT)
  obtain ⟨K, hK⟩ : ∃ K, rks k = K := ⟨_, rfl⟩
  rw [hK] at GN HKL GM GD
  clear hK
  have GR := Lib.hid (fun c W (h : CI W c K) => Rounds_any c K W h)
  have GB := Lib.hid (fun c W (h : CI W c K) => Block_yes c K x W h hs)
  have GK := Lib.hid (fun c W (h : CI W c K) => Back_yes c K x W h hs)
  clear h1
  clear hkk hxx
  generalize encL K x = u at *
  have HQ := Lib.hid (Ext.refl w)
  go_enter Try.func5, Try.ntmps5
  go_upto_region 15 with (first
    | (go_at_call 19; with_reducible refine (GN.out _).mono ?_; rintro e w1 ⟨c, rfl, hcl, hci, hx_⟩; have HC := Lib.hid hci; clear hci hcl; have hq_ := HQ.out.trans hx_; clear HQ; have HQ := Lib.hid hq_; clear hq_; clear hx_)
    | (go_at_call 21; with_reducible refine (GT.out _).mono ?_; rintro e w1 ht; obtain ⟨tb, to_, cp, he, hT, hx_⟩ := table_look ht; subst he; clear ht; have hq_ := HQ.out.trans hx_; clear HQ; have HQ := Lib.hid hq_; clear hq_; have hc_ := HC.out.ext hx_; clear HC; have HC := Lib.hid hc_; clear hc_; have HT := Lib.hid hT; clear hT; clear hx_)
    | (go_at_call 20; with_reducible refine (GR.out c _ HC.out).mono ?_; rintro e w1 ht; obtain ⟨la, capA, he, hlc, hx_⟩ := rounds_ret ht; subst he; clear ht; have hq_ := HQ.out.trans hx_; clear HQ; have HQ := Lib.hid hq_; clear hq_; have hc_ := HC.out.ext hx_; clear HC; have HC := Lib.hid hc_; clear hc_; have ht_ := fun x => hx_.cell_of (HT.out x); clear HT; have HT := Lib.hid ht_; clear ht_; have HLA := Lib.hid hlc; clear hlc; clear hx_)
    | (go_at_call 22; with_reducible refine (GM.out tb to_ cp _ HT.out).mono ?_; rintro e w1 ht; obtain ⟨lb, capB, he, hlc, hx_⟩ := rounds_ret ht; subst he; clear ht; have hq_ := HQ.out.trans hx_; clear HQ; have HQ := Lib.hid hq_; clear hq_; have hc_ := HC.out.ext hx_; clear HC; have HC := Lib.hid hc_; clear hc_; have ht_ := fun x => hx_.cell_of (HT.out x); clear HT; have HT := Lib.hid ht_; clear ht_; have hl_ := fun i hi => hx_.cell_of (HLA.out i hi); clear HLA; have HLA := Lib.hid hl_; clear hl_; have HLB := Lib.hid hlc; clear hlc; clear hx_))
  go_wp2
  obtain ⟨w0, hw0⟩ : ∃ x, x = w1 := ⟨_, rfl⟩
  rw [← hw0] at HQ HC HT HLA HLB ⊢
  clear hw0
  go_loopw [12] (fun i wr => ∃ k : Nat, k ≤ 11 ∧ i = .int .i64 k ∧ Ext w0 wr) (fun i _ => 11 - (intOf i).toNat)
  case atStart => exact ⟨0, by omega, rfl, Ext.refl _⟩
  case round =>
    obtain ⟨k, hk, rfl, hxr⟩ := hrel
    by_cases hlk : k < 11
    · have ca := hxr.cell_of (HLA.out k hlk)
      have cb := hxr.cell_of (HLB.out k hlk)
      have hki : (k : Int) < 11 := by omega
      generalize rkey K k = rk at *
      go_wp2
      refine Loud.wp_region_weave 9 wr (Loud.sps [.val (.slice (some ⟨la, 0, none⟩) 11 capA), .val (.int .i64 (k : Int)), .val (.pointer (some ⟨la, k, none⟩)), .val (.string (bs rk)), .val (.slice (some ⟨lb, 0, none⟩) 11 capB), .val (.int .i64 (k : Int)), .val (.pointer (some ⟨lb, k, none⟩)), .val (.string (bs rk)), .val (.bool false)]) (by kernel_rfl) (by kernel_rfl) (by show Ext _ _; repeat (first | exact Ext.refl _ | assumption | (with_reducible refine Ext.drew ?_) | (with_reducible refine Ext.drewN ?_ _) | (with_reducible refine Ext.alloc ?_ _) | (refine Ext.trans ?_ (by assumption)))) (Loud.sps_st _) ?wAx2 ?whAx2 ?whSx2 ?whFx2
      case whAx2 => intro u K hK; simp only [List.take_succ_cons, List.take_zero, Loud.puts]; go_simp; exact hK
      case whSx2 =>
        simp only [List.take_succ_cons, List.take_zero, Loud.stepsW]
        refine ⟨?wsx2_0, ?wsx2_1, ?wsx2_2, ?wsx2_3, ?wsx2_4, ?wsx2_5, ?wsx2_6, ?wsx2_7, ?wsx2_8, trivial⟩
        case wsx2_0 =>
          intro u β wq hq h
          repeat (obtain ⟨h1, h⟩ := h; first | (replace h1 := h1 rfl; simp only [go_sem] at h1; try (obtain ⟨h1, h1b⟩ := h1)) | (have hno := (h1 : Region.binds _ _ = true → _); clear hno h1))
          refine Or.inl ⟨rfl, fun K hK => ?_⟩
          go_simp
          exact hK _ 0 _ (Ext.refl _) rfl
        case wsx2_1 =>
          intro u β wq hq h
          repeat (obtain ⟨h1, h⟩ := h; first | (replace h1 := h1 rfl; simp only [go_sem] at h1; try (obtain ⟨h1, h1b⟩ := h1)) | (have hno := (h1 : Region.binds _ _ = true → _); clear hno h1))
          refine Or.inl ⟨rfl, fun K hK => ?_⟩
          go_simp
          exact hK _ 0 _ (Ext.refl _) rfl
        case wsx2_2 =>
          intro u β wq hq h
          repeat (obtain ⟨h1, h⟩ := h; first | (replace h1 := h1 rfl; simp only [go_sem] at h1; try (obtain ⟨h1, h1b⟩ := h1)) | (have hno := (h1 : Region.binds _ _ = true → _); clear hno h1))
          refine Or.inl ⟨rfl, fun K hK => ?_⟩
          go_simp
          exact hK _ 0 _ (Ext.refl _) rfl
        case wsx2_3 =>
          intro u β wq hq h
          repeat (obtain ⟨h1, h⟩ := h; first | (replace h1 := h1 rfl; simp only [go_sem] at h1; try (obtain ⟨h1, h1b⟩ := h1)) | (have hno := (h1 : Region.binds _ _ = true → _); clear hno h1))
          refine Or.inl ⟨rfl, fun K hK => ?_⟩
          have hqc := hq.cell_of ca
          go_simp
          exact hK _ 0 _ (Ext.refl _) rfl
        case wsx2_4 =>
          intro u β wq hq h
          repeat (obtain ⟨h1, h⟩ := h; first | (replace h1 := h1 rfl; simp only [go_sem] at h1; try (obtain ⟨h1, h1b⟩ := h1)) | (have hno := (h1 : Region.binds _ _ = true → _); clear hno h1))
          refine Or.inl ⟨rfl, fun K hK => ?_⟩
          go_simp
          exact hK _ 0 _ (Ext.refl _) rfl
        case wsx2_5 =>
          intro u β wq hq h
          repeat (obtain ⟨h1, h⟩ := h; first | (replace h1 := h1 rfl; simp only [go_sem] at h1; try (obtain ⟨h1, h1b⟩ := h1)) | (have hno := (h1 : Region.binds _ _ = true → _); clear hno h1))
          refine Or.inl ⟨rfl, fun K hK => ?_⟩
          go_simp
          exact hK _ 0 _ (Ext.refl _) rfl
        case wsx2_6 =>
          intro u β wq hq h
          repeat (obtain ⟨h1, h⟩ := h; first | (replace h1 := h1 rfl; simp only [go_sem] at h1; try (obtain ⟨h1, h1b⟩ := h1)) | (have hno := (h1 : Region.binds _ _ = true → _); clear hno h1))
          refine Or.inl ⟨rfl, fun K hK => ?_⟩
          go_simp
          exact hK _ 0 _ (Ext.refl _) rfl
        case wsx2_7 =>
          intro u β wq hq h
          repeat (obtain ⟨h1, h⟩ := h; first | (replace h1 := h1 rfl; simp only [go_sem] at h1; try (obtain ⟨h1, h1b⟩ := h1)) | (have hno := (h1 : Region.binds _ _ = true → _); clear hno h1))
          refine Or.inl ⟨rfl, fun K hK => ?_⟩
          have hqc := hq.cell_of cb
          go_simp
          exact hK _ 0 _ (Ext.refl _) rfl
        case wsx2_8 =>
          intro u β wq hq h
          repeat (obtain ⟨h1, h⟩ := h; first | (replace h1 := h1 rfl; simp only [go_sem] at h1; try (obtain ⟨h1, h1b⟩ := h1)) | (have hno := (h1 : Region.binds _ _ = true → _); clear hno h1))
          refine Or.inl ⟨rfl, fun K hK => ?_⟩
          go_simp
          exact hK _ 0 _ (Ext.refl _) rfl
      intro u β w5 hq h
      have h0 := h 0 (by omega)
      have h1 := h 1 (by omega)
      have h2 := h 2 (by omega)
      have h3 := h 3 (by omega)
      have h4 := h 4 (by omega)
      have h5 := h 5 (by omega)
      have h6 := h 6 (by omega)
      have h7 := h 7 (by omega)
      have h8 := h 8 (by omega)
      clear h
      simp only [go_sem] at h0 h1 h2 h3 h4 h5 h6 h7 h8
      simp only [List.drop_succ_cons, List.drop_zero]
      rw [h8]
      have hx5 := hxr.trans hq
      go_wp2
      go_roundw
      case measure => simp [intOf]; omega
      case rel => exact ⟨k + 1, by omega, by go_num, hx5⟩
    · obtain rfl : k = 11 := by omega
      have HQ2 := Lib.hid (HQ.out.trans hxr)
      have HC2 := Lib.hid (HC.out.ext hxr)
      have HT2 := Lib.hid (fun x => hxr.cell_of (HT.out x))
      clear HQ HC HT HLA HLB hxr
      have HQ := HQ2; have HC := HC2; have HT := HT2
      clear HQ2 HC2 HT2
      go_wp2_with (first
        | (go_at_call 23; with_reducible refine (GB.out c _ HC.out).mono ?_; rintro e w1 ⟨rfl, hx_⟩; have hq_ := HQ.out.trans hx_; clear HQ; have HQ := Lib.hid hq_; clear hq_; have hc_ := HC.out.ext hx_; clear HC; have HC := Lib.hid hc_; clear hc_; have ht_ := fun x => hx_.cell_of (HT.out x); clear HT; have HT := Lib.hid ht_; clear ht_; clear hx_)
        | (go_at_call 24; with_reducible refine (GK.out c _ HC.out).mono ?_; rintro e w1 ⟨rfl, hx_⟩; have hq_ := HQ.out.trans hx_; clear HQ; have HQ := Lib.hid hq_; clear hq_; have hc_ := HC.out.ext hx_; clear HC; have HC := Lib.hid hc_; clear hc_; have ht_ := fun x => hx_.cell_of (HT.out x); clear HT; have HT := Lib.hid ht_; clear ht_; clear hx_)
        | (go_at_call 25; with_reducible refine (GD.out tb to_ cp _ HT.out).mono ?_; rintro e w1 ⟨rfl, hx_⟩; have hq_ := HQ.out.trans hx_; clear HQ; have HQ := Lib.hid hq_; clear hq_; clear hx_)
        | (go_at_call 17; with_reducible refine (G0.out _).mono ?_; rintro e w1 ⟨rfl, hx_⟩; have hq_ := HQ.out.trans hx_; clear HQ; have HQ := Lib.hid hq_; clear hq_; clear hx_))
      go_returns
      exact ⟨rfl, HQ.out⟩
set_option maxRecDepth 100000 in
set_option maxHeartbeats 4000000 in
theorem blocks_no (w : World) (key s : List UInt8) (hk : key.length = 16) (hs : s.length ≠ 16) (h1 : key.length + s.length ≤ 1024) :
    Calls Try.prog 5 #[.string (bs key), .string (bs s), .bool false] w fun e w' => e = .returned (.bool true) ∧ Ext w w' := by
  have G0 := Lib.hid works04
  have GT := Lib.hid Table_any
  have i1 : ¬ (1024 : Int) < (key.length : Int) + (s.length : Int) := by have := h1; omega
  obtain ⟨k, hkk⟩ : ∃ k, k = key := ⟨_, rfl⟩
  obtain ⟨x, hxx⟩ : ∃ x, x = s := ⟨_, rfl⟩
  rw [← hkk] at hk i1 ⊢
  rw [← hxx] at hs i1 ⊢
  have GN := Lib.hid (fun W => New_yes k W hk)
  have HKL := Lib.hid (rks_length k)
  have GM := Lib.hid (fun tb to_ cp W hT => refRounds_any k hk tb to_ cp W hT)
  obtain ⟨K, hK⟩ : ∃ K, rks k = K := ⟨_, rfl⟩
  rw [hK] at GN HKL GM
  clear hK
  have GR := Lib.hid (fun c W (h : CI W c K) => Rounds_any c K W h)
  have GB := Lib.hid (fun c W (h : CI W c K) => (Block_no c K x W h hs (by rw [hxx]; omega)).mono fun e w' h' => (⟨h'.1, Ext.of_eq h'.2⟩ : e = .returned (.tuple #[.string (bs []), .bool false]) ∧ Ext W w'))
  have GK := Lib.hid (fun c W (h : CI W c K) => (Back_no c K x W h hs (by rw [hxx]; omega)).mono fun e w' h' => (⟨h'.1, Ext.of_eq h'.2⟩ : e = .returned (.tuple #[.string (bs []), .bool false]) ∧ Ext W w'))
  have hne : ((x.length : Int) != 16) = true := by simp; omega
  clear h1
  have hs' := Lib.hid hs
  clear hkk hxx hs
  have HQ := Lib.hid (Ext.refl w)
  go_enter Try.func5, Try.ntmps5
  go_upto_region 15 with (first
    | (go_at_call 19; with_reducible refine (GN.out _).mono ?_; rintro e w1 ⟨c, rfl, hcl, hci, hx_⟩; have HC := Lib.hid hci; clear hci hcl; have hq_ := HQ.out.trans hx_; clear HQ; have HQ := Lib.hid hq_; clear hq_; clear hx_)
    | (go_at_call 21; with_reducible refine (GT.out _).mono ?_; rintro e w1 ht; obtain ⟨tb, to_, cp, he, hT, hx_⟩ := table_look ht; subst he; clear ht; have hq_ := HQ.out.trans hx_; clear HQ; have HQ := Lib.hid hq_; clear hq_; have hc_ := HC.out.ext hx_; clear HC; have HC := Lib.hid hc_; clear hc_; have HT := Lib.hid hT; clear hT; clear hx_)
    | (go_at_call 20; with_reducible refine (GR.out c _ HC.out).mono ?_; rintro e w1 ht; obtain ⟨la, capA, he, hlc, hx_⟩ := rounds_ret ht; subst he; clear ht; have hq_ := HQ.out.trans hx_; clear HQ; have HQ := Lib.hid hq_; clear hq_; have hc_ := HC.out.ext hx_; clear HC; have HC := Lib.hid hc_; clear hc_; have ht_ := fun x => hx_.cell_of (HT.out x); clear HT; have HT := Lib.hid ht_; clear ht_; have HLA := Lib.hid hlc; clear hlc; clear hx_)
    | (go_at_call 22; with_reducible refine (GM.out tb to_ cp _ HT.out).mono ?_; rintro e w1 ht; obtain ⟨lb, capB, he, hlc, hx_⟩ := rounds_ret ht; subst he; clear ht; have hq_ := HQ.out.trans hx_; clear HQ; have HQ := Lib.hid hq_; clear hq_; have hc_ := HC.out.ext hx_; clear HC; have HC := Lib.hid hc_; clear hc_; have ht_ := fun x => hx_.cell_of (HT.out x); clear HT; have HT := Lib.hid ht_; clear ht_; have hl_ := fun i hi => hx_.cell_of (HLA.out i hi); clear HLA; have HLA := Lib.hid hl_; clear hl_; have HLB := Lib.hid hlc; clear hlc; clear hx_))
  go_wp2
  obtain ⟨w0, hw0⟩ : ∃ x, x = w1 := ⟨_, rfl⟩
  rw [← hw0] at HQ HC HT HLA HLB ⊢
  clear hw0
  go_loopw [12] (fun i wr => ∃ k : Nat, k ≤ 11 ∧ i = .int .i64 k ∧ Ext w0 wr) (fun i _ => 11 - (intOf i).toNat)
  case atStart => exact ⟨0, by omega, rfl, Ext.refl _⟩
  case round =>
    obtain ⟨k, hk, rfl, hxr⟩ := hrel
    by_cases hlk : k < 11
    · have ca := hxr.cell_of (HLA.out k hlk)
      have cb := hxr.cell_of (HLB.out k hlk)
      have hki : (k : Int) < 11 := by omega
      generalize rkey K k = rk at *
      go_wp2
      refine Loud.wp_region_weave 9 wr (Loud.sps [.val (.slice (some ⟨la, 0, none⟩) 11 capA), .val (.int .i64 (k : Int)), .val (.pointer (some ⟨la, k, none⟩)), .val (.string (bs rk)), .val (.slice (some ⟨lb, 0, none⟩) 11 capB), .val (.int .i64 (k : Int)), .val (.pointer (some ⟨lb, k, none⟩)), .val (.string (bs rk)), .val (.bool false)]) (by kernel_rfl) (by kernel_rfl) (by show Ext _ _; repeat (first | exact Ext.refl _ | assumption | (with_reducible refine Ext.drew ?_) | (with_reducible refine Ext.drewN ?_ _) | (with_reducible refine Ext.alloc ?_ _) | (refine Ext.trans ?_ (by assumption)))) (Loud.sps_st _) ?wAx3 ?whAx3 ?whSx3 ?whFx3
      case whAx3 => intro u K hK; simp only [List.take_succ_cons, List.take_zero, Loud.puts]; go_simp; exact hK
      case whSx3 =>
        simp only [List.take_succ_cons, List.take_zero, Loud.stepsW]
        refine ⟨?wsx3_0, ?wsx3_1, ?wsx3_2, ?wsx3_3, ?wsx3_4, ?wsx3_5, ?wsx3_6, ?wsx3_7, ?wsx3_8, trivial⟩
        case wsx3_0 =>
          intro u β wq hq h
          repeat (obtain ⟨h1, h⟩ := h; first | (replace h1 := h1 rfl; simp only [go_sem] at h1; try (obtain ⟨h1, h1b⟩ := h1)) | (have hno := (h1 : Region.binds _ _ = true → _); clear hno h1))
          refine Or.inl ⟨rfl, fun K hK => ?_⟩
          go_simp
          exact hK _ 0 _ (Ext.refl _) rfl
        case wsx3_1 =>
          intro u β wq hq h
          repeat (obtain ⟨h1, h⟩ := h; first | (replace h1 := h1 rfl; simp only [go_sem] at h1; try (obtain ⟨h1, h1b⟩ := h1)) | (have hno := (h1 : Region.binds _ _ = true → _); clear hno h1))
          refine Or.inl ⟨rfl, fun K hK => ?_⟩
          go_simp
          exact hK _ 0 _ (Ext.refl _) rfl
        case wsx3_2 =>
          intro u β wq hq h
          repeat (obtain ⟨h1, h⟩ := h; first | (replace h1 := h1 rfl; simp only [go_sem] at h1; try (obtain ⟨h1, h1b⟩ := h1)) | (have hno := (h1 : Region.binds _ _ = true → _); clear hno h1))
          refine Or.inl ⟨rfl, fun K hK => ?_⟩
          go_simp
          exact hK _ 0 _ (Ext.refl _) rfl
        case wsx3_3 =>
          intro u β wq hq h
          repeat (obtain ⟨h1, h⟩ := h; first | (replace h1 := h1 rfl; simp only [go_sem] at h1; try (obtain ⟨h1, h1b⟩ := h1)) | (have hno := (h1 : Region.binds _ _ = true → _); clear hno h1))
          refine Or.inl ⟨rfl, fun K hK => ?_⟩
          have hqc := hq.cell_of ca
          go_simp
          exact hK _ 0 _ (Ext.refl _) rfl
        case wsx3_4 =>
          intro u β wq hq h
          repeat (obtain ⟨h1, h⟩ := h; first | (replace h1 := h1 rfl; simp only [go_sem] at h1; try (obtain ⟨h1, h1b⟩ := h1)) | (have hno := (h1 : Region.binds _ _ = true → _); clear hno h1))
          refine Or.inl ⟨rfl, fun K hK => ?_⟩
          go_simp
          exact hK _ 0 _ (Ext.refl _) rfl
        case wsx3_5 =>
          intro u β wq hq h
          repeat (obtain ⟨h1, h⟩ := h; first | (replace h1 := h1 rfl; simp only [go_sem] at h1; try (obtain ⟨h1, h1b⟩ := h1)) | (have hno := (h1 : Region.binds _ _ = true → _); clear hno h1))
          refine Or.inl ⟨rfl, fun K hK => ?_⟩
          go_simp
          exact hK _ 0 _ (Ext.refl _) rfl
        case wsx3_6 =>
          intro u β wq hq h
          repeat (obtain ⟨h1, h⟩ := h; first | (replace h1 := h1 rfl; simp only [go_sem] at h1; try (obtain ⟨h1, h1b⟩ := h1)) | (have hno := (h1 : Region.binds _ _ = true → _); clear hno h1))
          refine Or.inl ⟨rfl, fun K hK => ?_⟩
          go_simp
          exact hK _ 0 _ (Ext.refl _) rfl
        case wsx3_7 =>
          intro u β wq hq h
          repeat (obtain ⟨h1, h⟩ := h; first | (replace h1 := h1 rfl; simp only [go_sem] at h1; try (obtain ⟨h1, h1b⟩ := h1)) | (have hno := (h1 : Region.binds _ _ = true → _); clear hno h1))
          refine Or.inl ⟨rfl, fun K hK => ?_⟩
          have hqc := hq.cell_of cb
          go_simp
          exact hK _ 0 _ (Ext.refl _) rfl
        case wsx3_8 =>
          intro u β wq hq h
          repeat (obtain ⟨h1, h⟩ := h; first | (replace h1 := h1 rfl; simp only [go_sem] at h1; try (obtain ⟨h1, h1b⟩ := h1)) | (have hno := (h1 : Region.binds _ _ = true → _); clear hno h1))
          refine Or.inl ⟨rfl, fun K hK => ?_⟩
          go_simp
          exact hK _ 0 _ (Ext.refl _) rfl
      intro u β w5 hq h
      have h0 := h 0 (by omega)
      have h1 := h 1 (by omega)
      have h2 := h 2 (by omega)
      have h3 := h 3 (by omega)
      have h4 := h 4 (by omega)
      have h5 := h 5 (by omega)
      have h6 := h 6 (by omega)
      have h7 := h 7 (by omega)
      have h8 := h 8 (by omega)
      clear h
      simp only [go_sem] at h0 h1 h2 h3 h4 h5 h6 h7 h8
      simp only [List.drop_succ_cons, List.drop_zero]
      rw [h8]
      have hx5 := hxr.trans hq
      go_wp2
      go_roundw
      case measure => simp [intOf]; omega
      case rel => exact ⟨k + 1, by omega, by go_num, hx5⟩
    · obtain rfl : k = 11 := by omega
      have HQ2 := Lib.hid (HQ.out.trans hxr)
      have HC2 := Lib.hid (HC.out.ext hxr)
      have HT2 := Lib.hid (fun x => hxr.cell_of (HT.out x))
      clear HQ HC HT HLA HLB hxr
      have HQ := HQ2; have HC := HC2; have HT := HT2
      clear HQ2 HC2 HT2
      go_wp2_with (first
        | (go_at_call 23; with_reducible refine (GB.out c _ HC.out).mono ?_; rintro e w1 ⟨rfl, hx_⟩; have hq_ := HQ.out.trans hx_; clear HQ; have HQ := Lib.hid hq_; clear hq_; have hc_ := HC.out.ext hx_; clear HC; have HC := Lib.hid hc_; clear hc_; have ht_ := fun x => hx_.cell_of (HT.out x); clear HT; have HT := Lib.hid ht_; clear ht_; clear hx_)
        | (go_at_call 24; with_reducible refine (GK.out c _ HC.out).mono ?_; rintro e w1 ⟨rfl, hx_⟩; have hq_ := HQ.out.trans hx_; clear HQ; have HQ := Lib.hid hq_; clear hq_; have hc_ := HC.out.ext hx_; clear HC; have HC := Lib.hid hc_; clear hc_; have ht_ := fun x => hx_.cell_of (HT.out x); clear HT; have HT := Lib.hid ht_; clear ht_; clear hx_)
        | (go_at_call 17; with_reducible refine (G0.out _).mono ?_; rintro e w1 ⟨rfl, hx_⟩; have hq_ := HQ.out.trans hx_; clear HQ; have HQ := Lib.hid hq_; clear hq_; clear hx_))
      go_returns
      exact ⟨rfl, HQ.out⟩
set_option maxRecDepth 100000 in
theorem blocks_key (w : World) (key s : List UInt8) (hk : key.length ≠ 16) (h1 : key.length + s.length ≤ 1024) :
    Calls Try.prog 5 #[.string (bs key), .string (bs s), .bool false] w fun e w' => e = .returned (.bool true) ∧ Ext w w' := by
  have G0 := Lib.hid works04
  have i1 : ¬ (1024 : Int) < (key.length : Int) + (s.length : Int) := by have := h1; omega
  have GN := Lib.hid (fun W => New_no key W hk (by omega))
  have hne : ((key.length : Int) != 16) = true := by simp; omega
  clear h1
  go_enter Try.func5, Try.ntmps5
  go_wp2_with (first
    | (go_at_call 19; with_reducible refine (GN.out _).mono ?_; rintro e w1 ⟨rfl, rfl⟩)
    | (go_at_call 17; with_reducible refine (G0.out _).mono ?_; rintro e w1 ⟨rfl, hx1⟩))
  go_returns
  exact ⟨rfl, hx1⟩
set_option maxRecDepth 100000 in
theorem law_AesBlocks (w : World) (key s : List UInt8) (fit : Bool) (hkl : key.length ≤ 140737488351232) (hsl : s.length ≤ 140737488351232) :
    Calls Try.prog 5 #[.string (bs key), .string (bs s), .bool fit] w fun e w' => e = .returned (.bool true) ∧ Ext w w' := by
  by_cases h1 : 1024 < key.length + s.length
  · have G0 := Lib.hid works04
    have i1 : (1024 : Int) < (key.length : Int) + (s.length : Int) := by omega
    clear h1
    go_enter Try.func5, Try.ntmps5
    go_wp2_with (go_at_call 17; with_reducible refine (G0.out _).mono ?_; rintro e w1 ⟨rfl, hx1⟩)
    go_returns
    exact ⟨rfl, hx1⟩
  have h1' : key.length + s.length ≤ 1024 := by omega
  cases fit
  · by_cases hk : key.length = 16
    · by_cases hs : s.length = 16
      · exact blocks_yes w key s hk hs h1'
      · exact blocks_no w key s hk hs h1'
    · exact blocks_key w key s hk h1'
  · exact blocks_fit w key s hkl hsl h1'
end Go.Proofs.Ytgncnplgjhaojaa
