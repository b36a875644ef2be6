/- The statements of layer 4: full; the walk of AesOnce. -/
import Derived.Test.YtgncnplgjhaojaaLaw04
import Derived.Test.YtgncnplgjhaojaaPlain04
namespace Go.Proofs.Ytgncnplgjhaojaa
open Go Go.RowKit

set_option maxRecDepth 100000 in
theorem full04 (s : List UInt8) (w : World) (_hl : s.length ≤ 140737488351232) :
    Calls Try.prog 18 #[.string (bs s)] w fun e w' => e = .returned (.string (bs (padTo 16 s))) ∧ Ext w w' := by
  have hmk : ∀ w : World, (Instr.makeSlice 34 (.int .i64 16) (.int .i64 16)).run Try.prog w = .ok (.slice (some ⟨w.heap.size, 0, none⟩) 16 16) (w.alloc (.cells (bcells z16) 5)) := fun w => mk_bytes 16 (by omega) w
  have HSZ := Lib.hid (show splice z16 0 (s.take 16) = padTo 16 s from splice_zeros 16 s)
  go_enter Try.func18, Try.ntmps18
  go_wp2_with (refine wpl_copy_str rfl rfl und_bytes info_u8 rfl rfl (L := z16) (heap_alloc_new w _) (by rw [z16_length]; decide) ?_; intro w2 hb2 _ hbel; rw [HSZ.out] at hb2; have kc := fun c => to_str_of (c := c) hb2 (padTo_length 16 _); have hx2 : Ext w w2 := ((Ext.refl w).alloc _).trans_below hbel; clear hb2)
  go_returns
  exact ⟨rfl, hx2⟩
theorem run_index_str (l : List UInt8) (k : Nat) (hk : k < l.length) (w : World) : (Instr.index 9 (.string (bs l)) (.int .i64 (k : Int))).run Try.prog w = .ok (.int .u8 ((l.getD k 0).toNat : Int)) w := by
  have h1 := run_index_string (P := Try.prog) w 9 (bs l) .i64 (k : Int) und_string
  rw [dif_pos ⟨by omega, by rw [bs_size]; omega⟩] at h1
  simp only [bs_get, Int.toNat_natCast] at h1
  rw [h1]
  simp [List.getD, hk]
theorem rounds_look {w : World} {B : Nat} {T : TypeId} {v : Value} {K : List UInt8} (h : Row w B T v ((rkL K).map strV)) :
    ∃ g cap, v = .slice (some ⟨g, 0, none⟩) 11 cap ∧ ∀ i, i < 11 → w.cell? ⟨g, i, none⟩ = some (.string (bs (rkey K i))) := by
  have hl : ((rkL K).map strV).length = 11 := by rw [List.length_map, rkL_length]
  rcases h.look with ⟨_, h2⟩ | ⟨g, cap, cur, rfl, _⟩
  · rw [h2] at hl; cases hl
  · refine ⟨g, cap, by rw [hl], fun i hi => ?_⟩
    have := Row.cellAt h i (by omega)
    rw [this]
    simp [rkL, strV]
set_option maxRecDepth 100000 in
set_option maxHeartbeats 4000000 in
theorem law_AesOnce (w : World) (key : List UInt8) (a b : UInt8) (hkl : key.length ≤ 140737488351232) :
    Calls Try.prog 4 #[.string (bs key), .int .u8 (a.toNat : Int), .int .u8 (b.toNat : Int)] w fun e w' => e = .returned (.bool true) ∧ Ext w w' := by
  have G0 := Lib.hid works04
  by_cases h1 : 1024 < key.length
  · go_enter Try.func4, Try.ntmps4
    go_wp2_with (go_at_call 17; with_reducible refine (G0.out _).mono ?_; rintro e w9 ⟨rfl, hx9⟩)
    go_returns
    exact ⟨rfl, hx9⟩
  have GF := Lib.hid (fun W => full04 key W hkl)
  have hkk : (padTo 16 key).length = 16 := padTo_length 16 key
  generalize padTo 16 key = k at *
  have GN := Lib.hid (fun W => New_yes k W hkk)
  have GA := Lib.hid (fun W => Box_any a W)
  have GB := Lib.hid (fun W => Box_any b W)
  have GU := Lib.hid (fun W => Unbox_any b W)
  have hKl := rks_length k
  have HF := Lib.hid (rks_first k hkk)
  have HR := Lib.hid (fun i j h1 h2 h3 h4 => rks_rule k i j h1 h2 h3 h4)
  generalize rks k = K at *
  have GR := Lib.hid (fun c W (h : CI W c K) => Rounds_any c K W h)
  have HKL := Lib.hid hKl
  have hab : (((boxO a).toNat : Int) == ((boxO b).toNat : Int)) = ((a.toNat : Int) == (b.toNat : Int)) := by
    have := box_inj a b
    rw [Bool.eq_iff_iff]
    simp only [beq_iff_eq, Int.ofNat_inj, UInt8.toNat_inj]
    exact this
  have haa : (((boxO a).toNat : Int) == (a.toNat : Int)) = false := by
    rw [beq_eq_false_iff_ne]
    intro h
    exact box_ne a (UInt8.toNat_inj.1 (Int.ofNat_inj.1 h))
  have hbb := box_un b
  have GBU : Hid (∀ W : World, Calls Try.prog 13 #[.int .u8 ((unO b).toNat : Int)] W fun e w' => e = .returned (.int .u8 (b.toNat : Int)) ∧ Ext W w') := Lib.hid fun W => by
    have := Box_any (unO b) W
    rw [hbb] at this
    exact this
  clear hbb hKl
  generalize boxO a = ba at *
  generalize boxO b = bb at *
  generalize unO b = ub at *
  go_enter Try.func4, Try.ntmps4
  go_wp2_with (first
    | (go_at_call 18; with_reducible refine (GF.out _).mono ?_; rintro e w1 ⟨rfl, hx1⟩)
    | (go_at_call 19; with_reducible refine (GN.out w1).mono ?_; rintro e w2 ⟨c, rfl, hcl, hci, hx2⟩; have HCI := Lib.hid hci; clear hci hcl)
    | (go_at_call 15; with_reducible refine (GU.out _).mono ?_; rintro e w5 ⟨rfl, hx5⟩)
    | (go_at_call 13; with_reducible refine (GBU.out _).mono ?_; rintro e w6 ⟨rfl, hx6⟩)
    | (go_at_call 13; with_reducible refine (GA.out w2).mono ?_; rintro e w3 ⟨rfl, hx3⟩)
    | (go_at_call 13; with_reducible refine (GB.out w3).mono ?_; rintro e w4 ⟨rfl, hx4⟩)
    | (go_at_call 13; with_reducible refine (GA.out w4).mono ?_; rintro e w4' ⟨rfl, hx4'⟩))
  refine (GR.out c w6 (HCI.out.ext (hx3.trans (hx4.trans (hx4'.trans (hx5.trans hx6)))))).mono ?_
  rintro e w7 ⟨v, rfl, hrow, hx7⟩; obtain ⟨g, cap, rfl, hcell⟩ := rounds_look hrow; have hc0 := hcell 0 (by omega)
  rw [HF.out] at hc0
  have HX7 := Lib.hid (hx1.trans (hx2.trans (hx3.trans (hx4.trans (hx4'.trans (hx5.trans (hx6.trans hx7)))))))
  have HCE := Lib.hid hcell
  clear hcell hrow hx1 hx2 hx3 hx4 hx4' hx5 hx6 hx7
  go_wp2
  clear hc0 hab haa GA GB GU GBU GN GF HCI GR
  go_loopw [11] (fun i wr => ∃ n : Nat, 1 ≤ n ∧ n ≤ 11 ∧ i = .int .i64 n ∧ Ext w7 wr) (fun i _ => 11 - (intOf i).toNat)
  case atStart => exact ⟨1, by omega, by omega, rfl, Ext.refl _⟩
  case round =>
    obtain ⟨n, hn1, hn, rfl, hx⟩ := hrel
    by_cases hlt : n < 11
    · obtain ⟨m, hm⟩ : ∃ m : Nat, (n : Int) - 1 = (m : Int) := ⟨n - 1, by omega⟩
      have hmn : m = n - 1 := by omega
      have hwm : IntKind.i64.wrap (m : Int) = (m : Int) := by rw [IntKind.wrap_i64]; omega
      have hni : (n : Int) < 11 := by omega
      have hmi : (m : Int) < 11 := by omega
      have hcn := hx.cell_of (HCE.out n hlt)
      have hcm := hx.cell_of (HCE.out m (by omega))
      have hln : (rkey K n).length = 16 := rkey_length K HKL.out n (by omega)
      have hlm : (rkey K m).length = 16 := rkey_length K HKL.out m (by omega)
      have HRR : Hid (∀ j, 4 ≤ j → j < 16 → (rkey K n).getD j 0 = x8 ((rkey K n).getD (j - 4) 0) ((rkey K m).getD j 0)) := Lib.hid fun j h4 h16 => by
        rw [hmn]; exact HR.out n j hn1 (by omega) h4 h16
      clear hmn
      generalize rkey K n = p at *
      generalize rkey K m = q at *
      go_wp2
      obtain ⟨wo, hwo⟩ : ∃ x, x = wr := ⟨_, rfl⟩
      subst hwo
      go_loopw [12] (fun i wr => ∃ j : Nat, 4 ≤ j ∧ j ≤ 16 ∧ i = .int .i64 j ∧ Ext wo wr) (fun i _ => 16 - (intOf i).toNat)
      case atStart => exact ⟨4, by omega, by omega, rfl, Ext.refl _⟩
      case round =>
        obtain ⟨j, hj4, hj, rfl, hx2⟩ := hrel
        by_cases hlj : j < 16
        · obtain ⟨r, hr⟩ : ∃ r : Nat, (j : Int) - 4 = (r : Int) := ⟨j - 4, by omega⟩
          have hrj : r = j - 4 := by omega
          have hwr : IntKind.i64.wrap (r : Int) = (r : Int) := by rw [IntKind.wrap_i64]; omega
          have hi1 := run_index_str p j (by omega)
          have hi2 := run_index_str p r (by omega)
          have hi3 := run_index_str q j (by omega)
          have hpq := HRR.out j hj4 hlj
          rw [← hrj] at hpq
          rw [hpq] at hi1
          generalize p.getD r 0 = x at *
          generalize q.getD j 0 = y at *
          have hcn2 := hx2.cell_of hcn
          have hcm2 := hx2.cell_of hcm
          have hji : (j : Int) < 16 := by omega
          clear hpq hrj
          go_wp2
          refine Loud.wp_region_weave 22 wr (Loud.sps [.val (.slice (some ⟨g, 0, none⟩) 11 cap), .val (.int .i64 (n : Int)), .val (.pointer (some ⟨g, n, none⟩)), .val (.string (bs p)), .val (.int .i64 (j : Int)), .val (.int .u8 ((x8 x y).toNat : Int)), .val (.slice (some ⟨g, 0, none⟩) 11 cap), .val (.int .i64 (n : Int)), .val (.pointer (some ⟨g, n, none⟩)), .val (.string (bs p)), .val (.int .i64 (j : Int)), .val (.int .i64 (r : Int)), .val (.int .u8 (x.toNat : Int)), .val (.slice (some ⟨g, 0, none⟩) 11 cap), .val (.int .i64 (n : Int)), .val (.int .i64 (m : Int)), .val (.pointer (some ⟨g, m, none⟩)), .val (.string (bs q)), .val (.int .i64 (j : Int)), .val (.int .u8 (y.toNat : Int)), .val (.int .u8 ((x8 x y).toNat : Int)), .val (.bool false)]) (by kernel_rfl) (by kernel_rfl) (by show Ext _ _; repeat (first | exact Ext.refl _ | assumption | (with_reducible refine Ext.drew ?_) | (with_reducible refine Ext.drewN ?_ _) | (with_reducible refine Ext.alloc ?_ _) | (refine Ext.trans ?_ (by assumption)))) (Loud.sps_st _) ?wAx1 ?whAx1 ?whSx1 ?whFx1
          case whAx1 => intro u K hK; simp only [List.take_succ_cons, List.take_zero, Loud.puts]; go_simp; exact hK
          case whSx1 =>
            simp only [List.take_succ_cons, List.take_zero, Loud.stepsW]
            refine ⟨?wsx1_0, ?wsx1_1, ?wsx1_2, ?wsx1_3, ?wsx1_4, ?wsx1_5, ?wsx1_6, ?wsx1_7, ?wsx1_8, ?wsx1_9, ?wsx1_10, ?wsx1_11, ?wsx1_12, ?wsx1_13, ?wsx1_14, ?wsx1_15, ?wsx1_16, ?wsx1_17, ?wsx1_18, ?wsx1_19, ?wsx1_20, ?wsx1_21, trivial⟩
            case wsx1_0 =>
              intro u β wq hq h
              repeat (obtain ⟨h1, h⟩ := h; first | (replace h1 := h1 rfl; simp only [go_sem] at h1; try (obtain ⟨h1, h1b⟩ := h1)) | (have hno := (h1 : Region.binds _ _ = true → _); clear hno h1))
              refine Or.inl ⟨rfl, fun K hK => ?_⟩
              go_simp
              exact hK _ 0 _ (Ext.refl _) rfl
            case wsx1_1 =>
              intro u β wq hq h
              repeat (obtain ⟨h1, h⟩ := h; first | (replace h1 := h1 rfl; simp only [go_sem] at h1; try (obtain ⟨h1, h1b⟩ := h1)) | (have hno := (h1 : Region.binds _ _ = true → _); clear hno h1))
              refine Or.inl ⟨rfl, fun K hK => ?_⟩
              go_simp
              exact hK _ 0 _ (Ext.refl _) rfl
            case wsx1_2 =>
              intro u β wq hq h
              repeat (obtain ⟨h1, h⟩ := h; first | (replace h1 := h1 rfl; simp only [go_sem] at h1; try (obtain ⟨h1, h1b⟩ := h1)) | (have hno := (h1 : Region.binds _ _ = true → _); clear hno h1))
              refine Or.inl ⟨rfl, fun K hK => ?_⟩
              go_simp
              exact hK _ 0 _ (Ext.refl _) rfl
            case wsx1_3 =>
              intro u β wq hq h
              repeat (obtain ⟨h1, h⟩ := h; first | (replace h1 := h1 rfl; simp only [go_sem] at h1; try (obtain ⟨h1, h1b⟩ := h1)) | (have hno := (h1 : Region.binds _ _ = true → _); clear hno h1))
              refine Or.inl ⟨rfl, fun K hK => ?_⟩
              have hqc := hq.cell_of hcn2
              go_simp
              exact hK _ 0 _ (Ext.refl _) rfl
            case wsx1_4 =>
              intro u β wq hq h
              repeat (obtain ⟨h1, h⟩ := h; first | (replace h1 := h1 rfl; simp only [go_sem] at h1; try (obtain ⟨h1, h1b⟩ := h1)) | (have hno := (h1 : Region.binds _ _ = true → _); clear hno h1))
              refine Or.inl ⟨rfl, fun K hK => ?_⟩
              go_simp
              exact hK _ 0 _ (Ext.refl _) rfl
            case wsx1_5 =>
              intro u β wq hq h
              repeat (obtain ⟨h1, h⟩ := h; first | (replace h1 := h1 rfl; simp only [go_sem] at h1; try (obtain ⟨h1, h1b⟩ := h1)) | (have hno := (h1 : Region.binds _ _ = true → _); clear hno h1))
              refine Or.inl ⟨rfl, fun K hK => ?_⟩
              go_simp
              exact hK _ 0 _ (Ext.refl _) rfl
            case wsx1_6 =>
              intro u β wq hq h
              repeat (obtain ⟨h1, h⟩ := h; first | (replace h1 := h1 rfl; simp only [go_sem] at h1; try (obtain ⟨h1, h1b⟩ := h1)) | (have hno := (h1 : Region.binds _ _ = true → _); clear hno h1))
              refine Or.inl ⟨rfl, fun K hK => ?_⟩
              go_simp
              exact hK _ 0 _ (Ext.refl _) rfl
            case wsx1_7 =>
              intro u β wq hq h
              repeat (obtain ⟨h1, h⟩ := h; first | (replace h1 := h1 rfl; simp only [go_sem] at h1; try (obtain ⟨h1, h1b⟩ := h1)) | (have hno := (h1 : Region.binds _ _ = true → _); clear hno h1))
              refine Or.inl ⟨rfl, fun K hK => ?_⟩
              go_simp
              exact hK _ 0 _ (Ext.refl _) rfl
            case wsx1_8 =>
              intro u β wq hq h
              repeat (obtain ⟨h1, h⟩ := h; first | (replace h1 := h1 rfl; simp only [go_sem] at h1; try (obtain ⟨h1, h1b⟩ := h1)) | (have hno := (h1 : Region.binds _ _ = true → _); clear hno h1))
              refine Or.inl ⟨rfl, fun K hK => ?_⟩
              go_simp
              exact hK _ 0 _ (Ext.refl _) rfl
            case wsx1_9 =>
              intro u β wq hq h
              repeat (obtain ⟨h1, h⟩ := h; first | (replace h1 := h1 rfl; simp only [go_sem] at h1; try (obtain ⟨h1, h1b⟩ := h1)) | (have hno := (h1 : Region.binds _ _ = true → _); clear hno h1))
              refine Or.inl ⟨rfl, fun K hK => ?_⟩
              have hqc := hq.cell_of hcn2
              go_simp
              exact hK _ 0 _ (Ext.refl _) rfl
            case wsx1_10 =>
              intro u β wq hq h
              repeat (obtain ⟨h1, h⟩ := h; first | (replace h1 := h1 rfl; simp only [go_sem] at h1; try (obtain ⟨h1, h1b⟩ := h1)) | (have hno := (h1 : Region.binds _ _ = true → _); clear hno h1))
              refine Or.inl ⟨rfl, fun K hK => ?_⟩
              go_simp
              exact hK _ 0 _ (Ext.refl _) rfl
            case wsx1_11 =>
              intro u β wq hq h
              repeat (obtain ⟨h1, h⟩ := h; first | (replace h1 := h1 rfl; simp only [go_sem] at h1; try (obtain ⟨h1, h1b⟩ := h1)) | (have hno := (h1 : Region.binds _ _ = true → _); clear hno h1))
              refine Or.inl ⟨rfl, fun K hK => ?_⟩
              go_simp
              exact hK _ 0 _ (Ext.refl _) rfl
            case wsx1_12 =>
              intro u β wq hq h
              repeat (obtain ⟨h1, h⟩ := h; first | (replace h1 := h1 rfl; simp only [go_sem] at h1; try (obtain ⟨h1, h1b⟩ := h1)) | (have hno := (h1 : Region.binds _ _ = true → _); clear hno h1))
              refine Or.inl ⟨rfl, fun K hK => ?_⟩
              go_simp
              exact hK _ 0 _ (Ext.refl _) rfl
            case wsx1_13 =>
              intro u β wq hq h
              repeat (obtain ⟨h1, h⟩ := h; first | (replace h1 := h1 rfl; simp only [go_sem] at h1; try (obtain ⟨h1, h1b⟩ := h1)) | (have hno := (h1 : Region.binds _ _ = true → _); clear hno h1))
              refine Or.inl ⟨rfl, fun K hK => ?_⟩
              go_simp
              exact hK _ 0 _ (Ext.refl _) rfl
            case wsx1_14 =>
              intro u β wq hq h
              repeat (obtain ⟨h1, h⟩ := h; first | (replace h1 := h1 rfl; simp only [go_sem] at h1; try (obtain ⟨h1, h1b⟩ := h1)) | (have hno := (h1 : Region.binds _ _ = true → _); clear hno h1))
              refine Or.inl ⟨rfl, fun K hK => ?_⟩
              go_simp
              exact hK _ 0 _ (Ext.refl _) rfl
            case wsx1_15 =>
              intro u β wq hq h
              repeat (obtain ⟨h1, h⟩ := h; first | (replace h1 := h1 rfl; simp only [go_sem] at h1; try (obtain ⟨h1, h1b⟩ := h1)) | (have hno := (h1 : Region.binds _ _ = true → _); clear hno h1))
              refine Or.inl ⟨rfl, fun K hK => ?_⟩
              go_simp
              exact hK _ 0 _ (Ext.refl _) rfl
            case wsx1_16 =>
              intro u β wq hq h
              repeat (obtain ⟨h1, h⟩ := h; first | (replace h1 := h1 rfl; simp only [go_sem] at h1; try (obtain ⟨h1, h1b⟩ := h1)) | (have hno := (h1 : Region.binds _ _ = true → _); clear hno h1))
              refine Or.inl ⟨rfl, fun K hK => ?_⟩
              go_simp
              exact hK _ 0 _ (Ext.refl _) rfl
            case wsx1_17 =>
              intro u β wq hq h
              repeat (obtain ⟨h1, h⟩ := h; first | (replace h1 := h1 rfl; simp only [go_sem] at h1; try (obtain ⟨h1, h1b⟩ := h1)) | (have hno := (h1 : Region.binds _ _ = true → _); clear hno h1))
              refine Or.inl ⟨rfl, fun K hK => ?_⟩
              have hqc := hq.cell_of hcm2
              go_simp
              exact hK _ 0 _ (Ext.refl _) rfl
            case wsx1_18 =>
              intro u β wq hq h
              repeat (obtain ⟨h1, h⟩ := h; first | (replace h1 := h1 rfl; simp only [go_sem] at h1; try (obtain ⟨h1, h1b⟩ := h1)) | (have hno := (h1 : Region.binds _ _ = true → _); clear hno h1))
              refine Or.inl ⟨rfl, fun K hK => ?_⟩
              go_simp
              exact hK _ 0 _ (Ext.refl _) rfl
            case wsx1_19 =>
              intro u β wq hq h
              repeat (obtain ⟨h1, h⟩ := h; first | (replace h1 := h1 rfl; simp only [go_sem] at h1; try (obtain ⟨h1, h1b⟩ := h1)) | (have hno := (h1 : Region.binds _ _ = true → _); clear hno h1))
              refine Or.inl ⟨rfl, fun K hK => ?_⟩
              go_simp
              exact hK _ 0 _ (Ext.refl _) rfl
            case wsx1_20 =>
              intro u β wq hq h
              repeat (obtain ⟨h1, h⟩ := h; first | (replace h1 := h1 rfl; simp only [go_sem] at h1; try (obtain ⟨h1, h1b⟩ := h1)) | (have hno := (h1 : Region.binds _ _ = true → _); clear hno h1))
              refine Or.inl ⟨rfl, fun K hK => ?_⟩
              go_simp
              exact hK _ 0 _ (Ext.refl _) rfl
            case wsx1_21 =>
              intro u β wq hq h
              repeat (obtain ⟨h1, h⟩ := h; first | (replace h1 := h1 rfl; simp only [go_sem] at h1; try (obtain ⟨h1, h1b⟩ := h1)) | (have hno := (h1 : Region.binds _ _ = true → _); clear hno h1))
              refine Or.inl ⟨rfl, fun K hK => ?_⟩
              go_simp
              exact hK _ 0 _ (Ext.refl _) rfl
          intro u β w9 hq h
          have h0 := h 0 (by omega)
          have h1 := h 1 (by omega)
          have h2 := h 2 (by omega)
          have h3 := h 3 (by omega)
          have h4 := h 4 (by omega)
          have h5 := h 5 (by omega)
          have h6 := h 6 (by omega)
          have h7 := h 7 (by omega)
          have h8 := h 8 (by omega)
          have h9 := h 9 (by omega)
          have h10 := h 10 (by omega)
          have h11 := h 11 (by omega)
          have h12 := h 12 (by omega)
          have h13 := h 13 (by omega)
          have h14 := h 14 (by omega)
          have h15 := h 15 (by omega)
          have h16 := h 16 (by omega)
          have h17 := h 17 (by omega)
          have h18 := h 18 (by omega)
          have h19 := h 19 (by omega)
          have h20 := h 20 (by omega)
          have h21 := h 21 (by omega)
          clear h
          simp only [go_sem] at h0 h1 h2 h3 h4 h5 h6 h7 h8 h9 h10 h11 h12 h13 h14 h15 h16 h17 h18 h19 h20 h21
          simp only [List.drop_succ_cons, List.drop_zero]
          rw [h21]
          go_wp2
          go_roundw
          case measure => simp [intOf]; omega
          case rel => exact ⟨j + 1, by omega, by omega, by go_num, hx2.trans hq⟩
        · obtain rfl : j = 16 := by omega
          go_wp2
          go_roundw
          case measure => simp [intOf]; omega
          case rel => exact ⟨n + 1, by omega, by omega, by go_num, hx.trans hx2⟩
    · obtain rfl : n = 11 := by omega
      go_wp2_with (go_at_call 17; with_reducible refine (G0.out _).mono ?_; rintro e w9 ⟨rfl, hx9⟩)
      go_returns
      exact ⟨rfl, HX7.out.trans (hx.trans hx9)⟩
end Go.Proofs.Ytgncnplgjhaojaa
