/- The statements of layer 2: the walk of ShaPieces. -/
import Derived.Test.YtipdgiikifmjdaaLaw02c
import Derived.Test.YtipdgiikifmjdaaWeave
namespace Go.Proofs.Ytipdgiikifmjdaa
open Go Go.RowKit

theorem piece_next (s : List UInt8) (at_ n : Nat) : s.take at_ ++ (s.drop at_).take n = s.take (at_ + n) := by
  rw [List.take_add]
set_option maxRecDepth 100000 in
set_option maxHeartbeats 1000000 in
theorem pieces_long (w : World) (s pieces : List UInt8) (asks : List Bool) (ad1 ad2 : Option Addr) (cap1 cap2 : Nat) (hs : Rch02 s) (hp : pieces.length ≤ 140737488351232) (ha : asks.length ≤ 140737488351232)
    (h : 2048 < s.length ∨ 300 < pieces.length ∨ 300 < asks.length) :
    Calls Try.prog 5 #[.string (bs s), .slice ad1 pieces.length cap1, .slice ad2 asks.length cap2] w fun e w' => e = .returned (.bool true) ∧ Ext w w' := by
  have G0 := Lib.hid works02
  have hs := hs.le
  by_cases h1 : 2048 < s.length
  · clear h
    go_enter Try.func5, Try.ntmps5
    go_wp2_with (first
      | (go_at_call 11; with_reducible refine (G0.out _).mono ?_; rintro e w9 ⟨rfl, hw9⟩))
    go_returns
    exact ⟨rfl, hw9⟩
  · have h1' : s.length ≤ 2048 := by omega
    by_cases h2 : 300 < pieces.length
    · clear h h1
      go_enter Try.func5, Try.ntmps5
      go_wp2_with (first
        | (go_at_call 11; with_reducible refine (G0.out _).mono ?_; rintro e w9 ⟨rfl, hw9⟩))
      go_returns
      exact ⟨rfl, hw9⟩
    · have h2' : pieces.length ≤ 300 := by omega
      have h3 : 300 < asks.length := by omega
      clear h h1 h2
      go_enter Try.func5, Try.ntmps5
      go_wp2_with (first
        | (go_at_call 11; with_reducible refine (G0.out _).mono ?_; rintro e w9 ⟨rfl, hw9⟩))
      go_returns
      exact ⟨rfl, hw9⟩
set_option maxRecDepth 100000 in
set_option maxHeartbeats 4000000 in
theorem pieces_main (w : World) (s pieces : List UInt8) (asks : List Bool) (ad1 ad2 : Option Addr) (cap1 cap2 : Nat) (hs : s.length ≤ 2048) (hp : pieces.length ≤ 300) (ha : asks.length ≤ 300)
    (hv1 : Sl w (.slice ad1 pieces.length cap1) (pieces.map byteV)) (hv2 : Sl w (.slice ad2 asks.length cap2) (asks.map Value.bool)) :
    Calls Try.prog 5 #[.string (bs s), .slice ad1 pieces.length cap1, .slice ad2 asks.length cap2] w fun e w' => e = .returned (.bool true) ∧ Ext w w' := by
  have G0 := Lib.hid works02
  have GN := Lib.hid HT_new
  have V1 := Lib.hid hv1; have V2 := Lib.hid hv2
  clear hv1 hv2
  go_enter Try.func5, Try.ntmps5
  go_wp2_with (go_at_call 16; with_reducible refine (GN.out _).mono ?_; rintro e w2 ⟨bh, rfl, hb1, ht2, hx2⟩; have H2 := Lib.hid ht2; clear ht2)
  go_loopw [8, 9] (fun o i wr => ∃ (p k : Nat), p ≤ s.length ∧ (k ≤ pieces.length ∨ (p = s.length ∧ k ≤ pieces.length + 1)) ∧ o = .int .i64 p ∧ i = .int .i64 k ∧ HT wr bh (s.take p) ∧ Ext w wr) (fun _ i _ => pieces.length + 1 - (intOf i).toNat)
  case atStart => exact ⟨0, 0, by omega, Or.inl (by omega), rfl, rfl, H2.out, hx2⟩
  case round =>
    obtain ⟨p, k, hpl, hk, rfl, rfl, ht, hx⟩ := hrel
    have HTT := Lib.hid ht
    clear ht
    by_cases hlt : p < s.length
    · have hk' : k ≤ pieces.length := by omega
      have hkk : k ≤ 300 := by omega
      by_cases hkp : k < pieces.length
      · obtain ⟨b1, o1, ha1, hb1l, hc1⟩ := (V1.out.ext hx).at_ k (by simpa using hkp)
        rw [List.getElem_map] at hc1
        subst ha1
        have hc1' : wr.cell? ⟨b1, o1 + k, none⟩ = some (.int .u8 (pieces[k].toNat : Int)) := hc1
        have hby := pieces[k].toNat_lt
        obtain ⟨n, hn⟩ : ∃ n : Nat, min ((s.length : Int) - (p : Int)) (pieces[k].toNat : Int) = (n : Int) := ⟨(min ((s.length : Int) - (p : Int)) (pieces[k].toNat : Int)).toNat, by omega⟩
        have hpn : p + n ≤ s.length := by omega
        clear hc1
        obtain ⟨e, he⟩ : ∃ e : Nat, (p : Int) + (n : Int) = (e : Int) := ⟨p + n, by omega⟩
        have hes : e ≤ s.length := by omega
        have hpe2 : p ≤ e := by omega
        have hlt2 : (s.take e).length = e := by rw [List.length_take]; omega
        have hex : (bs s).extract p e = bs ((s.drop p).take n) := by rw [bs_extract]; congr 2; omega
        have hwe : IntKind.u64.wrap (e : Int) = (e : Int) := by rw [IntKind.wrap_u64]; omega
        have GA := Lib.hid (fun W (h : HT W bh (s.take p)) => piece_next s p n ▸ HT_add W bh (s.take p) ((s.drop p).take n) (by simp; omega) h)
        rw [show p + n = e by omega] at GA
        have GL : Hid (∀ W, HT W bh (s.take e) → Calls Try.prog 18 #[.pointer (some ⟨bh, 0, none⟩)] W fun e' w' => e' = .returned (.int .u64 (e : Int)) ∧ W = w') := Lib.hid (fun W h => by
          have h := HLen_any W bh _ _ _ h
          rw [hlt2] at h
          exact h)
        have GS := Lib.hid (fun W (h : HT W bh (s.take e)) => HT_sum W bh (s.take e) (by omega) h)
        have GO := Lib.hid (fun (b : Nat) (W : World) (h : W.heap[b]? = some (.cells #[.string (bs (s.take e))] 9)) => Of_one (s.take e) b W (by omega) h)
        generalize hz : shaS (s.take e) = z at GS GO
        clear hz hlt2
        by_cases hka : k < asks.length
        · obtain ⟨b3, o3, ha3, hb3l, hc3⟩ := V2.out.at_ k (by simpa using hka)
          rw [List.getElem_map] at hc3
          subst ha3
          have kal : (k : Int) < (asks.length : Int) := by omega
          cases hak : asks[k] with
          | true =>
            rw [hak] at hc3
            clear hak
            go_upto_region 15 with (first
              | (go_at_call 17; refine (GA.out wr HTT.out).mono ?_; rintro e w3 ⟨rfl, ht3, hb3⟩; have HTT3 := Lib.hid ht3; have hx3 : Ext w w3 := But.ext hx hb3 (by simp; omega); clear ht3 hb3)
              | (go_at_call 18; with_reducible refine (GL.out w3 HTT3.out).mono ?_; rintro e w' ⟨rfl, rfl⟩)
              | (refine wpl_min2 rfl rfl rfl rfl (n : Int) hn.symm ?_))
            have q3 : w3.cell? ⟨b3, o3 + k, none⟩ = some (.bool true) := hx3.cell_of hc3
            refine Loud.wp_region_weave 20 w3 (Loud.sps [.val (.int .i64 (k : Int)), .val (.slice (some ⟨b3, o3, none⟩) asks.length cap2), .val (.int .i64 (asks.length : Int)), .val (.bool true), .val (.bool true), .val (.slice (some ⟨b3, o3, none⟩) asks.length cap2), .val (.int .i64 (k : Int)), .val (.pointer (some ⟨b3, o3 + k, none⟩)), .val (.bool true), .val (.bool true), .val (.bool true), .val (.pointer (some ⟨bh, 0, none⟩)), .val (.string (bs z)), .val (.string (bs s)), .val (.int .i64 (e : Int)), .val (.string (bs (s.take e))), .blk 1 1 (.cells #[.string (bs (s.take e))] 9), .val (.string (bs z)), .val (.bool false), .val (.bool false)]) (by kernel_rfl) (by kernel_rfl) (by show Ext _ _; repeat (first | exact Ext.refl _ | assumption | (with_reducible refine Ext.drew ?_) | (with_reducible refine Ext.drewN ?_ _) | (with_reducible refine Ext.alloc ?_ _) | (refine Ext.trans ?_ (by assumption)))) (Loud.sps_st _) ?wAx1 ?whAx1 ?whSx1 ?whFx1
            case whAx1 => intro u K hK; simp only [List.take_succ_cons, List.take_zero, Loud.puts]; go_simp; exact hK
            case whSx1 =>
              simp only [List.take_succ_cons, List.take_zero, Loud.stepsW]
              refine ⟨?wsx1_0, ?wsx1_1, ?wsx1_2, ?wsx1_3, ?wsx1_4, ?wsx1_5, ?wsx1_6, ?wsx1_7, ?wsx1_8, ?wsx1_9, ?wsx1_10, ?wsx1_11, ?wsx1_12, ?wsx1_13, ?wsx1_14, ?wsx1_15, ?wsx1_16, ?wsx1_17, ?wsx1_18, ?wsx1_19, trivial⟩
              case wsx1_0 =>
                intro u β wq hq h
                repeat (obtain ⟨h1, h⟩ := h; replace h1 := h1 rfl; simp only [go_sem] at h1; try (obtain ⟨h1, h1b⟩ := h1))
                refine Or.inl ⟨rfl, fun K hK => ?_⟩
                go_simp
                exact hK _ 0 _ (Ext.refl _) rfl
              case wsx1_1 =>
                intro u β wq hq h
                repeat (obtain ⟨h1, h⟩ := h; replace h1 := h1 rfl; simp only [go_sem] at h1; try (obtain ⟨h1, h1b⟩ := h1))
                refine Or.inl ⟨rfl, fun K hK => ?_⟩
                go_simp
                exact hK _ 0 _ (Ext.refl _) rfl
              case wsx1_2 =>
                intro u β wq hq h
                repeat (obtain ⟨h1, h⟩ := h; replace h1 := h1 rfl; simp only [go_sem] at h1; try (obtain ⟨h1, h1b⟩ := h1))
                refine Or.inl ⟨rfl, fun K hK => ?_⟩
                go_simp
                exact hK _ 0 _ (Ext.refl _) rfl
              case wsx1_3 =>
                intro u β wq hq h
                repeat (obtain ⟨h1, h⟩ := h; replace h1 := h1 rfl; simp only [go_sem] at h1; try (obtain ⟨h1, h1b⟩ := h1))
                refine Or.inl ⟨rfl, fun K hK => ?_⟩
                go_simp
                exact hK _ 0 _ (Ext.refl _) rfl
              case wsx1_4 =>
                intro u β wq hq h
                repeat (obtain ⟨h1, h⟩ := h; replace h1 := h1 rfl; simp only [go_sem] at h1; try (obtain ⟨h1, h1b⟩ := h1))
                refine Or.inl ⟨rfl, fun K hK => ?_⟩
                go_simp
                exact hK _ 0 _ (Ext.refl _) rfl
              case wsx1_5 =>
                intro u β wq hq h
                repeat (obtain ⟨h1, h⟩ := h; replace h1 := h1 rfl; simp only [go_sem] at h1; try (obtain ⟨h1, h1b⟩ := h1))
                refine Or.inl ⟨Loud.wanted_of rfl rfl (congrArg some (by assumption)), fun K hK => ?_⟩
                go_simp
                exact hK _ 0 _ (Ext.refl _) rfl
              case wsx1_6 =>
                intro u β wq hq h
                repeat (obtain ⟨h1, h⟩ := h; replace h1 := h1 rfl; simp only [go_sem] at h1; try (obtain ⟨h1, h1b⟩ := h1))
                refine Or.inl ⟨Loud.wanted_of rfl rfl (congrArg some (by assumption)), fun K hK => ?_⟩
                go_simp
                exact hK _ 0 _ (Ext.refl _) rfl
              case wsx1_7 =>
                intro u β wq hq h
                repeat (obtain ⟨h1, h⟩ := h; replace h1 := h1 rfl; simp only [go_sem] at h1; try (obtain ⟨h1, h1b⟩ := h1))
                refine Or.inl ⟨Loud.wanted_of rfl rfl (congrArg some (by assumption)), fun K hK => ?_⟩
                go_simp
                exact hK _ 0 _ (Ext.refl _) rfl
              case wsx1_8 =>
                intro u β wq hq h
                repeat (obtain ⟨h1, h⟩ := h; replace h1 := h1 rfl; simp only [go_sem] at h1; try (obtain ⟨h1, h1b⟩ := h1))
                refine Or.inl ⟨Loud.wanted_of rfl rfl (congrArg some (by assumption)), fun K hK => ?_⟩
                have hqc := hq.cell_of q3
                go_simp
                exact hK _ 0 _ (Ext.refl _) rfl
              case wsx1_9 =>
                intro u β wq hq h
                repeat (obtain ⟨h1, h⟩ := h; replace h1 := h1 rfl; simp only [go_sem] at h1; try (obtain ⟨h1, h1b⟩ := h1))
                refine Or.inl ⟨rfl, fun K hK => ?_⟩
                go_simp
                exact hK _ 0 _ (Ext.refl _) rfl
              case wsx1_10 =>
                intro u β wq hq h
                repeat (obtain ⟨h1, h⟩ := h; replace h1 := h1 rfl; simp only [go_sem] at h1; try (obtain ⟨h1, h1b⟩ := h1))
                refine Or.inl ⟨rfl, fun K hK => ?_⟩
                go_simp
                exact hK _ 0 _ (Ext.refl _) rfl
              case wsx1_11 =>
                intro u β wq hq h
                repeat (obtain ⟨h1, h⟩ := h; replace h1 := h1 rfl; simp only [go_sem] at h1; try (obtain ⟨h1, h1b⟩ := h1))
                refine Or.inl ⟨Loud.wanted_of rfl rfl (congrArg some (by assumption)), fun K hK => ?_⟩
                go_simp
                exact hK _ 0 _ (Ext.refl _) rfl
              case wsx1_12 =>
                intro u β wq hq h
                repeat (obtain ⟨h1, h⟩ := h; replace h1 := h1 rfl; simp only [go_sem] at h1; try (obtain ⟨h1, h1b⟩ := h1))
                refine Or.inl ⟨Loud.wanted_of rfl rfl (congrArg some (by assumption)), fun K hK => ?_⟩
                go_simp
                refine (GS.out _ (HTT3.out.ext hq)).mono ?_; rintro e w1 ⟨rfl, hx1⟩; exact ⟨_, rfl, hK _ 0 _ hx1 rfl⟩
              case wsx1_13 =>
                intro u β wq hq h
                repeat (obtain ⟨h1, h⟩ := h; replace h1 := h1 rfl; simp only [go_sem] at h1; try (obtain ⟨h1, h1b⟩ := h1))
                refine Or.inl ⟨Loud.wanted_of rfl rfl (congrArg some (by assumption)), fun K hK => ?_⟩
                go_simp
                exact hK _ 0 _ (Ext.refl _) rfl
              case wsx1_14 =>
                intro u β wq hq h
                repeat (obtain ⟨h1, h⟩ := h; replace h1 := h1 rfl; simp only [go_sem] at h1; try (obtain ⟨h1, h1b⟩ := h1))
                refine Or.inl ⟨Loud.wanted_of rfl rfl (congrArg some (by assumption)), fun K hK => ?_⟩
                go_simp
                exact hK _ 0 _ (Ext.refl _) rfl
              case wsx1_15 =>
                intro u β wq hq h
                repeat (obtain ⟨h1, h⟩ := h; replace h1 := h1 rfl; simp only [go_sem] at h1; try (obtain ⟨h1, h1b⟩ := h1))
                refine Or.inl ⟨Loud.wanted_of rfl rfl (congrArg some (by assumption)), fun K hK => ?_⟩
                go_simp
                exact hK _ 0 _ (Ext.refl _) rfl
              case wsx1_16 =>
                intro u β wq hq h
                repeat (obtain ⟨h1, h⟩ := h; replace h1 := h1 rfl; simp only [go_sem] at h1; try (obtain ⟨h1, h1b⟩ := h1))
                refine Or.inl ⟨Loud.wanted_of rfl rfl (congrArg some (by assumption)), fun K hK => ?_⟩
                go_simp
                exact hK _ _ _ ((Ext.refl _).alloc _) ⟨rfl, heap_alloc_new _ _⟩
              case wsx1_17 =>
                intro u β wq hq h
                repeat (obtain ⟨h1, h⟩ := h; replace h1 := h1 rfl; simp only [go_sem] at h1; try (obtain ⟨h1, h1b⟩ := h1))
                refine Or.inl ⟨Loud.wanted_of rfl rfl (congrArg some (by assumption)), fun K hK => ?_⟩
                go_simp
                refine (GO.out _ _ (by assumption)).mono ?_; rintro e w1 ⟨rfl, hx1⟩; exact ⟨_, rfl, hK _ 0 _ hx1 rfl⟩
              case wsx1_18 =>
                intro u β wq hq h
                repeat (obtain ⟨h1, h⟩ := h; replace h1 := h1 rfl; simp only [go_sem] at h1; try (obtain ⟨h1, h1b⟩ := h1))
                refine Or.inl ⟨Loud.wanted_of rfl rfl (congrArg some (by assumption)), fun K hK => ?_⟩
                go_simp
                exact hK _ 0 _ (Ext.refl _) rfl
              case wsx1_19 =>
                intro u β wq hq h
                repeat (obtain ⟨h1, h⟩ := h; replace h1 := h1 rfl; simp only [go_sem] at h1; try (obtain ⟨h1, h1b⟩ := h1))
                refine Or.inl ⟨rfl, fun K hK => ?_⟩
                go_simp
                exact hK _ 0 _ (Ext.refl _) rfl
            intro u β w5 hq h
            have h0 := h 0 (by omega)
            have h1 := h 1 (by omega)
            have h2 := h 2 (by omega)
            have h3 := h 3 (by omega)
            have h4 := h 4 (by omega)
            have h5 := h 5 (by omega)
            have h6 := h 6 (by omega)
            have h7 := h 7 (by omega)
            have h8 := h 8 (by omega)
            have h9 := h 9 (by omega)
            have h10 := h 10 (by omega)
            have h11 := h 11 (by omega)
            have h12 := h 12 (by omega)
            have h13 := h 13 (by omega)
            have h14 := h 14 (by omega)
            have h15 := h 15 (by omega)
            have h16 := h 16 (by omega)
            have h17 := h 17 (by omega)
            have h18 := h 18 (by omega)
            have h19 := h 19 (by omega)
            clear h
            simp only [go_sem] at h0 h1 h2 h3 h4 h5 h6 h7 h8 h9 h10 h11 h12 h13 h14 h15 h16 h17 h18 h19
            simp only [List.drop_succ_cons, List.drop_zero]
            rw [h19]
            go_wp2
            go_roundw
            case measure => simp [intOf]; omega
            case rel => exact ⟨e, k + 1, hes, Or.inl (by omega), by go_num, by go_num, HTT3.out.ext hq, hx3.trans hq⟩
          | false =>
            rw [hak] at hc3
            clear hak
            go_upto_region 15 with (first
              | (go_at_call 17; refine (GA.out wr HTT.out).mono ?_; rintro e w3 ⟨rfl, ht3, hb3⟩; have HTT3 := Lib.hid ht3; have hx3 : Ext w w3 := But.ext hx hb3 (by simp; omega); clear ht3 hb3)
              | (go_at_call 18; with_reducible refine (GL.out w3 HTT3.out).mono ?_; rintro e w' ⟨rfl, rfl⟩)
              | (refine wpl_min2 rfl rfl rfl rfl (n : Int) hn.symm ?_))
            have q3 : w3.cell? ⟨b3, o3 + k, none⟩ = some (.bool false) := hx3.cell_of hc3
            refine Loud.wp_region_weave 20 w3 (Loud.sps [.val (.int .i64 (k : Int)), .val (.slice (some ⟨b3, o3, none⟩) asks.length cap2), .val (.int .i64 (asks.length : Int)), .val (.bool true), .val (.bool true), .val (.slice (some ⟨b3, o3, none⟩) asks.length cap2), .val (.int .i64 (k : Int)), .val (.pointer (some ⟨b3, o3 + k, none⟩)), .val (.bool false), .val (.bool false), .val (.bool false), .val undef, .val undef, .val undef, .val undef, .val undef, .val undef, .val undef, .val undef, .val (.bool false)]) (by kernel_rfl) (by kernel_rfl) (by show Ext _ _; repeat (first | exact Ext.refl _ | assumption | (with_reducible refine Ext.drew ?_) | (with_reducible refine Ext.drewN ?_ _) | (with_reducible refine Ext.alloc ?_ _) | (refine Ext.trans ?_ (by assumption)))) (Loud.sps_st _) ?wAx2 ?whAx2 ?whSx2 ?whFx2
            case whAx2 => intro u K hK; simp only [List.take_succ_cons, List.take_zero, Loud.puts]; go_simp; exact hK
            case whSx2 =>
              simp only [List.take_succ_cons, List.take_zero, Loud.stepsW]
              refine ⟨?wsx2_0, ?wsx2_1, ?wsx2_2, ?wsx2_3, ?wsx2_4, ?wsx2_5, ?wsx2_6, ?wsx2_7, ?wsx2_8, ?wsx2_9, ?wsx2_10, ?wsx2_11, ?wsx2_12, ?wsx2_13, ?wsx2_14, ?wsx2_15, ?wsx2_16, ?wsx2_17, ?wsx2_18, ?wsx2_19, trivial⟩
              case wsx2_0 =>
                intro u β wq hq h
                repeat (obtain ⟨h1, h⟩ := h; replace h1 := h1 rfl; simp only [go_sem] at h1; try (obtain ⟨h1, h1b⟩ := h1))
                refine Or.inl ⟨rfl, fun K hK => ?_⟩
                go_simp
                exact hK _ 0 _ (Ext.refl _) rfl
              case wsx2_1 =>
                intro u β wq hq h
                repeat (obtain ⟨h1, h⟩ := h; replace h1 := h1 rfl; simp only [go_sem] at h1; try (obtain ⟨h1, h1b⟩ := h1))
                refine Or.inl ⟨rfl, fun K hK => ?_⟩
                go_simp
                exact hK _ 0 _ (Ext.refl _) rfl
              case wsx2_2 =>
                intro u β wq hq h
                repeat (obtain ⟨h1, h⟩ := h; replace h1 := h1 rfl; simp only [go_sem] at h1; try (obtain ⟨h1, h1b⟩ := h1))
                refine Or.inl ⟨rfl, fun K hK => ?_⟩
                go_simp
                exact hK _ 0 _ (Ext.refl _) rfl
              case wsx2_3 =>
                intro u β wq hq h
                repeat (obtain ⟨h1, h⟩ := h; replace h1 := h1 rfl; simp only [go_sem] at h1; try (obtain ⟨h1, h1b⟩ := h1))
                refine Or.inl ⟨rfl, fun K hK => ?_⟩
                go_simp
                exact hK _ 0 _ (Ext.refl _) rfl
              case wsx2_4 =>
                intro u β wq hq h
                repeat (obtain ⟨h1, h⟩ := h; replace h1 := h1 rfl; simp only [go_sem] at h1; try (obtain ⟨h1, h1b⟩ := h1))
                refine Or.inl ⟨rfl, fun K hK => ?_⟩
                go_simp
                exact hK _ 0 _ (Ext.refl _) rfl
              case wsx2_5 =>
                intro u β wq hq h
                repeat (obtain ⟨h1, h⟩ := h; replace h1 := h1 rfl; simp only [go_sem] at h1; try (obtain ⟨h1, h1b⟩ := h1))
                refine Or.inl ⟨Loud.wanted_of rfl rfl (congrArg some (by assumption)), fun K hK => ?_⟩
                go_simp
                exact hK _ 0 _ (Ext.refl _) rfl
              case wsx2_6 =>
                intro u β wq hq h
                repeat (obtain ⟨h1, h⟩ := h; replace h1 := h1 rfl; simp only [go_sem] at h1; try (obtain ⟨h1, h1b⟩ := h1))
                refine Or.inl ⟨Loud.wanted_of rfl rfl (congrArg some (by assumption)), fun K hK => ?_⟩
                go_simp
                exact hK _ 0 _ (Ext.refl _) rfl
              case wsx2_7 =>
                intro u β wq hq h
                repeat (obtain ⟨h1, h⟩ := h; replace h1 := h1 rfl; simp only [go_sem] at h1; try (obtain ⟨h1, h1b⟩ := h1))
                refine Or.inl ⟨Loud.wanted_of rfl rfl (congrArg some (by assumption)), fun K hK => ?_⟩
                go_simp
                exact hK _ 0 _ (Ext.refl _) rfl
              case wsx2_8 =>
                intro u β wq hq h
                repeat (obtain ⟨h1, h⟩ := h; replace h1 := h1 rfl; simp only [go_sem] at h1; try (obtain ⟨h1, h1b⟩ := h1))
                refine Or.inl ⟨Loud.wanted_of rfl rfl (congrArg some (by assumption)), fun K hK => ?_⟩
                have hqc := hq.cell_of q3
                go_simp
                exact hK _ 0 _ (Ext.refl _) rfl
              case wsx2_9 =>
                intro u β wq hq h
                repeat (obtain ⟨h1, h⟩ := h; replace h1 := h1 rfl; simp only [go_sem] at h1; try (obtain ⟨h1, h1b⟩ := h1))
                refine Or.inl ⟨rfl, fun K hK => ?_⟩
                go_simp
                exact hK _ 0 _ (Ext.refl _) rfl
              case wsx2_10 =>
                intro u β wq hq h
                repeat (obtain ⟨h1, h⟩ := h; replace h1 := h1 rfl; simp only [go_sem] at h1; try (obtain ⟨h1, h1b⟩ := h1))
                refine Or.inl ⟨rfl, fun K hK => ?_⟩
                go_simp
                exact hK _ 0 _ (Ext.refl _) rfl
              case wsx2_11 =>
                intro u β wq hq h
                repeat (obtain ⟨h1, h⟩ := h; replace h1 := h1 rfl; simp only [go_sem] at h1; try (obtain ⟨h1, h1b⟩ := h1))
                refine Or.inr ⟨Loud.wanted_not rfl rfl (congrArg some (by assumption)) rfl, 0, rfl⟩
              case wsx2_12 =>
                intro u β wq hq h
                repeat (obtain ⟨h1, h⟩ := h; replace h1 := h1 rfl; simp only [go_sem] at h1; try (obtain ⟨h1, h1b⟩ := h1))
                refine Or.inr ⟨Loud.wanted_not rfl rfl (congrArg some (by assumption)) rfl, 0, rfl⟩
              case wsx2_13 =>
                intro u β wq hq h
                repeat (obtain ⟨h1, h⟩ := h; replace h1 := h1 rfl; simp only [go_sem] at h1; try (obtain ⟨h1, h1b⟩ := h1))
                refine Or.inr ⟨Loud.wanted_not rfl rfl (congrArg some (by assumption)) rfl, 0, rfl⟩
              case wsx2_14 =>
                intro u β wq hq h
                repeat (obtain ⟨h1, h⟩ := h; replace h1 := h1 rfl; simp only [go_sem] at h1; try (obtain ⟨h1, h1b⟩ := h1))
                refine Or.inr ⟨Loud.wanted_not rfl rfl (congrArg some (by assumption)) rfl, 0, rfl⟩
              case wsx2_15 =>
                intro u β wq hq h
                repeat (obtain ⟨h1, h⟩ := h; replace h1 := h1 rfl; simp only [go_sem] at h1; try (obtain ⟨h1, h1b⟩ := h1))
                refine Or.inr ⟨Loud.wanted_not rfl rfl (congrArg some (by assumption)) rfl, 0, rfl⟩
              case wsx2_16 =>
                intro u β wq hq h
                repeat (obtain ⟨h1, h⟩ := h; replace h1 := h1 rfl; simp only [go_sem] at h1; try (obtain ⟨h1, h1b⟩ := h1))
                refine Or.inr ⟨Loud.wanted_not rfl rfl (congrArg some (by assumption)) rfl, 0, rfl⟩
              case wsx2_17 =>
                intro u β wq hq h
                repeat (obtain ⟨h1, h⟩ := h; replace h1 := h1 rfl; simp only [go_sem] at h1; try (obtain ⟨h1, h1b⟩ := h1))
                refine Or.inr ⟨Loud.wanted_not rfl rfl (congrArg some (by assumption)) rfl, 0, rfl⟩
              case wsx2_18 =>
                intro u β wq hq h
                repeat (obtain ⟨h1, h⟩ := h; replace h1 := h1 rfl; simp only [go_sem] at h1; try (obtain ⟨h1, h1b⟩ := h1))
                refine Or.inr ⟨Loud.wanted_not rfl rfl (congrArg some (by assumption)) rfl, 0, rfl⟩
              case wsx2_19 =>
                intro u β wq hq h
                repeat (obtain ⟨h1, h⟩ := h; replace h1 := h1 rfl; simp only [go_sem] at h1; try (obtain ⟨h1, h1b⟩ := h1))
                refine Or.inl ⟨rfl, fun K hK => ?_⟩
                go_simp
                exact hK _ 0 _ (Ext.refl _) rfl
            intro u β w5 hq h
            have h0 := h 0 (by omega)
            have h1 := h 1 (by omega)
            have h2 := h 2 (by omega)
            have h3 := h 3 (by omega)
            have h4 := h 4 (by omega)
            have h5 := h 5 (by omega)
            have h6 := h 6 (by omega)
            have h7 := h 7 (by omega)
            have h8 := h 8 (by omega)
            have h9 := h 9 (by omega)
            have h10 := h 10 (by omega)
            have h11 := h 11 (by omega)
            have h12 := h 12 (by omega)
            have h13 := h 13 (by omega)
            have h14 := h 14 (by omega)
            have h15 := h 15 (by omega)
            have h16 := h 16 (by omega)
            have h17 := h 17 (by omega)
            have h18 := h 18 (by omega)
            have h19 := h 19 (by omega)
            clear h
            simp only [go_sem] at h0 h1 h2 h3 h4 h5 h6 h7 h8 h9 h10 h11 h12 h13 h14 h15 h16 h17 h18 h19
            simp only [List.drop_succ_cons, List.drop_zero]
            rw [h19]
            go_wp2
            go_roundw
            case measure => simp [intOf]; omega
            case rel => exact ⟨e, k + 1, hes, Or.inl (by omega), by go_num, by go_num, HTT3.out.ext hq, hx3.trans hq⟩
        · have kal : (asks.length : Int) ≤ (k : Int) := by omega
          go_upto_region 15 with (first
            | (go_at_call 17; refine (GA.out wr HTT.out).mono ?_; rintro e w3 ⟨rfl, ht3, hb3⟩; have HTT3 := Lib.hid ht3; have hx3 : Ext w w3 := But.ext hx hb3 (by simp; omega); clear ht3 hb3)
            | (go_at_call 18; with_reducible refine (GL.out w3 HTT3.out).mono ?_; rintro e w' ⟨rfl, rfl⟩)
            | (refine wpl_min2 rfl rfl rfl rfl (n : Int) hn.symm ?_))
          refine Loud.wp_region_weave 20 w3 (Loud.sps [.val (.int .i64 (k : Int)), .val (.slice ad2 asks.length cap2), .val (.int .i64 (asks.length : Int)), .val (.bool false), .val (.bool false), .val undef, .val undef, .val undef, .val undef, .val (.bool false), .val (.bool false), .val undef, .val undef, .val undef, .val undef, .val undef, .val undef, .val undef, .val undef, .val (.bool false)]) (by kernel_rfl) (by kernel_rfl) (by show Ext _ _; repeat (first | exact Ext.refl _ | assumption | (with_reducible refine Ext.drew ?_) | (with_reducible refine Ext.drewN ?_ _) | (with_reducible refine Ext.alloc ?_ _) | (refine Ext.trans ?_ (by assumption)))) (Loud.sps_st _) ?wAx3 ?whAx3 ?whSx3 ?whFx3
          case whAx3 => intro u K hK; simp only [List.take_succ_cons, List.take_zero, Loud.puts]; go_simp; exact hK
          case whSx3 =>
            simp only [List.take_succ_cons, List.take_zero, Loud.stepsW]
            refine ⟨?wsx3_0, ?wsx3_1, ?wsx3_2, ?wsx3_3, ?wsx3_4, ?wsx3_5, ?wsx3_6, ?wsx3_7, ?wsx3_8, ?wsx3_9, ?wsx3_10, ?wsx3_11, ?wsx3_12, ?wsx3_13, ?wsx3_14, ?wsx3_15, ?wsx3_16, ?wsx3_17, ?wsx3_18, ?wsx3_19, trivial⟩
            case wsx3_0 =>
              intro u β wq hq h
              repeat (obtain ⟨h1, h⟩ := h; replace h1 := h1 rfl; simp only [go_sem] at h1; try (obtain ⟨h1, h1b⟩ := h1))
              refine Or.inl ⟨rfl, fun K hK => ?_⟩
              go_simp
              exact hK _ 0 _ (Ext.refl _) rfl
            case wsx3_1 =>
              intro u β wq hq h
              repeat (obtain ⟨h1, h⟩ := h; replace h1 := h1 rfl; simp only [go_sem] at h1; try (obtain ⟨h1, h1b⟩ := h1))
              refine Or.inl ⟨rfl, fun K hK => ?_⟩
              go_simp
              exact hK _ 0 _ (Ext.refl _) rfl
            case wsx3_2 =>
              intro u β wq hq h
              repeat (obtain ⟨h1, h⟩ := h; replace h1 := h1 rfl; simp only [go_sem] at h1; try (obtain ⟨h1, h1b⟩ := h1))
              refine Or.inl ⟨rfl, fun K hK => ?_⟩
              go_simp
              exact hK _ 0 _ (Ext.refl _) rfl
            case wsx3_3 =>
              intro u β wq hq h
              repeat (obtain ⟨h1, h⟩ := h; replace h1 := h1 rfl; simp only [go_sem] at h1; try (obtain ⟨h1, h1b⟩ := h1))
              refine Or.inl ⟨rfl, fun K hK => ?_⟩
              go_simp
              exact hK _ 0 _ (Ext.refl _) rfl
            case wsx3_4 =>
              intro u β wq hq h
              repeat (obtain ⟨h1, h⟩ := h; replace h1 := h1 rfl; simp only [go_sem] at h1; try (obtain ⟨h1, h1b⟩ := h1))
              refine Or.inl ⟨rfl, fun K hK => ?_⟩
              go_simp
              exact hK _ 0 _ (Ext.refl _) rfl
            case wsx3_5 =>
              intro u β wq hq h
              repeat (obtain ⟨h1, h⟩ := h; replace h1 := h1 rfl; simp only [go_sem] at h1; try (obtain ⟨h1, h1b⟩ := h1))
              refine Or.inr ⟨Loud.wanted_not rfl rfl (congrArg some (by assumption)) rfl, 0, rfl⟩
            case wsx3_6 =>
              intro u β wq hq h
              repeat (obtain ⟨h1, h⟩ := h; replace h1 := h1 rfl; simp only [go_sem] at h1; try (obtain ⟨h1, h1b⟩ := h1))
              refine Or.inr ⟨Loud.wanted_not rfl rfl (congrArg some (by assumption)) rfl, 0, rfl⟩
            case wsx3_7 =>
              intro u β wq hq h
              repeat (obtain ⟨h1, h⟩ := h; replace h1 := h1 rfl; simp only [go_sem] at h1; try (obtain ⟨h1, h1b⟩ := h1))
              refine Or.inr ⟨Loud.wanted_not rfl rfl (congrArg some (by assumption)) rfl, 0, rfl⟩
            case wsx3_8 =>
              intro u β wq hq h
              repeat (obtain ⟨h1, h⟩ := h; replace h1 := h1 rfl; simp only [go_sem] at h1; try (obtain ⟨h1, h1b⟩ := h1))
              refine Or.inr ⟨Loud.wanted_not rfl rfl (congrArg some (by assumption)) rfl, 0, rfl⟩
            case wsx3_9 =>
              intro u β wq hq h
              repeat (obtain ⟨h1, h⟩ := h; replace h1 := h1 rfl; simp only [go_sem] at h1; try (obtain ⟨h1, h1b⟩ := h1))
              refine Or.inl ⟨rfl, fun K hK => ?_⟩
              go_simp
              exact hK _ 0 _ (Ext.refl _) rfl
            case wsx3_10 =>
              intro u β wq hq h
              repeat (obtain ⟨h1, h⟩ := h; replace h1 := h1 rfl; simp only [go_sem] at h1; try (obtain ⟨h1, h1b⟩ := h1))
              refine Or.inl ⟨rfl, fun K hK => ?_⟩
              go_simp
              exact hK _ 0 _ (Ext.refl _) rfl
            case wsx3_11 =>
              intro u β wq hq h
              repeat (obtain ⟨h1, h⟩ := h; replace h1 := h1 rfl; simp only [go_sem] at h1; try (obtain ⟨h1, h1b⟩ := h1))
              refine Or.inr ⟨Loud.wanted_not rfl rfl (congrArg some (by assumption)) rfl, 0, rfl⟩
            case wsx3_12 =>
              intro u β wq hq h
              repeat (obtain ⟨h1, h⟩ := h; replace h1 := h1 rfl; simp only [go_sem] at h1; try (obtain ⟨h1, h1b⟩ := h1))
              refine Or.inr ⟨Loud.wanted_not rfl rfl (congrArg some (by assumption)) rfl, 0, rfl⟩
            case wsx3_13 =>
              intro u β wq hq h
              repeat (obtain ⟨h1, h⟩ := h; replace h1 := h1 rfl; simp only [go_sem] at h1; try (obtain ⟨h1, h1b⟩ := h1))
              refine Or.inr ⟨Loud.wanted_not rfl rfl (congrArg some (by assumption)) rfl, 0, rfl⟩
            case wsx3_14 =>
              intro u β wq hq h
              repeat (obtain ⟨h1, h⟩ := h; replace h1 := h1 rfl; simp only [go_sem] at h1; try (obtain ⟨h1, h1b⟩ := h1))
              refine Or.inr ⟨Loud.wanted_not rfl rfl (congrArg some (by assumption)) rfl, 0, rfl⟩
            case wsx3_15 =>
              intro u β wq hq h
              repeat (obtain ⟨h1, h⟩ := h; replace h1 := h1 rfl; simp only [go_sem] at h1; try (obtain ⟨h1, h1b⟩ := h1))
              refine Or.inr ⟨Loud.wanted_not rfl rfl (congrArg some (by assumption)) rfl, 0, rfl⟩
            case wsx3_16 =>
              intro u β wq hq h
              repeat (obtain ⟨h1, h⟩ := h; replace h1 := h1 rfl; simp only [go_sem] at h1; try (obtain ⟨h1, h1b⟩ := h1))
              refine Or.inr ⟨Loud.wanted_not rfl rfl (congrArg some (by assumption)) rfl, 0, rfl⟩
            case wsx3_17 =>
              intro u β wq hq h
              repeat (obtain ⟨h1, h⟩ := h; replace h1 := h1 rfl; simp only [go_sem] at h1; try (obtain ⟨h1, h1b⟩ := h1))
              refine Or.inr ⟨Loud.wanted_not rfl rfl (congrArg some (by assumption)) rfl, 0, rfl⟩
            case wsx3_18 =>
              intro u β wq hq h
              repeat (obtain ⟨h1, h⟩ := h; replace h1 := h1 rfl; simp only [go_sem] at h1; try (obtain ⟨h1, h1b⟩ := h1))
              refine Or.inr ⟨Loud.wanted_not rfl rfl (congrArg some (by assumption)) rfl, 0, rfl⟩
            case wsx3_19 =>
              intro u β wq hq h
              repeat (obtain ⟨h1, h⟩ := h; replace h1 := h1 rfl; simp only [go_sem] at h1; try (obtain ⟨h1, h1b⟩ := h1))
              refine Or.inl ⟨rfl, fun K hK => ?_⟩
              go_simp
              exact hK _ 0 _ (Ext.refl _) rfl
          intro u β w5 hq h
          have h0 := h 0 (by omega)
          have h1 := h 1 (by omega)
          have h2 := h 2 (by omega)
          have h3 := h 3 (by omega)
          have h4 := h 4 (by omega)
          have h5 := h 5 (by omega)
          have h6 := h 6 (by omega)
          have h7 := h 7 (by omega)
          have h8 := h 8 (by omega)
          have h9 := h 9 (by omega)
          have h10 := h 10 (by omega)
          have h11 := h 11 (by omega)
          have h12 := h 12 (by omega)
          have h13 := h 13 (by omega)
          have h14 := h 14 (by omega)
          have h15 := h 15 (by omega)
          have h16 := h 16 (by omega)
          have h17 := h 17 (by omega)
          have h18 := h 18 (by omega)
          have h19 := h 19 (by omega)
          clear h
          simp only [go_sem] at h0 h1 h2 h3 h4 h5 h6 h7 h8 h9 h10 h11 h12 h13 h14 h15 h16 h17 h18 h19
          simp only [List.drop_succ_cons, List.drop_zero]
          rw [h19]
          go_wp2
          go_roundw
          case measure => simp [intOf]; omega
          case rel => exact ⟨e, k + 1, hes, Or.inl (by omega), by go_num, by go_num, HTT3.out.ext hq, hx3.trans hq⟩
      · obtain ⟨n, hn⟩ : ∃ n : Nat, n = s.length - p := ⟨_, rfl⟩
        have hpn : p + n ≤ s.length := by omega
        have hnn : (s.length : Int) - (p : Int) = (n : Int) := by omega
        have hkp' : (pieces.length : Int) ≤ (k : Int) := by omega
        have hpe : p + n = s.length := by omega
        have HPE := Lib.hid hpe
        clear hpe hn
        obtain ⟨e, he⟩ : ∃ e : Nat, (p : Int) + (n : Int) = (e : Int) := ⟨p + n, by omega⟩
        have hes : e ≤ s.length := by omega
        have hpe2 : p ≤ e := by omega
        have hlt2 : (s.take e).length = e := by rw [List.length_take]; omega
        have hex : (bs s).extract p e = bs ((s.drop p).take n) := by rw [bs_extract]; congr 2; omega
        have hwe : IntKind.u64.wrap (e : Int) = (e : Int) := by rw [IntKind.wrap_u64]; omega
        have GA := Lib.hid (fun W (h : HT W bh (s.take p)) => piece_next s p n ▸ HT_add W bh (s.take p) ((s.drop p).take n) (by simp; omega) h)
        rw [show p + n = e by omega] at GA
        have GL : Hid (∀ W, HT W bh (s.take e) → Calls Try.prog 18 #[.pointer (some ⟨bh, 0, none⟩)] W fun e' w' => e' = .returned (.int .u64 (e : Int)) ∧ W = w') := Lib.hid (fun W h => by
          have h := HLen_any W bh _ _ _ h
          rw [hlt2] at h
          exact h)
        have GS := Lib.hid (fun W (h : HT W bh (s.take e)) => HT_sum W bh (s.take e) (by omega) h)
        have GO := Lib.hid (fun (b : Nat) (W : World) (h : W.heap[b]? = some (.cells #[.string (bs (s.take e))] 9)) => Of_one (s.take e) b W (by omega) h)
        generalize hz : shaS (s.take e) = z at GS GO
        clear hz hlt2
        by_cases hka : k < asks.length
        · obtain ⟨b3, o3, ha3, hb3l, hc3⟩ := V2.out.at_ k (by simpa using hka)
          rw [List.getElem_map] at hc3
          subst ha3
          have kal : (k : Int) < (asks.length : Int) := by omega
          cases hak : asks[k] with
          | true =>
            rw [hak] at hc3
            clear hak
            go_upto_region 15 with (first
              | (go_at_call 17; refine (GA.out wr HTT.out).mono ?_; rintro e w3 ⟨rfl, ht3, hb3⟩; have HTT3 := Lib.hid ht3; have hx3 : Ext w w3 := But.ext hx hb3 (by simp; omega); clear ht3 hb3)
              | (go_at_call 18; with_reducible refine (GL.out w3 HTT3.out).mono ?_; rintro e w' ⟨rfl, rfl⟩))
            have q3 : w3.cell? ⟨b3, o3 + k, none⟩ = some (.bool true) := hx3.cell_of hc3
            refine Loud.wp_region_weave 20 w3 (Loud.sps [.val (.int .i64 (k : Int)), .val (.slice (some ⟨b3, o3, none⟩) asks.length cap2), .val (.int .i64 (asks.length : Int)), .val (.bool true), .val (.bool true), .val (.slice (some ⟨b3, o3, none⟩) asks.length cap2), .val (.int .i64 (k : Int)), .val (.pointer (some ⟨b3, o3 + k, none⟩)), .val (.bool true), .val (.bool true), .val (.bool true), .val (.pointer (some ⟨bh, 0, none⟩)), .val (.string (bs z)), .val (.string (bs s)), .val (.int .i64 (e : Int)), .val (.string (bs (s.take e))), .blk 1 1 (.cells #[.string (bs (s.take e))] 9), .val (.string (bs z)), .val (.bool false), .val (.bool false)]) (by kernel_rfl) (by kernel_rfl) (by show Ext _ _; repeat (first | exact Ext.refl _ | assumption | (with_reducible refine Ext.drew ?_) | (with_reducible refine Ext.drewN ?_ _) | (with_reducible refine Ext.alloc ?_ _) | (refine Ext.trans ?_ (by assumption)))) (Loud.sps_st _) ?wAx4 ?whAx4 ?whSx4 ?whFx4
            case whAx4 => intro u K hK; simp only [List.take_succ_cons, List.take_zero, Loud.puts]; go_simp; exact hK
            case whSx4 =>
              simp only [List.take_succ_cons, List.take_zero, Loud.stepsW]
              refine ⟨?wsx4_0, ?wsx4_1, ?wsx4_2, ?wsx4_3, ?wsx4_4, ?wsx4_5, ?wsx4_6, ?wsx4_7, ?wsx4_8, ?wsx4_9, ?wsx4_10, ?wsx4_11, ?wsx4_12, ?wsx4_13, ?wsx4_14, ?wsx4_15, ?wsx4_16, ?wsx4_17, ?wsx4_18, ?wsx4_19, trivial⟩
              case wsx4_0 =>
                intro u β wq hq h
                repeat (obtain ⟨h1, h⟩ := h; replace h1 := h1 rfl; simp only [go_sem] at h1; try (obtain ⟨h1, h1b⟩ := h1))
                refine Or.inl ⟨rfl, fun K hK => ?_⟩
                go_simp
                exact hK _ 0 _ (Ext.refl _) rfl
              case wsx4_1 =>
                intro u β wq hq h
                repeat (obtain ⟨h1, h⟩ := h; replace h1 := h1 rfl; simp only [go_sem] at h1; try (obtain ⟨h1, h1b⟩ := h1))
                refine Or.inl ⟨rfl, fun K hK => ?_⟩
                go_simp
                exact hK _ 0 _ (Ext.refl _) rfl
              case wsx4_2 =>
                intro u β wq hq h
                repeat (obtain ⟨h1, h⟩ := h; replace h1 := h1 rfl; simp only [go_sem] at h1; try (obtain ⟨h1, h1b⟩ := h1))
                refine Or.inl ⟨rfl, fun K hK => ?_⟩
                go_simp
                exact hK _ 0 _ (Ext.refl _) rfl
              case wsx4_3 =>
                intro u β wq hq h
                repeat (obtain ⟨h1, h⟩ := h; replace h1 := h1 rfl; simp only [go_sem] at h1; try (obtain ⟨h1, h1b⟩ := h1))
                refine Or.inl ⟨rfl, fun K hK => ?_⟩
                go_simp
                exact hK _ 0 _ (Ext.refl _) rfl
              case wsx4_4 =>
                intro u β wq hq h
                repeat (obtain ⟨h1, h⟩ := h; replace h1 := h1 rfl; simp only [go_sem] at h1; try (obtain ⟨h1, h1b⟩ := h1))
                refine Or.inl ⟨rfl, fun K hK => ?_⟩
                go_simp
                exact hK _ 0 _ (Ext.refl _) rfl
              case wsx4_5 =>
                intro u β wq hq h
                repeat (obtain ⟨h1, h⟩ := h; replace h1 := h1 rfl; simp only [go_sem] at h1; try (obtain ⟨h1, h1b⟩ := h1))
                refine Or.inl ⟨Loud.wanted_of rfl rfl (congrArg some (by assumption)), fun K hK => ?_⟩
                go_simp
                exact hK _ 0 _ (Ext.refl _) rfl
              case wsx4_6 =>
                intro u β wq hq h
                repeat (obtain ⟨h1, h⟩ := h; replace h1 := h1 rfl; simp only [go_sem] at h1; try (obtain ⟨h1, h1b⟩ := h1))
                refine Or.inl ⟨Loud.wanted_of rfl rfl (congrArg some (by assumption)), fun K hK => ?_⟩
                go_simp
                exact hK _ 0 _ (Ext.refl _) rfl
              case wsx4_7 =>
                intro u β wq hq h
                repeat (obtain ⟨h1, h⟩ := h; replace h1 := h1 rfl; simp only [go_sem] at h1; try (obtain ⟨h1, h1b⟩ := h1))
                refine Or.inl ⟨Loud.wanted_of rfl rfl (congrArg some (by assumption)), fun K hK => ?_⟩
                go_simp
                exact hK _ 0 _ (Ext.refl _) rfl
              case wsx4_8 =>
                intro u β wq hq h
                repeat (obtain ⟨h1, h⟩ := h; replace h1 := h1 rfl; simp only [go_sem] at h1; try (obtain ⟨h1, h1b⟩ := h1))
                refine Or.inl ⟨Loud.wanted_of rfl rfl (congrArg some (by assumption)), fun K hK => ?_⟩
                have hqc := hq.cell_of q3
                go_simp
                exact hK _ 0 _ (Ext.refl _) rfl
              case wsx4_9 =>
                intro u β wq hq h
                repeat (obtain ⟨h1, h⟩ := h; replace h1 := h1 rfl; simp only [go_sem] at h1; try (obtain ⟨h1, h1b⟩ := h1))
                refine Or.inl ⟨rfl, fun K hK => ?_⟩
                go_simp
                exact hK _ 0 _ (Ext.refl _) rfl
              case wsx4_10 =>
                intro u β wq hq h
                repeat (obtain ⟨h1, h⟩ := h; replace h1 := h1 rfl; simp only [go_sem] at h1; try (obtain ⟨h1, h1b⟩ := h1))
                refine Or.inl ⟨rfl, fun K hK => ?_⟩
                go_simp
                exact hK _ 0 _ (Ext.refl _) rfl
              case wsx4_11 =>
                intro u β wq hq h
                repeat (obtain ⟨h1, h⟩ := h; replace h1 := h1 rfl; simp only [go_sem] at h1; try (obtain ⟨h1, h1b⟩ := h1))
                refine Or.inl ⟨Loud.wanted_of rfl rfl (congrArg some (by assumption)), fun K hK => ?_⟩
                go_simp
                exact hK _ 0 _ (Ext.refl _) rfl
              case wsx4_12 =>
                intro u β wq hq h
                repeat (obtain ⟨h1, h⟩ := h; replace h1 := h1 rfl; simp only [go_sem] at h1; try (obtain ⟨h1, h1b⟩ := h1))
                refine Or.inl ⟨Loud.wanted_of rfl rfl (congrArg some (by assumption)), fun K hK => ?_⟩
                go_simp
                refine (GS.out _ (HTT3.out.ext hq)).mono ?_; rintro e w1 ⟨rfl, hx1⟩; exact ⟨_, rfl, hK _ 0 _ hx1 rfl⟩
              case wsx4_13 =>
                intro u β wq hq h
                repeat (obtain ⟨h1, h⟩ := h; replace h1 := h1 rfl; simp only [go_sem] at h1; try (obtain ⟨h1, h1b⟩ := h1))
                refine Or.inl ⟨Loud.wanted_of rfl rfl (congrArg some (by assumption)), fun K hK => ?_⟩
                go_simp
                exact hK _ 0 _ (Ext.refl _) rfl
              case wsx4_14 =>
                intro u β wq hq h
                repeat (obtain ⟨h1, h⟩ := h; replace h1 := h1 rfl; simp only [go_sem] at h1; try (obtain ⟨h1, h1b⟩ := h1))
                refine Or.inl ⟨Loud.wanted_of rfl rfl (congrArg some (by assumption)), fun K hK => ?_⟩
                go_simp
                exact hK _ 0 _ (Ext.refl _) rfl
              case wsx4_15 =>
                intro u β wq hq h
                repeat (obtain ⟨h1, h⟩ := h; replace h1 := h1 rfl; simp only [go_sem] at h1; try (obtain ⟨h1, h1b⟩ := h1))
                refine Or.inl ⟨Loud.wanted_of rfl rfl (congrArg some (by assumption)), fun K hK => ?_⟩
                go_simp
                exact hK _ 0 _ (Ext.refl _) rfl
              case wsx4_16 =>
                intro u β wq hq h
                repeat (obtain ⟨h1, h⟩ := h; replace h1 := h1 rfl; simp only [go_sem] at h1; try (obtain ⟨h1, h1b⟩ := h1))
                refine Or.inl ⟨Loud.wanted_of rfl rfl (congrArg some (by assumption)), fun K hK => ?_⟩
                go_simp
                exact hK _ _ _ ((Ext.refl _).alloc _) ⟨rfl, heap_alloc_new _ _⟩
              case wsx4_17 =>
                intro u β wq hq h
                repeat (obtain ⟨h1, h⟩ := h; replace h1 := h1 rfl; simp only [go_sem] at h1; try (obtain ⟨h1, h1b⟩ := h1))
                refine Or.inl ⟨Loud.wanted_of rfl rfl (congrArg some (by assumption)), fun K hK => ?_⟩
                go_simp
                refine (GO.out _ _ (by assumption)).mono ?_; rintro e w1 ⟨rfl, hx1⟩; exact ⟨_, rfl, hK _ 0 _ hx1 rfl⟩
              case wsx4_18 =>
                intro u β wq hq h
                repeat (obtain ⟨h1, h⟩ := h; replace h1 := h1 rfl; simp only [go_sem] at h1; try (obtain ⟨h1, h1b⟩ := h1))
                refine Or.inl ⟨Loud.wanted_of rfl rfl (congrArg some (by assumption)), fun K hK => ?_⟩
                go_simp
                exact hK _ 0 _ (Ext.refl _) rfl
              case wsx4_19 =>
                intro u β wq hq h
                repeat (obtain ⟨h1, h⟩ := h; replace h1 := h1 rfl; simp only [go_sem] at h1; try (obtain ⟨h1, h1b⟩ := h1))
                refine Or.inl ⟨rfl, fun K hK => ?_⟩
                go_simp
                exact hK _ 0 _ (Ext.refl _) rfl
            intro u β w5 hq h
            have h0 := h 0 (by omega)
            have h1 := h 1 (by omega)
            have h2 := h 2 (by omega)
            have h3 := h 3 (by omega)
            have h4 := h 4 (by omega)
            have h5 := h 5 (by omega)
            have h6 := h 6 (by omega)
            have h7 := h 7 (by omega)
            have h8 := h 8 (by omega)
            have h9 := h 9 (by omega)
            have h10 := h 10 (by omega)
            have h11 := h 11 (by omega)
            have h12 := h 12 (by omega)
            have h13 := h 13 (by omega)
            have h14 := h 14 (by omega)
            have h15 := h 15 (by omega)
            have h16 := h 16 (by omega)
            have h17 := h 17 (by omega)
            have h18 := h 18 (by omega)
            have h19 := h 19 (by omega)
            clear h
            simp only [go_sem] at h0 h1 h2 h3 h4 h5 h6 h7 h8 h9 h10 h11 h12 h13 h14 h15 h16 h17 h18 h19
            simp only [List.drop_succ_cons, List.drop_zero]
            rw [h19]
            go_wp2
            go_roundw
            case measure => simp [intOf]; omega
            case rel => exact ⟨e, k + 1, hes, Or.inr ⟨by have := HPE.out; omega, by omega⟩, by go_num, by go_num, HTT3.out.ext hq, hx3.trans hq⟩
          | false =>
            rw [hak] at hc3
            clear hak
            go_upto_region 15 with (first
              | (go_at_call 17; refine (GA.out wr HTT.out).mono ?_; rintro e w3 ⟨rfl, ht3, hb3⟩; have HTT3 := Lib.hid ht3; have hx3 : Ext w w3 := But.ext hx hb3 (by simp; omega); clear ht3 hb3)
              | (go_at_call 18; with_reducible refine (GL.out w3 HTT3.out).mono ?_; rintro e w' ⟨rfl, rfl⟩))
            have q3 : w3.cell? ⟨b3, o3 + k, none⟩ = some (.bool false) := hx3.cell_of hc3
            refine Loud.wp_region_weave 20 w3 (Loud.sps [.val (.int .i64 (k : Int)), .val (.slice (some ⟨b3, o3, none⟩) asks.length cap2), .val (.int .i64 (asks.length : Int)), .val (.bool true), .val (.bool true), .val (.slice (some ⟨b3, o3, none⟩) asks.length cap2), .val (.int .i64 (k : Int)), .val (.pointer (some ⟨b3, o3 + k, none⟩)), .val (.bool false), .val (.bool false), .val (.bool false), .val undef, .val undef, .val undef, .val undef, .val undef, .val undef, .val undef, .val undef, .val (.bool false)]) (by kernel_rfl) (by kernel_rfl) (by show Ext _ _; repeat (first | exact Ext.refl _ | assumption | (with_reducible refine Ext.drew ?_) | (with_reducible refine Ext.drewN ?_ _) | (with_reducible refine Ext.alloc ?_ _) | (refine Ext.trans ?_ (by assumption)))) (Loud.sps_st _) ?wAx5 ?whAx5 ?whSx5 ?whFx5
            case whAx5 => intro u K hK; simp only [List.take_succ_cons, List.take_zero, Loud.puts]; go_simp; exact hK
            case whSx5 =>
              simp only [List.take_succ_cons, List.take_zero, Loud.stepsW]
              refine ⟨?wsx5_0, ?wsx5_1, ?wsx5_2, ?wsx5_3, ?wsx5_4, ?wsx5_5, ?wsx5_6, ?wsx5_7, ?wsx5_8, ?wsx5_9, ?wsx5_10, ?wsx5_11, ?wsx5_12, ?wsx5_13, ?wsx5_14, ?wsx5_15, ?wsx5_16, ?wsx5_17, ?wsx5_18, ?wsx5_19, trivial⟩
              case wsx5_0 =>
                intro u β wq hq h
                repeat (obtain ⟨h1, h⟩ := h; replace h1 := h1 rfl; simp only [go_sem] at h1; try (obtain ⟨h1, h1b⟩ := h1))
                refine Or.inl ⟨rfl, fun K hK => ?_⟩
                go_simp
                exact hK _ 0 _ (Ext.refl _) rfl
              case wsx5_1 =>
                intro u β wq hq h
                repeat (obtain ⟨h1, h⟩ := h; replace h1 := h1 rfl; simp only [go_sem] at h1; try (obtain ⟨h1, h1b⟩ := h1))
                refine Or.inl ⟨rfl, fun K hK => ?_⟩
                go_simp
                exact hK _ 0 _ (Ext.refl _) rfl
              case wsx5_2 =>
                intro u β wq hq h
                repeat (obtain ⟨h1, h⟩ := h; replace h1 := h1 rfl; simp only [go_sem] at h1; try (obtain ⟨h1, h1b⟩ := h1))
                refine Or.inl ⟨rfl, fun K hK => ?_⟩
                go_simp
                exact hK _ 0 _ (Ext.refl _) rfl
              case wsx5_3 =>
                intro u β wq hq h
                repeat (obtain ⟨h1, h⟩ := h; replace h1 := h1 rfl; simp only [go_sem] at h1; try (obtain ⟨h1, h1b⟩ := h1))
                refine Or.inl ⟨rfl, fun K hK => ?_⟩
                go_simp
                exact hK _ 0 _ (Ext.refl _) rfl
              case wsx5_4 =>
                intro u β wq hq h
                repeat (obtain ⟨h1, h⟩ := h; replace h1 := h1 rfl; simp only [go_sem] at h1; try (obtain ⟨h1, h1b⟩ := h1))
                refine Or.inl ⟨rfl, fun K hK => ?_⟩
                go_simp
                exact hK _ 0 _ (Ext.refl _) rfl
              case wsx5_5 =>
                intro u β wq hq h
                repeat (obtain ⟨h1, h⟩ := h; replace h1 := h1 rfl; simp only [go_sem] at h1; try (obtain ⟨h1, h1b⟩ := h1))
                refine Or.inl ⟨Loud.wanted_of rfl rfl (congrArg some (by assumption)), fun K hK => ?_⟩
                go_simp
                exact hK _ 0 _ (Ext.refl _) rfl
              case wsx5_6 =>
                intro u β wq hq h
                repeat (obtain ⟨h1, h⟩ := h; replace h1 := h1 rfl; simp only [go_sem] at h1; try (obtain ⟨h1, h1b⟩ := h1))
                refine Or.inl ⟨Loud.wanted_of rfl rfl (congrArg some (by assumption)), fun K hK => ?_⟩
                go_simp
                exact hK _ 0 _ (Ext.refl _) rfl
              case wsx5_7 =>
                intro u β wq hq h
                repeat (obtain ⟨h1, h⟩ := h; replace h1 := h1 rfl; simp only [go_sem] at h1; try (obtain ⟨h1, h1b⟩ := h1))
                refine Or.inl ⟨Loud.wanted_of rfl rfl (congrArg some (by assumption)), fun K hK => ?_⟩
                go_simp
                exact hK _ 0 _ (Ext.refl _) rfl
              case wsx5_8 =>
                intro u β wq hq h
                repeat (obtain ⟨h1, h⟩ := h; replace h1 := h1 rfl; simp only [go_sem] at h1; try (obtain ⟨h1, h1b⟩ := h1))
                refine Or.inl ⟨Loud.wanted_of rfl rfl (congrArg some (by assumption)), fun K hK => ?_⟩
                have hqc := hq.cell_of q3
                go_simp
                exact hK _ 0 _ (Ext.refl _) rfl
              case wsx5_9 =>
                intro u β wq hq h
                repeat (obtain ⟨h1, h⟩ := h; replace h1 := h1 rfl; simp only [go_sem] at h1; try (obtain ⟨h1, h1b⟩ := h1))
                refine Or.inl ⟨rfl, fun K hK => ?_⟩
                go_simp
                exact hK _ 0 _ (Ext.refl _) rfl
              case wsx5_10 =>
                intro u β wq hq h
                repeat (obtain ⟨h1, h⟩ := h; replace h1 := h1 rfl; simp only [go_sem] at h1; try (obtain ⟨h1, h1b⟩ := h1))
                refine Or.inl ⟨rfl, fun K hK => ?_⟩
                go_simp
                exact hK _ 0 _ (Ext.refl _) rfl
              case wsx5_11 =>
                intro u β wq hq h
                repeat (obtain ⟨h1, h⟩ := h; replace h1 := h1 rfl; simp only [go_sem] at h1; try (obtain ⟨h1, h1b⟩ := h1))
                refine Or.inr ⟨Loud.wanted_not rfl rfl (congrArg some (by assumption)) rfl, 0, rfl⟩
              case wsx5_12 =>
                intro u β wq hq h
                repeat (obtain ⟨h1, h⟩ := h; replace h1 := h1 rfl; simp only [go_sem] at h1; try (obtain ⟨h1, h1b⟩ := h1))
                refine Or.inr ⟨Loud.wanted_not rfl rfl (congrArg some (by assumption)) rfl, 0, rfl⟩
              case wsx5_13 =>
                intro u β wq hq h
                repeat (obtain ⟨h1, h⟩ := h; replace h1 := h1 rfl; simp only [go_sem] at h1; try (obtain ⟨h1, h1b⟩ := h1))
                refine Or.inr ⟨Loud.wanted_not rfl rfl (congrArg some (by assumption)) rfl, 0, rfl⟩
              case wsx5_14 =>
                intro u β wq hq h
                repeat (obtain ⟨h1, h⟩ := h; replace h1 := h1 rfl; simp only [go_sem] at h1; try (obtain ⟨h1, h1b⟩ := h1))
                refine Or.inr ⟨Loud.wanted_not rfl rfl (congrArg some (by assumption)) rfl, 0, rfl⟩
              case wsx5_15 =>
                intro u β wq hq h
                repeat (obtain ⟨h1, h⟩ := h; replace h1 := h1 rfl; simp only [go_sem] at h1; try (obtain ⟨h1, h1b⟩ := h1))
                refine Or.inr ⟨Loud.wanted_not rfl rfl (congrArg some (by assumption)) rfl, 0, rfl⟩
              case wsx5_16 =>
                intro u β wq hq h
                repeat (obtain ⟨h1, h⟩ := h; replace h1 := h1 rfl; simp only [go_sem] at h1; try (obtain ⟨h1, h1b⟩ := h1))
                refine Or.inr ⟨Loud.wanted_not rfl rfl (congrArg some (by assumption)) rfl, 0, rfl⟩
              case wsx5_17 =>
                intro u β wq hq h
                repeat (obtain ⟨h1, h⟩ := h; replace h1 := h1 rfl; simp only [go_sem] at h1; try (obtain ⟨h1, h1b⟩ := h1))
                refine Or.inr ⟨Loud.wanted_not rfl rfl (congrArg some (by assumption)) rfl, 0, rfl⟩
              case wsx5_18 =>
                intro u β wq hq h
                repeat (obtain ⟨h1, h⟩ := h; replace h1 := h1 rfl; simp only [go_sem] at h1; try (obtain ⟨h1, h1b⟩ := h1))
                refine Or.inr ⟨Loud.wanted_not rfl rfl (congrArg some (by assumption)) rfl, 0, rfl⟩
              case wsx5_19 =>
                intro u β wq hq h
                repeat (obtain ⟨h1, h⟩ := h; replace h1 := h1 rfl; simp only [go_sem] at h1; try (obtain ⟨h1, h1b⟩ := h1))
                refine Or.inl ⟨rfl, fun K hK => ?_⟩
                go_simp
                exact hK _ 0 _ (Ext.refl _) rfl
            intro u β w5 hq h
            have h0 := h 0 (by omega)
            have h1 := h 1 (by omega)
            have h2 := h 2 (by omega)
            have h3 := h 3 (by omega)
            have h4 := h 4 (by omega)
            have h5 := h 5 (by omega)
            have h6 := h 6 (by omega)
            have h7 := h 7 (by omega)
            have h8 := h 8 (by omega)
            have h9 := h 9 (by omega)
            have h10 := h 10 (by omega)
            have h11 := h 11 (by omega)
            have h12 := h 12 (by omega)
            have h13 := h 13 (by omega)
            have h14 := h 14 (by omega)
            have h15 := h 15 (by omega)
            have h16 := h 16 (by omega)
            have h17 := h 17 (by omega)
            have h18 := h 18 (by omega)
            have h19 := h 19 (by omega)
            clear h
            simp only [go_sem] at h0 h1 h2 h3 h4 h5 h6 h7 h8 h9 h10 h11 h12 h13 h14 h15 h16 h17 h18 h19
            simp only [List.drop_succ_cons, List.drop_zero]
            rw [h19]
            go_wp2
            go_roundw
            case measure => simp [intOf]; omega
            case rel => exact ⟨e, k + 1, hes, Or.inr ⟨by have := HPE.out; omega, by omega⟩, by go_num, by go_num, HTT3.out.ext hq, hx3.trans hq⟩
        · have kal : (asks.length : Int) ≤ (k : Int) := by omega
          go_upto_region 15 with (first
            | (go_at_call 17; refine (GA.out wr HTT.out).mono ?_; rintro e w3 ⟨rfl, ht3, hb3⟩; have HTT3 := Lib.hid ht3; have hx3 : Ext w w3 := But.ext hx hb3 (by simp; omega); clear ht3 hb3)
            | (go_at_call 18; with_reducible refine (GL.out w3 HTT3.out).mono ?_; rintro e w' ⟨rfl, rfl⟩))
          refine Loud.wp_region_weave 20 w3 (Loud.sps [.val (.int .i64 (k : Int)), .val (.slice ad2 asks.length cap2), .val (.int .i64 (asks.length : Int)), .val (.bool false), .val (.bool false), .val undef, .val undef, .val undef, .val undef, .val (.bool false), .val (.bool false), .val undef, .val undef, .val undef, .val undef, .val undef, .val undef, .val undef, .val undef, .val (.bool false)]) (by kernel_rfl) (by kernel_rfl) (by show Ext _ _; repeat (first | exact Ext.refl _ | assumption | (with_reducible refine Ext.drew ?_) | (with_reducible refine Ext.drewN ?_ _) | (with_reducible refine Ext.alloc ?_ _) | (refine Ext.trans ?_ (by assumption)))) (Loud.sps_st _) ?wAx6 ?whAx6 ?whSx6 ?whFx6
          case whAx6 => intro u K hK; simp only [List.take_succ_cons, List.take_zero, Loud.puts]; go_simp; exact hK
          case whSx6 =>
            simp only [List.take_succ_cons, List.take_zero, Loud.stepsW]
            refine ⟨?wsx6_0, ?wsx6_1, ?wsx6_2, ?wsx6_3, ?wsx6_4, ?wsx6_5, ?wsx6_6, ?wsx6_7, ?wsx6_8, ?wsx6_9, ?wsx6_10, ?wsx6_11, ?wsx6_12, ?wsx6_13, ?wsx6_14, ?wsx6_15, ?wsx6_16, ?wsx6_17, ?wsx6_18, ?wsx6_19, trivial⟩
            case wsx6_0 =>
              intro u β wq hq h
              repeat (obtain ⟨h1, h⟩ := h; replace h1 := h1 rfl; simp only [go_sem] at h1; try (obtain ⟨h1, h1b⟩ := h1))
              refine Or.inl ⟨rfl, fun K hK => ?_⟩
              go_simp
              exact hK _ 0 _ (Ext.refl _) rfl
            case wsx6_1 =>
              intro u β wq hq h
              repeat (obtain ⟨h1, h⟩ := h; replace h1 := h1 rfl; simp only [go_sem] at h1; try (obtain ⟨h1, h1b⟩ := h1))
              refine Or.inl ⟨rfl, fun K hK => ?_⟩
              go_simp
              exact hK _ 0 _ (Ext.refl _) rfl
            case wsx6_2 =>
              intro u β wq hq h
              repeat (obtain ⟨h1, h⟩ := h; replace h1 := h1 rfl; simp only [go_sem] at h1; try (obtain ⟨h1, h1b⟩ := h1))
              refine Or.inl ⟨rfl, fun K hK => ?_⟩
              go_simp
              exact hK _ 0 _ (Ext.refl _) rfl
            case wsx6_3 =>
              intro u β wq hq h
              repeat (obtain ⟨h1, h⟩ := h; replace h1 := h1 rfl; simp only [go_sem] at h1; try (obtain ⟨h1, h1b⟩ := h1))
              refine Or.inl ⟨rfl, fun K hK => ?_⟩
              go_simp
              exact hK _ 0 _ (Ext.refl _) rfl
            case wsx6_4 =>
              intro u β wq hq h
              repeat (obtain ⟨h1, h⟩ := h; replace h1 := h1 rfl; simp only [go_sem] at h1; try (obtain ⟨h1, h1b⟩ := h1))
              refine Or.inl ⟨rfl, fun K hK => ?_⟩
              go_simp
              exact hK _ 0 _ (Ext.refl _) rfl
            case wsx6_5 =>
              intro u β wq hq h
              repeat (obtain ⟨h1, h⟩ := h; replace h1 := h1 rfl; simp only [go_sem] at h1; try (obtain ⟨h1, h1b⟩ := h1))
              refine Or.inr ⟨Loud.wanted_not rfl rfl (congrArg some (by assumption)) rfl, 0, rfl⟩
            case wsx6_6 =>
              intro u β wq hq h
              repeat (obtain ⟨h1, h⟩ := h; replace h1 := h1 rfl; simp only [go_sem] at h1; try (obtain ⟨h1, h1b⟩ := h1))
              refine Or.inr ⟨Loud.wanted_not rfl rfl (congrArg some (by assumption)) rfl, 0, rfl⟩
            case wsx6_7 =>
              intro u β wq hq h
              repeat (obtain ⟨h1, h⟩ := h; replace h1 := h1 rfl; simp only [go_sem] at h1; try (obtain ⟨h1, h1b⟩ := h1))
              refine Or.inr ⟨Loud.wanted_not rfl rfl (congrArg some (by assumption)) rfl, 0, rfl⟩
            case wsx6_8 =>
              intro u β wq hq h
              repeat (obtain ⟨h1, h⟩ := h; replace h1 := h1 rfl; simp only [go_sem] at h1; try (obtain ⟨h1, h1b⟩ := h1))
              refine Or.inr ⟨Loud.wanted_not rfl rfl (congrArg some (by assumption)) rfl, 0, rfl⟩
            case wsx6_9 =>
              intro u β wq hq h
              repeat (obtain ⟨h1, h⟩ := h; replace h1 := h1 rfl; simp only [go_sem] at h1; try (obtain ⟨h1, h1b⟩ := h1))
              refine Or.inl ⟨rfl, fun K hK => ?_⟩
              go_simp
              exact hK _ 0 _ (Ext.refl _) rfl
            case wsx6_10 =>
              intro u β wq hq h
              repeat (obtain ⟨h1, h⟩ := h; replace h1 := h1 rfl; simp only [go_sem] at h1; try (obtain ⟨h1, h1b⟩ := h1))
              refine Or.inl ⟨rfl, fun K hK => ?_⟩
              go_simp
              exact hK _ 0 _ (Ext.refl _) rfl
            case wsx6_11 =>
              intro u β wq hq h
              repeat (obtain ⟨h1, h⟩ := h; replace h1 := h1 rfl; simp only [go_sem] at h1; try (obtain ⟨h1, h1b⟩ := h1))
              refine Or.inr ⟨Loud.wanted_not rfl rfl (congrArg some (by assumption)) rfl, 0, rfl⟩
            case wsx6_12 =>
              intro u β wq hq h
              repeat (obtain ⟨h1, h⟩ := h; replace h1 := h1 rfl; simp only [go_sem] at h1; try (obtain ⟨h1, h1b⟩ := h1))
              refine Or.inr ⟨Loud.wanted_not rfl rfl (congrArg some (by assumption)) rfl, 0, rfl⟩
            case wsx6_13 =>
              intro u β wq hq h
              repeat (obtain ⟨h1, h⟩ := h; replace h1 := h1 rfl; simp only [go_sem] at h1; try (obtain ⟨h1, h1b⟩ := h1))
              refine Or.inr ⟨Loud.wanted_not rfl rfl (congrArg some (by assumption)) rfl, 0, rfl⟩
            case wsx6_14 =>
              intro u β wq hq h
              repeat (obtain ⟨h1, h⟩ := h; replace h1 := h1 rfl; simp only [go_sem] at h1; try (obtain ⟨h1, h1b⟩ := h1))
              refine Or.inr ⟨Loud.wanted_not rfl rfl (congrArg some (by assumption)) rfl, 0, rfl⟩
            case wsx6_15 =>
              intro u β wq hq h
              repeat (obtain ⟨h1, h⟩ := h; replace h1 := h1 rfl; simp only [go_sem] at h1; try (obtain ⟨h1, h1b⟩ := h1))
              refine Or.inr ⟨Loud.wanted_not rfl rfl (congrArg some (by assumption)) rfl, 0, rfl⟩
            case wsx6_16 =>
              intro u β wq hq h
              repeat (obtain ⟨h1, h⟩ := h; replace h1 := h1 rfl; simp only [go_sem] at h1; try (obtain ⟨h1, h1b⟩ := h1))
              refine Or.inr ⟨Loud.wanted_not rfl rfl (congrArg some (by assumption)) rfl, 0, rfl⟩
            case wsx6_17 =>
              intro u β wq hq h
              repeat (obtain ⟨h1, h⟩ := h; replace h1 := h1 rfl; simp only [go_sem] at h1; try (obtain ⟨h1, h1b⟩ := h1))
              refine Or.inr ⟨Loud.wanted_not rfl rfl (congrArg some (by assumption)) rfl, 0, rfl⟩
            case wsx6_18 =>
              intro u β wq hq h
              repeat (obtain ⟨h1, h⟩ := h; replace h1 := h1 rfl; simp only [go_sem] at h1; try (obtain ⟨h1, h1b⟩ := h1))
              refine Or.inr ⟨Loud.wanted_not rfl rfl (congrArg some (by assumption)) rfl, 0, rfl⟩
            case wsx6_19 =>
              intro u β wq hq h
              repeat (obtain ⟨h1, h⟩ := h; replace h1 := h1 rfl; simp only [go_sem] at h1; try (obtain ⟨h1, h1b⟩ := h1))
              refine Or.inl ⟨rfl, fun K hK => ?_⟩
              go_simp
              exact hK _ 0 _ (Ext.refl _) rfl
          intro u β w5 hq h
          have h0 := h 0 (by omega)
          have h1 := h 1 (by omega)
          have h2 := h 2 (by omega)
          have h3 := h 3 (by omega)
          have h4 := h 4 (by omega)
          have h5 := h 5 (by omega)
          have h6 := h 6 (by omega)
          have h7 := h 7 (by omega)
          have h8 := h 8 (by omega)
          have h9 := h 9 (by omega)
          have h10 := h 10 (by omega)
          have h11 := h 11 (by omega)
          have h12 := h 12 (by omega)
          have h13 := h 13 (by omega)
          have h14 := h 14 (by omega)
          have h15 := h 15 (by omega)
          have h16 := h 16 (by omega)
          have h17 := h 17 (by omega)
          have h18 := h 18 (by omega)
          have h19 := h 19 (by omega)
          clear h
          simp only [go_sem] at h0 h1 h2 h3 h4 h5 h6 h7 h8 h9 h10 h11 h12 h13 h14 h15 h16 h17 h18 h19
          simp only [List.drop_succ_cons, List.drop_zero]
          rw [h19]
          go_wp2
          go_roundw
          case measure => simp [intOf]; omega
          case rel => exact ⟨e, k + 1, hes, Or.inr ⟨by have := HPE.out; omega, by omega⟩, by go_num, by go_num, HTT3.out.ext hq, hx3.trans hq⟩
    · obtain rfl : p = s.length := by omega
      rw [List.take_length] at HTT
      have GS := Lib.hid (fun W (h : HT W bh s) => HT_sum W bh s (by omega) h)
      have GO := Lib.hid (fun (b : Nat) (W : World) (h : W.heap[b]? = some (.cells #[.string (bs s)] 9)) => Of_one s b W (by omega) h)
      have GN1 := Lib.hid HAdd_nil; have GN2 := Lib.hid HSum_nil; have GN3 := Lib.hid HLen_nil
      generalize hz : shaS s = z at GS GO
      clear hz
      go_wp2_with (first
        | (go_at_call 17; with_reducible refine (GN1.out _ _).mono ?_; rintro e w' ⟨rfl, rfl⟩)
        | (go_at_call 19; with_reducible refine (GN2.out _).mono ?_; rintro e w' ⟨rfl, rfl⟩)
        | (go_at_call 18; with_reducible refine (GN3.out _).mono ?_; rintro e w' ⟨rfl, rfl⟩)
        | (go_at_call 19; with_reducible refine (GS.out wr HTT.out).mono ?_; rintro e w3 ⟨rfl, hx3⟩; have HT3 := Lib.hid (HTT.out.ext hx3))
        | (go_at_call 12; with_reducible refine (GO.out _ _ (heap_alloc_new w3 _)).mono ?_; rintro e w4 ⟨rfl, hx4⟩; have hx34 : Ext w3 w4 := Ext.trans ((Ext.refl w3).alloc _) hx4; have HT4 := Lib.hid (HT3.out.ext hx34))
        | (go_at_call 19; with_reducible refine (GS.out w4 HT4.out).mono ?_; rintro e w5 ⟨rfl, hx5⟩; have HT5 := Lib.hid (HT4.out.ext hx5))
        | (go_at_call 19; with_reducible refine (GS.out w5 HT5.out).mono ?_; rintro e w6 ⟨rfl, hx6⟩)
        | (go_at_call 11; with_reducible refine (G0.out _).mono ?_; rintro e w9 ⟨rfl, hx9⟩))
      go_returns
      exact ⟨rfl, hx.trans (hx3.trans (hx34.trans (hx5.trans (hx6.trans hx9))))⟩
theorem law_ShaPieces (w : World) (s pieces : List UInt8) (ad1 : Option Addr) (cap1 : Nat) (asks : List Bool) (ad2 : Option Addr) (cap2 : Nat) (hs : Rch02 s) (hp : pieces.length ≤ 140737488351232) (hv1 : Sl w (.slice ad1 pieces.length cap1) (pieces.map byteV)) (ha : asks.length ≤ 140737488351232) (hv2 : Sl w (.slice ad2 asks.length cap2) (asks.map Value.bool)) :
    Calls Try.prog 5 #[.string (bs s), .slice ad1 pieces.length cap1, .slice ad2 asks.length cap2] w fun e w' => e = .returned (.bool true) ∧ Ext w w' := by
  by_cases h : 2048 < s.length ∨ 300 < pieces.length ∨ 300 < asks.length
  · exact pieces_long w s pieces asks ad1 ad2 cap1 cap2 hs hp ha h
  · exact pieces_main w s pieces asks ad1 ad2 cap1 cap2 (by omega) (by omega) (by omega) hv1 hv2
end Go.Proofs.Ytipdgiikifmjdaa
