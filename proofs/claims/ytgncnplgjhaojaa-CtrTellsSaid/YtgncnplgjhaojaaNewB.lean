/- Contracts: layer 4, New. -/
import Derived.Test.YtgncnplgjhaojaaNew
namespace Go.Proofs.Ytgncnplgjhaojaa
open Go Go.RowKit

theorem slice16_at (c o m : Nat) (hm : m < 4) (W : World) : Sem.run Try.prog (Instr.sliceAt 56 (.pointer (some ⟨c, o, none⟩)) (some (.int .i64 (4 * (m : Int)))) none none) W = .ok (.slice (some ⟨c, o + 4 * m, none⟩) (16 - 4 * m) (16 - 4 * m)) W := by
  rcases (by omega : m = 0 ∨ m = 1 ∨ m = 2 ∨ m = 3) with rfl | rfl | rfl | rfl <;> kernel_rfl
set_option maxRecDepth 100000 in
set_option maxHeartbeats 1000000 in
theorem New_no (key : List UInt8) (w : World) (h : key.length ≠ 16) (_hl : key.length ≤ 140737488351232) : Calls Try.prog 19 #[.string (bs key)] w fun e w' => e = .returned (.tuple #[.pointer none, .int .i64 2]) ∧ w = w' := by
  have hne : ((key.length : Int) != 16) = true := by simp; omega
  go_enter Try.func19, Try.ntmps19
  go_wp2
  go_returns
  exact ⟨rfl, rfl⟩
set_option maxRecDepth 100000 in
set_option maxHeartbeats 4000000 in
theorem New_yes (key : List UInt8) (w : World) (h : key.length = 16) : Calls Try.prog 19 #[.string (bs key)] w fun e w' => ∃ c, e = .returned (.tuple #[.pointer (some ⟨c, 0, none⟩), .int .i64 0]) ∧ w.heap.size ≤ c ∧ CI w' c (rks key) ∧ Ext w w' := by
  have GB := Lib.hid boxes_any
  have hz := zero_cipher
  have hzs := zC_size
  have hzm := zC_made
  have hzw := zero_words
  have HI := Lib.hid (show (Try.prog.info? 53).map (·.size) = some (bcells boxT).size by rw [bcells_size, boxT_length]; exact info_b256)
  have HJ := Lib.hid (show (Try.prog.info? 53).map (·.size) = some (bcells unT).size by rw [bcells_size, unT_length]; exact info_b256)
  have HH := Lib.hid h
  go_enter Try.func19, Try.ntmps19
  go_upto_region 4 with fail
  obtain ⟨w0, hw0⟩ : ∃ w0, w.alloc (Obj.cells (cCells zK zB zB) 59) = w0 := ⟨_, rfl⟩
  have hc0 : w0.heap[w.heap.size]? = some (.cells (cCells zK zB zB) 59 (0, 0)) := by rw [← hw0]; exact heap_alloc_new _ _
  have hx0 : Ext w w0 := by rw [← hw0]; exact (Ext.refl w).alloc _
  rw [hw0]
  clear hw0 hz hzs hzm
  have HC0 := Lib.hid hc0
  clear hc0
  have P1 : Hid (∀ K B U : List UInt8, K.length = 176 → B.length = 256 → ((cCells K B U).toList.take 176 ++ (bcells boxT).toList ++ (cCells K B U).toList.drop (176 + (bcells boxT).size)).toArray = cCells K boxT U) := Lib.hid (by
    intro K B U hK hB
    rw [bcells_size, boxT_length, bcells_toList]
    unfold cCells
    congr 1
    simp only [List.map_append, List.append_assoc]
    rw [List.take_append_of_le_length (by simp; omega), List.take_of_length_le (by simp; omega), List.drop_append, List.drop_of_length_le (by simp; omega), List.drop_append, List.drop_of_length_le (by simp; omega)]
    simp [hK, hB])
  have P2 : Hid (∀ K B U : List UInt8, K.length = 176 → B.length = 256 → U.length = 256 → ((cCells K B U).toList.take 432 ++ (bcells unT).toList ++ (cCells K B U).toList.drop (432 + (bcells unT).size)).toArray = cCells K B unT) := Lib.hid (by
    intro K B U hK hB hU
    rw [bcells_size, unT_length, bcells_toList]
    unfold cCells
    congr 1
    simp only [List.map_append, List.append_assoc]
    rw [List.take_append, List.take_of_length_le (by simp; omega), List.take_append_of_le_length (by simp; omega), List.take_of_length_le (by simp; omega), List.drop_append, List.drop_of_length_le (by simp; omega), List.drop_append, List.drop_of_length_le (by simp; omega), List.drop_append, List.drop_of_length_le (by simp; omega)]
    simp [hK, hB, hU])
  go_upto_region 5 with (first
    | (go_at_call 33; with_reducible refine (GB.out _).mono ?_; rintro e w1 ⟨rfl, hx1⟩; have HC1 := Lib.hid (hx1.keep HC0.out))
    | (refine wpl_store_part rfl rfl rfl (g := w.heap.size) (off := 176) (cs := bcells boxT) rfl rfl HC1.out HI.out (by rw [cCells_size, bcells_size, boxT_length, zK_length, zB_length]; decide) (bcells_all _) ?_; intro w2 hc2 hb2; rw [P1.out _ _ _ zK_length zB_length] at hc2; have HC2 := Lib.hid hc2; clear hc2)
    | (refine wpl_store_part rfl rfl rfl (g := w.heap.size) (off := 432) (cs := bcells unT) rfl rfl HC2.out HJ.out (by rw [cCells_size, bcells_size, boxT_length, unT_length, zK_length, zB_length]; decide) (bcells_all _) ?_; intro w3 hc3 hb3; rw [P2.out _ _ _ zK_length boxT_length zB_length] at hc3; have HC3 := Lib.hid hc3; clear hc3))
  have hx3 : Ext w w3 := ((Ext.trans hx0 hx1).trans_below hb2 (Nat.le_refl _)).trans_below hb3 (Nat.le_refl _)
  have HCI : Hid (CI w3 w.heap.size zK) := Lib.hid ⟨zK_length, HC3.out⟩
  clear hb2 hb3 hx1 hx0
  go_upto_region 7 with fail
  obtain ⟨w5, hw5⟩ : ∃ w5, w3.alloc (Obj.cells (w4 z44) 60) = w5 := ⟨_, rfl⟩
  have k5 : w5.heap[w3.heap.size]? = some (.cells (w4 (wsA key 0)) 60 (0, 0)) := by rw [← hw5]; exact heap_alloc_new _ _
  have x5 : Ext w3 w5 := by rw [← hw5]; exact (Ext.refl _).alloc _
  rw [hw5]
  clear hw5 hzw HC3
  have GT := Lib.hid (fun (x : UInt32) (W : World) => Turn_any x (-8) W)
  have GX := Lib.hid (fun (x : UInt32) (W : World) (hc : CI W w.heap.size zK) => boxed_any x w.heap.size zK W hc)
  have GW := Lib.hid twice_any
  have HX3 := Lib.hid hx3
  clear hx3
  go_wp2
  go_loopw [6, 26] (fun r i wr => ∃ k : Nat, k ≤ 44 ∧ r = .int .u8 ((wsN key k).2.toNat : Int) ∧ i = .int .i64 k ∧ wr.heap[w3.heap.size]? = some (.cells (w4 (wsA key k)) 60 (0, 0)) ∧ Ext w3 wr) (fun _ i _ => 44 - (intOf i).toNat)
  case atStart => exact ⟨0, by omega, rfl, rfl, k5, x5⟩
  case round =>
    clear k5 x5
    obtain ⟨k, hk, rfl, rfl, hb, hx⟩ := hrel
    have HB := Lib.hid hb
    clear hb
    have hal := wsA_length key k hk
    by_cases hlt : k < 44
    · have hzc : ∃ c0, wr.cell? ⟨w3.heap.size, k, none⟩ = some c0 := ⟨_, cell_blk HB.out (w4_at _ k (by omega))⟩
      obtain ⟨c0, hc0⟩ := hzc
      have hfz := frozen_blk (i := k) HB.out
      by_cases h4 : k < 4
      · have GG := Lib.hid (fun W => Get32_any key (4 * (k : Int)) W (by have := HH.out; omega))
        have hgv : (Get32 key (4 * (k : Int))).1 = (keyW key k).toNat := by
          unfold Get32 keyW
          rw [if_pos (by have := HH.out; omega), show (4 * (k : Int)).toNat = 4 * k by omega, UInt32.toNat_ofNat_of_lt' (getB_u32 _ (seg_length _ _ _ (by have := HH.out; omega)))]
        have HN : Hid (wsN key (k + 1) = ((wsN key k).1 ++ [keyW key k], (wsN key k).2)) := Lib.hid (by rw [wsN]; simp only [if_pos h4])
        have HS := Lib.hid (wsA_set key k hlt (keyW key k) _ HN.out rfl)
        have H2 : Hid ((wsN key (k + 1)).2 = (wsN key k).2) := Lib.hid (by rw [HN.out])
        rw [hgv] at GG
        generalize keyW key k = v at *
        generalize (Get32 key (4 * (k : Int))).2 = bb at *
        generalize (wsN key k).2 = r at *
        go_wp2_with (go_at_call 37; refine (GG.out _).mono ?_; rintro e w' ⟨rfl, rfl⟩)
        go_roundw
        case measure => simp [intOf]; omega
        case rel =>
          refine ⟨k + 1, by omega, by rw [H2.out], by go_num, ?_, hx.setCell (Nat.le_refl _) _⟩
          rw [heap_setCell_same _ HB.out, w4_set, HS.out]
      · obtain ⟨k1, hk1⟩ : ∃ k1 : Nat, (k : Int) - 1 = (k1 : Int) := ⟨k - 1, by omega⟩
        obtain ⟨k4, hk4⟩ : ∃ k4 : Nat, (k : Int) - 4 = (k4 : Int) := ⟨k - 4, by omega⟩
        have hc1 := cell_blk (i := k1) HB.out (w4_at _ k1 (by omega))
        rw [wsA_at key k k1 hk (by omega)] at hc1
        have hc4 := cell_blk (i := k4) HB.out (w4_at _ k4 (by omega))
        rw [wsA_at key k k4 hk (by omega)] at hc4
        have e1 : k - 1 = k1 := by omega
        have e4 : k - 4 = k4 := by omega
        have hk1l : (k1 : Int) < 44 := by omega
        have hk4l : (k4 : Int) < 44 := by omega
        have hkl : (k : Int) < 44 := by omega
        by_cases hm : k % 4 = 0
        · have HN : Hid (wsN key (k + 1) = ((wsN key k).1 ++ [x32 ((wsN key k).1.getD k4 0) (x32 (boxW (rotr ((wsN key k).1.getD k1 0) (-8))) (shl24 (wsN key k).2))], tw (wsN key k).2)) := Lib.hid (by rw [wsN]; simp only [if_neg h4, if_pos hm, e1, e4])
          have HS := Lib.hid (wsA_set key k hlt _ _ HN.out rfl)
          have H2 : Hid ((wsN key (k + 1)).2 = tw (wsN key k).2) := Lib.hid (by rw [HN.out])
          have hmi : (k : Int) % 4 = 0 := by omega
          have hr := (wsN key k).2.toNat_lt
          have hsh := shl24_toNat (wsN key k).2
          have hs1 : ((wsN key k).2.toNat : Int) * 16777216 = ((shl24 (wsN key k).2).toNat : Int) := by rw [hsh]; omega
          have HC4 := Lib.hid hc4
          clear e1 e4 hsh hc4
          generalize (wsN key k).1.getD k1 0 = n1 at *
          generalize (wsN key k).1.getD k4 0 = n4 at *
          generalize (wsN key k).2 = r at *
          go_wp2_with (first
            | (go_at_call 39; with_reducible refine (GT.out _ _).mono ?_; rintro e w6 ⟨rfl, hx6⟩; have hci := HCI.out.ext (hx.trans hx6))
            | (go_at_call 38; with_reducible refine (GX.out _ _ hci).mono ?_; rintro e w7 ⟨rfl, hx7⟩; have hx67 := hx6.trans hx7; have HB7 := Lib.hid (hx67.keep HB.out); have hc47 := hx67.cell_of HC4.out; have hc07 := hx67.cell_of hc0; have hf7 := frozen_blk (i := k) HB7.out)
            | (go_at_call 32; with_reducible refine (GW.out _ _).mono ?_; rintro e w' ⟨rfl, rfl⟩))
          go_roundw
          case measure => simp [intOf]; omega
          case rel =>
            refine ⟨k + 1, by omega, by rw [H2.out], by go_num, ?_, (hx.trans hx67).setCell (Nat.le_refl _) _⟩
            rw [heap_setCell_same _ HB7.out, w4_set, HS.out]
        · have HN : Hid (wsN key (k + 1) = ((wsN key k).1 ++ [x32 ((wsN key k).1.getD k4 0) ((wsN key k).1.getD k1 0)], (wsN key k).2)) := Lib.hid (by rw [wsN]; simp only [if_neg h4, if_neg hm, e1, e4])
          have HS := Lib.hid (wsA_set key k hlt _ _ HN.out rfl)
          have H2 : Hid ((wsN key (k + 1)).2 = (wsN key k).2) := Lib.hid (by rw [HN.out])
          have hmi : ¬ (k : Int) % 4 = 0 := by omega
          clear e1 e4
          generalize (wsN key k).1.getD k1 0 = n1 at *
          generalize (wsN key k).1.getD k4 0 = n4 at *
          generalize (wsN key k).2 = r at *
          go_wp2
          go_roundw
          case measure => simp [intOf]; omega
          case rel =>
            refine ⟨k + 1, by omega, by rw [H2.out], by go_num, ?_, hx.setCell (Nat.le_refl _) _⟩
            rw [heap_setCell_same _ HB.out, w4_set, HS.out]
    · obtain rfl : k = 44 := by omega
      have hws : wsA key 44 = ksW key := by simp [wsA, ksW]
      rw [hws] at HB
      generalize (wsN key 44).2 = r44
      have HIW := Lib.hid (show (Try.prog.info? 60).map (·.size) = some (w4 (ksW key)).size by rw [w4_size, ksW_length key]; exact info_w44)
      obtain ⟨wt, hwt⟩ : ∃ wt, w4 (ksW key) = wt := ⟨_, rfl⟩
      rw [hwt] at HB HIW
      have HWT := Lib.hid hwt
      have HCW := HCI.out.ext hx
      have HX := HX3.out.trans hx
      clear hwt hws hal hk hlt
      go_wp2_with (refine wpList_load_row rfl _ _ rfl w3.heap.size rfl _ _ _ _ HB.out und_w44 rfl HIW.out ?_)
      obtain ⟨wo, hwo⟩ : ∃ x, x = wr := ⟨_, rfl⟩
      subst hwo
      go_loopw [67] (fun i wr => ∃ k : Nat, k ≤ 44 ∧ i = .int .i64 k ∧ wr.heap[w.heap.size]? = some (.cells (cCells (kbK key k) boxT unT) 59 (0, 0)) ∧ Ext w wr) (fun i _ => 44 - (intOf i).toNat)
      case atStart => exact ⟨0, by omega, rfl, HCW.2, HX⟩
      case round =>
        obtain ⟨k, hk, rfl, hb, hx2⟩ := hrel
        have HB2 := Lib.hid hb
        clear hb
        by_cases hlt : k < 44
        · obtain ⟨q, hq4⟩ : ∃ q : Nat, (k : Int) / 4 = (q : Int) := ⟨k / 4, by omega⟩
          obtain ⟨m, hm4⟩ : ∃ m : Nat, (k : Int) % 4 = (m : Int) := ⟨k % 4, by omega⟩
          have hkqm : Hid (q * 16 + 4 * m = 4 * k) := Lib.hid (by omega)
          have hq11 : (q : Int) < 11 := by omega
          have hm3 : m < 4 := by omega
          have hq11n : q < 11 := by omega
          have hwk : wt[k]? = some (.int .u32 (((ksW key).getD k 0).toNat : Int)) := by
            rw [← HWT.out, w4_at _ k (by rw [ksW_length key]; exact hlt)]
            simp [List.getD, show k < (ksW key).length by rw [ksW_length key]; exact hlt]
          have HKB := Lib.hid (kbK_length key k hk)
          have HN : Hid (kbK key (k + 1) = splice (kbK key k) (4 * k) (putB 4 ((ksW key).getD k 0).toNat)) := Lib.hid rfl
          generalize (ksW key).getD k 0 = n at *
          generalize kbK key k = kb at *
          have hnl := n.toNat_lt
          have hwq : IntKind.i64.wrap (q : Int) = (q : Int) := by rw [IntKind.wrap_i64]; omega
          have hwm : IntKind.i64.wrap (4 * (m : Int)) = 4 * (m : Int) := by rw [IntKind.wrap_i64]; omega
          have htm : (k : Int).tmod 4 = (m : Int) := by rw [Int.tmod_eq_emod_of_nonneg (by omega)]; exact hm4
          have hsl : ∀ W, Sem.run Try.prog (Instr.sliceAt 56 (.pointer (some ⟨w.heap.size, q * 16, none⟩)) (some (.int .i64 (4 * (m : Int)))) none none) W = .ok (.slice (some ⟨w.heap.size, q * 16 + 4 * m, none⟩) (16 - 4 * m) (16 - 4 * m)) W := fun W => slice16_at w.heap.size (q * 16) m hm3 W
          have hix : ∀ W, Sem.run Try.prog (Instr.index 60 (.agg wt) (.int .i64 (k : Int))) W = .ok (.int .u32 (n.toNat : Int)) W := fun W => run_index_one und_w44 (by kernel_rfl : Try.prog.underlying 42 = some (.int .u32)) rfl (by kernel_rfl) wt _ k hlt hwk W
          have GP := Lib.hid (fun W => Put32_any n.toNat W (by unfold U32; omega))
          go_upto_region 21 with fail
          refine Loud.wp_region_weave 12 wr (Loud.sps [.val (.pointer (some ⟨w.heap.size, 0, none⟩)), .val (.int .i64 (k : Int)), .val (.int .i64 (q : Int)), .val (.pointer (some ⟨w.heap.size, 0, none⟩)), .val (.pointer (some ⟨w.heap.size, 0, none⟩)), .val (.pointer (some ⟨w.heap.size, q * 16, none⟩)), .val (.int .i64 (k : Int)), .val (.int .i64 (m : Int)), .val (.int .i64 (4 * (m : Int))), .val (.slice (some ⟨w.heap.size, q * 16 + 4 * m, none⟩) (16 - 4 * m) (16 - 4 * m)), .val (.int .u32 (n.toNat : Int)), .val (.string (bs (putB 4 n.toNat)))]) (by kernel_rfl) (by kernel_rfl) (by show Ext _ _; repeat (first | exact Ext.refl _ | assumption | (with_reducible refine Ext.drew ?_) | (with_reducible refine Ext.drewN ?_ _) | (with_reducible refine Ext.alloc ?_ _) | (refine Ext.trans ?_ (by assumption)))) (Loud.sps_st _) ?wAx1 ?whAx1 ?whSx1 ?whFx1
          case whAx1 => intro u K hK; simp only [List.take_succ_cons, List.take_zero, Loud.puts]; go_simp; exact hK
          case whSx1 =>
            simp only [List.take_succ_cons, List.take_zero, Loud.stepsW]
            refine ⟨?wsx1_0, ?wsx1_1, ?wsx1_2, ?wsx1_3, ?wsx1_4, ?wsx1_5, ?wsx1_6, ?wsx1_7, ?wsx1_8, ?wsx1_9, ?wsx1_10, ?wsx1_11, trivial⟩
            case wsx1_0 =>
              intro u β wq hq h
              repeat (obtain ⟨h1, h⟩ := h; first | (replace h1 := h1 rfl; simp only [go_sem] at h1; try (obtain ⟨h1, h1b⟩ := h1)) | (have hno := (h1 : Region.binds _ _ = true → _); clear hno h1))
              refine Or.inl ⟨rfl, fun K hK => ?_⟩
              go_simp
              exact hK _ 0 _ (Ext.refl _) rfl
            case wsx1_1 =>
              intro u β wq hq h
              repeat (obtain ⟨h1, h⟩ := h; first | (replace h1 := h1 rfl; simp only [go_sem] at h1; try (obtain ⟨h1, h1b⟩ := h1)) | (have hno := (h1 : Region.binds _ _ = true → _); clear hno h1))
              refine Or.inl ⟨rfl, fun K hK => ?_⟩
              go_simp
              exact hK _ 0 _ (Ext.refl _) rfl
            case wsx1_2 =>
              intro u β wq hq h
              repeat (obtain ⟨h1, h⟩ := h; first | (replace h1 := h1 rfl; simp only [go_sem] at h1; try (obtain ⟨h1, h1b⟩ := h1)) | (have hno := (h1 : Region.binds _ _ = true → _); clear hno h1))
              refine Or.inl ⟨rfl, fun K hK => ?_⟩
              go_simp
              exact hK _ 0 _ (Ext.refl _) rfl
            case wsx1_3 =>
              intro u β wq hq h
              repeat (obtain ⟨h1, h⟩ := h; first | (replace h1 := h1 rfl; simp only [go_sem] at h1; try (obtain ⟨h1, h1b⟩ := h1)) | (have hno := (h1 : Region.binds _ _ = true → _); clear hno h1))
              refine Or.inl ⟨rfl, fun K hK => ?_⟩
              go_simp
              exact hK _ 0 _ (Ext.refl _) rfl
            case wsx1_4 =>
              intro u β wq hq h
              repeat (obtain ⟨h1, h⟩ := h; first | (replace h1 := h1 rfl; simp only [go_sem] at h1; try (obtain ⟨h1, h1b⟩ := h1)) | (have hno := (h1 : Region.binds _ _ = true → _); clear hno h1))
              refine Or.inl ⟨rfl, fun K hK => ?_⟩
              go_simp
              exact hK _ 0 _ (Ext.refl _) rfl
            case wsx1_5 =>
              intro u β wq hq h
              repeat (obtain ⟨h1, h⟩ := h; first | (replace h1 := h1 rfl; simp only [go_sem] at h1; try (obtain ⟨h1, h1b⟩ := h1)) | (have hno := (h1 : Region.binds _ _ = true → _); clear hno h1))
              refine Or.inl ⟨rfl, fun K hK => ?_⟩
              go_simp
              exact hK _ 0 _ (Ext.refl _) rfl
            case wsx1_6 =>
              intro u β wq hq h
              repeat (obtain ⟨h1, h⟩ := h; first | (replace h1 := h1 rfl; simp only [go_sem] at h1; try (obtain ⟨h1, h1b⟩ := h1)) | (have hno := (h1 : Region.binds _ _ = true → _); clear hno h1))
              refine Or.inl ⟨rfl, fun K hK => ?_⟩
              go_simp
              exact hK _ 0 _ (Ext.refl _) rfl
            case wsx1_7 =>
              intro u β wq hq h
              repeat (obtain ⟨h1, h⟩ := h; first | (replace h1 := h1 rfl; simp only [go_sem] at h1; try (obtain ⟨h1, h1b⟩ := h1)) | (have hno := (h1 : Region.binds _ _ = true → _); clear hno h1))
              refine Or.inl ⟨rfl, fun K hK => ?_⟩
              go_simp
              exact hK _ 0 _ (Ext.refl _) rfl
            case wsx1_8 =>
              intro u β wq hq h
              repeat (obtain ⟨h1, h⟩ := h; first | (replace h1 := h1 rfl; simp only [go_sem] at h1; try (obtain ⟨h1, h1b⟩ := h1)) | (have hno := (h1 : Region.binds _ _ = true → _); clear hno h1))
              refine Or.inl ⟨rfl, fun K hK => ?_⟩
              go_simp
              exact hK _ 0 _ (Ext.refl _) rfl
            case wsx1_9 =>
              intro u β wq hq h
              repeat (obtain ⟨h1, h⟩ := h; first | (replace h1 := h1 rfl; simp only [go_sem] at h1; try (obtain ⟨h1, h1b⟩ := h1)) | (have hno := (h1 : Region.binds _ _ = true → _); clear hno h1))
              refine Or.inl ⟨rfl, fun K hK => ?_⟩
              go_simp
              exact hK _ 0 _ (Ext.refl _) rfl
            case wsx1_10 =>
              intro u β wq hq h
              repeat (obtain ⟨h1, h⟩ := h; first | (replace h1 := h1 rfl; simp only [go_sem] at h1; try (obtain ⟨h1, h1b⟩ := h1)) | (have hno := (h1 : Region.binds _ _ = true → _); clear hno h1))
              refine Or.inl ⟨rfl, fun K hK => ?_⟩
              go_simp
              exact hK _ 0 _ (Ext.refl _) rfl
            case wsx1_11 =>
              intro u β wq hq h
              repeat (obtain ⟨h1, h⟩ := h; first | (replace h1 := h1 rfl; simp only [go_sem] at h1; try (obtain ⟨h1, h1b⟩ := h1)) | (have hno := (h1 : Region.binds _ _ = true → _); clear hno h1))
              refine Or.inl ⟨rfl, fun K hK => ?_⟩
              go_simp
              refine (GP.out _).mono ?_; rintro e w1 ⟨rfl, hx1⟩; exact ⟨_, rfl, hK _ 0 _ hx1 rfl⟩
          intro u β w8 hq h
          have h0 := h 0 (by omega)
          have h1 := h 1 (by omega)
          have h2 := h 2 (by omega)
          have h3 := h 3 (by omega)
          have h4 := h 4 (by omega)
          have h5 := h 5 (by omega)
          have h6 := h 6 (by omega)
          have h7 := h 7 (by omega)
          have h8 := h 8 (by omega)
          have h9 := h 9 (by omega)
          have h10 := h 10 (by omega)
          have h11 := h 11 (by omega)
          clear h
          simp only [go_sem] at h0 h1 h2 h3 h4 h5 h6 h7 h8 h9 h10 h11
          simp only [List.drop_succ_cons, List.drop_zero]
          rw [h11]
          go_wp2_with (refine wpl_copy_strC rfl rfl und_bytes info_u8 (by first | rfl | exact h9) (by first | rfl | exact h11) (hq.keep HB2.out) (by rw [putB_length]; omega) (by rw [putB_length, cCells_size, HKB.out]; have := hkqm.out; omega) ?_; intro w9 hb9 hbel9; rw [cC_splice _ _ _ _ _ (by rw [putB_length, HKB.out]; have := hkqm.out; omega), hkqm.out, ← HN.out] at hb9; have HB9 := Lib.hid hb9; clear hb9)
          go_roundw
          case measure => simp [intOf]; omega
          case rel =>
            exact ⟨k + 1, by omega, by go_num, HB9.out, (hx2.trans hq).trans_below hbel9⟩
        · obtain rfl : k = 44 := by omega
          go_wp2
          go_returns
          exact ⟨w.heap.size, rfl, Nat.le_refl _, ⟨kbK_length key 44 (by omega), HB2.out⟩, hx2⟩
end Go.Proofs.Ytgncnplgjhaojaa
