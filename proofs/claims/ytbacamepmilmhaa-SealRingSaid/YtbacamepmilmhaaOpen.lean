/- Contracts: layer 14: Open. -/
import Derived.Test.YtbacamepmilmhaaSeal
namespace Go.Proofs.Ytbacamepmilmhaa
open Go Go.RowKit

set_option maxRecDepth 100000 in
theorem next_any (b1 b2 f t : Nat) (s : List UInt8) (w : World) (h1 : w.heap[b1]? = some (.cells #[.int .i64 (f : Int)] 3)) (h2 : w.heap[b2]? = some (.cells #[.string (bs s)] 9)) (hf : f ≤ t) (ht : t ≤ s.length) (_hs : s.length ≤ 1099511627776) :
    Calls Try.prog 54 #[.int .i64 (t : Int), .pointer (some ⟨b1, 0, none⟩), .pointer (some ⟨b2, 0, none⟩)] w fun e w' => e = .returned (.string (bs ((s.drop f).take (t - f)))) ∧ w' = w.setCell ⟨b1, 0, none⟩ (.int .i64 (t : Int)) := by
  have c1 := cell_blk (i := 0) h1 rfl
  have c2 := cell_blk (i := 0) h2 rfl
  have hne : b2 ≠ b1 := by rintro rfl; rw [h1] at h2; cases h2
  have f1 : w.frozen? ⟨b1, 0, none⟩ = false := frozen_blk h1
  have c3 : ∀ v, (w.setCell ⟨b1, 0, none⟩ v).cell? ⟨b2, 0, none⟩ = some (.string (bs s)) := fun v => cell_blk (i := 0) ((heap_setCell_other w ⟨b1, 0, none⟩ v hne).trans h2) rfl
  have hfi : (f : Int) ≤ (t : Int) := by omega
  have hti : (t : Int) ≤ (s.length : Int) := by omega
  have hx : (bs s).extract f t = bs ((s.drop f).take (t - f)) := bs_extract s f t
  clear h1 h2
  go_enter Try.func54, Try.ntmps54
  go_wp2
  go_returns
  exact ⟨rfl, rfl⟩
/-- What an envelope opens as, its epoch's key at hand. -/
def bodyL (s : List UInt8) : List UInt8 := (s.drop 17).take (s.length - 32 - 17)
def nonceL (s : List UInt8) : List UInt8 := (s.drop 5).take 12
def okL (key path : List UInt8) (ver : Nat) (s : List UInt8) : Bool := rightL (tagL key path ver (s.take (s.length - 32))) (s.drop (s.length - 32))
def openR (key path : List UInt8) (ver : Nat) (s : List UInt8) : List UInt8 × Int :=
  if okL key path ver s then (xorL (bodyL s) (ctrS (rks (derL key lblC 16)) (nonceL s) 0 (bodyL s).length), 0) else ([], 141)
/-- The slice of four texts that pieces hands back. -/
def pieS (T : List (List UInt8)) : Loud.Spec := ⟨fun v _ w => ∃ ad cap, v = .slice ad 4 cap ∧ Sl w (.slice ad 4 cap) (T.map strV), fun _ _ _ _ ⟨ad, cap, h1, h2⟩ hx => ⟨ad, cap, h1, h2.ext hx⟩⟩
set_option maxRecDepth 100000 in
set_option maxHeartbeats 4000000 in
theorem Open_core (r m : Nat) (E : Eps) (n ep : Nat) (key path s : List UInt8) (ver : Nat) (w : World) (h : RingAt w r m E n) (hn : 0 < n) (hep : epR s = (ep, 0)) (hs : lookE E ep = some key) (hkl : key.length ≤ 1099511627776)
    (hv : U64 ver) (hp : path.length ≤ 1048576) :
    Calls Try.prog 22 #[.pointer (some ⟨r, 0, none⟩), .string (bs path), .int .u64 (ver : Int), .string (bs s)] w fun e w' => e = .returned (.tuple #[.string (bs (openR key path ver s).1), .int .i64 (openR key path ver s).2]) ∧ Ext w w' := by
  have hsl : 49 ≤ s.length ∧ s.length ≤ 1048625 := by
    unfold epR at hep
    split at hep
    · injection hep with _ h2; cases h2
    · rename_i hc; constructor
      · exact Nat.le_of_not_lt fun hh => hc (Or.inl hh)
      · exact Nat.le_of_not_lt fun hh => hc (Or.inr (Or.inl hh))
  have ge := fun W => Epoch_any s W (by omega)
  rw [hep] at ge
  have GE := Lib.hid ge
  have GK := Lib.hid (fun W (hx : Ext w W) => ring_Keys r m E n ep W (h.ext hx) hn hs hkl)
  have hpl : decide ((1048576 : Int) < (path.length : Int)) = false := by simp; omega
  obtain ⟨en, hen⟩ : ∃ en, s.length - 32 = en := ⟨_, rfl⟩
  have heni : (s.length : Int) - 32 = (en : Int) := by omega
  have hwe : IntKind.i64.wrap (en : Int) = (en : Int) := by rw [IntKind.wrap_i64]; omega
  have GPI : Hid (∀ b c W, W.heap[b]? = some (.cells #[.string (bs (s.take en))] 9) → Calls Try.prog 47 #[.string (bs path), .int .u64 (ver : Int), .slice (some ⟨b, 0, none⟩) 1 c] W fun e w' => ∃ ad cap, e = .returned (.slice ad 4 cap) ∧ Sl w' (.slice ad 4 cap) ((pieL path ver (s.take en)).map strV) ∧ Ext W w') := Lib.hid fun b c W hb => pieces_one path (s.take en) ver b c W hp hv (cell_blk hb rfl)
  have hkt : (derL key lblT 32).length = 32 := derL_length _ _ _ (by omega)
  have hkc : (derL key lblC 16).length = 16 := derL_length _ _ _ (by omega)
  have GC : Hid (∀ ad cap W, Sl W (.slice ad 4 cap) ((pieL path ver (s.take en)).map strV) → Calls Try.prog 55 #[.string (bs (derL key lblT 32)), .string (bs (s.drop en)), .slice ad 4 cap] W fun e w' => e = .returned (.bool (okL key path ver s)) ∧ Ext W w') := Lib.hid fun ad cap W hsl2 => by
    have := macCheck_any (derL key lblT 32) (s.drop en) (pieL path ver (s.take en)) ad cap W (by omega) (by rw [List.length_drop]; omega) (by simp [pieL]) (by rw [pieL_flat]; simp only [List.length_append, putB_length, List.length_take]; omega) hsl2
    rw [pieL_flat] at this
    unfold okL
    rw [hen]
    exact this
  have hbl : (bodyL s).length ≤ 1048576 := by unfold bodyL; rw [List.length_take, List.length_drop]; omega
  have hnl : (nonceL s).length = 12 := by unfold nonceL; rw [List.length_take, List.length_drop]; omega
  have GT : Hid (∀ W, Calls Try.prog 44 #[.string (bs (derL key lblC 16)), .string (bs (nonceL s)), .int .u32 0, .string (bs (bodyL s))] W fun e w' => e = .returned (.tuple #[.string (bs (xorL (bodyL s) (ctrS (rks (derL key lblC 16)) (nonceL s) 0 (bodyL s).length))), .int .i64 0]) ∧ Ext W w') := Lib.hid fun W => Turn_ok _ _ _ 0 W hkc hnl hbl (by omega) (by omega)
  have hda : (bs s).extract en s.length = bs (s.drop en) := by rw [bs_extract, List.take_of_length_le (by rw [List.length_drop]; omega)]
  have hel : (en : Int) ≤ (s.length : Int) := by omega
  have HOR : Hid (openR key path ver s = if okL key path ver s then (xorL (bodyL s) (ctrS (rks (derL key lblC 16)) (nonceL s) 0 (bodyL s).length), 0) else ([], 141)) := Lib.hid rfl
  generalize openR key path ver s = R at *
  generalize xorL (bodyL s) (ctrS (rks (derL key lblC 16)) (nonceL s) 0 (bodyL s).length) = text at *
  generalize okL key path ver s = ok at *
  generalize derL key lblC 16 = kc at *
  generalize derL key lblT 32 = kt at *
  generalize pieL path ver (s.take en) = T at *
  clear h ge hep hs hkt hkc hbl hnl
  go_enter Try.func22, Try.ntmps22
  go_upto_region 14 with (first
    | (go_at_call 18; with_reducible refine (GE.out _).mono ?_; rintro e w1 ⟨rfl, hx1⟩; have hc1 := hx1.cell_of (cell_blk (i := 0) (heap_alloc_new w _) rfl))
    | (go_at_call 33; with_reducible refine (GK.out _ (((Ext.refl w).alloc _).trans hx1)).mono ?_; rintro e w2 ⟨rfl, hx2⟩; have hc2 := hx2.cell_of hc1; have hc3 := fun o => ((Ext.refl w2).alloc o).cell_of hc2))
  have hsw : w.heap.size < w2.heap.size := by have h1 := hx1.size; have h2 := hx2.size; simp at h1; omega
  obtain ⟨w3, hw3⟩ : ∃ w3, w2.alloc (.cells #[.int .i64 0] 3) = w3 := ⟨_, rfl⟩
  have a3 : w3.heap[w2.heap.size]? = some (.cells #[.int .i64 ((0 : Nat) : Int)] 3) := by rw [← hw3]; exact heap_alloc_new _ _
  have s3 : w3.heap[w.heap.size]? = some (.cells #[.string (bs s)] 9) := by rw [← hw3]; exact ((hx1.trans hx2).alloc _).keep (heap_alloc_new w _)
  have x3 : Ext w w3 := by rw [← hw3]; exact ((((Ext.refl w).alloc _).trans hx1).trans hx2).alloc _
  rw [hw3]
  clear hw3 hc1 hc2 hc3 GE GK hx1 hx2
  obtain ⟨a, ha⟩ : ∃ a, w2.heap.size = a := ⟨_, rfl⟩
  rw [ha] at a3 hsw ⊢
  clear ha
  have hSne : w.heap.size ≠ a := by omega
  obtain ⟨w4, hw4⟩ : ∃ w4, w4 = w3.setCell ⟨a, 0, none⟩ (.int .i64 ((5 : Nat) : Int)) := ⟨_, rfl⟩
  obtain ⟨w5, hw5⟩ : ∃ w5, w5 = w4.setCell ⟨a, 0, none⟩ (.int .i64 ((17 : Nat) : Int)) := ⟨_, rfl⟩
  obtain ⟨w6, hw6⟩ : ∃ w6, w6 = w5.setCell ⟨a, 0, none⟩ (.int .i64 (en : Int)) := ⟨_, rfl⟩
  have a4 : w4.heap[a]? = some (.cells #[.int .i64 ((5 : Nat) : Int)] 3) := by rw [hw4]; exact heap_setCell_same (i := 0) _ a3
  have a5 : w5.heap[a]? = some (.cells #[.int .i64 ((17 : Nat) : Int)] 3) := by rw [hw5]; exact heap_setCell_same (i := 0) _ a4
  have s4 : w4.heap[w.heap.size]? = some (.cells #[.string (bs s)] 9) := by rw [hw4]; exact (heap_setCell_other _ _ _ hSne).trans s3
  have s5 : w5.heap[w.heap.size]? = some (.cells #[.string (bs s)] 9) := by rw [hw5]; exact (heap_setCell_other _ _ _ hSne).trans s4
  have s6 : w6.heap[w.heap.size]? = some (.cells #[.string (bs s)] 9) := by rw [hw6]; exact (heap_setCell_other _ _ _ hSne).trans s5
  have x6 : Ext w w6 := by rw [hw6, hw5, hw4]; exact ((x3.setCell (Nat.le_of_lt hsw) _).setCell (Nat.le_of_lt hsw) _).setCell (Nat.le_of_lt hsw) _
  have N1 : Hid (Calls Try.prog 54 #[.int .i64 5, .pointer (some ⟨a, 0, none⟩), .pointer (some ⟨w.heap.size, 0, none⟩)] w3 fun e w' => e = .returned (.string (bs ((s.drop 0).take 5))) ∧ w4 = w') := Lib.hid ((next_any a w.heap.size 0 5 s w3 a3 s3 (by omega) (by omega) (by omega)).mono fun e w' h => ⟨h.1, hw4.trans h.2.symm⟩)
  have N2 : Hid (Calls Try.prog 54 #[.int .i64 17, .pointer (some ⟨a, 0, none⟩), .pointer (some ⟨w.heap.size, 0, none⟩)] w4 fun e w' => e = .returned (.string (bs (nonceL s))) ∧ w5 = w') := Lib.hid ((next_any a w.heap.size 5 17 s w4 a4 s4 (by omega) (by omega) (by omega)).mono fun e w' h => ⟨h.1, hw5.trans h.2.symm⟩)
  have N3 : Hid (Calls Try.prog 54 #[.int .i64 (en : Int), .pointer (some ⟨a, 0, none⟩), .pointer (some ⟨w.heap.size, 0, none⟩)] w5 fun e w' => e = .returned (.string (bs (bodyL s))) ∧ w6 = w') := Lib.hid (by
    refine (next_any a w.heap.size 17 en s w5 a5 s5 (by omega) (by omega) (by omega)).mono fun e w' h => ⟨?_, hw6.trans h.2.symm⟩
    rw [h.1]
    unfold bodyL
    rw [hen])
  have cs6 := cell_blk (i := 0) s6 rfl
  have X6 := Lib.hid x6
  clear hw4 hw5 hw6 a3 a4 a5 s3 s4 s5 s6 x3 x6
  go_upto_region 16 with (first
    | (go_at_call 54; with_reducible refine N1.out.mono ?_; rintro e w' ⟨rfl, rfl⟩)
    | (go_at_call 54; with_reducible refine N2.out.mono ?_; rintro e w' ⟨rfl, rfl⟩)
    | (go_at_call 54; with_reducible refine N3.out.mono ?_; rintro e w' ⟨rfl, rfl⟩))
  refine Loud.wp_region_weave 13 w6 (Loud.sps [.val (.string (bs kt)), .val (.string (bs s)), .val (.int .i64 (en : Int)), .val (.string (bs (s.drop en))), .val (.string (bs path)), .val (.int .u64 (ver : Int)), .val (.string (bs s)), .val (.int .i64 (en : Int)), .val (.string (bs (s.take en))), .blk 1 1 (.cells #[.string (bs (s.take en))] 9), pieS T, .val (.bool ok), .val (.bool (!ok))]) (by kernel_rfl) (by kernel_rfl) (by show Ext _ _; repeat (first | exact Ext.refl _ | assumption | (with_reducible refine Ext.drew ?_) | (with_reducible refine Ext.drewN ?_ _) | (with_reducible refine Ext.alloc ?_ _) | (refine Ext.trans ?_ (by assumption)))) (Loud.sps_st _) ?wAx1 ?whAx1 ?whSx1 ?whFx1
  case whAx1 => intro u K hK; simp only [List.take_succ_cons, List.take_zero, Loud.puts]; go_simp; exact hK
  case whSx1 =>
    simp only [List.take_succ_cons, List.take_zero, Loud.stepsW]
    refine ⟨?wsx1_0, ?wsx1_1, ?wsx1_2, ?wsx1_3, ?wsx1_4, ?wsx1_5, ?wsx1_6, ?wsx1_7, ?wsx1_8, ?wsx1_9, ?wsx1_10, ?wsx1_11, ?wsx1_12, trivial⟩
    case wsx1_0 =>
      intro u β wq hq h
      repeat (obtain ⟨h1, h⟩ := h; first | (replace h1 := h1 rfl; simp only [go_sem] at h1; try (obtain ⟨h1, h1b⟩ := h1)) | (have hno := (h1 : Region.binds _ _ = true → _); clear hno h1))
      refine Or.inl ⟨rfl, fun K hK => ?_⟩
      go_simp
      exact hK _ 0 _ (Ext.refl _) rfl
    case wsx1_1 =>
      intro u β wq hq h
      repeat (obtain ⟨h1, h⟩ := h; first | (replace h1 := h1 rfl; simp only [go_sem] at h1; try (obtain ⟨h1, h1b⟩ := h1)) | (have hno := (h1 : Region.binds _ _ = true → _); clear hno h1))
      refine Or.inl ⟨rfl, fun K hK => ?_⟩
      have hqc := hq.cell_of cs6
      go_simp
      exact hK _ 0 _ (Ext.refl _) rfl
    case wsx1_2 =>
      intro u β wq hq h
      repeat (obtain ⟨h1, h⟩ := h; first | (replace h1 := h1 rfl; simp only [go_sem] at h1; try (obtain ⟨h1, h1b⟩ := h1)) | (have hno := (h1 : Region.binds _ _ = true → _); clear hno h1))
      refine Or.inl ⟨rfl, fun K hK => ?_⟩
      go_simp
      exact hK _ 0 _ (Ext.refl _) rfl
    case wsx1_3 =>
      intro u β wq hq h
      repeat (obtain ⟨h1, h⟩ := h; first | (replace h1 := h1 rfl; simp only [go_sem] at h1; try (obtain ⟨h1, h1b⟩ := h1)) | (have hno := (h1 : Region.binds _ _ = true → _); clear hno h1))
      refine Or.inl ⟨rfl, fun K hK => ?_⟩
      go_simp
      exact hK _ 0 _ (Ext.refl _) rfl
    case wsx1_4 =>
      intro u β wq hq h
      repeat (obtain ⟨h1, h⟩ := h; first | (replace h1 := h1 rfl; simp only [go_sem] at h1; try (obtain ⟨h1, h1b⟩ := h1)) | (have hno := (h1 : Region.binds _ _ = true → _); clear hno h1))
      refine Or.inl ⟨rfl, fun K hK => ?_⟩
      go_simp
      exact hK _ 0 _ (Ext.refl _) rfl
    case wsx1_5 =>
      intro u β wq hq h
      repeat (obtain ⟨h1, h⟩ := h; first | (replace h1 := h1 rfl; simp only [go_sem] at h1; try (obtain ⟨h1, h1b⟩ := h1)) | (have hno := (h1 : Region.binds _ _ = true → _); clear hno h1))
      refine Or.inl ⟨rfl, fun K hK => ?_⟩
      go_simp
      exact hK _ 0 _ (Ext.refl _) rfl
    case wsx1_6 =>
      intro u β wq hq h
      repeat (obtain ⟨h1, h⟩ := h; first | (replace h1 := h1 rfl; simp only [go_sem] at h1; try (obtain ⟨h1, h1b⟩ := h1)) | (have hno := (h1 : Region.binds _ _ = true → _); clear hno h1))
      refine Or.inl ⟨rfl, fun K hK => ?_⟩
      have hqc := hq.cell_of cs6
      go_simp
      exact hK _ 0 _ (Ext.refl _) rfl
    case wsx1_7 =>
      intro u β wq hq h
      repeat (obtain ⟨h1, h⟩ := h; first | (replace h1 := h1 rfl; simp only [go_sem] at h1; try (obtain ⟨h1, h1b⟩ := h1)) | (have hno := (h1 : Region.binds _ _ = true → _); clear hno h1))
      refine Or.inl ⟨rfl, fun K hK => ?_⟩
      go_simp
      exact hK _ 0 _ (Ext.refl _) rfl
    case wsx1_8 =>
      intro u β wq hq h
      repeat (obtain ⟨h1, h⟩ := h; first | (replace h1 := h1 rfl; simp only [go_sem] at h1; try (obtain ⟨h1, h1b⟩ := h1)) | (have hno := (h1 : Region.binds _ _ = true → _); clear hno h1))
      refine Or.inl ⟨rfl, fun K hK => ?_⟩
      go_simp
      exact hK _ 0 _ (Ext.refl _) rfl
    case wsx1_9 =>
      intro u β wq hq h
      repeat (obtain ⟨h1, h⟩ := h; first | (replace h1 := h1 rfl; simp only [go_sem] at h1; try (obtain ⟨h1, h1b⟩ := h1)) | (have hno := (h1 : Region.binds _ _ = true → _); clear hno h1))
      refine Or.inl ⟨rfl, fun K hK => ?_⟩
      go_simp
      exact hK _ _ _ ((Ext.refl _).alloc _) ⟨rfl, heap_alloc_new _ _⟩
    case wsx1_10 =>
      intro u β wq hq h
      repeat (obtain ⟨h1, h⟩ := h; first | (replace h1 := h1 rfl; simp only [go_sem] at h1; try (obtain ⟨h1, h1b⟩ := h1)) | (have hno := (h1 : Region.binds _ _ = true → _); clear hno h1))
      refine Or.inl ⟨rfl, fun K hK => ?_⟩
      go_simp
      refine (GPI.out _ _ _ (by assumption)).mono ?_; rintro e w1 ⟨ad, cap, rfl, hsl, hx1⟩; exact ⟨_, rfl, hK _ 0 _ hx1 ⟨ad, cap, rfl, hsl⟩⟩
    case wsx1_11 =>
      intro u β wq hq h
      repeat (obtain ⟨h1, h⟩ := h; first | (replace h1 := h1 rfl; simp only [go_sem] at h1; try (obtain ⟨h1, h1b⟩ := h1)) | (have hno := (h1 : Region.binds _ _ = true → _); clear hno h1))
      refine Or.inl ⟨rfl, fun K hK => ?_⟩
      obtain ⟨cap_, hu_, hs_⟩ := h1b
      go_simp
      refine (GC.out _ _ _ hs_).mono ?_; rintro e w1 ⟨rfl, hx1⟩; exact ⟨_, rfl, hK _ 0 _ hx1 rfl⟩
    case wsx1_12 =>
      intro u β wq hq h
      repeat (obtain ⟨h1, h⟩ := h; first | (replace h1 := h1 rfl; simp only [go_sem] at h1; try (obtain ⟨h1, h1b⟩ := h1)) | (have hno := (h1 : Region.binds _ _ = true → _); clear hno h1))
      refine Or.inl ⟨rfl, fun K hK => ?_⟩
      go_simp
      exact hK _ 0 _ (Ext.refl _) rfl
  intro u β w8 hq h
  have h0 := h 0 (by omega)
  have h1 := h 1 (by omega)
  have h2 := h 2 (by omega)
  have h3 := h 3 (by omega)
  have h4 := h 4 (by omega)
  have h5 := h 5 (by omega)
  have h6 := h 6 (by omega)
  have h7 := h 7 (by omega)
  have h8 := h 8 (by omega)
  have h9 := h 9 (by omega)
  have h10 := h 10 (by omega)
  have h11 := h 11 (by omega)
  have h12 := h 12 (by omega)
  clear h
  simp only [go_sem] at h0 h1 h2 h3 h4 h5 h6 h7 h8 h9 h10 h11 h12
  simp only [List.drop_succ_cons, List.drop_zero]
  rw [h12]
  cases ok
  · rw [if_neg (by simp)] at HOR
    go_wp2
    go_returns
    exact ⟨by rw [HOR.out]; rfl, X6.out.trans hq⟩
  · rw [if_pos rfl] at HOR
    go_wp2_with (go_at_call 44; with_reducible refine (GT.out _).mono ?_; rintro e w9 ⟨rfl, hx9⟩)
    go_returns
    exact ⟨by rw [HOR.out]; rfl, (X6.out.trans hq).trans hx9⟩
end Go.Proofs.Ytbacamepmilmhaa
namespace Go.Proofs.Ytbacamepmilmhaa
open Go Go.RowKit

theorem rightL_full (z t : List UInt8) (hz : z.length = 32) (ht : t.length = 32) : rightL z t = (z == t) := by
  unfold rightL
  rw [ht, List.take_of_length_le (by omega)]
  by_cases h : z = t
  · subst h; simp
  · simp [h]
set_option maxRecDepth 100000 in
set_option maxHeartbeats 4000000 in
theorem refOpen_core (B d : Nat) (E : Eps) (ep : Nat) (key path s : List UInt8) (ver : Nat) (w : World) (h : DocAt w B d E) (hl : E.length ≤ 1000) (hep : epR s = (ep, 0)) (hs : lookE E ep = some key) (hkl : key.length ≤ 1099511627776)
    (hv : U64 ver) (hp : path.length ≤ 1048576) :
    Calls Try.prog 23 #[.pointer (some ⟨d, 0, none⟩), .string (bs path), .int .u64 (ver : Int), .string (bs s)] w fun e w' => e = .returned (.tuple #[.string (bs (openR key path ver s).1), .int .i64 (openR key path ver s).2]) ∧ Ext w w' := by
  have hsl : 49 ≤ s.length ∧ s.length ≤ 1048625 := by
    unfold epR at hep
    split at hep
    · injection hep with _ h2; cases h2
    · rename_i hc; constructor
      · exact Nat.le_of_not_lt fun hh => hc (Or.inl hh)
      · exact Nat.le_of_not_lt fun hh => hc (Or.inr (Or.inl hh))
  have ge := fun W => refEpoch_any s W (by omega)
  rw [hep] at ge
  have GE := Lib.hid ge
  have GK := Lib.hid (fun W (hx : Ext w W) => ref_ring_Keys B d E ep W (h.ext hx) hl hs hkl)
  have hpl : decide ((1048576 : Int) < (path.length : Int)) = false := by simp; omega
  obtain ⟨en, hen⟩ : ∃ en, s.length - 32 = en := ⟨_, rfl⟩
  have heni : (s.length : Int) - 32 = (en : Int) := by omega
  have hwe : IntKind.i64.wrap (en : Int) = (en : Int) := by rw [IntKind.wrap_i64]; omega
  have hkt : (derL key lblT 32).length = 32 := derL_length _ _ _ (by omega)
  have hkc : (derL key lblC 16).length = 16 := derL_length _ _ _ (by omega)
  have hds : (s.drop en).length = 32 := by rw [List.length_drop]; omega
  have hok : okL key path ver s = (tagL key path ver (s.take en) == s.drop en) := by
    unfold okL
    rw [hen]
    exact rightL_full _ _ (macL_length _ _) hds
  have GTG := Lib.hid (fun W => refTag_any (derL key lblT 32) path (s.take en) ver W (by omega) hp (by rw [List.length_take]; omega) hv)
  have HTG : Hid (tagL key path ver (s.take en) = macL (derL key lblT 32) (putB 4 path.length ++ path ++ putB 8 ver ++ s.take en)) := Lib.hid rfl
  rw [← HTG.out] at GTG
  clear HTG
  have hbl : (bodyL s).length ≤ 1048576 := by unfold bodyL; rw [List.length_take, List.length_drop]; omega
  have hnl : (nonceL s).length = 12 := by unfold nonceL; rw [List.length_take, List.length_drop]; omega
  have GT : Hid (∀ W, Calls Try.prog 49 #[.string (bs (derL key lblC 16)), .string (bs (nonceL s)), .int .u32 0, .string (bs (bodyL s))] W fun e w' => e = .returned (.tuple #[.string (bs (xorL (bodyL s) (ctrS (rks (derL key lblC 16)) (nonceL s) 0 (bodyL s).length))), .int .i64 0]) ∧ Ext W w') := Lib.hid fun W => refTurn_ok _ _ _ 0 W hkc hnl hbl (by omega) (by omega)
  have hda : (bs s).extract en s.length = bs (s.drop en) := by rw [bs_extract, List.take_of_length_le (by rw [List.length_drop]; omega)]
  have hdn : (bs s).extract 5 17 = bs (nonceL s) := bs_extract s 5 17
  have hdb : (bs s).extract 17 en = bs (bodyL s) := by rw [bs_extract]; unfold bodyL; rw [hen]
  have hel : (en : Int) ≤ (s.length : Int) := by omega
  have h17 : (17 : Int) ≤ (en : Int) := by omega
  have h17s : (17 : Int) ≤ (s.length : Int) := by omega
  have HOR : Hid (openR key path ver s = if okL key path ver s then (xorL (bodyL s) (ctrS (rks (derL key lblC 16)) (nonceL s) 0 (bodyL s).length), 0) else ([], 141)) := Lib.hid rfl
  generalize openR key path ver s = R at *
  generalize xorL (bodyL s) (ctrS (rks (derL key lblC 16)) (nonceL s) 0 (bodyL s).length) = text at *
  generalize okL key path ver s = ok at *
  generalize tagL key path ver (s.take en) = tag at *
  generalize derL key lblC 16 = kc at *
  generalize derL key lblT 32 = kt at *
  have HX := Lib.hid (Ext.refl w)
  clear h ge hep hs hkt hkc hbl hnl hds hl
  go_enter Try.func23, Try.ntmps23
  go_upto_region 10 with (first
    | (go_at_call 19; with_reducible refine (GE.out _).mono ?_; rintro e w1 ⟨rfl, hx1⟩; have hq := HX.out.trans hx1; clear HX hx1; have HX := Lib.hid hq; clear hq)
    | (go_at_call 38; with_reducible refine (GK.out _ HX.out).mono ?_; rintro e w1 ⟨rfl, hx1⟩; have hq := HX.out.trans hx1; clear HX hx1; have HX := Lib.hid hq; clear hq))
  refine Loud.wp_region_weave 11 w1 (Loud.sps [.val (.string (bs kt)), .val (.string (bs path)), .val (.int .u64 (ver : Int)), .val (.string (bs s)), .val (.int .i64 (en : Int)), .val (.string (bs (s.take en))), .val (.string (bs tag)), .val (.string (bs s)), .val (.int .i64 (en : Int)), .val (.string (bs (s.drop en))), .val (.bool (!(tag == s.drop en)))]) (by kernel_rfl) (by kernel_rfl) (by show Ext _ _; repeat (first | exact Ext.refl _ | assumption | (with_reducible refine Ext.drew ?_) | (with_reducible refine Ext.drewN ?_ _) | (with_reducible refine Ext.alloc ?_ _) | (refine Ext.trans ?_ (by assumption)))) (Loud.sps_st _) ?wAx1 ?whAx1 ?whSx1 ?whFx1
  case whAx1 => intro u K hK; simp only [List.take_succ_cons, List.take_zero, Loud.puts]; go_simp; exact hK
  case whSx1 =>
    simp only [List.take_succ_cons, List.take_zero, Loud.stepsW]
    refine ⟨?wsx1_0, ?wsx1_1, ?wsx1_2, ?wsx1_3, ?wsx1_4, ?wsx1_5, ?wsx1_6, ?wsx1_7, ?wsx1_8, ?wsx1_9, ?wsx1_10, trivial⟩
    case wsx1_0 =>
      intro u β wq hq h
      repeat (obtain ⟨h1, h⟩ := h; first | (replace h1 := h1 rfl; simp only [go_sem] at h1; try (obtain ⟨h1, h1b⟩ := h1)) | (have hno := (h1 : Region.binds _ _ = true → _); clear hno h1))
      refine Or.inl ⟨rfl, fun K hK => ?_⟩
      go_simp
      exact hK _ 0 _ (Ext.refl _) rfl
    case wsx1_1 =>
      intro u β wq hq h
      repeat (obtain ⟨h1, h⟩ := h; first | (replace h1 := h1 rfl; simp only [go_sem] at h1; try (obtain ⟨h1, h1b⟩ := h1)) | (have hno := (h1 : Region.binds _ _ = true → _); clear hno h1))
      refine Or.inl ⟨rfl, fun K hK => ?_⟩
      go_simp
      exact hK _ 0 _ (Ext.refl _) rfl
    case wsx1_2 =>
      intro u β wq hq h
      repeat (obtain ⟨h1, h⟩ := h; first | (replace h1 := h1 rfl; simp only [go_sem] at h1; try (obtain ⟨h1, h1b⟩ := h1)) | (have hno := (h1 : Region.binds _ _ = true → _); clear hno h1))
      refine Or.inl ⟨rfl, fun K hK => ?_⟩
      go_simp
      exact hK _ 0 _ (Ext.refl _) rfl
    case wsx1_3 =>
      intro u β wq hq h
      repeat (obtain ⟨h1, h⟩ := h; first | (replace h1 := h1 rfl; simp only [go_sem] at h1; try (obtain ⟨h1, h1b⟩ := h1)) | (have hno := (h1 : Region.binds _ _ = true → _); clear hno h1))
      refine Or.inl ⟨rfl, fun K hK => ?_⟩
      go_simp
      exact hK _ 0 _ (Ext.refl _) rfl
    case wsx1_4 =>
      intro u β wq hq h
      repeat (obtain ⟨h1, h⟩ := h; first | (replace h1 := h1 rfl; simp only [go_sem] at h1; try (obtain ⟨h1, h1b⟩ := h1)) | (have hno := (h1 : Region.binds _ _ = true → _); clear hno h1))
      refine Or.inl ⟨rfl, fun K hK => ?_⟩
      go_simp
      exact hK _ 0 _ (Ext.refl _) rfl
    case wsx1_5 =>
      intro u β wq hq h
      repeat (obtain ⟨h1, h⟩ := h; first | (replace h1 := h1 rfl; simp only [go_sem] at h1; try (obtain ⟨h1, h1b⟩ := h1)) | (have hno := (h1 : Region.binds _ _ = true → _); clear hno h1))
      refine Or.inl ⟨rfl, fun K hK => ?_⟩
      go_simp
      exact hK _ 0 _ (Ext.refl _) rfl
    case wsx1_6 =>
      intro u β wq hq h
      repeat (obtain ⟨h1, h⟩ := h; first | (replace h1 := h1 rfl; simp only [go_sem] at h1; try (obtain ⟨h1, h1b⟩ := h1)) | (have hno := (h1 : Region.binds _ _ = true → _); clear hno h1))
      refine Or.inl ⟨rfl, fun K hK => ?_⟩
      go_simp
      refine (GTG.out _).mono ?_; rintro e w1 ⟨rfl, hx1⟩; exact ⟨_, rfl, hK _ 0 _ hx1 rfl⟩
    case wsx1_7 =>
      intro u β wq hq h
      repeat (obtain ⟨h1, h⟩ := h; first | (replace h1 := h1 rfl; simp only [go_sem] at h1; try (obtain ⟨h1, h1b⟩ := h1)) | (have hno := (h1 : Region.binds _ _ = true → _); clear hno h1))
      refine Or.inl ⟨rfl, fun K hK => ?_⟩
      go_simp
      exact hK _ 0 _ (Ext.refl _) rfl
    case wsx1_8 =>
      intro u β wq hq h
      repeat (obtain ⟨h1, h⟩ := h; first | (replace h1 := h1 rfl; simp only [go_sem] at h1; try (obtain ⟨h1, h1b⟩ := h1)) | (have hno := (h1 : Region.binds _ _ = true → _); clear hno h1))
      refine Or.inl ⟨rfl, fun K hK => ?_⟩
      go_simp
      exact hK _ 0 _ (Ext.refl _) rfl
    case wsx1_9 =>
      intro u β wq hq h
      repeat (obtain ⟨h1, h⟩ := h; first | (replace h1 := h1 rfl; simp only [go_sem] at h1; try (obtain ⟨h1, h1b⟩ := h1)) | (have hno := (h1 : Region.binds _ _ = true → _); clear hno h1))
      refine Or.inl ⟨rfl, fun K hK => ?_⟩
      go_simp
      exact hK _ 0 _ (Ext.refl _) rfl
    case wsx1_10 =>
      intro u β wq hq h
      repeat (obtain ⟨h1, h⟩ := h; first | (replace h1 := h1 rfl; simp only [go_sem] at h1; try (obtain ⟨h1, h1b⟩ := h1)) | (have hno := (h1 : Region.binds _ _ = true → _); clear hno h1))
      refine Or.inl ⟨rfl, fun K hK => ?_⟩
      go_simp
      exact hK _ 0 _ (Ext.refl _) rfl
  intro u β w8 hq h
  have h0 := h 0 (by omega)
  have h1 := h 1 (by omega)
  have h2 := h 2 (by omega)
  have h3 := h 3 (by omega)
  have h4 := h 4 (by omega)
  have h5 := h 5 (by omega)
  have h6 := h 6 (by omega)
  have h7 := h 7 (by omega)
  have h8 := h 8 (by omega)
  have h9 := h 9 (by omega)
  have h10 := h 10 (by omega)
  clear h
  simp only [go_sem] at h0 h1 h2 h3 h4 h5 h6 h7 h8 h9 h10
  simp only [List.drop_succ_cons, List.drop_zero]
  rw [h10]
  rw [← hok]
  have HX8 := Lib.hid (HX.out.trans hq)
  clear hq
  cases hok2 : ok
  · rw [hok2, if_neg (by simp)] at HOR
    go_wp2
    go_returns
    exact ⟨by rw [HOR.out]; rfl, HX8.out⟩
  · rw [hok2, if_pos rfl] at HOR
    clear h0 h1 h2 h3 h4 h5 h6 h7 h8 h9 h10
    go_wp2
    refine Loud.wp_region_weave 12 w8 (Loud.sps [.val (.string (bs kc)), .val (.string (bs s)), .val (.string (bs (nonceL s))), .val (.string (bs s)), .val (.int .i64 (en : Int)), .val (.string (bs (bodyL s))), .val (.tuple #[.string (bs text), .int .i64 0]), .val (.tuple #[.string (bs text), .int .i64 0]), .val (.string (bs text)), .val (.int .i64 0), .val (.string (bs text)), .val (.int .i64 0)]) (by kernel_rfl) (by kernel_rfl) (by show Ext _ _; repeat (first | exact Ext.refl _ | assumption | (with_reducible refine Ext.drew ?_) | (with_reducible refine Ext.drewN ?_ _) | (with_reducible refine Ext.alloc ?_ _) | (refine Ext.trans ?_ (by assumption)))) (Loud.sps_st _) ?wAx2 ?whAx2 ?whSx2 ?whFx2
    case whAx2 => intro u K hK; simp only [List.take_succ_cons, List.take_zero, Loud.puts]; go_simp; exact hK
    case whSx2 =>
      simp only [List.take_succ_cons, List.take_zero, Loud.stepsW]
      refine ⟨?wsx2_0, ?wsx2_1, ?wsx2_2, ?wsx2_3, ?wsx2_4, ?wsx2_5, ?wsx2_6, ?wsx2_7, ?wsx2_8, ?wsx2_9, ?wsx2_10, ?wsx2_11, trivial⟩
      case wsx2_0 =>
        intro u β wq hq h
        repeat (obtain ⟨h1, h⟩ := h; first | (replace h1 := h1 rfl; simp only [go_sem] at h1; try (obtain ⟨h1, h1b⟩ := h1)) | (have hno := (h1 : Region.binds _ _ = true → _); clear hno h1))
        refine Or.inl ⟨rfl, fun K hK => ?_⟩
        go_simp
        exact hK _ 0 _ (Ext.refl _) rfl
      case wsx2_1 =>
        intro u β wq hq h
        repeat (obtain ⟨h1, h⟩ := h; first | (replace h1 := h1 rfl; simp only [go_sem] at h1; try (obtain ⟨h1, h1b⟩ := h1)) | (have hno := (h1 : Region.binds _ _ = true → _); clear hno h1))
        refine Or.inl ⟨rfl, fun K hK => ?_⟩
        go_simp
        exact hK _ 0 _ (Ext.refl _) rfl
      case wsx2_2 =>
        intro u β wq hq h
        repeat (obtain ⟨h1, h⟩ := h; first | (replace h1 := h1 rfl; simp only [go_sem] at h1; try (obtain ⟨h1, h1b⟩ := h1)) | (have hno := (h1 : Region.binds _ _ = true → _); clear hno h1))
        refine Or.inl ⟨rfl, fun K hK => ?_⟩
        go_simp
        exact hK _ 0 _ (Ext.refl _) rfl
      case wsx2_3 =>
        intro u β wq hq h
        repeat (obtain ⟨h1, h⟩ := h; first | (replace h1 := h1 rfl; simp only [go_sem] at h1; try (obtain ⟨h1, h1b⟩ := h1)) | (have hno := (h1 : Region.binds _ _ = true → _); clear hno h1))
        refine Or.inl ⟨rfl, fun K hK => ?_⟩
        go_simp
        exact hK _ 0 _ (Ext.refl _) rfl
      case wsx2_4 =>
        intro u β wq hq h
        repeat (obtain ⟨h1, h⟩ := h; first | (replace h1 := h1 rfl; simp only [go_sem] at h1; try (obtain ⟨h1, h1b⟩ := h1)) | (have hno := (h1 : Region.binds _ _ = true → _); clear hno h1))
        refine Or.inl ⟨rfl, fun K hK => ?_⟩
        go_simp
        exact hK _ 0 _ (Ext.refl _) rfl
      case wsx2_5 =>
        intro u β wq hq h
        repeat (obtain ⟨h1, h⟩ := h; first | (replace h1 := h1 rfl; simp only [go_sem] at h1; try (obtain ⟨h1, h1b⟩ := h1)) | (have hno := (h1 : Region.binds _ _ = true → _); clear hno h1))
        refine Or.inl ⟨rfl, fun K hK => ?_⟩
        go_simp
        exact hK _ 0 _ (Ext.refl _) rfl
      case wsx2_6 =>
        intro u β wq hq h
        repeat (obtain ⟨h1, h⟩ := h; first | (replace h1 := h1 rfl; simp only [go_sem] at h1; try (obtain ⟨h1, h1b⟩ := h1)) | (have hno := (h1 : Region.binds _ _ = true → _); clear hno h1))
        refine Or.inl ⟨rfl, fun K hK => ?_⟩
        go_simp
        refine (GT.out _).mono ?_; rintro e w1 ⟨rfl, hx1⟩; exact ⟨_, rfl, hK _ 0 _ hx1 rfl⟩
      case wsx2_7 =>
        intro u β wq hq h
        repeat (obtain ⟨h1, h⟩ := h; first | (replace h1 := h1 rfl; simp only [go_sem] at h1; try (obtain ⟨h1, h1b⟩ := h1)) | (have hno := (h1 : Region.binds _ _ = true → _); clear hno h1))
        refine Or.inl ⟨rfl, fun K hK => ?_⟩
        go_simp
        exact hK _ 0 _ (Ext.refl _) rfl
      case wsx2_8 =>
        intro u β wq hq h
        repeat (obtain ⟨h1, h⟩ := h; first | (replace h1 := h1 rfl; simp only [go_sem] at h1; try (obtain ⟨h1, h1b⟩ := h1)) | (have hno := (h1 : Region.binds _ _ = true → _); clear hno h1))
        refine Or.inl ⟨rfl, fun K hK => ?_⟩
        go_simp
        exact hK _ 0 _ (Ext.refl _) rfl
      case wsx2_9 =>
        intro u β wq hq h
        repeat (obtain ⟨h1, h⟩ := h; first | (replace h1 := h1 rfl; simp only [go_sem] at h1; try (obtain ⟨h1, h1b⟩ := h1)) | (have hno := (h1 : Region.binds _ _ = true → _); clear hno h1))
        refine Or.inl ⟨rfl, fun K hK => ?_⟩
        go_simp
        exact hK _ 0 _ (Ext.refl _) rfl
      case wsx2_10 =>
        intro u β wq hq h
        repeat (obtain ⟨h1, h⟩ := h; first | (replace h1 := h1 rfl; simp only [go_sem] at h1; try (obtain ⟨h1, h1b⟩ := h1)) | (have hno := (h1 : Region.binds _ _ = true → _); clear hno h1))
        refine Or.inl ⟨rfl, fun K hK => ?_⟩
        go_simp
        exact hK _ 0 _ (Ext.refl _) rfl
      case wsx2_11 =>
        intro u β wq hq h
        repeat (obtain ⟨h1, h⟩ := h; first | (replace h1 := h1 rfl; simp only [go_sem] at h1; try (obtain ⟨h1, h1b⟩ := h1)) | (have hno := (h1 : Region.binds _ _ = true → _); clear hno h1))
        refine Or.inl ⟨rfl, fun K hK => ?_⟩
        go_simp
        exact hK _ 0 _ (Ext.refl _) rfl
    intro u β w9 hq h
    have h0 := h 0 (by omega)
    have h1 := h 1 (by omega)
    have h2 := h 2 (by omega)
    have h3 := h 3 (by omega)
    have h4 := h 4 (by omega)
    have h5 := h 5 (by omega)
    have h6 := h 6 (by omega)
    have h7 := h 7 (by omega)
    have h8 := h 8 (by omega)
    have h9 := h 9 (by omega)
    have h10 := h 10 (by omega)
    have h11 := h 11 (by omega)
    clear h
    simp only [go_sem] at h0 h1 h2 h3 h4 h5 h6 h7 h8 h9 h10 h11
    simp only [List.drop_succ_cons, List.drop_zero]
    rw [h11]
    rw [h10]
    go_wp2
    go_returns
    exact ⟨by rw [HOR.out]; rfl, HX8.out.trans hq⟩
end Go.Proofs.Ytbacamepmilmhaa
namespace Go.Proofs.Ytbacamepmilmhaa
open Go Go.RowKit

theorem epR_cases (s : List UInt8) : epR s = (0, 7) ∨ ∃ ep, epR s = (ep, 0) := by
  unfold epR
  split
  · exact .inl rfl
  · exact .inr ⟨_, rfl⟩
set_option maxRecDepth 100000 in
theorem Open_nil (path s : List UInt8) (ver : Nat) (w : World) :
    Calls Try.prog 22 #[.pointer none, .string (bs path), .int .u64 (ver : Int), .string (bs s)] w fun e w' => e = .returned (.tuple #[.string (bs []), .int .i64 1]) ∧ Ext w w' := by
  go_enter Try.func22, Try.ntmps22
  go_wp2
  go_returns
  exact ⟨rfl, (Ext.refl w).alloc _⟩
set_option maxRecDepth 100000 in
theorem Open_form (r : Nat) (path s : List UInt8) (ver : Nat) (w : World) (hl : s.length ≤ 1099511627776) (hep : epR s = (0, 7)) :
    Calls Try.prog 22 #[.pointer (some ⟨r, 0, none⟩), .string (bs path), .int .u64 (ver : Int), .string (bs s)] w fun e w' => e = .returned (.tuple #[.string (bs []), .int .i64 7]) ∧ Ext w w' := by
  have ge := fun W => Epoch_any s W hl
  rw [hep] at ge
  have GE := Lib.hid ge
  clear ge hep
  go_enter Try.func22, Try.ntmps22
  go_wp2_with (go_at_call 18; refine (GE.out _).mono ?_; rintro e w1 ⟨rfl, hx1⟩)
  go_returns
  exact ⟨rfl, ((Ext.refl w).alloc _).trans hx1⟩
set_option maxRecDepth 100000 in
theorem refOpen_form (d : Nat) (path s : List UInt8) (ver : Nat) (w : World) (hl : s.length ≤ 1099511627776) (hep : epR s = (0, 7)) :
    Calls Try.prog 23 #[.pointer (some ⟨d, 0, none⟩), .string (bs path), .int .u64 (ver : Int), .string (bs s)] w fun e w' => e = .returned (.tuple #[.string (bs []), .int .i64 7]) ∧ Ext w w' := by
  have ge := fun W => refEpoch_any s W hl
  rw [hep] at ge
  have GE := Lib.hid ge
  clear ge hep
  go_enter Try.func23, Try.ntmps23
  go_wp2_with (go_at_call 19; refine (GE.out _).mono ?_; rintro e w1 ⟨rfl, hx1⟩)
  go_returns
  exact ⟨rfl, hx1⟩
set_option maxRecDepth 100000 in
theorem Open_none (r m : Nat) (E : Eps) (n ep : Nat) (path s : List UInt8) (ver : Nat) (w : World) (h : RingAt w r m E n) (hn : 0 < n) (hl : s.length ≤ 1099511627776) (hep : epR s = (ep, 0)) (hs : lookE E ep = none) (hp : path.length ≤ 1048576) :
    Calls Try.prog 22 #[.pointer (some ⟨r, 0, none⟩), .string (bs path), .int .u64 (ver : Int), .string (bs s)] w fun e w' => e = .returned (.tuple #[.string (bs []), .int .i64 140]) ∧ Ext w w' := by
  have ge := fun W => Epoch_any s W hl
  rw [hep] at ge
  have GE := Lib.hid ge
  have GK := Lib.hid (fun W (hx : Ext w W) => ring_Keys_none r m E n ep W (h.ext hx) hn hs)
  have hpl : decide ((1048576 : Int) < (path.length : Int)) = false := by simp; omega
  clear ge hep h hs hp
  go_enter Try.func22, Try.ntmps22
  go_wp2_with (first
    | (go_at_call 18; refine (GE.out _).mono ?_; rintro e w1 ⟨rfl, hx1⟩; have hq := ((Ext.refl w).alloc _).trans hx1)
    | (go_at_call 33; refine (GK.out _ hq).mono ?_; rintro e w' ⟨rfl, rfl⟩))
  go_returns
  exact ⟨rfl, hq⟩
set_option maxRecDepth 100000 in
theorem refOpen_none (B d : Nat) (E : Eps) (ep : Nat) (path s : List UInt8) (ver : Nat) (w : World) (h : DocAt w B d E) (hE : E ≠ []) (hl1 : E.length ≤ 1000) (hl : s.length ≤ 1099511627776) (hep : epR s = (ep, 0)) (hs : lookE E ep = none) (hp : path.length ≤ 1048576) :
    Calls Try.prog 23 #[.pointer (some ⟨d, 0, none⟩), .string (bs path), .int .u64 (ver : Int), .string (bs s)] w fun e w' => e = .returned (.tuple #[.string (bs []), .int .i64 140]) ∧ Ext w w' := by
  have ge := fun W => refEpoch_any s W hl
  rw [hep] at ge
  have GE := Lib.hid ge
  have GK := Lib.hid (fun W (hx : Ext w W) => ref_ring_Keys_none B d E ep W (h.ext hx) hE hl1 hs)
  have hpl : decide ((1048576 : Int) < (path.length : Int)) = false := by simp; omega
  clear ge hep h hs hp hE hl1
  go_enter Try.func23, Try.ntmps23
  go_wp2_with (first
    | (go_at_call 19; refine (GE.out _).mono ?_; rintro e w1 ⟨rfl, hx1⟩)
    | (go_at_call 38; refine (GK.out _ hx1).mono ?_; rintro e w' ⟨rfl, rfl⟩))
  go_returns
  exact ⟨rfl, hx1⟩
end Go.Proofs.Ytbacamepmilmhaa
namespace Go.Proofs.Ytbacamepmilmhaa
open Go Go.RowKit

theorem tagL_length (key path : List UInt8) (ver : Nat) (s : List UInt8) : (tagL key path ver s).length = 32 := macL_length _ _
theorem env_parts (e t : List UInt8) (ht : t.length = 32) : (e ++ t).take ((e ++ t).length - 32) = e ∧ (e ++ t).drop ((e ++ t).length - 32) = t := by
  rw [List.length_append, ht, Nat.add_sub_cancel]
  exact ⟨List.take_left' rfl, List.drop_left' rfl⟩
theorem env_open (key path nonce text : List UInt8) (ep ver : Nat) (hn : nonce.length = 12) :
    let e := envL key ep nonce text
    let s := e ++ tagL key path ver e
    nonceL s = nonce ∧ bodyL s = xorL text (ctrS (rks (derL key lblC 16)) nonce 0 text.length) ∧ okL key path ver s = true := by
  intro e s
  have hel := envL_length key ep nonce text hn
  have htl := tagL_length key path ver e
  have hp := env_parts e (tagL key path ver e) htl
  have h4 := putB_length 4 ep
  have hsl : s.length = 49 + text.length := by show (e ++ _).length = _; rw [List.length_append, htl]; show (envL key ep nonce text).length + 32 = _; rw [hel]; omega
  have he : e = ([1] ++ putB 4 ep) ++ (nonce ++ xorL text (ctrS (rks (derL key lblC 16)) nonce 0 text.length)) := by show envL key ep nonce text = _; unfold envL; simp only [List.append_assoc]
  have hxl : (xorL text (ctrS (rks (derL key lblC 16)) nonce 0 text.length)).length = text.length := xorL_length _ _ (ctrS_length _ _ _ _ (rks_length _) hn).symm
  have hs : s = ([1] ++ putB 4 ep) ++ (nonce ++ (xorL text (ctrS (rks (derL key lblC 16)) nonce 0 text.length) ++ tagL key path ver e)) := by
    show e ++ tagL key path ver e = _
    generalize tagL key path ver e = T
    rw [he]; simp only [List.append_assoc]
  have h5 : ([1] ++ putB 4 ep).length = 5 := by rw [List.length_append, h4]; rfl
  refine ⟨?_, ?_, ?_⟩
  · unfold nonceL
    rw [hs, List.drop_left' h5, List.take_left' hn]
  · unfold bodyL
    rw [hsl, hs, show (17 : Nat) = 5 + 12 from rfl, ← List.drop_drop, List.drop_left' h5, List.drop_left' hn, show 49 + text.length - 32 - (5 + 12) = text.length by omega, List.take_left' hxl]
  · unfold okL
    rw [hp.1, hp.2, rightL_full _ _ htl htl]
    simp
theorem open_close (key path nonce text : List UInt8) (ep ver : Nat) (hn : nonce.length = 12) : openR key path ver (envL key ep nonce text ++ tagL key path ver (envL key ep nonce text)) = (text, 0) := by
  obtain ⟨h1, h2, h3⟩ := env_open key path nonce text ep ver hn
  have hcl := ctrS_length (rks (derL key lblC 16)) nonce 0 text.length (rks_length _) hn
  have hxl := xorL_length text (ctrS (rks (derL key lblC 16)) nonce 0 text.length) hcl.symm
  unfold openR
  rw [h3, if_pos rfl, h1, h2, hxl, xorL_back _ _ hcl.symm]
theorem ep_env (key path nonce text : List UInt8) (ep ver : Nat) (hn : nonce.length = 12) (he : ep < 4294967296) (ht : text.length ≤ 1048576) : epR (envL key ep nonce text ++ tagL key path ver (envL key ep nonce text)) = (ep, 0) := by
  have hel := envL_length key ep nonce text hn
  have htl := tagL_length key path ver (envL key ep nonce text)
  have hsl : (envL key ep nonce text ++ tagL key path ver (envL key ep nonce text)).length = 49 + text.length := by rw [List.length_append, hel, htl]; omega
  have hs : ∀ T : List UInt8, ∃ r, envL key ep nonce text ++ T = 1 :: (putB 4 ep ++ r) := fun T => ⟨nonce ++ (xorL text (ctrS (rks (derL key lblC 16)) nonce 0 text.length) ++ T), by
    unfold envL
    simp only [List.append_assoc, List.cons_append, List.nil_append]⟩
  obtain ⟨r, hr⟩ := hs (tagL key path ver (envL key ep nonce text))
  unfold epR
  rw [if_neg (fun h => by
    rcases h with h | h | h
    · omega
    · omega
    · exact h (by rw [hr]; rfl))]
  have h4 := putB_length 4 ep
  unfold Get32
  rw [if_pos ⟨by omega, by omega⟩]
  have hseg : seg (envL key ep nonce text ++ tagL key path ver (envL key ep nonce text)) (1 : Int).toNat 4 = putB 4 ep := by
    rw [hr]
    show ((1 :: (putB 4 ep ++ r)).drop 1).take 4 = _
    rw [List.drop_one, List.tail_cons, List.take_left' h4]
  rw [hseg]
  have hg : getB (putB 4 ep) = ep := by
    simp only [putB, List.range, List.range.loop, List.map_cons, List.map_nil]
    simp only [getB, List.foldl_cons, List.foldl_nil]
    rw [UInt8.toNat_ofNat', UInt8.toNat_ofNat', UInt8.toNat_ofNat', UInt8.toNat_ofNat']
    simp only [Nat.reduceSub, Nat.reduceMul, Nat.reducePow]
    omega
  rw [hg]
end Go.Proofs.Ytbacamepmilmhaa
namespace Go.Proofs.Ytbacamepmilmhaa
open Go Go.RowKit

theorem heavy_no {keys l : List (List UInt8)} (h : heavyB keys l = false) : keys.length ≤ 8 ∧ sumL l l.length ≤ 1500 := by
  unfold heavyB at h
  rw [Bool.or_eq_false_iff] at h
  have h1 := of_decide_eq_false h.1
  have h2 := of_decide_eq_false h.2
  omega
theorem heavy_call (keys : List (List UInt8)) (a b c : List UInt8) (ad : Option Addr) (cp : Nat) (hkl : keys.length ≤ 8796093022208) (hkb : ∀ x ∈ keys, x.length ≤ 140737488351232) (ha : a.length ≤ 140737488351232) (hb : b.length ≤ 140737488351232) (hc : c.length ≤ 140737488351232) :
    ∀ (g : Nat) (W : World), Sl W (.slice ad keys.length cp) (keys.map strV) → W.heap[g]? = some (.cells #[.string (bs a), .string (bs b), .string (bs c)] 9) →
      Calls Try.prog 12 #[.slice ad keys.length cp, .slice (some ⟨g, 0, none⟩) 3 3] W fun e w' => e = .returned (.bool (heavyB keys [a, b, c])) ∧ W = w' := fun g W hk hg =>
  heavy14 keys [a, b, c] ad (some ⟨g, 0, none⟩) cp 3 W hk (⟨_, _, rfl, fun i hi => ⟨g, 0, rfl, blk_lt hg, by
    match i, hi with
    | 0, _ => exact cell_blk hg rfl
    | 1, _ => exact cell_blk hg rfl
    | 2, _ => exact cell_blk hg rfl⟩⟩) (by simp) hkl hkb (fun x hx => by
    simp only [List.mem_cons, List.not_mem_nil, or_false] at hx
    rcases hx with rfl | rfl | rfl <;> assumption)
end Go.Proofs.Ytbacamepmilmhaa
namespace Go.Proofs.Ytbacamepmilmhaa
open Go Go.RowKit

set_option maxRecDepth 100000 in
set_option maxHeartbeats 4000000 in
theorem closes_fit (keys : List (List UInt8)) (ad : Option Addr) (cp : Nat) (path n text : List UInt8) (ver : Nat) (w : World) (hk : Sl w (.slice ad keys.length cp) (keys.map strV)) (hkl : keys.length ≤ 8796093022208) (hkb : ∀ x ∈ keys, x.length ≤ 140737488351232)
    (ha : path.length ≤ 140737488351232) (hb : n.length ≤ 140737488351232) (hc : text.length ≤ 140737488351232) (hv : U64 ver) (hh : heavyB keys [path, n, text] = false) (gw : ∀ W, Calls Try.prog 13 #[] W fun e w' => e = .returned (.bool true) ∧ Ext W w') :
    Calls Try.prog 3 #[.slice ad keys.length cp, .string (bs path), .int .u64 (ver : Int), .string (bs n), .bool true, .string (bs text)] w fun e w' => e = .returned (.bool true) ∧ Ext w w' := by
  have GW := Lib.hid gw
  have HK := Lib.hid hk
  have gh := heavy_call keys path n text ad cp hkl hkb ha hb hc
  rw [hh] at gh
  have GH := Lib.hid gh
  obtain ⟨h8, hsum⟩ := heavy_no hh
  have hsz : path.length + n.length + text.length ≤ 1500 := by
    have : sumL [path, n, text] [path, n, text].length = path.length + (n.length + text.length) := by simp [sumL]
    omega
  have GR := Lib.hid (fun W hk => rings14 keys ad cp W hk h8 hkb)
  have GNO := Lib.hid (fun W => nonce14 n W hb)
  obtain ⟨E0, key, hE, hEl, hkey, hlk⟩ := epsN_last keys keys.length
  have hnn : (padTo 12 n).length = 12 := padTo_length 12 n
  have GC := Lib.hid (fun r m W h => Close_yes r m (epsN keys keys.length) (keys.length + 1) key path (padTo 12 n) text ver W h (by omega) (by omega) hlk (by omega) hv hnn (by omega) (by omega))
  have gd := fun d W (h : DocAt W (w.alloc (.cells #[.string (bs path), .string (bs n), .string (bs text)] 9)).heap.size d (E0 ++ [(keys.length + 1, key)])) => refClose_yes _ d E0 (keys.length + 1) key path (padTo 12 n) text ver W h (by omega) (by omega) (hE ▸ hlk) (by omega) hv hnn (by omega) (by omega)
  rw [← hE] at gd
  have GD := Lib.hid gd
  have GCN := Lib.hid (fun W => Close_nil path (padTo 12 n) text ver W)
  have GZ := Lib.hid (fun W => Size_any text.length W (by omega))
  have GY := Lib.hid (fun W => refSize_any text.length W (by omega))
  have hS : (envL key (keys.length + 1) (padTo 12 n) text ++ tagL key path ver (envL key (keys.length + 1) (padTo 12 n) text)).length ≤ 100000 := by rw [List.length_append, envL_length _ _ _ _ hnn, tagL_length]; omega
  generalize envL key (keys.length + 1) (padTo 12 n) text ++ tagL key path ver (envL key (keys.length + 1) (padTo 12 n) text) = S at *
  have GE := Lib.hid (fun W => Epoch_any S W (by omega))
  have GF := Lib.hid (fun W => refEpoch_any S W (by omega))
  generalize padTo 12 n = nn at *
  generalize epsN keys keys.length = E at *
  generalize epR S = ES at *
  clear hk gh gw hh hsum h8 hE hEl hkey hlk hnn gd hS hkl hkb ha hb hc hsz hv
  go_enter Try.func3, Try.ntmps3
  go_upto_region 4 with (first
    | (go_at_call 12; refine (GH.out _ _ (HK.out.ext ((Ext.refl w).alloc _)) (heap_alloc_new w _)).mono ?_; rintro e w' ⟨rfl, rfl⟩)
    | (go_at_call 14; refine (GR.out _ (HK.out.ext ((Ext.refl w).alloc _))).mono ?_; rintro e w1 ⟨r, m, d, rfl, hri, hdo, _, _, hx1⟩; have HRI := Lib.hid hri; have HDO := Lib.hid hdo; clear hri hdo; have HX := Lib.hid (((Ext.refl w).alloc (.cells #[.string (bs path), .string (bs n), .string (bs text)] 9)).trans hx1); obtain ⟨w2, hw2⟩ : ∃ x, x = w1 := ⟨_, rfl⟩; rw [← hw2] at HRI HDO HX ⊢; clear hw2 hx1; have HY := Lib.hid (Ext.refl w2)))
  go_wp2_with (first
    | (go_at_call 15; with_reducible refine (GNO.out _).mono ?_; rintro e w1 ⟨rfl, hx1⟩; have hq := HY.out.trans hx1; clear HY hx1; have HY := Lib.hid hq; clear hq)
    | (go_at_call 16; with_reducible refine (GC.out r m _ (HRI.out.ext HY.out)).mono ?_; rintro e w1 ⟨rfl, hx1⟩; have hq := HY.out.trans hx1; clear HY hx1; have HY := Lib.hid hq; clear hq)
    | (go_at_call 17; with_reducible refine (GD.out d _ (HDO.out.ext HY.out)).mono ?_; rintro e w1 ⟨rfl, hx1⟩; have hq := HY.out.trans hx1; clear HY hx1; have HY := Lib.hid hq; clear hq)
    | (go_at_call 18; with_reducible refine (GE.out _).mono ?_; rintro e w1 ⟨rfl, hx1⟩; have hq := HY.out.trans hx1; clear HY hx1; have HY := Lib.hid hq; clear hq)
    | (go_at_call 19; with_reducible refine (GF.out _).mono ?_; rintro e w1 ⟨rfl, hx1⟩; have hq := HY.out.trans hx1; clear HY hx1; have HY := Lib.hid hq; clear hq)
    | (go_at_call 16; with_reducible refine (GCN.out _).mono ?_; rintro e w' ⟨rfl, rfl⟩)
    | (go_at_call 20; with_reducible refine (GZ.out _).mono ?_; rintro e w' ⟨rfl, rfl⟩)
    | (go_at_call 21; with_reducible refine (GY.out _).mono ?_; rintro e w' ⟨rfl, rfl⟩)
    | (go_at_call 13; with_reducible refine (GW.out _).mono ?_; rintro e w1 ⟨rfl, hx1⟩; have hq := HY.out.trans hx1; clear HY hx1; have HY := Lib.hid hq; clear hq))
  go_returns
  exact ⟨rfl, HX.out.trans HY.out⟩
set_option maxRecDepth 100000 in
set_option maxHeartbeats 4000000 in
theorem closes_raw (keys : List (List UInt8)) (ad : Option Addr) (cp : Nat) (path n text : List UInt8) (ver : Nat) (w : World) (hk : Sl w (.slice ad keys.length cp) (keys.map strV)) (hkl : keys.length ≤ 8796093022208) (hkb : ∀ x ∈ keys, x.length ≤ 140737488351232)
    (ha : path.length ≤ 140737488351232) (hb : n.length ≤ 140737488351232) (hc : text.length ≤ 140737488351232) (hv : U64 ver) (hnn : n.length = 12) (hh : heavyB keys [path, n, text] = false) (gw : ∀ W, Calls Try.prog 13 #[] W fun e w' => e = .returned (.bool true) ∧ Ext W w') :
    Calls Try.prog 3 #[.slice ad keys.length cp, .string (bs path), .int .u64 (ver : Int), .string (bs n), .bool false, .string (bs text)] w fun e w' => e = .returned (.bool true) ∧ Ext w w' := by
  have GW := Lib.hid gw
  have HK := Lib.hid hk
  have gh := heavy_call keys path n text ad cp hkl hkb ha hb hc
  rw [hh] at gh
  have GH := Lib.hid gh
  obtain ⟨h8, hsum⟩ := heavy_no hh
  have hsz : path.length + n.length + text.length ≤ 1500 := by
    have : sumL [path, n, text] [path, n, text].length = path.length + (n.length + text.length) := by simp [sumL]
    omega
  have GR := Lib.hid (fun W hk => rings14 keys ad cp W hk h8 hkb)
  obtain ⟨E0, key, hE, hEl, hkey, hlk⟩ := epsN_last keys keys.length
  have GC := Lib.hid (fun r m W h => Close_yes r m (epsN keys keys.length) (keys.length + 1) key path n text ver W h (by omega) (by omega) hlk (by omega) hv hnn (by omega) (by omega))
  have gd := fun d W (h : DocAt W (w.alloc (.cells #[.string (bs path), .string (bs n), .string (bs text)] 9)).heap.size d (E0 ++ [(keys.length + 1, key)])) => refClose_yes _ d E0 (keys.length + 1) key path n text ver W h (by omega) (by omega) (hE ▸ hlk) (by omega) hv hnn (by omega) (by omega)
  rw [← hE] at gd
  have GD := Lib.hid gd
  have GCN := Lib.hid (fun W => Close_nil path n text ver W)
  have GZ := Lib.hid (fun W => Size_any text.length W (by omega))
  have GY := Lib.hid (fun W => refSize_any text.length W (by omega))
  have hS : (envL key (keys.length + 1) n text ++ tagL key path ver (envL key (keys.length + 1) n text)).length ≤ 100000 := by rw [List.length_append, envL_length _ _ _ _ hnn, tagL_length]; omega
  generalize envL key (keys.length + 1) n text ++ tagL key path ver (envL key (keys.length + 1) n text) = S at *
  have GE := Lib.hid (fun W => Epoch_any S W (by omega))
  have GF := Lib.hid (fun W => refEpoch_any S W (by omega))
  generalize epsN keys keys.length = E at *
  generalize epR S = ES at *
  clear hk gh gw hh hsum h8 hE hEl hkey hlk hnn gd hS hkl hkb ha hb hc hsz hv
  go_enter Try.func3, Try.ntmps3
  go_upto_region 4 with (first
    | (go_at_call 12; refine (GH.out _ _ (HK.out.ext ((Ext.refl w).alloc _)) (heap_alloc_new w _)).mono ?_; rintro e w' ⟨rfl, rfl⟩)
    | (go_at_call 14; refine (GR.out _ (HK.out.ext ((Ext.refl w).alloc _))).mono ?_; rintro e w1 ⟨r, m, d, rfl, hri, hdo, _, _, hx1⟩; have HRI := Lib.hid hri; have HDO := Lib.hid hdo; clear hri hdo; have HX := Lib.hid (((Ext.refl w).alloc (.cells #[.string (bs path), .string (bs n), .string (bs text)] 9)).trans hx1); obtain ⟨w2, hw2⟩ : ∃ x, x = w1 := ⟨_, rfl⟩; rw [← hw2] at HRI HDO HX ⊢; clear hw2 hx1; have HY := Lib.hid (Ext.refl w2)))
  go_wp2_with (first
    | (go_at_call 16; with_reducible refine (GC.out r m _ (HRI.out.ext HY.out)).mono ?_; rintro e w1 ⟨rfl, hx1⟩; have hq := HY.out.trans hx1; clear HY hx1; have HY := Lib.hid hq; clear hq)
    | (go_at_call 17; with_reducible refine (GD.out d _ (HDO.out.ext HY.out)).mono ?_; rintro e w1 ⟨rfl, hx1⟩; have hq := HY.out.trans hx1; clear HY hx1; have HY := Lib.hid hq; clear hq)
    | (go_at_call 18; with_reducible refine (GE.out _).mono ?_; rintro e w1 ⟨rfl, hx1⟩; have hq := HY.out.trans hx1; clear HY hx1; have HY := Lib.hid hq; clear hq)
    | (go_at_call 19; with_reducible refine (GF.out _).mono ?_; rintro e w1 ⟨rfl, hx1⟩; have hq := HY.out.trans hx1; clear HY hx1; have HY := Lib.hid hq; clear hq)
    | (go_at_call 16; with_reducible refine (GCN.out _).mono ?_; rintro e w' ⟨rfl, rfl⟩)
    | (go_at_call 20; with_reducible refine (GZ.out _).mono ?_; rintro e w' ⟨rfl, rfl⟩)
    | (go_at_call 21; with_reducible refine (GY.out _).mono ?_; rintro e w' ⟨rfl, rfl⟩)
    | (go_at_call 13; with_reducible refine (GW.out _).mono ?_; rintro e w1 ⟨rfl, hx1⟩; have hq := HY.out.trans hx1; clear HY hx1; have HY := Lib.hid hq; clear hq))
  go_returns
  exact ⟨rfl, HX.out.trans HY.out⟩
set_option maxRecDepth 100000 in
set_option maxHeartbeats 4000000 in
theorem closes_arg (keys : List (List UInt8)) (ad : Option Addr) (cp : Nat) (path n text : List UInt8) (ver : Nat) (w : World) (hk : Sl w (.slice ad keys.length cp) (keys.map strV)) (hkl : keys.length ≤ 8796093022208) (hkb : ∀ x ∈ keys, x.length ≤ 140737488351232)
    (ha : path.length ≤ 140737488351232) (hb : n.length ≤ 140737488351232) (hc : text.length ≤ 140737488351232) (_hv : U64 ver) (hnn : n.length ≠ 12) (hh : heavyB keys [path, n, text] = false) (gw : ∀ W, Calls Try.prog 13 #[] W fun e w' => e = .returned (.bool true) ∧ Ext W w') :
    Calls Try.prog 3 #[.slice ad keys.length cp, .string (bs path), .int .u64 (ver : Int), .string (bs n), .bool false, .string (bs text)] w fun e w' => e = .returned (.bool true) ∧ Ext w w' := by
  have GW := Lib.hid gw
  have HK := Lib.hid hk
  have gh := heavy_call keys path n text ad cp hkl hkb ha hb hc
  rw [hh] at gh
  have GH := Lib.hid gh
  obtain ⟨h8, hsum⟩ := heavy_no hh
  have hsz : path.length + n.length + text.length ≤ 1500 := by
    have : sumL [path, n, text] [path, n, text].length = path.length + (n.length + text.length) := by simp [sumL]
    omega
  have GR := Lib.hid (fun W hk => rings14 keys ad cp W hk h8 hkb)
  have GC := Lib.hid (fun r W => Close_arg r path n text ver W hnn)
  have GD := Lib.hid (fun d W => refClose_arg d path n text ver W hnn)
  have GCN := Lib.hid (fun W => Close_nil path n text ver W)
  have GZ := Lib.hid (fun W => Size_any text.length W (by omega))
  have GY := Lib.hid (fun W => refSize_any text.length W (by omega))
  have HS0 : Hid (epR [] = epR []) := Lib.hid rfl
  have GE := Lib.hid (fun W => Epoch_any [] W (by simp))
  have GF := Lib.hid (fun W => refEpoch_any [] W (by simp))
  generalize epR [] = ES at *
  clear hk gh gw hh hsum h8 hnn hkl hkb ha hb hc hsz
  go_enter Try.func3, Try.ntmps3
  go_upto_region 4 with (first
    | (go_at_call 12; refine (GH.out _ _ (HK.out.ext ((Ext.refl w).alloc _)) (heap_alloc_new w _)).mono ?_; rintro e w' ⟨rfl, rfl⟩)
    | (go_at_call 14; refine (GR.out _ (HK.out.ext ((Ext.refl w).alloc _))).mono ?_; rintro e w1 ⟨r, m, d, rfl, hri, hdo, _, _, hx1⟩; have HRI := Lib.hid hri; have HDO := Lib.hid hdo; clear hri hdo; have HX := Lib.hid (((Ext.refl w).alloc (.cells #[.string (bs path), .string (bs n), .string (bs text)] 9)).trans hx1); obtain ⟨w2, hw2⟩ : ∃ x, x = w1 := ⟨_, rfl⟩; rw [← hw2] at HRI HDO HX ⊢; clear hw2 hx1; have HY := Lib.hid (Ext.refl w2)))
  go_wp2_with (first
    | (go_at_call 16; with_reducible refine (GC.out r _).mono ?_; rintro e w' ⟨rfl, rfl⟩)
    | (go_at_call 17; with_reducible refine (GD.out d _).mono ?_; rintro e w' ⟨rfl, rfl⟩)
    | (go_at_call 18; with_reducible refine (GE.out _).mono ?_; rintro e w1 ⟨rfl, hx1⟩; have hq := HY.out.trans hx1; clear HY hx1; have HY := Lib.hid hq; clear hq)
    | (go_at_call 19; with_reducible refine (GF.out _).mono ?_; rintro e w1 ⟨rfl, hx1⟩; have hq := HY.out.trans hx1; clear HY hx1; have HY := Lib.hid hq; clear hq)
    | (go_at_call 16; with_reducible refine (GCN.out _).mono ?_; rintro e w' ⟨rfl, rfl⟩)
    | (go_at_call 20; with_reducible refine (GZ.out _).mono ?_; rintro e w' ⟨rfl, rfl⟩)
    | (go_at_call 21; with_reducible refine (GY.out _).mono ?_; rintro e w' ⟨rfl, rfl⟩)
    | (go_at_call 13; with_reducible refine (GW.out _).mono ?_; rintro e w1 ⟨rfl, hx1⟩; have hq := HY.out.trans hx1; clear HY hx1; have HY := Lib.hid hq; clear hq))
  go_returns
  exact ⟨rfl, HX.out.trans HY.out⟩
set_option maxRecDepth 100000 in
theorem closes_heavy (keys : List (List UInt8)) (ad : Option Addr) (cp : Nat) (path n text : List UInt8) (ver : Nat) (fit : Bool) (w : World) (hk : Sl w (.slice ad keys.length cp) (keys.map strV)) (hkl : keys.length ≤ 8796093022208) (hkb : ∀ x ∈ keys, x.length ≤ 140737488351232)
    (ha : path.length ≤ 140737488351232) (hb : n.length ≤ 140737488351232) (hc : text.length ≤ 140737488351232) (hh : heavyB keys [path, n, text] = true) (gw : ∀ W, Calls Try.prog 13 #[] W fun e w' => e = .returned (.bool true) ∧ Ext W w') :
    Calls Try.prog 3 #[.slice ad keys.length cp, .string (bs path), .int .u64 (ver : Int), .string (bs n), .bool fit, .string (bs text)] w fun e w' => e = .returned (.bool true) ∧ Ext w w' := by
  have GW := Lib.hid gw
  have HK := Lib.hid hk
  have gh := heavy_call keys path n text ad cp hkl hkb ha hb hc
  rw [hh] at gh
  have GH := Lib.hid gh
  clear hk gh gw hh hkl hkb ha hb hc
  go_enter Try.func3, Try.ntmps3
  go_wp2_with (first
    | (go_at_call 12; refine (GH.out _ _ (HK.out.ext ((Ext.refl w).alloc _)) (heap_alloc_new w _)).mono ?_; rintro e w' ⟨rfl, rfl⟩)
    | (go_at_call 13; with_reducible refine (GW.out _).mono ?_; rintro e w1 ⟨rfl, hx1⟩))
  go_returns
  exact ⟨rfl, ((Ext.refl w).alloc _).trans hx1⟩
end Go.Proofs.Ytbacamepmilmhaa
