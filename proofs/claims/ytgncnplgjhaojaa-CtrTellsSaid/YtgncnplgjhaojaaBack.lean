/- Contracts: layer 4, a block that comes back; nil ciphers. -/
import Derived.Test.YtgncnplgjhaojaaBlock
namespace Go.Proofs.Ytgncnplgjhaojaa
open Go Go.RowKit

/-- The first k bytes unboxed, put where they came from. -/
def usK (s : List UInt8) : Nat → List UInt8
  | 0 => s
  | k + 1 => (usK s k).set ((k + 4 * (k % 4)) % 16) (unO (s.getD k 0))
def unS (s : List UInt8) : List UInt8 := usK s 16
theorem usK_length (s : List UInt8) (hs : s.length = 16) : ∀ k, (usK s k).length = 16
  | 0 => hs
  | k + 1 => by rw [usK, List.length_set, usK_length s hs k]
/-- A round back. -/
def backS (K s : List UInt8) (r : Nat) : List UInt8 := unS (if r < 10 then mixC [14, 11, 13, 9] (xorL s (rkey K r)) 4 else xorL s (rkey K r))
/-- What a block is when n rounds are taken back. -/
def bckN (K s : List UInt8) : Nat → List UInt8
  | 0 => s
  | n + 1 => backS K (bckN K s n) (10 - n)
theorem backS_length (K s : List UInt8) (hK : K.length = 176) (hs : s.length = 16) (r : Nat) (hr : r ≤ 10) : (backS K s r).length = 16 := by
  have hx := xorL_len s (rkey K r) hs (rkey_length K hK r hr)
  unfold backS unS
  split
  · exact usK_length _ (mixC_length _ _ hx 4 (by omega)) 16
  · exact usK_length _ hx 16
theorem bckN_length (K s : List UInt8) (hK : K.length = 176) (hs : s.length = 16) : ∀ n, (bckN K s n).length = 16
  | 0 => hs
  | n + 1 => backS_length K _ hK (bckN_length K s hK hs n) _ (by omega)
def decL (K s : List UInt8) : List UInt8 := xorL (bckN K s 10) (rkey K 0)
set_option maxRecDepth 100000 in
set_option maxHeartbeats 1000000 in
theorem Back_no (c : Nat) (K s : List UInt8) (w : World) (hci : CI w c K) (h : s.length ≠ 16) (_hl : s.length ≤ 140737488351232) :
    Calls Try.prog 24 #[.pointer (some ⟨c, 0, none⟩), .string (bs s)] w fun e w' => e = .returned (.tuple #[.string (bs []), .bool false]) ∧ w = w' := by
  have hmd := hci.made
  have hne : ((s.length : Int) != 16) = true := by simp; omega
  clear hci
  go_enter Try.func24, Try.ntmps24
  go_wp2
  go_returns
  exact ⟨rfl, rfl⟩
set_option maxRecDepth 100000 in
set_option maxHeartbeats 4000000 in
theorem Back_yes (c : Nat) (K s : List UInt8) (w : World) (hci : CI w c K) (hs : s.length = 16) :
    Calls Try.prog 24 #[.pointer (some ⟨c, 0, none⟩), .string (bs s)] w fun e w' => e = .returned (.tuple #[.string (bs (decL K s)), .bool true]) ∧ Ext w w' := by
  have hmd := hci.made
  have hcl := blk_lt hci.2
  have hK := Lib.hid hci.1
  have HC := Lib.hid hci
  have hz := zero_b16'
  have HI := Lib.hid info_b16
  have HSP := Lib.hid (splice_z16 s hs)
  have HS16 := Lib.hid hs
  have GA := Lib.hid (fun (g : Nat) (t : List UInt8) (r : Nat) (W : World) (h1 : CI W c K) (h2 : c < g) (h3 : t.length = 16) (h4 : r ≤ 10) (h5 : W.heap[g]? = some (.cells (bcells t) 56 (0, 0))) => adds_any c K g t r W h1 h2 h3 h4 h5)
  have GA0 : Hid (∀ (g : Nat) (t : List UInt8) (W : World) (h1 : CI W c K) (h2 : c < g) (h3 : t.length = 16) (h5 : W.heap[g]? = some (.cells (bcells t) 56 (0, 0))), Calls Try.prog 41 #[.pointer (some ⟨c, 0, none⟩), .pointer (some ⟨g, 0, none⟩), .int .i64 0] W fun e w' => e = .returned (.tuple #[]) ∧ w'.heap[g]? = some (.cells (bcells (xorL t (rkey K 0))) 56 (0, 0)) ∧ Below g W w') := Lib.hid fun g t W h1 h2 h3 h5 => adds_any c K g t 0 W h1 h2 h3 (by omega) h5
  have GM : Hid (∀ (g o cap : Nat) (t : List UInt8) (W : World) (h1 : W.heap[g]? = some (.cells (bcells t) 56 (0, 0))) (h2 : o + 4 ≤ t.length), Calls Try.prog 42 #[.slice (some ⟨g, o, none⟩) 4 cap, .agg #[.int .u8 14, .int .u8 11, .int .u8 13, .int .u8 9]] W fun e w' => e = .returned (.tuple #[]) ∧ w'.heap[g]? = some (.cells (bcells (splice t o (mixL [14, 11, 13, 9] ((t.drop o).take 4)))) 56 (0, 0)) ∧ Below g W w') := Lib.hid fun g o cap t W h1 h2 => mixed_any g o cap t [14, 11, 13, 9] 14 11 13 9 rfl _ W h1 h2
  clear hci
  go_enter Try.func24, Try.ntmps24
  go_upto_region 6 with (refine wpl_copy_str rfl rfl und_bytes info_u8 rfl rfl (L := z16) (heap_alloc_new w _) (by rw [z16_length]; decide) ?_; intro w1 hb1 _ hbel1; rw [HSP.out] at hb1; have HB1 := Lib.hid hb1; have hx1 : Ext w w1 := ((Ext.refl w).alloc _).trans_below hbel1; clear hb1 hbel1)
  have HX1 := Lib.hid hx1
  clear hx1 hz
  have hz := zero_b16'
  go_loopw [7] (fun i wr => ∃ r : Nat, r ≤ 10 ∧ i = .int .i64 r ∧ wr.heap[w.heap.size]? = some (.cells (bcells (bckN K s (10 - r))) 56 (0, 0)) ∧ Ext w wr) (fun i _ => (intOf i).toNat)
  case atStart => exact ⟨10, by omega, rfl, HB1.out, HX1.out⟩
  case round =>
    obtain ⟨r, hr10, rfl, hb, hx⟩ := hrel
    have HB := Lib.hid hb
    clear hb
    have htl := bckN_length K s hK.out HS16.out (10 - r)
    by_cases hlt : 1 ≤ r
    · have HN : Hid (bckN K s (10 - (r - 1)) = backS K (bckN K s (10 - r)) r) := Lib.hid (by
        rw [show 10 - (r - 1) = (10 - r) + 1 by omega, bckN, show 10 - (10 - r) = r by omega])
      generalize bckN K s (10 - r) = t at *
      have hxl := xorL_len t (rkey K r) htl (rkey_length K hK.out r hr10)
      have HNN : Hid (backS K t r = unS (if r < 10 then mixC [14, 11, 13, 9] (xorL t (rkey K r)) 4 else xorL t (rkey K r))) := Lib.hid rfl
      have hri : (1 : Int) ≤ (r : Int) := by omega
      go_upto_region 10 with (go_at_call 41; refine (GA.out w.heap.size t r wr (HC.out.ext hx) hcl htl hr10 HB.out).mono ?_; rintro e w2 ⟨rfl, hb2, hbel2⟩; have HB2 := Lib.hid hb2; have hx2 : Ext w w2 := hx.trans_below hbel2; clear hb2 hbel2)
      have HX2 := Lib.hid hx2
      clear hx2 hx HB
      generalize xorL t (rkey K r) = y at *
      -- the columns
      obtain ⟨wo, hwo⟩ : ∃ x, x = wr := ⟨_, rfl⟩
      subst hwo
      go_loopw [8] (fun i wr => ∃ j : Nat, j ≤ 4 ∧ (j = 0 ∨ r < 10) ∧ i = .int .i64 (4 * (j : Int)) ∧ wr.heap[w.heap.size]? = some (.cells (bcells (mixC [14, 11, 13, 9] y j)) 56 (0, 0)) ∧ Ext w wr) (fun i _ => 16 - (intOf i).toNat)
      case atStart => exact ⟨0, by omega, .inl rfl, rfl, HB2.out, HX2.out⟩
      case round =>
        clear HB2 HX2
        obtain ⟨j, hj, hjr, rfl, hb, hx⟩ := hrel
        have HB := Lib.hid hb
        clear hb
        have hml := mixC_length [14, 11, 13, 9] y hxl j hj
        by_cases hr : r < 10
        · have hri10 : (r : Int) < 10 := by omega
          by_cases hlj : j < 4
          · have hsl := slice16_4 w.heap.size j hlj
            have HM : Hid (mixC [14, 11, 13, 9] y (j + 1) = splice (mixC [14, 11, 13, 9] y j) (4 * j) (mixL [14, 11, 13, 9] (((mixC [14, 11, 13, 9] y j).drop (4 * j)).take 4))) := Lib.hid rfl
            generalize mixC [14, 11, 13, 9] y j = u at *
            have hj16 : 4 * (j : Int) < 16 := by omega
            go_wp2_with (go_at_call 42; refine (GM.out w.heap.size (4 * j) _ u wr HB.out (by omega)).mono ?_; rintro e w6 ⟨rfl, hb6, hbel6⟩; have HB6 := Lib.hid hb6; have hx6 : Ext w w6 := hx.trans_below hbel6; clear hb6 hbel6)
            go_roundw
            case measure => simp [intOf]; omega
            case rel =>
              exact ⟨j + 1, by omega, .inr hr, by go_num, by rw [HM.out]; exact HB6.out, hx6⟩
          · obtain rfl : j = 4 := by omega
            have HZ : Hid ((if r < 10 then mixC [14, 11, 13, 9] y 4 else y) = mixC [14, 11, 13, 9] y 4) := Lib.hid (if_pos hr)
            have hzl := hml
            generalize mixC [14, 11, 13, 9] y 4 = z at *
            have hIt := Lib.hid (show (Try.prog.info? 56).map (·.size) = some (bcells z).size by rw [bcells_size, hzl]; exact info_b16)
            have hZt := Lib.hid (show (bcells z16).size = (bcells z).size by rw [bcells_size, bcells_size, hzl, z16_length])
            go_upto_region 14 with (first
              | (refine wpList_load_row rfl _ _ rfl w.heap.size rfl _ _ _ _ HB.out und_b16 rfl hIt.out ?_)
              | (refine wpList_store_row rfl _ _ _ rfl wr.heap.size (bcells z) rfl rfl _ _ (heap_alloc_new wr _) hIt.out hZt.out (bcells_all _) ?_))
            obtain ⟨w4, hw4⟩ : ∃ w4, (wr.alloc (Obj.cells (bcells z16) 56)).setRow wr.heap.size (bcells z) = w4 := ⟨_, rfl⟩
            have hb8 : w4.heap[wr.heap.size]? = some (.cells (bcells z) 56 (0, 0)) := by rw [← hw4]; exact setRow_get (heap_alloc_new wr _)
            have hx4 : Ext wr w4 := by rw [← hw4]; exact below_setRow ((Ext.refl wr).alloc _) (Nat.le_refl _) _
            have hbB := hx4.keep HB.out
            have hxw := hx.trans hx4
            have hBlt : w.heap.size < wr.heap.size := blk_lt HB.out
            rw [hw4]
            clear hw4 hz
            obtain ⟨W8, hW8⟩ : ∃ W8, wr.heap.size = W8 := ⟨_, rfl⟩
            rw [hW8] at hb8 hBlt ⊢
            have K8 := Lib.hid hb8; have KB := Lib.hid hbB; have KX := Lib.hid hxw
            clear hb8 hbB hxw hx4 hW8 HB hx
            go_wp2
            go_loopw [50] (fun i wr => ∃ k : Nat, k ≤ 16 ∧ i = .int .i64 k ∧ wr.heap[w.heap.size]? = some (.cells (bcells (usK z k)) 56 (0, 0)) ∧ wr.heap[W8]? = some (.cells (bcells z) 56 (0, 0)) ∧ Ext w wr) (fun i _ => 16 - (intOf i).toNat)
            case atStart => exact ⟨0, by omega, rfl, KB.out, K8.out, KX.out⟩
            case round =>
              clear K8 KB KX
              obtain ⟨k, hk, rfl, hb, hb8, hx⟩ := hrel
              have HB := Lib.hid hb; have H8 := Lib.hid hb8
              clear hb hb8
              by_cases hlk : k < 16
              · obtain ⟨m, hm4⟩ : ∃ m : Nat, (k : Int) % 4 = (m : Int) := ⟨k % 4, by omega⟩
                obtain ⟨idx, hidx⟩ : ∃ idx : Nat, ((k : Int) + 4 * (m : Int)) % 16 = (idx : Int) := ⟨(k + 4 * m) % 16, by omega⟩
                have hidn : idx = (k + 4 * (k % 4)) % 16 := by omega
                have hi16 : (idx : Int) < 16 := by omega
                have hk16 : (k : Int) < 16 := by omega
                have hul := usK_length z hzl k
                have hx8 := cell_blk (i := k) H8.out (bcells_at z k (by omega))
                rw [show z[k]'(by omega) = z.getD k 0 by simp [List.getD, show k < z.length by omega]] at hx8
                have hbx := (HC.out.ext hx).unbox (z.getD k 0)
                have HS : Hid (usK z (k + 1) = (usK z k).set ((k + 4 * (k % 4)) % 16) (unO (z.getD k 0))) := Lib.hid rfl
                rw [← hidn] at HS
                have hcc : ∃ c0, wr.cell? ⟨w.heap.size, idx, none⟩ = some c0 := ⟨_, cell_blk HB.out (bcells_at _ idx (by omega))⟩
                obtain ⟨c0, hc0⟩ := hcc
                have htm : (k : Int).tmod 4 = (m : Int) := by rw [Int.tmod_eq_emod_of_nonneg (by omega)]; exact hm4
                have hwm : IntKind.i64.wrap (4 * (m : Int)) = 4 * (m : Int) := by rw [IntKind.wrap_i64]; omega
                have hwa : IntKind.i64.wrap ((k : Int) + 4 * (m : Int)) = (k : Int) + 4 * (m : Int) := by rw [IntKind.wrap_i64]; omega
                have hti : ((k : Int) + 4 * (m : Int)).tmod 16 = (idx : Int) := by rw [Int.tmod_eq_emod_of_nonneg (by omega)]; exact hidx
                clear hidn
                generalize usK z k = v1 at *
                generalize z.getD k 0 = x at *
                have hxl := x.toNat_lt
                have hxi : (x.toNat : Int) < 256 := by omega
                go_wp2
                refine Loud.wp_region_weave 15 wr (Loud.sps [.val (.int .i64 (k : Int)), .val (.int .i64 (k : Int)), .val (.int .i64 (m : Int)), .val (.int .i64 (4 * (m : Int))), .val (.int .i64 ((k : Int) + 4 * (m : Int))), .val (.int .i64 (idx : Int)), .val (.pointer (some ⟨c, 0, none⟩)), .val (.int .i64 (k : Int)), .val (.pointer (some ⟨W8, k, none⟩)), .val (.int .u8 (x.toNat : Int)), .val (.pointer (some ⟨c, 0, none⟩)), .val (.pointer (some ⟨c, 432, none⟩)), .val (.pointer (some ⟨c, 432 + x.toNat, none⟩)), .val (.int .u8 ((unO x).toNat : Int)), .val (.pointer (some ⟨w.heap.size, idx, none⟩))]) (by kernel_rfl) (by kernel_rfl) (by show Ext _ _; repeat (first | exact Ext.refl _ | assumption | (with_reducible refine Ext.drew ?_) | (with_reducible refine Ext.drewN ?_ _) | (with_reducible refine Ext.alloc ?_ _) | (refine Ext.trans ?_ (by assumption)))) (Loud.sps_st _) ?wAx1 ?whAx1 ?whSx1 ?whFx1
                case whAx1 => intro u K hK; simp only [List.take_succ_cons, List.take_zero, Loud.puts]; go_simp; exact hK
                case whSx1 =>
                  simp only [List.take_succ_cons, List.take_zero, Loud.stepsW]
                  refine ⟨?wsx1_0, ?wsx1_1, ?wsx1_2, ?wsx1_3, ?wsx1_4, ?wsx1_5, ?wsx1_6, ?wsx1_7, ?wsx1_8, ?wsx1_9, ?wsx1_10, ?wsx1_11, ?wsx1_12, ?wsx1_13, ?wsx1_14, trivial⟩
                  case wsx1_0 =>
                    intro u β wq hq h
                    repeat (obtain ⟨h1, h⟩ := h; first | (replace h1 := h1 rfl; simp only [go_sem] at h1; try (obtain ⟨h1, h1b⟩ := h1)) | (have hno := (h1 : Region.binds _ _ = true → _); clear hno h1))
                    refine Or.inl ⟨rfl, fun K hK => ?_⟩
                    go_simp
                    exact hK _ 0 _ (Ext.refl _) rfl
                  case wsx1_1 =>
                    intro u β wq hq h
                    repeat (obtain ⟨h1, h⟩ := h; first | (replace h1 := h1 rfl; simp only [go_sem] at h1; try (obtain ⟨h1, h1b⟩ := h1)) | (have hno := (h1 : Region.binds _ _ = true → _); clear hno h1))
                    refine Or.inl ⟨rfl, fun K hK => ?_⟩
                    go_simp
                    exact hK _ 0 _ (Ext.refl _) rfl
                  case wsx1_2 =>
                    intro u β wq hq h
                    repeat (obtain ⟨h1, h⟩ := h; first | (replace h1 := h1 rfl; simp only [go_sem] at h1; try (obtain ⟨h1, h1b⟩ := h1)) | (have hno := (h1 : Region.binds _ _ = true → _); clear hno h1))
                    refine Or.inl ⟨rfl, fun K hK => ?_⟩
                    go_simp
                    exact hK _ 0 _ (Ext.refl _) rfl
                  case wsx1_3 =>
                    intro u β wq hq h
                    repeat (obtain ⟨h1, h⟩ := h; first | (replace h1 := h1 rfl; simp only [go_sem] at h1; try (obtain ⟨h1, h1b⟩ := h1)) | (have hno := (h1 : Region.binds _ _ = true → _); clear hno h1))
                    refine Or.inl ⟨rfl, fun K hK => ?_⟩
                    go_simp
                    exact hK _ 0 _ (Ext.refl _) rfl
                  case wsx1_4 =>
                    intro u β wq hq h
                    repeat (obtain ⟨h1, h⟩ := h; first | (replace h1 := h1 rfl; simp only [go_sem] at h1; try (obtain ⟨h1, h1b⟩ := h1)) | (have hno := (h1 : Region.binds _ _ = true → _); clear hno h1))
                    refine Or.inl ⟨rfl, fun K hK => ?_⟩
                    go_simp
                    exact hK _ 0 _ (Ext.refl _) rfl
                  case wsx1_5 =>
                    intro u β wq hq h
                    repeat (obtain ⟨h1, h⟩ := h; first | (replace h1 := h1 rfl; simp only [go_sem] at h1; try (obtain ⟨h1, h1b⟩ := h1)) | (have hno := (h1 : Region.binds _ _ = true → _); clear hno h1))
                    refine Or.inl ⟨rfl, fun K hK => ?_⟩
                    go_simp
                    exact hK _ 0 _ (Ext.refl _) rfl
                  case wsx1_6 =>
                    intro u β wq hq h
                    repeat (obtain ⟨h1, h⟩ := h; first | (replace h1 := h1 rfl; simp only [go_sem] at h1; try (obtain ⟨h1, h1b⟩ := h1)) | (have hno := (h1 : Region.binds _ _ = true → _); clear hno h1))
                    refine Or.inl ⟨rfl, fun K hK => ?_⟩
                    go_simp
                    exact hK _ 0 _ (Ext.refl _) rfl
                  case wsx1_7 =>
                    intro u β wq hq h
                    repeat (obtain ⟨h1, h⟩ := h; first | (replace h1 := h1 rfl; simp only [go_sem] at h1; try (obtain ⟨h1, h1b⟩ := h1)) | (have hno := (h1 : Region.binds _ _ = true → _); clear hno h1))
                    refine Or.inl ⟨rfl, fun K hK => ?_⟩
                    go_simp
                    exact hK _ 0 _ (Ext.refl _) rfl
                  case wsx1_8 =>
                    intro u β wq hq h
                    repeat (obtain ⟨h1, h⟩ := h; first | (replace h1 := h1 rfl; simp only [go_sem] at h1; try (obtain ⟨h1, h1b⟩ := h1)) | (have hno := (h1 : Region.binds _ _ = true → _); clear hno h1))
                    refine Or.inl ⟨rfl, fun K hK => ?_⟩
                    go_simp
                    exact hK _ 0 _ (Ext.refl _) rfl
                  case wsx1_9 =>
                    intro u β wq hq h
                    repeat (obtain ⟨h1, h⟩ := h; first | (replace h1 := h1 rfl; simp only [go_sem] at h1; try (obtain ⟨h1, h1b⟩ := h1)) | (have hno := (h1 : Region.binds _ _ = true → _); clear hno h1))
                    refine Or.inl ⟨rfl, fun K hK => ?_⟩
                    have hqc := hq.cell_of hx8
                    go_simp
                    exact hK _ 0 _ (Ext.refl _) rfl
                  case wsx1_10 =>
                    intro u β wq hq h
                    repeat (obtain ⟨h1, h⟩ := h; first | (replace h1 := h1 rfl; simp only [go_sem] at h1; try (obtain ⟨h1, h1b⟩ := h1)) | (have hno := (h1 : Region.binds _ _ = true → _); clear hno h1))
                    refine Or.inl ⟨rfl, fun K hK => ?_⟩
                    go_simp
                    exact hK _ 0 _ (Ext.refl _) rfl
                  case wsx1_11 =>
                    intro u β wq hq h
                    repeat (obtain ⟨h1, h⟩ := h; first | (replace h1 := h1 rfl; simp only [go_sem] at h1; try (obtain ⟨h1, h1b⟩ := h1)) | (have hno := (h1 : Region.binds _ _ = true → _); clear hno h1))
                    refine Or.inl ⟨rfl, fun K hK => ?_⟩
                    go_simp
                    exact hK _ 0 _ (Ext.refl _) rfl
                  case wsx1_12 =>
                    intro u β wq hq h
                    repeat (obtain ⟨h1, h⟩ := h; first | (replace h1 := h1 rfl; simp only [go_sem] at h1; try (obtain ⟨h1, h1b⟩ := h1)) | (have hno := (h1 : Region.binds _ _ = true → _); clear hno h1))
                    refine Or.inl ⟨rfl, fun K hK => ?_⟩
                    go_simp
                    exact hK _ 0 _ (Ext.refl _) rfl
                  case wsx1_13 =>
                    intro u β wq hq h
                    repeat (obtain ⟨h1, h⟩ := h; first | (replace h1 := h1 rfl; simp only [go_sem] at h1; try (obtain ⟨h1, h1b⟩ := h1)) | (have hno := (h1 : Region.binds _ _ = true → _); clear hno h1))
                    refine Or.inl ⟨rfl, fun K hK => ?_⟩
                    have hqc := hq.cell_of hbx
                    go_simp
                    exact hK _ 0 _ (Ext.refl _) rfl
                  case wsx1_14 =>
                    intro u β wq hq h
                    repeat (obtain ⟨h1, h⟩ := h; first | (replace h1 := h1 rfl; simp only [go_sem] at h1; try (obtain ⟨h1, h1b⟩ := h1)) | (have hno := (h1 : Region.binds _ _ = true → _); clear hno h1))
                    refine Or.inl ⟨rfl, fun K hK => ?_⟩
                    go_simp
                    exact hK _ 0 _ (Ext.refl _) rfl
                intro u β w5 hq h
                have h0 := h 0 (by omega)
                have h1 := h 1 (by omega)
                have h2 := h 2 (by omega)
                have h3 := h 3 (by omega)
                have h4 := h 4 (by omega)
                have h5 := h 5 (by omega)
                have h6 := h 6 (by omega)
                have h7 := h 7 (by omega)
                have h8 := h 8 (by omega)
                have h9 := h 9 (by omega)
                have h10 := h 10 (by omega)
                have h11 := h 11 (by omega)
                have h12 := h 12 (by omega)
                have h13 := h 13 (by omega)
                have h14 := h 14 (by omega)
                clear h
                simp only [go_sem] at h0 h1 h2 h3 h4 h5 h6 h7 h8 h9 h10 h11 h12 h13 h14
                simp only [List.drop_succ_cons, List.drop_zero]
                rw [h14]
                have hbq := Lib.hid (hq.keep HB.out)
                have h8q := Lib.hid (hq.keep H8.out)
                have hc1 := hq.cell_of hc0
                have hf1 : w5.frozen? ⟨w.heap.size, idx, none⟩ = false := frozen_blk hbq.out
                have hxq := hx.trans hq
                try rw [h13]
                go_wp2
                go_roundw
                case measure => simp [intOf]; omega
                case rel =>
                  refine ⟨k + 1, by omega, by go_num, ?_, ?_, hxq.setCell (Nat.le_refl _) _⟩
                  · rw [heap_setCell_same _ hbq.out, bcells_set, HS.out]
                  · rw [heap_setCell_other _ _ _ (by show W8 ≠ w.heap.size; omega)]; exact h8q.out
              · obtain rfl : k = 16 := by omega
                have HU : Hid (unS z = usK z 16) := Lib.hid rfl
                rw [← HU.out] at HB
                go_wp2
                go_roundw
                case measure => simp [intOf]; omega
                case rel => exact ⟨r - 1, by omega, by go_num, by rw [HN.out, HNN.out, HZ.out]; exact HB.out, hx⟩
        · obtain rfl : j = 0 := by omega
          obtain rfl : r = 10 := by omega
          have HZ : Hid ((if 10 < 10 then mixC [14, 11, 13, 9] y 4 else y) = y) := Lib.hid (if_neg hr)
          have hzl := hml
          rw [show mixC [14, 11, 13, 9] y 0 = y from rfl] at HB hzl
          generalize hzy : y = z at *
          clear hzy
          have hIt := Lib.hid (show (Try.prog.info? 56).map (·.size) = some (bcells z).size by rw [bcells_size, hzl]; exact info_b16)
          have hZt := Lib.hid (show (bcells z16).size = (bcells z).size by rw [bcells_size, bcells_size, hzl, z16_length])
          go_upto_region 14 with (first
            | (refine wpList_load_row rfl _ _ rfl w.heap.size rfl _ _ _ _ HB.out und_b16 rfl hIt.out ?_)
            | (refine wpList_store_row rfl _ _ _ rfl wr.heap.size (bcells z) rfl rfl _ _ (heap_alloc_new wr _) hIt.out hZt.out (bcells_all _) ?_))
          obtain ⟨w4, hw4⟩ : ∃ w4, (wr.alloc (Obj.cells (bcells z16) 56)).setRow wr.heap.size (bcells z) = w4 := ⟨_, rfl⟩
          have hb8 : w4.heap[wr.heap.size]? = some (.cells (bcells z) 56 (0, 0)) := by rw [← hw4]; exact setRow_get (heap_alloc_new wr _)
          have hx4 : Ext wr w4 := by rw [← hw4]; exact below_setRow ((Ext.refl wr).alloc _) (Nat.le_refl _) _
          have hbB := hx4.keep HB.out
          have hxw := hx.trans hx4
          have hBlt : w.heap.size < wr.heap.size := blk_lt HB.out
          rw [hw4]
          clear hw4 hz
          obtain ⟨W8, hW8⟩ : ∃ W8, wr.heap.size = W8 := ⟨_, rfl⟩
          rw [hW8] at hb8 hBlt ⊢
          have K8 := Lib.hid hb8; have KB := Lib.hid hbB; have KX := Lib.hid hxw
          clear hb8 hbB hxw hx4 hW8 HB hx
          go_wp2
          go_loopw [50] (fun i wr => ∃ k : Nat, k ≤ 16 ∧ i = .int .i64 k ∧ wr.heap[w.heap.size]? = some (.cells (bcells (usK z k)) 56 (0, 0)) ∧ wr.heap[W8]? = some (.cells (bcells z) 56 (0, 0)) ∧ Ext w wr) (fun i _ => 16 - (intOf i).toNat)
          case atStart => exact ⟨0, by omega, rfl, KB.out, K8.out, KX.out⟩
          case round =>
            clear K8 KB KX
            obtain ⟨k, hk, rfl, hb, hb8, hx⟩ := hrel
            have HB := Lib.hid hb; have H8 := Lib.hid hb8
            clear hb hb8
            by_cases hlk : k < 16
            · obtain ⟨m, hm4⟩ : ∃ m : Nat, (k : Int) % 4 = (m : Int) := ⟨k % 4, by omega⟩
              obtain ⟨idx, hidx⟩ : ∃ idx : Nat, ((k : Int) + 4 * (m : Int)) % 16 = (idx : Int) := ⟨(k + 4 * m) % 16, by omega⟩
              have hidn : idx = (k + 4 * (k % 4)) % 16 := by omega
              have hi16 : (idx : Int) < 16 := by omega
              have hk16 : (k : Int) < 16 := by omega
              have hul := usK_length z hzl k
              have hx8 := cell_blk (i := k) H8.out (bcells_at z k (by omega))
              rw [show z[k]'(by omega) = z.getD k 0 by simp [List.getD, show k < z.length by omega]] at hx8
              have hbx := (HC.out.ext hx).unbox (z.getD k 0)
              have HS : Hid (usK z (k + 1) = (usK z k).set ((k + 4 * (k % 4)) % 16) (unO (z.getD k 0))) := Lib.hid rfl
              rw [← hidn] at HS
              have hcc : ∃ c0, wr.cell? ⟨w.heap.size, idx, none⟩ = some c0 := ⟨_, cell_blk HB.out (bcells_at _ idx (by omega))⟩
              obtain ⟨c0, hc0⟩ := hcc
              have htm : (k : Int).tmod 4 = (m : Int) := by rw [Int.tmod_eq_emod_of_nonneg (by omega)]; exact hm4
              have hwm : IntKind.i64.wrap (4 * (m : Int)) = 4 * (m : Int) := by rw [IntKind.wrap_i64]; omega
              have hwa : IntKind.i64.wrap ((k : Int) + 4 * (m : Int)) = (k : Int) + 4 * (m : Int) := by rw [IntKind.wrap_i64]; omega
              have hti : ((k : Int) + 4 * (m : Int)).tmod 16 = (idx : Int) := by rw [Int.tmod_eq_emod_of_nonneg (by omega)]; exact hidx
              clear hidn
              generalize usK z k = v1 at *
              generalize z.getD k 0 = x at *
              have hxl := x.toNat_lt
              have hxi : (x.toNat : Int) < 256 := by omega
              go_wp2
              refine Loud.wp_region_weave 15 wr (Loud.sps [.val (.int .i64 (k : Int)), .val (.int .i64 (k : Int)), .val (.int .i64 (m : Int)), .val (.int .i64 (4 * (m : Int))), .val (.int .i64 ((k : Int) + 4 * (m : Int))), .val (.int .i64 (idx : Int)), .val (.pointer (some ⟨c, 0, none⟩)), .val (.int .i64 (k : Int)), .val (.pointer (some ⟨W8, k, none⟩)), .val (.int .u8 (x.toNat : Int)), .val (.pointer (some ⟨c, 0, none⟩)), .val (.pointer (some ⟨c, 432, none⟩)), .val (.pointer (some ⟨c, 432 + x.toNat, none⟩)), .val (.int .u8 ((unO x).toNat : Int)), .val (.pointer (some ⟨w.heap.size, idx, none⟩))]) (by kernel_rfl) (by kernel_rfl) (by show Ext _ _; repeat (first | exact Ext.refl _ | assumption | (with_reducible refine Ext.drew ?_) | (with_reducible refine Ext.drewN ?_ _) | (with_reducible refine Ext.alloc ?_ _) | (refine Ext.trans ?_ (by assumption)))) (Loud.sps_st _) ?wAx2 ?whAx2 ?whSx2 ?whFx2
              case whAx2 => intro u K hK; simp only [List.take_succ_cons, List.take_zero, Loud.puts]; go_simp; exact hK
              case whSx2 =>
                simp only [List.take_succ_cons, List.take_zero, Loud.stepsW]
                refine ⟨?wsx2_0, ?wsx2_1, ?wsx2_2, ?wsx2_3, ?wsx2_4, ?wsx2_5, ?wsx2_6, ?wsx2_7, ?wsx2_8, ?wsx2_9, ?wsx2_10, ?wsx2_11, ?wsx2_12, ?wsx2_13, ?wsx2_14, trivial⟩
                case wsx2_0 =>
                  intro u β wq hq h
                  repeat (obtain ⟨h1, h⟩ := h; first | (replace h1 := h1 rfl; simp only [go_sem] at h1; try (obtain ⟨h1, h1b⟩ := h1)) | (have hno := (h1 : Region.binds _ _ = true → _); clear hno h1))
                  refine Or.inl ⟨rfl, fun K hK => ?_⟩
                  go_simp
                  exact hK _ 0 _ (Ext.refl _) rfl
                case wsx2_1 =>
                  intro u β wq hq h
                  repeat (obtain ⟨h1, h⟩ := h; first | (replace h1 := h1 rfl; simp only [go_sem] at h1; try (obtain ⟨h1, h1b⟩ := h1)) | (have hno := (h1 : Region.binds _ _ = true → _); clear hno h1))
                  refine Or.inl ⟨rfl, fun K hK => ?_⟩
                  go_simp
                  exact hK _ 0 _ (Ext.refl _) rfl
                case wsx2_2 =>
                  intro u β wq hq h
                  repeat (obtain ⟨h1, h⟩ := h; first | (replace h1 := h1 rfl; simp only [go_sem] at h1; try (obtain ⟨h1, h1b⟩ := h1)) | (have hno := (h1 : Region.binds _ _ = true → _); clear hno h1))
                  refine Or.inl ⟨rfl, fun K hK => ?_⟩
                  go_simp
                  exact hK _ 0 _ (Ext.refl _) rfl
                case wsx2_3 =>
                  intro u β wq hq h
                  repeat (obtain ⟨h1, h⟩ := h; first | (replace h1 := h1 rfl; simp only [go_sem] at h1; try (obtain ⟨h1, h1b⟩ := h1)) | (have hno := (h1 : Region.binds _ _ = true → _); clear hno h1))
                  refine Or.inl ⟨rfl, fun K hK => ?_⟩
                  go_simp
                  exact hK _ 0 _ (Ext.refl _) rfl
                case wsx2_4 =>
                  intro u β wq hq h
                  repeat (obtain ⟨h1, h⟩ := h; first | (replace h1 := h1 rfl; simp only [go_sem] at h1; try (obtain ⟨h1, h1b⟩ := h1)) | (have hno := (h1 : Region.binds _ _ = true → _); clear hno h1))
                  refine Or.inl ⟨rfl, fun K hK => ?_⟩
                  go_simp
                  exact hK _ 0 _ (Ext.refl _) rfl
                case wsx2_5 =>
                  intro u β wq hq h
                  repeat (obtain ⟨h1, h⟩ := h; first | (replace h1 := h1 rfl; simp only [go_sem] at h1; try (obtain ⟨h1, h1b⟩ := h1)) | (have hno := (h1 : Region.binds _ _ = true → _); clear hno h1))
                  refine Or.inl ⟨rfl, fun K hK => ?_⟩
                  go_simp
                  exact hK _ 0 _ (Ext.refl _) rfl
                case wsx2_6 =>
                  intro u β wq hq h
                  repeat (obtain ⟨h1, h⟩ := h; first | (replace h1 := h1 rfl; simp only [go_sem] at h1; try (obtain ⟨h1, h1b⟩ := h1)) | (have hno := (h1 : Region.binds _ _ = true → _); clear hno h1))
                  refine Or.inl ⟨rfl, fun K hK => ?_⟩
                  go_simp
                  exact hK _ 0 _ (Ext.refl _) rfl
                case wsx2_7 =>
                  intro u β wq hq h
                  repeat (obtain ⟨h1, h⟩ := h; first | (replace h1 := h1 rfl; simp only [go_sem] at h1; try (obtain ⟨h1, h1b⟩ := h1)) | (have hno := (h1 : Region.binds _ _ = true → _); clear hno h1))
                  refine Or.inl ⟨rfl, fun K hK => ?_⟩
                  go_simp
                  exact hK _ 0 _ (Ext.refl _) rfl
                case wsx2_8 =>
                  intro u β wq hq h
                  repeat (obtain ⟨h1, h⟩ := h; first | (replace h1 := h1 rfl; simp only [go_sem] at h1; try (obtain ⟨h1, h1b⟩ := h1)) | (have hno := (h1 : Region.binds _ _ = true → _); clear hno h1))
                  refine Or.inl ⟨rfl, fun K hK => ?_⟩
                  go_simp
                  exact hK _ 0 _ (Ext.refl _) rfl
                case wsx2_9 =>
                  intro u β wq hq h
                  repeat (obtain ⟨h1, h⟩ := h; first | (replace h1 := h1 rfl; simp only [go_sem] at h1; try (obtain ⟨h1, h1b⟩ := h1)) | (have hno := (h1 : Region.binds _ _ = true → _); clear hno h1))
                  refine Or.inl ⟨rfl, fun K hK => ?_⟩
                  have hqc := hq.cell_of hx8
                  go_simp
                  exact hK _ 0 _ (Ext.refl _) rfl
                case wsx2_10 =>
                  intro u β wq hq h
                  repeat (obtain ⟨h1, h⟩ := h; first | (replace h1 := h1 rfl; simp only [go_sem] at h1; try (obtain ⟨h1, h1b⟩ := h1)) | (have hno := (h1 : Region.binds _ _ = true → _); clear hno h1))
                  refine Or.inl ⟨rfl, fun K hK => ?_⟩
                  go_simp
                  exact hK _ 0 _ (Ext.refl _) rfl
                case wsx2_11 =>
                  intro u β wq hq h
                  repeat (obtain ⟨h1, h⟩ := h; first | (replace h1 := h1 rfl; simp only [go_sem] at h1; try (obtain ⟨h1, h1b⟩ := h1)) | (have hno := (h1 : Region.binds _ _ = true → _); clear hno h1))
                  refine Or.inl ⟨rfl, fun K hK => ?_⟩
                  go_simp
                  exact hK _ 0 _ (Ext.refl _) rfl
                case wsx2_12 =>
                  intro u β wq hq h
                  repeat (obtain ⟨h1, h⟩ := h; first | (replace h1 := h1 rfl; simp only [go_sem] at h1; try (obtain ⟨h1, h1b⟩ := h1)) | (have hno := (h1 : Region.binds _ _ = true → _); clear hno h1))
                  refine Or.inl ⟨rfl, fun K hK => ?_⟩
                  go_simp
                  exact hK _ 0 _ (Ext.refl _) rfl
                case wsx2_13 =>
                  intro u β wq hq h
                  repeat (obtain ⟨h1, h⟩ := h; first | (replace h1 := h1 rfl; simp only [go_sem] at h1; try (obtain ⟨h1, h1b⟩ := h1)) | (have hno := (h1 : Region.binds _ _ = true → _); clear hno h1))
                  refine Or.inl ⟨rfl, fun K hK => ?_⟩
                  have hqc := hq.cell_of hbx
                  go_simp
                  exact hK _ 0 _ (Ext.refl _) rfl
                case wsx2_14 =>
                  intro u β wq hq h
                  repeat (obtain ⟨h1, h⟩ := h; first | (replace h1 := h1 rfl; simp only [go_sem] at h1; try (obtain ⟨h1, h1b⟩ := h1)) | (have hno := (h1 : Region.binds _ _ = true → _); clear hno h1))
                  refine Or.inl ⟨rfl, fun K hK => ?_⟩
                  go_simp
                  exact hK _ 0 _ (Ext.refl _) rfl
              intro u β w5 hq h
              have h0 := h 0 (by omega)
              have h1 := h 1 (by omega)
              have h2 := h 2 (by omega)
              have h3 := h 3 (by omega)
              have h4 := h 4 (by omega)
              have h5 := h 5 (by omega)
              have h6 := h 6 (by omega)
              have h7 := h 7 (by omega)
              have h8 := h 8 (by omega)
              have h9 := h 9 (by omega)
              have h10 := h 10 (by omega)
              have h11 := h 11 (by omega)
              have h12 := h 12 (by omega)
              have h13 := h 13 (by omega)
              have h14 := h 14 (by omega)
              clear h
              simp only [go_sem] at h0 h1 h2 h3 h4 h5 h6 h7 h8 h9 h10 h11 h12 h13 h14
              simp only [List.drop_succ_cons, List.drop_zero]
              rw [h14]
              have hbq := Lib.hid (hq.keep HB.out)
              have h8q := Lib.hid (hq.keep H8.out)
              have hc1 := hq.cell_of hc0
              have hf1 : w5.frozen? ⟨w.heap.size, idx, none⟩ = false := frozen_blk hbq.out
              have hxq := hx.trans hq
              try rw [h13]
              go_wp2
              go_roundw
              case measure => simp [intOf]; omega
              case rel =>
                refine ⟨k + 1, by omega, by go_num, ?_, ?_, hxq.setCell (Nat.le_refl _) _⟩
                · rw [heap_setCell_same _ hbq.out, bcells_set, HS.out]
                · rw [heap_setCell_other _ _ _ (by show W8 ≠ w.heap.size; omega)]; exact h8q.out
            · obtain rfl : k = 16 := by omega
              have HU : Hid (unS z = usK z 16) := Lib.hid rfl
              rw [← HU.out] at HB
              go_wp2
              go_roundw
              case measure => simp [intOf]
              case rel => exact ⟨9, by omega, by go_num, by rw [HN.out, HNN.out, HZ.out]; exact HB.out, hx⟩
    · obtain rfl : r = 0 := by omega
      have HE : Hid (decL K s = xorL (bckN K s (10 - 0)) (rkey K 0)) := Lib.hid rfl
      generalize bckN K s (10 - 0) = t at *
      have hxl := xorL_len t (rkey K 0) htl (rkey_length K hK.out 0 (by omega))
      generalize hyx : xorL t (rkey K 0) = y at hxl HE
      have HY := Lib.hid hyx
      clear hyx
      go_wp2_with (go_at_call 41; refine (GA0.out w.heap.size t wr (HC.out.ext hx) hcl htl HB.out).mono ?_; rintro e w2 ⟨rfl, hb2, hbel2⟩; rw [HY.out] at hb2; have hx2 : Ext w w2 := hx.trans_below hbel2; have kc := fun c => to_str_of (c := c) (n := 16) hb2 hxl; clear hb2 hbel2)
      go_returns
      exact ⟨by rw [HE.out]; rfl, hx2⟩
/-! ### Nil ciphers -/
set_option maxRecDepth 100000 in
theorem Block_nil (s : List UInt8) (w : World) :
    Calls Try.prog 23 #[.pointer none, .string (bs s)] w fun e w' => e = .returned (.tuple #[.string (bs []), .bool false]) ∧ w = w' := by
  go_enter Try.func23, Try.ntmps23
  go_wp2
  go_returns
  exact ⟨rfl, rfl⟩
set_option maxRecDepth 100000 in
theorem Back_nil (s : List UInt8) (w : World) :
    Calls Try.prog 24 #[.pointer none, .string (bs s)] w fun e w' => e = .returned (.tuple #[.string (bs []), .bool false]) ∧ w = w' := by
  go_enter Try.func24, Try.ntmps24
  go_wp2
  go_returns
  exact ⟨rfl, rfl⟩
set_option maxRecDepth 100000 in
theorem Rounds_nil (w : World) :
    Calls Try.prog 20 #[.pointer none] w fun e w' => e = .returned (.slice none 0 0) ∧ w = w' := by
  go_enter Try.func20, Try.ntmps20
  go_wp2
  go_returns
  exact ⟨rfl, rfl⟩
end Go.Proofs.Ytgncnplgjhaojaa
