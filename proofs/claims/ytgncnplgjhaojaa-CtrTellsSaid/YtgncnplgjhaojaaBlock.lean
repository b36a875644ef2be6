/- Contracts: layer 4, a block ciphered. -/
import Derived.Test.YtgncnplgjhaojaaNewB
namespace Go.Proofs.Ytgncnplgjhaojaa
open Go Go.RowKit

theorem zero_b16 (w : World) : Sem.run Try.prog (zeroValue 56) w = .ok (.agg (bcells (List.replicate 16 0))) w := by kernel_rfl
theorem info_b16 : (Try.prog.info? 56).map (·.size) = some 16 := by kernel_rfl
theorem und_b16 : Try.prog.underlying 56 = some (.array 16 5) := by kernel_rfl
def z16 : List UInt8 := List.replicate 16 0
theorem zero_b16' (w : World) : Sem.run Try.prog (zeroValue 56) w = .ok (.agg (bcells z16)) w := zero_b16 w
theorem z16_length : z16.length = 16 := List.length_replicate
/-- Boxes, rows turned. -/
def subS (s : List UInt8) : List UInt8 := (List.range 16).map fun i => boxO (s.getD ((i + 4 * (i % 4)) % 16) 0)
@[simp] theorem subS_length (s : List UInt8) : (subS s).length = 16 := by simp [subS]
/-- The first j columns mixed. -/
def mixC (f s : List UInt8) : Nat → List UInt8
  | 0 => s
  | j + 1 => splice (mixC f s j) (4 * j) (mixL f (((mixC f s j).drop (4 * j)).take 4))
theorem mixC_length (f s : List UInt8) (hs : s.length = 16) : ∀ j, j ≤ 4 → (mixC f s j).length = 16
  | 0, _ => hs
  | j + 1, h => by
    have := mixC_length f s hs j (by omega)
    rw [mixC, splice_length _ _ _ (by rw [this, mixL_length]; omega), this]
/-- A round. -/
def roundS (K s : List UInt8) (r : Nat) : List UInt8 := xorL (if r < 10 then mixC [2, 3, 1, 1] (subS s) 4 else subS s) (rkey K r)
/-- What a block is behind r rounds. -/
def blkN (K s : List UInt8) : Nat → List UInt8
  | 0 => xorL s (rkey K 0)
  | r + 1 => roundS K (blkN K s r) (r + 1)
theorem xorL_len (a b : List UInt8) (ha : a.length = 16) (hb : b.length = 16) : (xorL a b).length = 16 := by rw [xorL_length a b (by omega)]; exact ha
theorem blkN_length (K s : List UInt8) (hK : K.length = 176) (hs : s.length = 16) : ∀ r, r ≤ 10 → (blkN K s r).length = 16
  | 0, _ => xorL_len _ _ hs (rkey_length K hK 0 (by omega))
  | r + 1, h => by
    have hm := mixC_length [2, 3, 1, 1] (subS (blkN K s r)) (subS_length _) 4 (by omega)
    unfold blkN roundS
    split
    · exact xorL_len _ _ hm (rkey_length K hK _ h)
    · exact xorL_len _ _ (subS_length _) (rkey_length K hK _ h)
def encL (K s : List UInt8) : List UInt8 := blkN K s 10
/-- The first k bytes boxed. -/
def subK (s : List UInt8) (k : Nat) : List UInt8 := (subS s).take k ++ s.drop k
theorem subK_length (s : List UInt8) (hs : s.length = 16) (k : Nat) (hk : k ≤ 16) : (subK s k).length = 16 := by
  unfold subK; rw [List.length_append, List.length_take, subS_length, List.length_drop]; omega
theorem subK_set (s : List UInt8) (hs : s.length = 16) (k : Nat) (hk : k < 16) : (subK s k).set k (boxO (s.getD ((k + 4 * (k % 4)) % 16) 0)) = subK s (k + 1) := by
  unfold subK
  rw [List.set_append_right _ _ (by rw [List.length_take, subS_length]; omega), List.length_take, subS_length, Nat.min_eq_left (by omega), Nat.sub_self]
  rw [List.take_succ_eq_append_getElem (by rw [subS_length]; exact hk), List.drop_eq_getElem_cons (by omega), List.set_cons_zero, List.append_assoc]
  simp [subS]
theorem subK_all (s : List UInt8) (hs : s.length = 16) : subK s 16 = subS s := by
  unfold subK
  rw [List.take_of_length_le (by simp), List.drop_of_length_le (by omega), List.append_nil]
set_option maxRecDepth 100000 in
set_option maxHeartbeats 1000000 in
theorem Block_no (c : Nat) (K s : List UInt8) (w : World) (hci : CI w c K) (h : s.length ≠ 16) (_hl : s.length ≤ 140737488351232) :
    Calls Try.prog 23 #[.pointer (some ⟨c, 0, none⟩), .string (bs s)] w fun e w' => e = .returned (.tuple #[.string (bs []), .bool false]) ∧ w = w' := by
  have hmd := hci.made
  have hne : ((s.length : Int) != 16) = true := by simp; omega
  clear hci
  go_enter Try.func23, Try.ntmps23
  go_wp2
  go_returns
  exact ⟨rfl, rfl⟩
theorem slice16_4 (c j : Nat) (hj : j < 4) (W : World) : Sem.run Try.prog (Instr.sliceAt 56 (.pointer (some ⟨c, 0, none⟩)) (some (.int .i64 (4 * (j : Int)))) (some (.int .i64 (4 * (j : Int) + 4))) none) W = .ok (.slice (some ⟨c, 4 * j, none⟩) 4 (16 - 4 * j)) W := by
  rcases (by omega : j = 0 ∨ j = 1 ∨ j = 2 ∨ j = 3) with rfl | rfl | rfl | rfl <;> kernel_rfl
theorem splice_z16 (s : List UInt8) (hs : s.length = 16) : splice z16 0 (s.take 16) = s := by
  rw [List.take_of_length_le (by omega)]
  unfold splice
  rw [List.take_zero, List.nil_append, List.drop_of_length_le (by rw [z16_length]; omega), List.append_nil]
set_option maxRecDepth 100000 in
set_option maxHeartbeats 4000000 in
theorem Block_yes (c : Nat) (K s : List UInt8) (w : World) (hci : CI w c K) (hs : s.length = 16) :
    Calls Try.prog 23 #[.pointer (some ⟨c, 0, none⟩), .string (bs s)] w fun e w' => e = .returned (.tuple #[.string (bs (encL K s)), .bool true]) ∧ Ext w w' := by
  have hmd := hci.made
  have hcl := blk_lt hci.2
  have hK := Lib.hid hci.1
  have HC := Lib.hid hci
  have hz := zero_b16'
  have HI := Lib.hid info_b16
  have HSP := Lib.hid (splice_z16 s hs)
  have GA := Lib.hid (fun (g : Nat) (t : List UInt8) (r : Nat) (W : World) (h1 : CI W c K) (h2 : c < g) (h3 : t.length = 16) (h4 : r ≤ 10) (h5 : W.heap[g]? = some (.cells (bcells t) 56 (0, 0))) => adds_any c K g t r W h1 h2 h3 h4 h5)
  have GA0 : Hid (∀ (g : Nat) (t : List UInt8) (W : World) (h1 : CI W c K) (h2 : c < g) (h3 : t.length = 16) (h5 : W.heap[g]? = some (.cells (bcells t) 56 (0, 0))), Calls Try.prog 41 #[.pointer (some ⟨c, 0, none⟩), .pointer (some ⟨g, 0, none⟩), .int .i64 0] W fun e w' => e = .returned (.tuple #[]) ∧ w'.heap[g]? = some (.cells (bcells (xorL t (rkey K 0))) 56 (0, 0)) ∧ Below g W w') := Lib.hid fun g t W h1 h2 h3 h5 => adds_any c K g t 0 W h1 h2 h3 (by omega) h5
  have GM : Hid (∀ (g o cap : Nat) (t : List UInt8) (W : World) (h1 : W.heap[g]? = some (.cells (bcells t) 56 (0, 0))) (h2 : o + 4 ≤ t.length), Calls Try.prog 42 #[.slice (some ⟨g, o, none⟩) 4 cap, .agg #[.int .u8 2, .int .u8 3, .int .u8 1, .int .u8 1]] W fun e w' => e = .returned (.tuple #[]) ∧ w'.heap[g]? = some (.cells (bcells (splice t o (mixL [2, 3, 1, 1] ((t.drop o).take 4)))) 56 (0, 0)) ∧ Below g W w') := Lib.hid fun g o cap t W h1 h2 => mixed_any g o cap t [2, 3, 1, 1] 2 3 1 1 rfl _ W h1 h2
  clear hci
  go_enter Try.func23, Try.ntmps23
  go_upto_region 6 with (first
    | (refine wpl_copy_str rfl rfl und_bytes info_u8 rfl rfl (L := z16) (heap_alloc_new w _) (by rw [z16_length]; decide) ?_; intro w1 hb1 _ hbel1; rw [HSP.out] at hb1; have HB1 := Lib.hid hb1; have hx1 : Ext w w1 := ((Ext.refl w).alloc _).trans_below hbel1; clear hb1 hbel1)
    | (go_at_call 41; refine (GA0.out w.heap.size s w1 (HC.out.ext hx1) hcl hs HB1.out).mono ?_; rintro e w2 ⟨rfl, hb2, hbel2⟩; have HB2 := Lib.hid hb2; have hx2 : Ext w w2 := hx1.trans_below hbel2; clear hb2 hbel2))
  have HX2 := Lib.hid hx2
  clear hx2 hx1 hz
  have hz := zero_b16'
  go_wp2
  go_loopw [7] (fun i wr => ∃ r : Nat, 1 ≤ r ∧ r ≤ 11 ∧ i = .int .i64 r ∧ wr.heap[w.heap.size]? = some (.cells (bcells (blkN K s (r - 1))) 56 (0, 0)) ∧ Ext w wr) (fun i _ => 11 - (intOf i).toNat)
  case atStart => exact ⟨1, by omega, by omega, rfl, HB2.out, HX2.out⟩
  case round =>
    obtain ⟨r, hr1, hr11, rfl, hb, hx⟩ := hrel
    have HB := Lib.hid hb
    clear hb
    by_cases hlt : r ≤ 10
    · have htl := blkN_length K s hK.out hs (r - 1) (by omega)
      have HN : Hid (blkN K s r = roundS K (blkN K s (r - 1)) r) := Lib.hid (by
        obtain ⟨r', rfl⟩ : ∃ r', r = r' + 1 := ⟨r - 1, by omega⟩
        rfl)
      generalize blkN K s (r - 1) = t at *
      have hIt := Lib.hid (show (Try.prog.info? 56).map (·.size) = some (bcells t).size by rw [bcells_size, htl]; exact info_b16)
      have hZt := Lib.hid (show (bcells z16).size = (bcells t).size by rw [bcells_size, bcells_size, htl, z16_length])
      go_upto_region 10 with (first
        | (refine wpList_load_row rfl _ _ rfl w.heap.size rfl _ _ _ _ HB.out und_b16 rfl hIt.out ?_)
        | (refine wpList_store_row rfl _ _ _ rfl wr.heap.size (bcells t) rfl rfl _ _ (heap_alloc_new wr _) hIt.out hZt.out (bcells_all _) ?_))
      obtain ⟨w4, hw4⟩ : ∃ w4, (wr.alloc (Obj.cells (bcells z16) 56)).setRow wr.heap.size (bcells t) = w4 := ⟨_, rfl⟩
      have hb8 : w4.heap[wr.heap.size]? = some (.cells (bcells t) 56 (0, 0)) := by rw [← hw4]; exact setRow_get (heap_alloc_new wr _)
      have hx4 : Ext wr w4 := by rw [← hw4]; exact below_setRow ((Ext.refl wr).alloc _) (Nat.le_refl _) _
      have hbB := hx4.keep HB.out
      have hxw := hx.trans hx4
      have hBlt : w.heap.size < wr.heap.size := blk_lt HB.out
      rw [hw4]
      clear hw4 hz
      obtain ⟨W8, hW8⟩ : ∃ W8, wr.heap.size = W8 := ⟨_, rfl⟩
      rw [hW8] at hb8 hBlt ⊢
      have K8 := Lib.hid hb8; have KB := Lib.hid hbB; have KX := Lib.hid hxw
      clear hb8 hbB hxw hx4 hW8 HB hx
      go_wp2
      go_loopw [35] (fun i wr => ∃ k : Nat, k ≤ 16 ∧ i = .int .i64 k ∧ wr.heap[w.heap.size]? = some (.cells (bcells (subK t k)) 56 (0, 0)) ∧ wr.heap[W8]? = some (.cells (bcells t) 56 (0, 0)) ∧ Ext w wr) (fun i _ => 16 - (intOf i).toNat)
      case atStart => exact ⟨0, by omega, rfl, by rw [show subK t 0 = t by simp [subK]]; exact KB.out, K8.out, KX.out⟩
      case round =>
        clear K8 KB KX
        obtain ⟨k, hk, rfl, hb, hb8, hx⟩ := hrel
        have HB := Lib.hid hb; have H8 := Lib.hid hb8
        clear hb hb8
        by_cases hlk : k < 16
        · obtain ⟨m, hm4⟩ : ∃ m : Nat, (k : Int) % 4 = (m : Int) := ⟨k % 4, by omega⟩
          obtain ⟨idx, hidx⟩ : ∃ idx : Nat, ((k : Int) + 4 * (m : Int)) % 16 = (idx : Int) := ⟨(k + 4 * m) % 16, by omega⟩
          have hidn : idx = (k + 4 * (k % 4)) % 16 := by omega
          have hi16 : (idx : Int) < 16 := by omega
          have hk16 : (k : Int) < 16 := by omega
          have hx8 := cell_blk (i := idx) H8.out (bcells_at t idx (by omega))
          rw [show t[idx]'(by omega) = t.getD idx 0 by simp [List.getD, show idx < t.length by omega]] at hx8
          have hbx := (HC.out.ext hx).box (t.getD idx 0)
          have HS := Lib.hid (subK_set t htl k hlk)
          rw [← hidn] at HS
          have hcc : ∃ c0, wr.cell? ⟨w.heap.size, k, none⟩ = some c0 := ⟨_, cell_blk HB.out (bcells_at _ k (by rw [subK_length t htl k hk]; exact hlk))⟩
          obtain ⟨c0, hc0⟩ := hcc
          have htm : (k : Int).tmod 4 = (m : Int) := by rw [Int.tmod_eq_emod_of_nonneg (by omega)]; exact hm4
          have hwm : IntKind.i64.wrap (4 * (m : Int)) = 4 * (m : Int) := by rw [IntKind.wrap_i64]; omega
          have hwa : IntKind.i64.wrap ((k : Int) + 4 * (m : Int)) = (k : Int) + 4 * (m : Int) := by rw [IntKind.wrap_i64]; omega
          have hti : ((k : Int) + 4 * (m : Int)).tmod 16 = (idx : Int) := by rw [Int.tmod_eq_emod_of_nonneg (by omega)]; exact hidx
          clear hidn
          generalize t.getD idx 0 = x at *
          have hxl := x.toNat_lt
          have hxi : (x.toNat : Int) < 256 := by omega
          go_wp2
          refine Loud.wp_region_weave 15 wr (Loud.sps [.val (.int .i64 (k : Int)), .val (.pointer (some ⟨c, 0, none⟩)), .val (.int .i64 (k : Int)), .val (.int .i64 (k : Int)), .val (.int .i64 (m : Int)), .val (.int .i64 (4 * (m : Int))), .val (.int .i64 ((k : Int) + 4 * (m : Int))), .val (.int .i64 (idx : Int)), .val (.pointer (some ⟨W8, idx, none⟩)), .val (.int .u8 (x.toNat : Int)), .val (.pointer (some ⟨c, 0, none⟩)), .val (.pointer (some ⟨c, 176, none⟩)), .val (.pointer (some ⟨c, 176 + x.toNat, none⟩)), .val (.int .u8 ((boxO x).toNat : Int)), .val (.pointer (some ⟨w.heap.size, k, none⟩))]) (by kernel_rfl) (by kernel_rfl) (by show Ext _ _; repeat (first | exact Ext.refl _ | assumption | (with_reducible refine Ext.drew ?_) | (with_reducible refine Ext.drewN ?_ _) | (with_reducible refine Ext.alloc ?_ _) | (refine Ext.trans ?_ (by assumption)))) (Loud.sps_st _) ?wAx1 ?whAx1 ?whSx1 ?whFx1
          case whAx1 => intro u K hK; simp only [List.take_succ_cons, List.take_zero, Loud.puts]; go_simp; exact hK
          case whSx1 =>
            simp only [List.take_succ_cons, List.take_zero, Loud.stepsW]
            refine ⟨?wsx1_0, ?wsx1_1, ?wsx1_2, ?wsx1_3, ?wsx1_4, ?wsx1_5, ?wsx1_6, ?wsx1_7, ?wsx1_8, ?wsx1_9, ?wsx1_10, ?wsx1_11, ?wsx1_12, ?wsx1_13, ?wsx1_14, trivial⟩
            case wsx1_0 =>
              intro u β wq hq h
              repeat (obtain ⟨h1, h⟩ := h; first | (replace h1 := h1 rfl; simp only [go_sem] at h1; try (obtain ⟨h1, h1b⟩ := h1)) | (have hno := (h1 : Region.binds _ _ = true → _); clear hno h1))
              refine Or.inl ⟨rfl, fun K hK => ?_⟩
              go_simp
              exact hK _ 0 _ (Ext.refl _) rfl
            case wsx1_1 =>
              intro u β wq hq h
              repeat (obtain ⟨h1, h⟩ := h; first | (replace h1 := h1 rfl; simp only [go_sem] at h1; try (obtain ⟨h1, h1b⟩ := h1)) | (have hno := (h1 : Region.binds _ _ = true → _); clear hno h1))
              refine Or.inl ⟨rfl, fun K hK => ?_⟩
              go_simp
              exact hK _ 0 _ (Ext.refl _) rfl
            case wsx1_2 =>
              intro u β wq hq h
              repeat (obtain ⟨h1, h⟩ := h; first | (replace h1 := h1 rfl; simp only [go_sem] at h1; try (obtain ⟨h1, h1b⟩ := h1)) | (have hno := (h1 : Region.binds _ _ = true → _); clear hno h1))
              refine Or.inl ⟨rfl, fun K hK => ?_⟩
              go_simp
              exact hK _ 0 _ (Ext.refl _) rfl
            case wsx1_3 =>
              intro u β wq hq h
              repeat (obtain ⟨h1, h⟩ := h; first | (replace h1 := h1 rfl; simp only [go_sem] at h1; try (obtain ⟨h1, h1b⟩ := h1)) | (have hno := (h1 : Region.binds _ _ = true → _); clear hno h1))
              refine Or.inl ⟨rfl, fun K hK => ?_⟩
              go_simp
              exact hK _ 0 _ (Ext.refl _) rfl
            case wsx1_4 =>
              intro u β wq hq h
              repeat (obtain ⟨h1, h⟩ := h; first | (replace h1 := h1 rfl; simp only [go_sem] at h1; try (obtain ⟨h1, h1b⟩ := h1)) | (have hno := (h1 : Region.binds _ _ = true → _); clear hno h1))
              refine Or.inl ⟨rfl, fun K hK => ?_⟩
              go_simp
              exact hK _ 0 _ (Ext.refl _) rfl
            case wsx1_5 =>
              intro u β wq hq h
              repeat (obtain ⟨h1, h⟩ := h; first | (replace h1 := h1 rfl; simp only [go_sem] at h1; try (obtain ⟨h1, h1b⟩ := h1)) | (have hno := (h1 : Region.binds _ _ = true → _); clear hno h1))
              refine Or.inl ⟨rfl, fun K hK => ?_⟩
              go_simp
              exact hK _ 0 _ (Ext.refl _) rfl
            case wsx1_6 =>
              intro u β wq hq h
              repeat (obtain ⟨h1, h⟩ := h; first | (replace h1 := h1 rfl; simp only [go_sem] at h1; try (obtain ⟨h1, h1b⟩ := h1)) | (have hno := (h1 : Region.binds _ _ = true → _); clear hno h1))
              refine Or.inl ⟨rfl, fun K hK => ?_⟩
              go_simp
              exact hK _ 0 _ (Ext.refl _) rfl
            case wsx1_7 =>
              intro u β wq hq h
              repeat (obtain ⟨h1, h⟩ := h; first | (replace h1 := h1 rfl; simp only [go_sem] at h1; try (obtain ⟨h1, h1b⟩ := h1)) | (have hno := (h1 : Region.binds _ _ = true → _); clear hno h1))
              refine Or.inl ⟨rfl, fun K hK => ?_⟩
              go_simp
              exact hK _ 0 _ (Ext.refl _) rfl
            case wsx1_8 =>
              intro u β wq hq h
              repeat (obtain ⟨h1, h⟩ := h; first | (replace h1 := h1 rfl; simp only [go_sem] at h1; try (obtain ⟨h1, h1b⟩ := h1)) | (have hno := (h1 : Region.binds _ _ = true → _); clear hno h1))
              refine Or.inl ⟨rfl, fun K hK => ?_⟩
              go_simp
              exact hK _ 0 _ (Ext.refl _) rfl
            case wsx1_9 =>
              intro u β wq hq h
              repeat (obtain ⟨h1, h⟩ := h; first | (replace h1 := h1 rfl; simp only [go_sem] at h1; try (obtain ⟨h1, h1b⟩ := h1)) | (have hno := (h1 : Region.binds _ _ = true → _); clear hno h1))
              refine Or.inl ⟨rfl, fun K hK => ?_⟩
              have hqc := hq.cell_of hx8
              go_simp
              exact hK _ 0 _ (Ext.refl _) rfl
            case wsx1_10 =>
              intro u β wq hq h
              repeat (obtain ⟨h1, h⟩ := h; first | (replace h1 := h1 rfl; simp only [go_sem] at h1; try (obtain ⟨h1, h1b⟩ := h1)) | (have hno := (h1 : Region.binds _ _ = true → _); clear hno h1))
              refine Or.inl ⟨rfl, fun K hK => ?_⟩
              go_simp
              exact hK _ 0 _ (Ext.refl _) rfl
            case wsx1_11 =>
              intro u β wq hq h
              repeat (obtain ⟨h1, h⟩ := h; first | (replace h1 := h1 rfl; simp only [go_sem] at h1; try (obtain ⟨h1, h1b⟩ := h1)) | (have hno := (h1 : Region.binds _ _ = true → _); clear hno h1))
              refine Or.inl ⟨rfl, fun K hK => ?_⟩
              go_simp
              exact hK _ 0 _ (Ext.refl _) rfl
            case wsx1_12 =>
              intro u β wq hq h
              repeat (obtain ⟨h1, h⟩ := h; first | (replace h1 := h1 rfl; simp only [go_sem] at h1; try (obtain ⟨h1, h1b⟩ := h1)) | (have hno := (h1 : Region.binds _ _ = true → _); clear hno h1))
              refine Or.inl ⟨rfl, fun K hK => ?_⟩
              go_simp
              exact hK _ 0 _ (Ext.refl _) rfl
            case wsx1_13 =>
              intro u β wq hq h
              repeat (obtain ⟨h1, h⟩ := h; first | (replace h1 := h1 rfl; simp only [go_sem] at h1; try (obtain ⟨h1, h1b⟩ := h1)) | (have hno := (h1 : Region.binds _ _ = true → _); clear hno h1))
              refine Or.inl ⟨rfl, fun K hK => ?_⟩
              have hqc := hq.cell_of hbx
              go_simp
              exact hK _ 0 _ (Ext.refl _) rfl
            case wsx1_14 =>
              intro u β wq hq h
              repeat (obtain ⟨h1, h⟩ := h; first | (replace h1 := h1 rfl; simp only [go_sem] at h1; try (obtain ⟨h1, h1b⟩ := h1)) | (have hno := (h1 : Region.binds _ _ = true → _); clear hno h1))
              refine Or.inl ⟨rfl, fun K hK => ?_⟩
              go_simp
              exact hK _ 0 _ (Ext.refl _) rfl
          intro u β w5 hq h
          have h0 := h 0 (by omega)
          have h1 := h 1 (by omega)
          have h2 := h 2 (by omega)
          have h3 := h 3 (by omega)
          have h4 := h 4 (by omega)
          have h5 := h 5 (by omega)
          have h6 := h 6 (by omega)
          have h7 := h 7 (by omega)
          have h8 := h 8 (by omega)
          have h9 := h 9 (by omega)
          have h10 := h 10 (by omega)
          have h11 := h 11 (by omega)
          have h12 := h 12 (by omega)
          have h13 := h 13 (by omega)
          have h14 := h 14 (by omega)
          clear h
          simp only [go_sem] at h0 h1 h2 h3 h4 h5 h6 h7 h8 h9 h10 h11 h12 h13 h14
          simp only [List.drop_succ_cons, List.drop_zero]
          rw [h14]
          have hbq := Lib.hid (hq.keep HB.out)
          have h8q := Lib.hid (hq.keep H8.out)
          have hc1 := hq.cell_of hc0
          have hf1 : w5.frozen? ⟨w.heap.size, k, none⟩ = false := frozen_blk hbq.out
          have hxq := hx.trans hq
          try rw [h13]
          go_wp2
          go_roundw
          case measure => simp [intOf]; omega
          case rel =>
            refine ⟨k + 1, by omega, by go_num, ?_, ?_, hxq.setCell (Nat.le_refl _) _⟩
            · rw [heap_setCell_same _ hbq.out, bcells_set, HS.out]
            · rw [heap_setCell_other _ _ _ (by show W8 ≠ w.heap.size; omega)]; exact h8q.out
        · obtain rfl : k = 16 := by omega
          rw [subK_all t htl] at HB
          have HX := hx
          clear H8
          by_cases hr10 : r < 10
          · go_wp2
            obtain ⟨wo, hwo⟩ : ∃ x, x = wr := ⟨_, rfl⟩
            subst hwo
            go_loopw [10] (fun i wr => ∃ j : Nat, j ≤ 4 ∧ i = .int .i64 (4 * (j : Int)) ∧ wr.heap[w.heap.size]? = some (.cells (bcells (mixC [2, 3, 1, 1] (subS t) j)) 56 (0, 0)) ∧ Ext w wr) (fun i _ => 16 - (intOf i).toNat)
            case atStart => exact ⟨0, by omega, rfl, HB.out, hx⟩
            case round =>
              clear HB HX hx
              obtain ⟨j, hj, rfl, hb, hx⟩ := hrel
              have HB := Lib.hid hb
              clear hb
              have HX := hx
              by_cases hlj : j < 4
              · have hsl := slice16_4 w.heap.size j hlj
                have hml := mixC_length [2, 3, 1, 1] (subS t) (subS_length t) j hj
                have HM : Hid (mixC [2, 3, 1, 1] (subS t) (j + 1) = splice (mixC [2, 3, 1, 1] (subS t) j) (4 * j) (mixL [2, 3, 1, 1] (((mixC [2, 3, 1, 1] (subS t) j).drop (4 * j)).take 4))) := Lib.hid rfl
                generalize mixC [2, 3, 1, 1] (subS t) j = u at *
                go_wp2_with (go_at_call 42; refine (GM.out w.heap.size (4 * j) _ u wr HB.out (by omega)).mono ?_; rintro e w6 ⟨rfl, hb6, hbel6⟩; have HB6 := Lib.hid hb6; have hx6 : Ext w w6 := hx.trans_below hbel6; clear hb6 hbel6)
                go_roundw
                case measure => simp [intOf]; omega
                case rel =>
                  repeat apply Exists.intro
                  refine ⟨?_, rfl⟩
                  exact ⟨j + 1, by omega, by go_num, by rw [HM.out]; exact HB6.out, hx6⟩
              · obtain rfl : j = 4 := by omega
                have hml := mixC_length [2, 3, 1, 1] (subS t) (subS_length t) 4 (by omega)
                go_wp2_with (go_at_call 41; refine (GA.out w.heap.size (mixC [2, 3, 1, 1] (subS t) 4) r _ (HC.out.ext HX) hcl hml hlt HB.out).mono ?_; rintro e w6 ⟨rfl, hb6, hbel6⟩; have HB6 := Lib.hid hb6; have hx6 : Ext w w6 := HX.trans_below hbel6; clear hb6 hbel6)
                go_roundw
                case measure => simp [intOf]; omega
                case rel => exact ⟨r + 1, by omega, by omega, by go_num, by rw [show r + 1 - 1 = r by omega, HN.out, roundS, if_pos hr10]; exact HB6.out, hx6⟩
          · go_wp2
            obtain ⟨wo, hwo⟩ : ∃ x, x = wr := ⟨_, rfl⟩
            subst hwo
            go_loopw [10] (fun i wr => i = .int .i64 0 ∧ wr.heap[w.heap.size]? = some (.cells (bcells (subS t)) 56 (0, 0)) ∧ Ext w wr) (fun _ _ => 0)
            case atStart => exact ⟨rfl, HB.out, hx⟩
            case round =>
              clear HB HX hx
              obtain ⟨rfl, hb, hx⟩ := hrel
              have HB := Lib.hid hb
              clear hb
              have HX := hx
              go_wp2_with (go_at_call 41; refine (GA.out w.heap.size (subS t) r _ (HC.out.ext HX) hcl (subS_length t) hlt HB.out).mono ?_; rintro e w6 ⟨rfl, hb6, hbel6⟩; have HB6 := Lib.hid hb6; have hx6 : Ext w w6 := HX.trans_below hbel6; clear hb6 hbel6)
              go_roundw
              case measure => simp [intOf]; omega
              case rel => exact ⟨r + 1, by omega, by omega, by go_num, by rw [show r + 1 - 1 = r by omega, HN.out, roundS, if_neg hr10]; exact HB6.out, hx6⟩
    · obtain rfl : r = 11 := by omega
      have htl := blkN_length K s hK.out hs 10 (by omega)
      have HE : Hid (encL K s = blkN K s 10) := Lib.hid rfl
      rw [show 11 - 1 = 10 from rfl] at HB
      generalize blkN K s 10 = t at *
      have kc := fun c => to_str_of (c := c) (n := 16) HB.out htl
      clear htl
      go_wp2
      go_returns
      exact ⟨by rw [HE.out]; rfl, hx⟩
end Go.Proofs.Ytgncnplgjhaojaa
