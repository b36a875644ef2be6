/- Contracts: layer 4, a block ciphered. -/
import Derived.Test.YtbacamepmilmhaaMixed
import Derived.Test.YtbacamepmilmhaaWord
namespace Go.Proofs.Ytbacamepmilmhaa
open Go Go.RowKit

theorem zero_b16 (w : World) : Sem.run Try.prog (zeroValue 127) w = .ok (.agg (bcells (List.replicate 16 0))) w := by kernel_rfl
theorem info_b16 : (Try.prog.info? 127).map (·.size) = some 16 := by kernel_rfl
theorem und_b16 : Try.prog.underlying 127 = some (.array 16 5) := by kernel_rfl
def z16 : List UInt8 := List.replicate 16 0
theorem zero_b16' (w : World) : Sem.run Try.prog (zeroValue 127) w = .ok (.agg (bcells z16)) w := zero_b16 w
theorem z16_length : z16.length = 16 := List.length_replicate
/-- Boxes, rows turned. -/
def subS (s : List UInt8) : List UInt8 := (List.range 16).map fun i => boxO (s.getD ((i + 4 * (i % 4)) % 16) 0)
@[simp] theorem subS_length (s : List UInt8) : (subS s).length = 16 := by simp [subS]
/-- The first j columns mixed. -/
def mixC (f s : List UInt8) : Nat → List UInt8
  | 0 => s
  | j + 1 => splice (mixC f s j) (4 * j) (mixL f (((mixC f s j).drop (4 * j)).take 4))
theorem mixC_length (f s : List UInt8) (hs : s.length = 16) : ∀ j, j ≤ 4 → (mixC f s j).length = 16
  | 0, _ => hs
  | j + 1, h => by
    have := mixC_length f s hs j (by omega)
    rw [mixC, splice_length _ _ _ (by rw [this, mixL_length]; omega), this]
/-- A round. -/
def roundS (K s : List UInt8) (r : Nat) : List UInt8 := xorL (if r < 10 then mixC [2, 3, 1, 1] (subS s) 4 else subS s) (rkey K r)
/-- What a block is behind r rounds. -/
def blkN (K s : List UInt8) : Nat → List UInt8
  | 0 => xorL s (rkey K 0)
  | r + 1 => roundS K (blkN K s r) (r + 1)
theorem xorL_len (a b : List UInt8) (ha : a.length = 16) (hb : b.length = 16) : (xorL a b).length = 16 := by rw [xorL_length a b (by omega)]; exact ha
theorem blkN_length (K s : List UInt8) (hK : K.length = 176) (hs : s.length = 16) : ∀ r, r ≤ 10 → (blkN K s r).length = 16
  | 0, _ => xorL_len _ _ hs (rkey_length K hK 0 (by omega))
  | r + 1, h => by
    have hm := mixC_length [2, 3, 1, 1] (subS (blkN K s r)) (subS_length _) 4 (by omega)
    unfold blkN roundS
    split
    · exact xorL_len _ _ hm (rkey_length K hK _ h)
    · exact xorL_len _ _ (subS_length _) (rkey_length K hK _ h)
def encL (K s : List UInt8) : List UInt8 := blkN K s 10
/-- The first k bytes boxed. -/
def subK (s : List UInt8) (k : Nat) : List UInt8 := (subS s).take k ++ s.drop k
theorem subK_length (s : List UInt8) (hs : s.length = 16) (k : Nat) (hk : k ≤ 16) : (subK s k).length = 16 := by
  unfold subK; rw [List.length_append, List.length_take, subS_length, List.length_drop]; omega
theorem subK_set (s : List UInt8) (hs : s.length = 16) (k : Nat) (hk : k < 16) : (subK s k).set k (boxO (s.getD ((k + 4 * (k % 4)) % 16) 0)) = subK s (k + 1) := by
  unfold subK
  rw [List.set_append_right _ _ (by rw [List.length_take, subS_length]; omega), List.length_take, subS_length, Nat.min_eq_left (by omega), Nat.sub_self]
  rw [List.take_succ_eq_append_getElem (by rw [subS_length]; exact hk), List.drop_eq_getElem_cons (by omega), List.set_cons_zero, List.append_assoc]
  simp [subS]
theorem subK_all (s : List UInt8) (hs : s.length = 16) : subK s 16 = subS s := by
  unfold subK
  rw [List.take_of_length_le (by simp), List.drop_of_length_le (by omega), List.append_nil]
set_option maxRecDepth 100000 in
set_option maxHeartbeats 1000000 in
theorem Block_no (c : Nat) (K s : List UInt8) (w : World) (hci : CI w c K) (h : s.length ≠ 16) (_hl : s.length ≤ 140737488351232) :
    Calls Try.prog 100 #[.pointer (some ⟨c, 0, none⟩), .string (bs s)] w fun e w' => e = .returned (.tuple #[.string (bs []), .bool false]) ∧ w = w' := by
  have hmd := hci.made
  have hne : ((s.length : Int) != 16) = true := by simp; omega
  clear hci
  go_enter Try.func100, Try.ntmps100
  go_wp2
  go_returns
  exact ⟨rfl, rfl⟩
theorem slice16_4 (c j : Nat) (hj : j < 4) (W : World) : Sem.run Try.prog (Instr.sliceAt 127 (.pointer (some ⟨c, 0, none⟩)) (some (.int .i64 (4 * (j : Int)))) (some (.int .i64 (4 * (j : Int) + 4))) none) W = .ok (.slice (some ⟨c, 4 * j, none⟩) 4 (16 - 4 * j)) W := by
  rcases (by omega : j = 0 ∨ j = 1 ∨ j = 2 ∨ j = 3) with rfl | rfl | rfl | rfl <;> kernel_rfl
theorem splice_z16 (s : List UInt8) (hs : s.length = 16) : splice z16 0 (s.take 16) = s := by
  rw [List.take_of_length_le (by omega)]
  unfold splice
  rw [List.take_zero, List.nil_append, List.drop_of_length_le (by rw [z16_length]; omega), List.append_nil]
set_option maxRecDepth 100000 in
set_option maxHeartbeats 4000000 in
theorem Block_yes (c : Nat) (K s : List UInt8) (w : World) (hci : CI w c K) (hs : s.length = 16) :
    Calls Try.prog 100 #[.pointer (some ⟨c, 0, none⟩), .string (bs s)] w fun e w' => e = .returned (.tuple #[.string (bs (encL K s)), .bool true]) ∧ Ext w w' := by
  have hmd := hci.made
  have hcl := blk_lt hci.2
  have hK := Lib.hid hci.1
  have HC := Lib.hid hci
  have hz := zero_b16'
  have HI := Lib.hid info_b16
  have HSP := Lib.hid (splice_z16 s hs)
  have GA := Lib.hid (fun (g : Nat) (t : List UInt8) (r : Nat) (W : World) (h1 : CI W c K) (h2 : c < g) (h3 : t.length = 16) (h4 : r ≤ 10) (h5 : W.heap[g]? = some (.cells (bcells t) 127 (0, 0))) => adds_any c K g t r W h1 h2 h3 h4 h5)
  have GA0 : Hid (∀ (g : Nat) (t : List UInt8) (W : World) (h1 : CI W c K) (h2 : c < g) (h3 : t.length = 16) (h5 : W.heap[g]? = some (.cells (bcells t) 127 (0, 0))), Calls Try.prog 119 #[.pointer (some ⟨c, 0, none⟩), .pointer (some ⟨g, 0, none⟩), .int .i64 0] W fun e w' => e = .returned (.tuple #[]) ∧ w'.heap[g]? = some (.cells (bcells (xorL t (rkey K 0))) 127 (0, 0)) ∧ Below g W w') := Lib.hid fun g t W h1 h2 h3 h5 => adds_any c K g t 0 W h1 h2 h3 (by omega) h5
  have GM : Hid (∀ (g o cap : Nat) (t : List UInt8) (W : World) (h1 : W.heap[g]? = some (.cells (bcells t) 127 (0, 0))) (h2 : o + 4 ≤ t.length), Calls Try.prog 120 #[.slice (some ⟨g, o, none⟩) 4 cap, .agg #[.int .u8 2, .int .u8 3, .int .u8 1, .int .u8 1]] W fun e w' => e = .returned (.tuple #[]) ∧ w'.heap[g]? = some (.cells (bcells (splice t o (mixL [2, 3, 1, 1] ((t.drop o).take 4)))) 127 (0, 0)) ∧ Below g W w') := Lib.hid fun g o cap t W h1 h2 => mixed_any g o cap t [2, 3, 1, 1] 2 3 1 1 rfl _ W h1 h2
  clear hci
  go_enter Try.func100, Try.ntmps100
  go_upto_region 6 with (first
    | (refine wpl_copy_str rfl rfl und_bytes info_u8 rfl rfl (L := z16) (heap_alloc_new w _) (by rw [z16_length]; decide) ?_; intro w1 hb1 _ hbel1; rw [HSP.out] at hb1; have HB1 := Lib.hid hb1; have hx1 : Ext w w1 := ((Ext.refl w).alloc _).trans_below hbel1; clear hb1 hbel1)
    | (go_at_call 119; refine (GA0.out w.heap.size s w1 (HC.out.ext hx1) hcl hs HB1.out).mono ?_; rintro e w2 ⟨rfl, hb2, hbel2⟩; have HB2 := Lib.hid hb2; have hx2 : Ext w w2 := hx1.trans_below hbel2; clear hb2 hbel2))
  have HX2 := Lib.hid hx2
  clear hx2 hx1 hz
  have hz := zero_b16'
  go_wp2
  go_loopw [7] (fun i wr => ∃ r : Nat, 1 ≤ r ∧ r ≤ 11 ∧ i = .int .i64 r ∧ wr.heap[w.heap.size]? = some (.cells (bcells (blkN K s (r - 1))) 127 (0, 0)) ∧ Ext w wr) (fun i _ => 11 - (intOf i).toNat)
  case atStart => exact ⟨1, by omega, by omega, rfl, HB2.out, HX2.out⟩
  case round =>
    obtain ⟨r, hr1, hr11, rfl, hb, hx⟩ := hrel
    have HB := Lib.hid hb
    clear hb
    by_cases hlt : r ≤ 10
    · have htl := blkN_length K s hK.out hs (r - 1) (by omega)
      have HN : Hid (blkN K s r = roundS K (blkN K s (r - 1)) r) := Lib.hid (by
        obtain ⟨r', rfl⟩ : ∃ r', r = r' + 1 := ⟨r - 1, by omega⟩
        rfl)
      generalize blkN K s (r - 1) = t at *
      have hIt := Lib.hid (show (Try.prog.info? 127).map (·.size) = some (bcells t).size by rw [bcells_size, htl]; exact info_b16)
      have hZt := Lib.hid (show (bcells z16).size = (bcells t).size by rw [bcells_size, bcells_size, htl, z16_length])
      go_upto_region 10 with (first
        | (refine wpList_load_row rfl _ _ rfl w.heap.size rfl _ _ _ _ HB.out und_b16 rfl hIt.out ?_)
        | (refine wpList_store_row rfl _ _ _ rfl wr.heap.size (bcells t) rfl rfl _ _ (heap_alloc_new wr _) hIt.out hZt.out (bcells_all _) ?_))
      obtain ⟨w4, hw4⟩ : ∃ w4, (wr.alloc (Obj.cells (bcells z16) 127)).setRow wr.heap.size (bcells t) = w4 := ⟨_, rfl⟩
      have hb8 : w4.heap[wr.heap.size]? = some (.cells (bcells t) 127 (0, 0)) := by rw [← hw4]; exact setRow_get (heap_alloc_new wr _)
      have hx4 : Ext wr w4 := by rw [← hw4]; exact below_setRow ((Ext.refl wr).alloc _) (Nat.le_refl _) _
      have hbB := hx4.keep HB.out
      have hxw := hx.trans hx4
      have hBlt : w.heap.size < wr.heap.size := blk_lt HB.out
      rw [hw4]
      clear hw4 hz
      obtain ⟨W8, hW8⟩ : ∃ W8, wr.heap.size = W8 := ⟨_, rfl⟩
      rw [hW8] at hb8 hBlt ⊢
      have K8 := Lib.hid hb8; have KB := Lib.hid hbB; have KX := Lib.hid hxw
      clear hb8 hbB hxw hx4 hW8 HB hx
      go_wp2
      go_loopw [35] (fun i wr => ∃ k : Nat, k ≤ 16 ∧ i = .int .i64 k ∧ wr.heap[w.heap.size]? = some (.cells (bcells (subK t k)) 127 (0, 0)) ∧ wr.heap[W8]? = some (.cells (bcells t) 127 (0, 0)) ∧ Ext w wr) (fun i _ => 16 - (intOf i).toNat)
      case atStart => exact ⟨0, by omega, rfl, by rw [show subK t 0 = t by simp [subK]]; exact KB.out, K8.out, KX.out⟩
      case round =>
        clear K8 KB KX
        obtain ⟨k, hk, rfl, hb, hb8, hx⟩ := hrel
        have HB := Lib.hid hb; have H8 := Lib.hid hb8
        clear hb hb8
        by_cases hlk : k < 16
        · obtain ⟨m, hm4⟩ : ∃ m : Nat, (k : Int) % 4 = (m : Int) := ⟨k % 4, by omega⟩
          obtain ⟨idx, hidx⟩ : ∃ idx : Nat, ((k : Int) + 4 * (m : Int)) % 16 = (idx : Int) := ⟨(k + 4 * m) % 16, by omega⟩
          have hidn : idx = (k + 4 * (k % 4)) % 16 := by omega
          have hi16 : (idx : Int) < 16 := by omega
          have hk16 : (k : Int) < 16 := by omega
          have hx8 := cell_blk (i := idx) H8.out (bcells_at t idx (by omega))
          rw [show t[idx]'(by omega) = t.getD idx 0 by simp [List.getD, show idx < t.length by omega]] at hx8
          have hbx := (HC.out.ext hx).box (t.getD idx 0)
          have HS := Lib.hid (subK_set t htl k hlk)
          rw [← hidn] at HS
          have hcc : ∃ c0, wr.cell? ⟨w.heap.size, k, none⟩ = some c0 := ⟨_, cell_blk HB.out (bcells_at _ k (by rw [subK_length t htl k hk]; exact hlk))⟩
          obtain ⟨c0, hc0⟩ := hcc
          have htm : (k : Int).tmod 4 = (m : Int) := by rw [Int.tmod_eq_emod_of_nonneg (by omega)]; exact hm4
          have hwm : IntKind.i64.wrap (4 * (m : Int)) = 4 * (m : Int) := by rw [IntKind.wrap_i64]; omega
          have hwa : IntKind.i64.wrap ((k : Int) + 4 * (m : Int)) = (k : Int) + 4 * (m : Int) := by rw [IntKind.wrap_i64]; omega
          have hti : ((k : Int) + 4 * (m : Int)).tmod 16 = (idx : Int) := by rw [Int.tmod_eq_emod_of_nonneg (by omega)]; exact hidx
          clear hidn
          generalize t.getD idx 0 = x at *
          have hxl := x.toNat_lt
          have hxi : (x.toNat : Int) < 256 := by omega
          go_wp2
          refine Loud.wp_region_weave 15 wr (Loud.sps [.val (.int .i64 (k : Int)), .val (.pointer (some ⟨c, 0, none⟩)), .val (.int .i64 (k : Int)), .val (.int .i64 (k : Int)), .val (.int .i64 (m : Int)), .val (.int .i64 (4 * (m : Int))), .val (.int .i64 ((k : Int) + 4 * (m : Int))), .val (.int .i64 (idx : Int)), .val (.pointer (some ⟨W8, idx, none⟩)), .val (.int .u8 (x.toNat : Int)), .val (.pointer (some ⟨c, 0, none⟩)), .val (.pointer (some ⟨c, 176, none⟩)), .val (.pointer (some ⟨c, 176 + x.toNat, none⟩)), .val (.int .u8 ((boxO x).toNat : Int)), .val (.pointer (some ⟨w.heap.size, k, none⟩))]) (by kernel_rfl) (by kernel_rfl) (by show Ext _ _; repeat (first | exact Ext.refl _ | assumption | (with_reducible refine Ext.drew ?_) | (with_reducible refine Ext.drewN ?_ _) | (with_reducible refine Ext.alloc ?_ _) | (refine Ext.trans ?_ (by assumption)))) (Loud.sps_st _) ?wAx1 ?whAx1 ?whSx1 ?whFx1
          case whAx1 => intro u K hK; simp only [List.take_succ_cons, List.take_zero, Loud.puts]; go_simp; exact hK
          case whSx1 =>
            simp only [List.take_succ_cons, List.take_zero, Loud.stepsW]
            refine ⟨?wsx1_0, ?wsx1_1, ?wsx1_2, ?wsx1_3, ?wsx1_4, ?wsx1_5, ?wsx1_6, ?wsx1_7, ?wsx1_8, ?wsx1_9, ?wsx1_10, ?wsx1_11, ?wsx1_12, ?wsx1_13, ?wsx1_14, trivial⟩
            case wsx1_0 =>
              intro u β wq hq h
              repeat (obtain ⟨h1, h⟩ := h; first | (replace h1 := h1 rfl; simp only [go_sem] at h1; try (obtain ⟨h1, h1b⟩ := h1)) | (have hno := (h1 : Region.binds _ _ = true → _); clear hno h1))
              refine Or.inl ⟨rfl, fun K hK => ?_⟩
              go_simp
              exact hK _ 0 _ (Ext.refl _) rfl
            case wsx1_1 =>
              intro u β wq hq h
              repeat (obtain ⟨h1, h⟩ := h; first | (replace h1 := h1 rfl; simp only [go_sem] at h1; try (obtain ⟨h1, h1b⟩ := h1)) | (have hno := (h1 : Region.binds _ _ = true → _); clear hno h1))
              refine Or.inl ⟨rfl, fun K hK => ?_⟩
              go_simp
              exact hK _ 0 _ (Ext.refl _) rfl
            case wsx1_2 =>
              intro u β wq hq h
              repeat (obtain ⟨h1, h⟩ := h; first | (replace h1 := h1 rfl; simp only [go_sem] at h1; try (obtain ⟨h1, h1b⟩ := h1)) | (have hno := (h1 : Region.binds _ _ = true → _); clear hno h1))
              refine Or.inl ⟨rfl, fun K hK => ?_⟩
              go_simp
              exact hK _ 0 _ (Ext.refl _) rfl
            case wsx1_3 =>
              intro u β wq hq h
              repeat (obtain ⟨h1, h⟩ := h; first | (replace h1 := h1 rfl; simp only [go_sem] at h1; try (obtain ⟨h1, h1b⟩ := h1)) | (have hno := (h1 : Region.binds _ _ = true → _); clear hno h1))
              refine Or.inl ⟨rfl, fun K hK => ?_⟩
              go_simp
              exact hK _ 0 _ (Ext.refl _) rfl
            case wsx1_4 =>
              intro u β wq hq h
              repeat (obtain ⟨h1, h⟩ := h; first | (replace h1 := h1 rfl; simp only [go_sem] at h1; try (obtain ⟨h1, h1b⟩ := h1)) | (have hno := (h1 : Region.binds _ _ = true → _); clear hno h1))
              refine Or.inl ⟨rfl, fun K hK => ?_⟩
              go_simp
              exact hK _ 0 _ (Ext.refl _) rfl
            case wsx1_5 =>
              intro u β wq hq h
              repeat (obtain ⟨h1, h⟩ := h; first | (replace h1 := h1 rfl; simp only [go_sem] at h1; try (obtain ⟨h1, h1b⟩ := h1)) | (have hno := (h1 : Region.binds _ _ = true → _); clear hno h1))
              refine Or.inl ⟨rfl, fun K hK => ?_⟩
              go_simp
              exact hK _ 0 _ (Ext.refl _) rfl
            case wsx1_6 =>
              intro u β wq hq h
              repeat (obtain ⟨h1, h⟩ := h; first | (replace h1 := h1 rfl; simp only [go_sem] at h1; try (obtain ⟨h1, h1b⟩ := h1)) | (have hno := (h1 : Region.binds _ _ = true → _); clear hno h1))
              refine Or.inl ⟨rfl, fun K hK => ?_⟩
              go_simp
              exact hK _ 0 _ (Ext.refl _) rfl
            case wsx1_7 =>
              intro u β wq hq h
              repeat (obtain ⟨h1, h⟩ := h; first | (replace h1 := h1 rfl; simp only [go_sem] at h1; try (obtain ⟨h1, h1b⟩ := h1)) | (have hno := (h1 : Region.binds _ _ = true → _); clear hno h1))
              refine Or.inl ⟨rfl, fun K hK => ?_⟩
              go_simp
              exact hK _ 0 _ (Ext.refl _) rfl
            case wsx1_8 =>
              intro u β wq hq h
              repeat (obtain ⟨h1, h⟩ := h; first | (replace h1 := h1 rfl; simp only [go_sem] at h1; try (obtain ⟨h1, h1b⟩ := h1)) | (have hno := (h1 : Region.binds _ _ = true → _); clear hno h1))
              refine Or.inl ⟨rfl, fun K hK => ?_⟩
              go_simp
              exact hK _ 0 _ (Ext.refl _) rfl
            case wsx1_9 =>
              intro u β wq hq h
              repeat (obtain ⟨h1, h⟩ := h; first | (replace h1 := h1 rfl; simp only [go_sem] at h1; try (obtain ⟨h1, h1b⟩ := h1)) | (have hno := (h1 : Region.binds _ _ = true → _); clear hno h1))
              refine Or.inl ⟨rfl, fun K hK => ?_⟩
              have hqc := hq.cell_of hx8
              go_simp
              exact hK _ 0 _ (Ext.refl _) rfl
            case wsx1_10 =>
              intro u β wq hq h
              repeat (obtain ⟨h1, h⟩ := h; first | (replace h1 := h1 rfl; simp only [go_sem] at h1; try (obtain ⟨h1, h1b⟩ := h1)) | (have hno := (h1 : Region.binds _ _ = true → _); clear hno h1))
              refine Or.inl ⟨rfl, fun K hK => ?_⟩
              go_simp
              exact hK _ 0 _ (Ext.refl _) rfl
            case wsx1_11 =>
              intro u β wq hq h
              repeat (obtain ⟨h1, h⟩ := h; first | (replace h1 := h1 rfl; simp only [go_sem] at h1; try (obtain ⟨h1, h1b⟩ := h1)) | (have hno := (h1 : Region.binds _ _ = true → _); clear hno h1))
              refine Or.inl ⟨rfl, fun K hK => ?_⟩
              go_simp
              exact hK _ 0 _ (Ext.refl _) rfl
            case wsx1_12 =>
              intro u β wq hq h
              repeat (obtain ⟨h1, h⟩ := h; first | (replace h1 := h1 rfl; simp only [go_sem] at h1; try (obtain ⟨h1, h1b⟩ := h1)) | (have hno := (h1 : Region.binds _ _ = true → _); clear hno h1))
              refine Or.inl ⟨rfl, fun K hK => ?_⟩
              go_simp
              exact hK _ 0 _ (Ext.refl _) rfl
            case wsx1_13 =>
              intro u β wq hq h
              repeat (obtain ⟨h1, h⟩ := h; first | (replace h1 := h1 rfl; simp only [go_sem] at h1; try (obtain ⟨h1, h1b⟩ := h1)) | (have hno := (h1 : Region.binds _ _ = true → _); clear hno h1))
              refine Or.inl ⟨rfl, fun K hK => ?_⟩
              have hqc := hq.cell_of hbx
              go_simp
              exact hK _ 0 _ (Ext.refl _) rfl
            case wsx1_14 =>
              intro u β wq hq h
              repeat (obtain ⟨h1, h⟩ := h; first | (replace h1 := h1 rfl; simp only [go_sem] at h1; try (obtain ⟨h1, h1b⟩ := h1)) | (have hno := (h1 : Region.binds _ _ = true → _); clear hno h1))
              refine Or.inl ⟨rfl, fun K hK => ?_⟩
              go_simp
              exact hK _ 0 _ (Ext.refl _) rfl
          intro u β w5 hq h
          have h0 := h 0 (by omega)
          have h1 := h 1 (by omega)
          have h2 := h 2 (by omega)
          have h3 := h 3 (by omega)
          have h4 := h 4 (by omega)
          have h5 := h 5 (by omega)
          have h6 := h 6 (by omega)
          have h7 := h 7 (by omega)
          have h8 := h 8 (by omega)
          have h9 := h 9 (by omega)
          have h10 := h 10 (by omega)
          have h11 := h 11 (by omega)
          have h12 := h 12 (by omega)
          have h13 := h 13 (by omega)
          have h14 := h 14 (by omega)
          clear h
          simp only [go_sem] at h0 h1 h2 h3 h4 h5 h6 h7 h8 h9 h10 h11 h12 h13 h14
          simp only [List.drop_succ_cons, List.drop_zero]
          rw [h14]
          have hbq := Lib.hid (hq.keep HB.out)
          have h8q := Lib.hid (hq.keep H8.out)
          have hc1 := hq.cell_of hc0
          have hf1 : w5.frozen? ⟨w.heap.size, k, none⟩ = false := frozen_blk hbq.out
          have hxq := hx.trans hq
          try rw [h13]
          go_wp2
          go_roundw
          case measure => simp [intOf]; omega
          case rel =>
            refine ⟨k + 1, by omega, by go_num, ?_, ?_, hxq.setCell (Nat.le_refl _) _⟩
            · rw [heap_setCell_same _ hbq.out, bcells_set, HS.out]
            · rw [heap_setCell_other _ _ _ (by show W8 ≠ w.heap.size; omega)]; exact h8q.out
        · obtain rfl : k = 16 := by omega
          rw [subK_all t htl] at HB
          have HX := hx
          clear H8
          by_cases hr10 : r < 10
          · go_wp2
            obtain ⟨wo, hwo⟩ : ∃ x, x = wr := ⟨_, rfl⟩
            subst hwo
            go_loopw [10] (fun i wr => ∃ j : Nat, j ≤ 4 ∧ i = .int .i64 (4 * (j : Int)) ∧ wr.heap[w.heap.size]? = some (.cells (bcells (mixC [2, 3, 1, 1] (subS t) j)) 127 (0, 0)) ∧ Ext w wr) (fun i _ => 16 - (intOf i).toNat)
            case atStart => exact ⟨0, by omega, rfl, HB.out, hx⟩
            case round =>
              clear HB HX hx
              obtain ⟨j, hj, rfl, hb, hx⟩ := hrel
              have HB := Lib.hid hb
              clear hb
              have HX := hx
              by_cases hlj : j < 4
              · have hsl := slice16_4 w.heap.size j hlj
                have hml := mixC_length [2, 3, 1, 1] (subS t) (subS_length t) j hj
                have HM : Hid (mixC [2, 3, 1, 1] (subS t) (j + 1) = splice (mixC [2, 3, 1, 1] (subS t) j) (4 * j) (mixL [2, 3, 1, 1] (((mixC [2, 3, 1, 1] (subS t) j).drop (4 * j)).take 4))) := Lib.hid rfl
                generalize mixC [2, 3, 1, 1] (subS t) j = u at *
                go_wp2_with (go_at_call 120; refine (GM.out w.heap.size (4 * j) _ u wr HB.out (by omega)).mono ?_; rintro e w6 ⟨rfl, hb6, hbel6⟩; have HB6 := Lib.hid hb6; have hx6 : Ext w w6 := hx.trans_below hbel6; clear hb6 hbel6)
                go_roundw
                case measure => simp [intOf]; omega
                case rel =>
                  repeat apply Exists.intro
                  refine ⟨?_, rfl⟩
                  exact ⟨j + 1, by omega, by go_num, by rw [HM.out]; exact HB6.out, hx6⟩
              · obtain rfl : j = 4 := by omega
                have hml := mixC_length [2, 3, 1, 1] (subS t) (subS_length t) 4 (by omega)
                go_wp2_with (go_at_call 119; refine (GA.out w.heap.size (mixC [2, 3, 1, 1] (subS t) 4) r _ (HC.out.ext HX) hcl hml hlt HB.out).mono ?_; rintro e w6 ⟨rfl, hb6, hbel6⟩; have HB6 := Lib.hid hb6; have hx6 : Ext w w6 := HX.trans_below hbel6; clear hb6 hbel6)
                go_roundw
                case measure => simp [intOf]; omega
                case rel => exact ⟨r + 1, by omega, by omega, by go_num, by rw [show r + 1 - 1 = r by omega, HN.out, roundS, if_pos hr10]; exact HB6.out, hx6⟩
          · go_wp2
            obtain ⟨wo, hwo⟩ : ∃ x, x = wr := ⟨_, rfl⟩
            subst hwo
            go_loopw [10] (fun i wr => i = .int .i64 0 ∧ wr.heap[w.heap.size]? = some (.cells (bcells (subS t)) 127 (0, 0)) ∧ Ext w wr) (fun _ _ => 0)
            case atStart => exact ⟨rfl, HB.out, hx⟩
            case round =>
              clear HB HX hx
              obtain ⟨rfl, hb, hx⟩ := hrel
              have HB := Lib.hid hb
              clear hb
              have HX := hx
              go_wp2_with (go_at_call 119; refine (GA.out w.heap.size (subS t) r _ (HC.out.ext HX) hcl (subS_length t) hlt HB.out).mono ?_; rintro e w6 ⟨rfl, hb6, hbel6⟩; have HB6 := Lib.hid hb6; have hx6 : Ext w w6 := HX.trans_below hbel6; clear hb6 hbel6)
              go_roundw
              case measure => simp [intOf]; omega
              case rel => exact ⟨r + 1, by omega, by omega, by go_num, by rw [show r + 1 - 1 = r by omega, HN.out, roundS, if_neg hr10]; exact HB6.out, hx6⟩
    · obtain rfl : r = 11 := by omega
      have htl := blkN_length K s hK.out hs 10 (by omega)
      have HE : Hid (encL K s = blkN K s 10) := Lib.hid rfl
      rw [show 11 - 1 = 10 from rfl] at HB
      generalize blkN K s 10 = t at *
      have kc := fun c => to_str_of (c := c) (n := 16) HB.out htl
      clear htl
      go_wp2
      go_returns
      exact ⟨by rw [HE.out]; rfl, hx⟩
end Go.Proofs.Ytbacamepmilmhaa
namespace Go.Proofs.Ytbacamepmilmhaa
open Go Go.RowKit

theorem run_loadVar_part {P : Program} (w : World) (g off : Nat) (ty : TypeId) (cs : List Value) (d : TypeDesc) (hc : ∀ j v, cs[j]? = some v → w.cell? ⟨g, off + j, none⟩ = some v)
    (hu : P.underlying ty = some d) (hd : (match d with | .struct _ | .array _ _ => true | _ => false) = true) (hi : (P.info? ty).map (·.size) = some cs.length) :
    (loadVar ty ⟨g, off, none⟩).run P w = .ok (.agg cs.toArray) w := by
  have hl : (loadCells ⟨g, off, none⟩ cs.length).run P w = .ok cs.toArray w :=
    run_loadCells_list (P := P) w ⟨g, off, none⟩ cs (fun j v hv => by
      have hadd : (⟨g, off, none⟩ : Addr).add j = ⟨g, off + j, none⟩ := by unfold Addr.add; split <;> simp_all
      rw [hadd]; exact hc j v hv)
  cases hq : P.info? ty with
  | none => simp [hq] at hi
  | some i =>
    have hs : i.size = cs.length := by simpa [hq] using hi
    have hagg : (isAgg ty).run P w = .ok true w := by
      unfold isAgg
      rw [Sem.run_bind, run_underlying hu w]
      cases d <;> simp_all
    simp [loadVar, Sem.run_bind, hagg, sizeOf, typeInfo, hq, hs, hl]
theorem wpl_load_part {P : Program} {ops : Array Oper} {rest : List Oper} {o : Oper} {a : Act} {w : World} {Q : Exit → Act → World → Prop} (hgd : o.guard = none) {ty : TypeId} {x : Operand} (ho : o.op = .load ty x)
    {g off : Nat} (hx : a.eval x = .pointer (some ⟨g, off, none⟩)) (cs : List Value) (d : TypeDesc) (hc : ∀ j v, cs[j]? = some v → w.cell? ⟨g, off + j, none⟩ = some v)
    (hu : P.underlying ty = some d) (hd : (match d with | .struct _ | .array _ _ => true | _ => false) = true) (hi : (P.info? ty).map (·.size) = some cs.length)
    (h : wpList P ops Q rest (a.put o.dst (.agg cs.toArray)) w) : wpList P ops Q (o :: rest) a w := by
  refine wpList_plain hgd fun K hK => ?_
  unfold Oper.wp execOp
  simp only [ho, hx, Instr.loadAt, Instr.sureAddr, Sem.run_bind, Sem.run_pure, Result.andThen_ok, run_loadVar_part w g off ty cs d hc hu hd hi]
  exact hK _ _ h
theorem run_index_agg {P : Program} {t e n m : Nat} {d : TypeDesc} (ht : P.underlying t = some (.array n e)) (he : P.underlying e = some d) (hd : (match d with | .struct _ | .array _ _ => true | _ => false) = true) (hi : (P.info? e).map (·.size) = some m) (cs : Array Value) (k : Nat) (hk : k < n) (w : World) :
    (Instr.index t (.agg cs) (.int .i64 (k : Int))).run P w = .ok (.agg (cs.extract (k * m) (k * m + m))) w := by
  obtain ⟨i0, hi0, hs⟩ : ∃ i0, P.info? e = some i0 ∧ i0.size = m := by
    cases hq : P.info? e with
    | none => simp [hq] at hi
    | some i => exact ⟨i, rfl, by simpa [hq] using hi⟩
  have hagg : (isAgg e).run P w = .ok true w := by
    unfold isAgg
    rw [Sem.run_bind, run_underlying he w]
    cases d <;> simp_all
  simp [Instr.index, asIntOf, run_underlying ht, hk, sizeOf, typeInfo, hi0, hs, part, hagg]
theorem bcells_extract (l : List UInt8) (i j : Nat) : (bcells l).extract i j = bcells ((l.drop i).take (j - i)) := by
  simp [bcells, List.map_take, List.map_drop]
theorem und_keys : Try.prog.underlying 128 = some (.array 11 127) := by kernel_rfl
theorem info_keys : (Try.prog.info? 128).map (·.size) = some 176 := by kernel_rfl
theorem info_strR : (Try.prog.info? 9).map (fun i => (i.zero, i.size, i.bytes)) = some (some (.string { data := #[] }), 1, 16) := by kernel_rfl
theorem und_strsR : Try.prog.underlying 22 = some (.slice 9) := by kernel_rfl
/-- A cipher's round keys, as texts. -/
def rkL (K : List UInt8) : List (List UInt8) := (List.range 11).map (rkey K)
theorem rkL_length (K : List UInt8) : (rkL K).length = 11 := by simp [rkL]
end Go.Proofs.Ytbacamepmilmhaa
namespace Go.Proofs.Ytbacamepmilmhaa
open Go Go.RowKit

theorem b8_self (b : UInt8) : b8 b.toNat = b := by unfold b8; simp
theorem un_box_all : ∀ b : Fin 256, unO (boxO (b8 b.val)) = b8 b.val := by decide +kernel
theorem box_un_all : ∀ b : Fin 256, boxO (unO (b8 b.val)) = b8 b.val := by decide +kernel
theorem box_ne_all : ∀ b : Fin 256, boxO (b8 b.val) ≠ b8 b.val := by decide +kernel
theorem un_box (b : UInt8) : unO (boxO b) = b := by
  have := un_box_all ⟨b.toNat, b.toNat_lt⟩
  simp only [b8_self] at this
  exact this
theorem box_un (b : UInt8) : boxO (unO b) = b := by
  have := box_un_all ⟨b.toNat, b.toNat_lt⟩
  simp only [b8_self] at this
  exact this
theorem box_ne (b : UInt8) : boxO b ≠ b := by
  have := box_ne_all ⟨b.toNat, b.toNat_lt⟩
  simp only [b8_self] at this
  exact this
theorem box_inj (a b : UInt8) : boxO a = boxO b ↔ a = b := ⟨fun h => by rw [← un_box a, ← un_box b, h], fun h => by rw [h]⟩
/-! ### Words -/
theorem wsN_keep (key : List UInt8) (n : Nat) : ∀ d, (wsN key (n + 1 + d)).1.getD n 0 = (wsN key (n + 1)).1.getD n 0
  | 0 => rfl
  | d + 1 => by
    rw [← wsN_keep key n d]
    have hl := wsN_length key (n + 1 + d)
    have : ∃ x r, wsN key (n + 1 + d + 1) = ((wsN key (n + 1 + d)).1 ++ [x], r) := by
      rw [wsN]
      split
      · exact ⟨_, _, rfl⟩
      · split
        · exact ⟨_, _, rfl⟩
        · exact ⟨_, _, rfl⟩
    obtain ⟨x, r, hx⟩ := this
    rw [show n + 1 + (d + 1) = n + 1 + d + 1 by omega, hx]
    simp only [List.getD]
    rw [List.getElem?_append_left (by omega)]
theorem ksW_at (key : List UInt8) (n : Nat) (hn : n < 44) : (ksW key).getD n 0 = (wsN key (n + 1)).1.getD n 0 := by
  have := wsN_keep key n (44 - (n + 1))
  rw [show n + 1 + (44 - (n + 1)) = 44 by omega] at this
  exact this
theorem wsN_last (key : List UInt8) (n : Nat) (x : UInt32) (r : UInt8) (h : wsN key (n + 1) = ((wsN key n).1 ++ [x], r)) : (wsN key (n + 1)).1.getD n 0 = x := by
  have hl := wsN_length key n
  rw [h]
  simp only [List.getD]
  rw [List.getElem?_append_right (by omega), hl, Nat.sub_self]
  rfl
theorem wsN_old (key : List UInt8) (n j : Nat) (hj : j < n) (hn : n ≤ 44) : (wsN key n).1.getD j 0 = (ksW key).getD j 0 := by
  rw [ksW_at key j (by omega)]
  have := wsN_keep key j (n - (j + 1))
  rw [show j + 1 + (n - (j + 1)) = n by omega] at this
  exact this
theorem ksW_key (key : List UInt8) (n : Nat) (h : n < 4) : (ksW key).getD n 0 = keyW key n := by
  rw [ksW_at key n (by omega)]
  exact wsN_last key n _ (wsN key n).2 (by rw [wsN]; simp only [if_pos h])
theorem ksW_mid (key : List UInt8) (n : Nat) (h4 : 4 ≤ n) (hn : n < 44) (hm : n % 4 ≠ 0) : (ksW key).getD n 0 = x32 ((ksW key).getD (n - 4) 0) ((ksW key).getD (n - 1) 0) := by
  rw [ksW_at key n hn, wsN_last key n (x32 ((wsN key n).1.getD (n - 4) 0) ((wsN key n).1.getD (n - 1) 0)) (wsN key n).2 (by rw [wsN]; simp only [if_neg (show ¬ n < 4 by omega), if_neg hm]), wsN_old key n (n - 4) (by omega) (by omega), wsN_old key n (n - 1) (by omega) (by omega)]
/-! ### Bytes -/
theorem putB_get (n m : Nat) (h : m < 4) : (putB 4 n)[m]? = some (UInt8.ofNat (n / 2 ^ (8 * (3 - m)))) := by
  rw [putB_at 4 n m h, show 4 - 1 - m = 3 - m by omega]
theorem kbK_at (key : List UInt8) : ∀ (n : Nat), n ≤ 44 → ∀ (i m : Nat), i < n → m < 4 → (kbK key n)[4 * i + m]? = some (UInt8.ofNat (((ksW key).getD i 0).toNat / 2 ^ (8 * (3 - m))))
  | 0, _, i, _, hi, _ => by omega
  | n + 1, hn, i, m, hi, hm => by
    have hl := kbK_length key n (by omega)
    have hp := putB_length 4 ((ksW key).getD n 0).toNat
    rw [kbK]
    unfold splice
    by_cases h : i = n
    · subst h
      rw [List.append_assoc, List.getElem?_append_right (by rw [List.length_take]; omega), List.length_take, hl, Nat.min_eq_left (by omega), show 4 * i + m - 4 * i = m by omega, List.getElem?_append_left (by omega)]
      exact putB_get _ m hm
    · rw [List.append_assoc, List.getElem?_append_left (by rw [List.length_take]; omega), List.getElem?_take_of_lt (by omega)]
      exact kbK_at key n (by omega) i m (by omega) hm
theorem rks_at (key : List UInt8) (i m : Nat) (hi : i < 44) (hm : m < 4) : (rks key)[4 * i + m]? = some (UInt8.ofNat (((ksW key).getD i 0).toNat / 2 ^ (8 * (3 - m)))) := kbK_at key 44 (by omega) i m hi hm
theorem rks_length (key : List UInt8) : (rks key).length = 176 := kbK_length key 44 (by omega)
theorem xor_byte (a b : UInt32) (k : Nat) : UInt8.ofNat ((x32 a b).toNat / 2 ^ k) = x8 (UInt8.ofNat (a.toNat / 2 ^ k)) (UInt8.ofNat (b.toNat / 2 ^ k)) := by
  apply UInt8.toNat_inj.1
  unfold x32
  rw [x8_toNat, UInt32.toNat_xor, UInt8.toNat_ofNat', UInt8.toNat_ofNat', UInt8.toNat_ofNat']
  show (a.toNat ^^^ b.toNat) / 2 ^ k % 2 ^ 8 = (a.toNat / 2 ^ k % 2 ^ 8) ^^^ (b.toNat / 2 ^ k % 2 ^ 8)
  rw [← Nat.shiftRight_eq_div_pow, ← Nat.shiftRight_eq_div_pow, ← Nat.shiftRight_eq_div_pow, Nat.shiftRight_xor_distrib, Nat.xor_mod_two_pow]
/-- A round key's byte, of each word but the first: the one ahead, either or the one above. -/
theorem rks_rule (key : List UInt8) (i j : Nat) (hi1 : 1 ≤ i) (hi : i ≤ 10) (hj4 : 4 ≤ j) (hj : j < 16) :
    (rkey (rks key) i).getD j 0 = x8 ((rkey (rks key) i).getD (j - 4) 0) ((rkey (rks key) (i - 1)).getD j 0) := by
  have hK := rks_length key
  have at_ : ∀ r t, r ≤ 10 → t < 16 → (rkey (rks key) r).getD t 0 = UInt8.ofNat (((ksW key).getD (4 * r + t / 4) 0).toNat / 2 ^ (8 * (3 - t % 4))) := by
    intro r t hr ht
    have h1 := rks_at key (4 * r + t / 4) (t % 4) (by omega) (by omega)
    rw [show 4 * (4 * r + t / 4) + t % 4 = 16 * r + t by omega] at h1
    unfold rkey
    simp only [List.getD]
    rw [List.getElem?_take_of_lt ht, List.getElem?_drop, h1]
    rfl
  rw [at_ i j hi hj, at_ i (j - 4) hi (by omega), at_ (i - 1) j (by omega) hj]
  have hw := ksW_mid key (4 * i + j / 4) (by omega) (by omega) (by omega)
  rw [hw, xor_byte, show 4 * i + j / 4 - 4 = 4 * (i - 1) + j / 4 by omega, show 4 * i + j / 4 - 1 = 4 * i + (j - 4) / 4 by omega, show (j - 4) % 4 = j % 4 by omega]
  exact x8_comm _ _
theorem putB_getB4 (a b c d : UInt8) : putB 4 (getB [a, b, c, d]) = [a, b, c, d] := by
  have ha := a.toNat_lt; have hb := b.toNat_lt; have hc := c.toNat_lt; have hd := d.toNat_lt
  have e : getB [a, b, c, d] = ((a.toNat * 256 + b.toNat) * 256 + c.toNat) * 256 + d.toNat := by simp [getB]
  rw [e]
  simp only [putB, List.range, List.range.loop, List.map_cons, List.map_nil]
  congr 1
  · apply UInt8.toNat_inj.1; rw [UInt8.toNat_ofNat']; omega
  · congr 1
    · apply UInt8.toNat_inj.1; rw [UInt8.toNat_ofNat']; omega
    · congr 1
      · apply UInt8.toNat_inj.1; rw [UInt8.toNat_ofNat']; omega
      · congr 1
        apply UInt8.toNat_inj.1; rw [UInt8.toNat_ofNat']; omega
theorem putB_getB_len (l : List UInt8) (h : l.length = 4) : putB 4 (getB l) = l := by
  match l, h with
  | [a, b, c, d], _ => exact putB_getB4 a b c d
/-- The first round key is the key. -/
theorem rks_first (key : List UInt8) (h : key.length = 16) : rkey (rks key) 0 = key := by
  have hK := rks_length key
  apply List.ext_getElem?
  intro n
  by_cases hn : n < 16
  · have h1 := rks_at key (n / 4) (n % 4) (by omega) (by omega)
    rw [show 4 * (n / 4) + n % 4 = n by omega, ksW_key key (n / 4) (by omega)] at h1
    have hs : (seg key (4 * (n / 4)) 4).length = 4 := by unfold seg; rw [List.length_take, List.length_drop]; omega
    have h2 : (keyW key (n / 4)).toNat = getB (seg key (4 * (n / 4)) 4) := by
      unfold keyW; rw [UInt32.toNat_ofNat', Nat.mod_eq_of_lt (getB_u32 _ hs)]
    rw [h2, ← putB_get _ _ (by omega), putB_getB_len _ hs] at h1
    unfold rkey
    rw [List.getElem?_take_of_lt hn, List.getElem?_drop, Nat.mul_zero, Nat.zero_add, h1]
    unfold seg
    rw [List.getElem?_take_of_lt (by omega), List.getElem?_drop, show 4 * (n / 4) + n % 4 = n by omega]
  · rw [List.getElem?_eq_none (by rw [rkey_length _ hK 0 (by omega)]; omega), List.getElem?_eq_none (by omega)]
end Go.Proofs.Ytbacamepmilmhaa
namespace Go.Proofs.Ytbacamepmilmhaa
open Go Go.RowKit

/-- The first k bytes unboxed, put where they came from. -/
def usK (s : List UInt8) : Nat → List UInt8
  | 0 => s
  | k + 1 => (usK s k).set ((k + 4 * (k % 4)) % 16) (unO (s.getD k 0))
def unS (s : List UInt8) : List UInt8 := usK s 16
theorem usK_length (s : List UInt8) (hs : s.length = 16) : ∀ k, (usK s k).length = 16
  | 0 => hs
  | k + 1 => by rw [usK, List.length_set, usK_length s hs k]
/-- A round back. -/
def backS (K s : List UInt8) (r : Nat) : List UInt8 := unS (if r < 10 then mixC [14, 11, 13, 9] (xorL s (rkey K r)) 4 else xorL s (rkey K r))
/-- What a block is when n rounds are taken back. -/
def bckN (K s : List UInt8) : Nat → List UInt8
  | 0 => s
  | n + 1 => backS K (bckN K s n) (10 - n)
theorem backS_length (K s : List UInt8) (hK : K.length = 176) (hs : s.length = 16) (r : Nat) (hr : r ≤ 10) : (backS K s r).length = 16 := by
  have hx := xorL_len s (rkey K r) hs (rkey_length K hK r hr)
  unfold backS unS
  split
  · exact usK_length _ (mixC_length _ _ hx 4 (by omega)) 16
  · exact usK_length _ hx 16
theorem bckN_length (K s : List UInt8) (hK : K.length = 176) (hs : s.length = 16) : ∀ n, (bckN K s n).length = 16
  | 0 => hs
  | n + 1 => backS_length K _ hK (bckN_length K s hK hs n) _ (by omega)
def decL (K s : List UInt8) : List UInt8 := xorL (bckN K s 10) (rkey K 0)
/-! ### Nil ciphers -/
set_option maxRecDepth 100000 in
theorem Block_nil (s : List UInt8) (w : World) :
    Calls Try.prog 100 #[.pointer none, .string (bs s)] w fun e w' => e = .returned (.tuple #[.string (bs []), .bool false]) ∧ w = w' := by
  go_enter Try.func100, Try.ntmps100
  go_wp2
  go_returns
  exact ⟨rfl, rfl⟩
end Go.Proofs.Ytbacamepmilmhaa
namespace Go.Proofs.Ytbacamepmilmhaa
open Go Go.RowKit

def twC : Bool := (List.range 256).all fun a => (List.range 256).all fun b => Nat.beq (twN (Nat.xor a b)) (Nat.xor (twN a) (twN b))
theorem twC_ok : twC = true := by decide +kernel
theorem tw_x8 (a c : UInt8) : tw (x8 a c) = x8 (tw a) (tw c) := by
  apply UInt8.toNat_inj.1
  rw [tw_toNat, x8_toNat, x8_toNat, tw_toNat, tw_toNat]
  have h := List.all_eq_true.1 twC_ok a.toNat (List.mem_range.2 a.toNat_lt)
  have h := List.all_eq_true.1 h c.toNat (List.mem_range.2 c.toNat_lt)
  exact Nat.eq_of_beq_eq_true h
theorem x8_left_comm (a b c : UInt8) : x8 a (x8 b c) = x8 b (x8 a c) := by rw [← x8_assoc, x8_comm a b, x8_assoc]
theorem tmU_left : ∀ (k : Nat) (a c : UInt8) (n : Nat), tmU k (x8 a c) n = x8 (tmU k a n) (tmU k c n)
  | 0, _, _, _ => (x8_z 0).symm
  | k + 1, a, c, n => by
    rw [tmU, tmU, tmU, tw_x8, tmU_left k]
    by_cases h : n % 2 = 1
    · simp only [if_pos h]
      rw [x8_assoc, x8_assoc, x8_left_comm c]
    · simp only [if_neg h, x8_z]
theorem gm_left (a c b : UInt8) : gm (x8 a c) b = x8 (gm a b) (gm c b) := tmU_left 8 a c b.toNat
theorem tmU_right : ∀ (k : Nat) (a : UInt8) (n m : Nat), tmU k a (n ^^^ m) = x8 (tmU k a n) (tmU k a m)
  | 0, _, _, _ => (x8_z 0).symm
  | k + 1, a, n, m => by
    have h2 : (n ^^^ m) / 2 = n / 2 ^^^ m / 2 := by
      have := Nat.shiftRight_xor_distrib (a := n) (b := m) (i := 1)
      simpa [Nat.shiftRight_eq_div_pow] using this
    have h1 : (n ^^^ m) % 2 = (n + m) % 2 := by
      have h := Nat.xor_mod_two_pow (a := n) (b := m) (n := 1)
      rw [Nat.pow_one] at h
      rw [h]
      rcases Nat.mod_two_eq_zero_or_one n with hn | hn <;> rcases Nat.mod_two_eq_zero_or_one m with hm | hm <;> rw [hn, hm] <;> simp <;> omega
    rw [tmU, tmU, tmU, h2, tmU_right k, h1]
    rcases Nat.mod_two_eq_zero_or_one n with hn | hn <;> rcases Nat.mod_two_eq_zero_or_one m with hm | hm
    · rw [if_neg (by omega), if_neg (by omega), if_neg (by omega)]; simp only [x8_z]
    · rw [if_pos (by omega), if_neg (by omega), if_pos (by omega)]; simp only [x8_z]; rw [x8_left_comm]
    · rw [if_pos (by omega), if_pos (by omega), if_neg (by omega)]; simp only [x8_z]; rw [x8_assoc]
    · rw [if_neg (by omega), if_pos (by omega), if_pos (by omega)]; simp only [x8_z]
      rw [x8_assoc, x8_left_comm (tmU k (tw a) (n / 2)), ← x8_assoc a a, x8_self, x8_z]
theorem gm_right (a b d : UInt8) : gm a (x8 b d) = x8 (gm a b) (gm a d) := by
  unfold gm
  rw [x8_toNat]
  exact tmU_right 8 a b.toNat d.toNat
theorem gm_one (a : UInt8) : gm a 1 = a := by
  have h : ∀ (k : Nat) (a : UInt8), tmU k a 0 = 0 := by
    intro k
    induction k with
    | zero => intro a; rfl
    | succ k ih => intro a; rw [tmU, Nat.zero_div, ih, if_neg (by decide), x8_z]
  show tmU 8 a 1 = a
  rw [tmU, show 1 / 2 = 0 from rfl, h, if_pos rfl, x8_z']
/-! ### Linear functions of a byte -/
def bitU (a : UInt8) (i : Nat) : UInt8 := if a.toNat / 2 ^ i % 2 = 1 then b8 (2 ^ i) else 0
def sumU (a : UInt8) : UInt8 := x8 (bitU a 0) (x8 (bitU a 1) (x8 (bitU a 2) (x8 (bitU a 3) (x8 (bitU a 4) (x8 (bitU a 5) (x8 (bitU a 6) (bitU a 7)))))))
theorem sumU_all : ∀ a : Fin 256, sumU (b8 a.val) = b8 a.val := by decide +kernel
theorem sumU_self (a : UInt8) : sumU a = a := by
  have := sumU_all ⟨a.toNat, a.toNat_lt⟩
  simp only [b8_self] at this
  exact this
theorem lin_zero {f : UInt8 → UInt8} (hf : ∀ a c, f (x8 a c) = x8 (f a) (f c)) : f 0 = 0 := by
  have h := hf 0 0
  rw [x8_z, x8_self] at h
  exact h
theorem lin_bit {f g : UInt8 → UInt8} (hf : ∀ a c, f (x8 a c) = x8 (f a) (f c)) (hg : ∀ a c, g (x8 a c) = x8 (g a) (g c)) (a : UInt8) (i : Nat) (h : f (b8 (2 ^ i)) = g (b8 (2 ^ i))) : f (bitU a i) = g (bitU a i) := by
  unfold bitU
  split
  · exact h
  · rw [lin_zero hf, lin_zero hg]
/-- Two linear functions are one if they agree on the powers of 2. -/
theorem lin_ext {f g : UInt8 → UInt8} (hf : ∀ a c, f (x8 a c) = x8 (f a) (f c)) (hg : ∀ a c, g (x8 a c) = x8 (g a) (g c)) (h : ∀ i, i < 8 → f (b8 (2 ^ i)) = g (b8 (2 ^ i))) (a : UInt8) : f a = g a := by
  have hb := fun i hi => lin_bit hf hg a i (h i hi)
  rw [← sumU_self a]
  unfold sumU
  simp only [hf, hg]
  rw [hb 0 (by omega), hb 1 (by omega), hb 2 (by omega), hb 3 (by omega), hb 4 (by omega), hb 5 (by omega), hb 6 (by omega), hb 7 (by omega)]
theorem gm_comm_bits : ∀ i j : Fin 8, gm (b8 (2 ^ i.val)) (b8 (2 ^ j.val)) = gm (b8 (2 ^ j.val)) (b8 (2 ^ i.val)) := by decide +kernel
theorem gm_comm (a b : UInt8) : gm a b = gm b a := by
  refine lin_ext (f := fun a => gm a b) (g := fun a => gm b a) (fun a c => gm_left a c b) (fun a c => gm_right b a c) (fun i hi => ?_) a
  refine lin_ext (f := fun b => gm (b8 (2 ^ i)) b) (g := fun b => gm b (b8 (2 ^ i))) (fun a c => gm_right _ a c) (fun a c => gm_left a c _) (fun j hj => ?_) b
  exact gm_comm_bits ⟨i, hi⟩ ⟨j, hj⟩
theorem gm_assoc_bits : ∀ i j k : Fin 8, gm (b8 (2 ^ i.val)) (gm (b8 (2 ^ j.val)) (b8 (2 ^ k.val))) = gm (gm (b8 (2 ^ i.val)) (b8 (2 ^ j.val))) (b8 (2 ^ k.val)) := by decide +kernel
theorem gm_assoc (a b d : UInt8) : gm a (gm b d) = gm (gm a b) d := by
  refine lin_ext (f := fun a => gm a (gm b d)) (g := fun a => gm (gm a b) d) (fun a c => gm_left a c _) (fun a c => by rw [gm_left, gm_left]) (fun i hi => ?_) a
  refine lin_ext (f := fun b => gm (b8 (2 ^ i)) (gm b d)) (g := fun b => gm (gm (b8 (2 ^ i)) b) d) (fun a c => by rw [gm_left, gm_right]) (fun a c => by rw [gm_right, gm_left]) (fun j hj => ?_) b
  refine lin_ext (f := fun d => gm (b8 (2 ^ i)) (gm (b8 (2 ^ j)) d)) (g := fun d => gm (gm (b8 (2 ^ i)) (b8 (2 ^ j))) d) (fun a c => by rw [gm_right, gm_right]) (fun a c => gm_right _ a c) (fun k hk => ?_) d
  exact gm_assoc_bits ⟨i, hi⟩ ⟨j, hj⟩ ⟨k, hk⟩
/-! ### Columns -/
theorem four_one (a c1 c2 c3 c4 : UInt8) (h : x8 (x8 (x8 c1 c2) c3) c4 = 1) : x8 (x8 (x8 (gm a c1) (gm a c2)) (gm a c3)) (gm a c4) = a := by
  rw [← gm_right, ← gm_right, ← gm_right, h, gm_one]
theorem four_zero (a c1 c2 c3 c4 : UInt8) (h : x8 (x8 (x8 c1 c2) c3) c4 = 0) : x8 (x8 (x8 (gm a c1) (gm a c2)) (gm a c3)) (gm a c4) = 0 := by
  rw [← gm_right, ← gm_right, ← gm_right, h, gm_zero]
theorem mixL_four (f0 f1 f2 f3 a b c d : UInt8) : mixL [f0, f1, f2, f3] [a, b, c, d] =
    [x8 (x8 (x8 (gm a f0) (gm b f1)) (gm c f2)) (gm d f3), x8 (x8 (x8 (gm a f3) (gm b f0)) (gm c f1)) (gm d f2),
     x8 (x8 (x8 (gm a f2) (gm b f3)) (gm c f0)) (gm d f1), x8 (x8 (x8 (gm a f1) (gm b f2)) (gm c f3)) (gm d f0)] := by
  have h : ∀ r, mixK [f0, f1, f2, f3] [a, b, c, d] r 4 = x8 (x8 (x8 (gm a ([f0, f1, f2, f3].getD ((0 + 4 - r) % 4) 0)) (gm b ([f0, f1, f2, f3].getD ((1 + 4 - r) % 4) 0))) (gm c ([f0, f1, f2, f3].getD ((2 + 4 - r) % 4) 0))) (gm d ([f0, f1, f2, f3].getD ((3 + 4 - r) % 4) 0)) := by
    intro r
    rw [mixK, mixK, mixK, mixK, mixK, x8_z]
    rfl
  unfold mixL
  rw [show List.range 4 = [0, 1, 2, 3] from rfl]
  simp only [List.map_cons, List.map_nil, h]
  rfl
instance : Std.Associative x8 := ⟨x8_assoc⟩
instance : Std.Commutative x8 := ⟨x8_comm⟩
theorem sixteen (a1 a2 a3 a4 b1 b2 b3 b4 c1 c2 c3 c4 d1 d2 d3 d4 : UInt8) :
    x8 (x8 (x8 (x8 (x8 (x8 a1 b1) c1) d1) (x8 (x8 (x8 a2 b2) c2) d2)) (x8 (x8 (x8 a3 b3) c3) d3)) (x8 (x8 (x8 a4 b4) c4) d4) =
    x8 (x8 (x8 (x8 (x8 (x8 a1 a2) a3) a4) (x8 (x8 (x8 b1 b2) b3) b4)) (x8 (x8 (x8 c1 c2) c3) c4)) (x8 (x8 (x8 d1 d2) d3) d4) := by ac_rfl
theorem gf_row_one (f g : UInt8) (x : UInt8) : gm (gm x f) g = gm x (gm f g) := (gm_assoc x f g).symm
theorem mix_back (a b c d : UInt8) : mixL [14, 11, 13, 9] (mixL [2, 3, 1, 1] [a, b, c, d]) = [a, b, c, d] := by
  rw [mixL_four, mixL_four]
  simp only [gm_left, gf_row_one]
  congr 1
  · rw [sixteen, four_one a _ _ _ _ (by decide +kernel), four_zero b _ _ _ _ (by decide +kernel), four_zero c _ _ _ _ (by decide +kernel), four_zero d _ _ _ _ (by decide +kernel)]
    simp only [x8_z']
  · congr 1
    · rw [sixteen, four_zero a _ _ _ _ (by decide +kernel), four_one b _ _ _ _ (by decide +kernel), four_zero c _ _ _ _ (by decide +kernel), four_zero d _ _ _ _ (by decide +kernel)]
      simp only [x8_z', x8_z]
    · congr 1
      · rw [sixteen, four_zero a _ _ _ _ (by decide +kernel), four_zero b _ _ _ _ (by decide +kernel), four_one c _ _ _ _ (by decide +kernel), four_zero d _ _ _ _ (by decide +kernel)]
        simp only [x8_z', x8_z]
      · congr 1
        rw [sixteen, four_zero a _ _ _ _ (by decide +kernel), four_zero b _ _ _ _ (by decide +kernel), four_zero c _ _ _ _ (by decide +kernel), four_one d _ _ _ _ (by decide +kernel)]
        simp only [x8_z', x8_z]
theorem mix_fore (a b c d : UInt8) : mixL [2, 3, 1, 1] (mixL [14, 11, 13, 9] [a, b, c, d]) = [a, b, c, d] := by
  rw [mixL_four, mixL_four]
  simp only [gm_left, gf_row_one]
  congr 1
  · rw [sixteen, four_one a _ _ _ _ (by decide +kernel), four_zero b _ _ _ _ (by decide +kernel), four_zero c _ _ _ _ (by decide +kernel), four_zero d _ _ _ _ (by decide +kernel)]
    simp only [x8_z']
  · congr 1
    · rw [sixteen, four_zero a _ _ _ _ (by decide +kernel), four_one b _ _ _ _ (by decide +kernel), four_zero c _ _ _ _ (by decide +kernel), four_zero d _ _ _ _ (by decide +kernel)]
      simp only [x8_z', x8_z]
    · congr 1
      · rw [sixteen, four_zero a _ _ _ _ (by decide +kernel), four_zero b _ _ _ _ (by decide +kernel), four_one c _ _ _ _ (by decide +kernel), four_zero d _ _ _ _ (by decide +kernel)]
        simp only [x8_z', x8_z]
      · congr 1
        rw [sixteen, four_zero a _ _ _ _ (by decide +kernel), four_zero b _ _ _ _ (by decide +kernel), four_zero c _ _ _ _ (by decide +kernel), four_one d _ _ _ _ (by decide +kernel)]
        simp only [x8_z', x8_z]
/-! ### Blocks -/
theorem sixteen_of (s : List UInt8) (h : s.length = 16) : ∃ a b c d e f g i j k l m n o p q, s = [a, b, c, d, e, f, g, i, j, k, l, m, n, o, p, q] := by
  match s, h with
  | [a, b, c, d, e, f, g, i, j, k, l, m, n, o, p, q], _ => exact ⟨a, b, c, d, e, f, g, i, j, k, l, m, n, o, p, q, rfl⟩
theorem mixL_is (f col : List UInt8) : ∃ a b c d, mixL f col = [a, b, c, d] := ⟨_, _, _, _, rfl⟩
theorem mixC_four (f : List UInt8) (a b c d e f' g i j k l m n o p q : UInt8) :
    mixC f [a, b, c, d, e, f', g, i, j, k, l, m, n, o, p, q] 4 = mixL f [a, b, c, d] ++ (mixL f [e, f', g, i] ++ (mixL f [j, k, l, m] ++ mixL f [n, o, p, q])) := by
  obtain ⟨a1, b1, c1, d1, h1⟩ := mixL_is f [a, b, c, d]
  obtain ⟨a2, b2, c2, d2, h2⟩ := mixL_is f [e, f', g, i]
  obtain ⟨a3, b3, c3, d3, h3⟩ := mixL_is f [j, k, l, m]
  obtain ⟨a4, b4, c4, d4, h4⟩ := mixL_is f [n, o, p, q]
  have e1 : mixC f [a, b, c, d, e, f', g, i, j, k, l, m, n, o, p, q] 1 = [a1, b1, c1, d1, e, f', g, i, j, k, l, m, n, o, p, q] := by
    rw [mixC, mixC, show (([a, b, c, d, e, f', g, i, j, k, l, m, n, o, p, q] : List UInt8).drop (4 * 0)).take 4 = [a, b, c, d] from rfl, h1]; rfl
  have e2 : mixC f [a, b, c, d, e, f', g, i, j, k, l, m, n, o, p, q] 2 = [a1, b1, c1, d1, a2, b2, c2, d2, j, k, l, m, n, o, p, q] := by
    rw [mixC, e1, show (([a1, b1, c1, d1, e, f', g, i, j, k, l, m, n, o, p, q] : List UInt8).drop (4 * 1)).take 4 = [e, f', g, i] from rfl, h2]; rfl
  have e3 : mixC f [a, b, c, d, e, f', g, i, j, k, l, m, n, o, p, q] 3 = [a1, b1, c1, d1, a2, b2, c2, d2, a3, b3, c3, d3, n, o, p, q] := by
    rw [mixC, e2, show (([a1, b1, c1, d1, a2, b2, c2, d2, j, k, l, m, n, o, p, q] : List UInt8).drop (4 * 2)).take 4 = [j, k, l, m] from rfl, h3]; rfl
  rw [mixC, e3, show (([a1, b1, c1, d1, a2, b2, c2, d2, a3, b3, c3, d3, n, o, p, q] : List UInt8).drop (4 * 3)).take 4 = [n, o, p, q] from rfl, h1, h2, h3, h4]
  rfl
theorem cols_back (F G : List UInt8) (h : ∀ a b c d, mixL G (mixL F [a, b, c, d]) = [a, b, c, d]) (s : List UInt8) (hs : s.length = 16) : mixC G (mixC F s 4) 4 = s := by
  obtain ⟨a, b, c, d, e, f, g, i, j, k, l, m, n, o, p, q, rfl⟩ := sixteen_of s hs
  rw [mixC_four]
  obtain ⟨a1, b1, c1, d1, h1⟩ := mixL_is F [a, b, c, d]
  obtain ⟨a2, b2, c2, d2, h2⟩ := mixL_is F [e, f, g, i]
  obtain ⟨a3, b3, c3, d3, h3⟩ := mixL_is F [j, k, l, m]
  obtain ⟨a4, b4, c4, d4, h4⟩ := mixL_is F [n, o, p, q]
  rw [h1, h2, h3, h4]
  show mixC G [a1, b1, c1, d1, a2, b2, c2, d2, a3, b3, c3, d3, a4, b4, c4, d4] 4 = _
  rw [mixC_four, ← h1, ← h2, ← h3, ← h4, h, h, h, h]
  rfl
theorem un_sub (s : List UInt8) (hs : s.length = 16) : unS (subS s) = s := by
  obtain ⟨a, b, c, d, e, f, g, i, j, k, l, m, n, o, p, q, rfl⟩ := sixteen_of s hs
  have h1 : subS [a, b, c, d, e, f, g, i, j, k, l, m, n, o, p, q] = [boxO a, boxO f, boxO l, boxO q, boxO e, boxO k, boxO p, boxO d, boxO j, boxO o, boxO c, boxO i, boxO n, boxO b, boxO g, boxO m] := rfl
  rw [h1]
  generalize hA : boxO a = A; generalize hB : boxO b = B; generalize hC : boxO c = C; generalize hD : boxO d = D
  generalize hE : boxO e = E; generalize hF : boxO f = F; generalize hG : boxO g = G; generalize hI : boxO i = I
  generalize hJ : boxO j = J; generalize hK : boxO k = K; generalize hL : boxO l = L; generalize hM : boxO m = M
  generalize hN : boxO n = N; generalize hO : boxO o = O; generalize hP : boxO p = P; generalize hQ : boxO q = Q
  have h2 : unS [A, F, L, Q, E, K, P, D, J, O, C, I, N, B, G, M] = [unO A, unO B, unO C, unO D, unO E, unO F, unO G, unO I, unO J, unO K, unO L, unO M, unO N, unO O, unO P, unO Q] := rfl
  rw [h2, ← hA, ← hB, ← hC, ← hD, ← hE, ← hF, ← hG, ← hI, ← hJ, ← hK, ← hL, ← hM, ← hN, ← hO, ← hP, ← hQ]
  simp only [un_box]
theorem sub_un (s : List UInt8) (hs : s.length = 16) : subS (unS s) = s := by
  obtain ⟨A, F, L, Q, E, K, P, D, J, O, C, I, N, B, G, M, rfl⟩ := sixteen_of s hs
  have h2 : unS [A, F, L, Q, E, K, P, D, J, O, C, I, N, B, G, M] = [unO A, unO B, unO C, unO D, unO E, unO F, unO G, unO I, unO J, unO K, unO L, unO M, unO N, unO O, unO P, unO Q] := rfl
  rw [h2]
  generalize hA : unO A = a; generalize hB : unO B = b; generalize hC : unO C = c; generalize hD : unO D = d
  generalize hE : unO E = e; generalize hF : unO F = f; generalize hG : unO G = g; generalize hI : unO I = i
  generalize hJ : unO J = j; generalize hK : unO K = k; generalize hL : unO L = l; generalize hM : unO M = m
  generalize hN : unO N = n; generalize hO : unO O = o; generalize hP : unO P = p; generalize hQ : unO Q = q
  have h1 : subS [a, b, c, d, e, f, g, i, j, k, l, m, n, o, p, q] = [boxO a, boxO f, boxO l, boxO q, boxO e, boxO k, boxO p, boxO d, boxO j, boxO o, boxO c, boxO i, boxO n, boxO b, boxO g, boxO m] := rfl
  rw [h1, ← hA, ← hB, ← hC, ← hD, ← hE, ← hF, ← hG, ← hI, ← hJ, ← hK, ← hL, ← hM, ← hN, ← hO, ← hP, ← hQ]
  simp only [box_un]
theorem unS_length (s : List UInt8) (hs : s.length = 16) : (unS s).length = 16 := usK_length s hs 16
theorem back_round (K t : List UInt8) (hK : K.length = 176) (ht : t.length = 16) (r : Nat) (hr : r ≤ 10) : backS K (roundS K t r) r = t := by
  have hk := rkey_length K hK r hr
  unfold backS roundS
  by_cases h : r < 10
  · simp only [if_pos h]
    rw [xorL_back _ _ (by rw [hk, mixC_length _ _ (subS_length t) 4 (by omega)]), cols_back _ _ mix_back _ (subS_length t), un_sub t ht]
  · simp only [if_neg h]
    rw [xorL_back _ _ (by rw [hk, subS_length]), un_sub t ht]
theorem round_back (K t : List UInt8) (hK : K.length = 176) (ht : t.length = 16) (r : Nat) (hr : r ≤ 10) : roundS K (backS K t r) r = t := by
  have hk := rkey_length K hK r hr
  have hx := xorL_len t (rkey K r) ht hk
  unfold backS roundS
  by_cases h : r < 10
  · simp only [if_pos h]
    rw [sub_un _ (mixC_length _ _ hx 4 (by omega)), cols_back _ _ mix_fore _ hx, xorL_back _ _ (by rw [hk, ht])]
  · simp only [if_neg h]
    rw [sub_un _ hx, xorL_back _ _ (by rw [hk, ht])]
theorem bck_blk (K s : List UInt8) (hK : K.length = 176) (hs : s.length = 16) : ∀ n, n ≤ 10 → bckN K (encL K s) n = blkN K s (10 - n)
  | 0, _ => rfl
  | n + 1, h => by
    rw [bckN, bck_blk K s hK hs n (by omega), show 10 - n = (10 - (n + 1)) + 1 by omega, blkN]
    exact back_round K _ hK (blkN_length K s hK hs _ (by omega)) _ (by omega)
theorem dec_enc (K s : List UInt8) (hK : K.length = 176) (hs : s.length = 16) : decL K (encL K s) = s := by
  unfold decL
  rw [bck_blk K s hK hs 10 (by omega), show 10 - 10 = 0 from rfl, blkN, xorL_back _ _ (by rw [hs, rkey_length K hK 0 (by omega)])]
theorem blk_bck (K s : List UInt8) (hK : K.length = 176) (hs : s.length = 16) : ∀ n, n ≤ 10 → blkN K (decL K s) n = bckN K s (10 - n)
  | 0, _ => by
    rw [blkN, decL, xorL_back _ _ (by rw [bckN_length K s hK hs, rkey_length K hK 0 (by omega)])]
  | n + 1, h => by
    rw [blkN, blk_bck K s hK hs n (by omega), show 10 - n = (10 - (n + 1)) + 1 by omega, bckN, show 10 - (10 - (n + 1)) = n + 1 by omega]
    exact round_back K _ hK (bckN_length K s hK hs _) _ (by omega)
theorem enc_dec (K s : List UInt8) (hK : K.length = 176) (hs : s.length = 16) : encL K (decL K s) = s := blk_bck K s hK hs 10 (by omega)
theorem encL_length (K s : List UInt8) (hK : K.length = 176) (hs : s.length = 16) : (encL K s).length = 16 := blkN_length K s hK hs 10 (by omega)
theorem decL_length (K s : List UInt8) (hK : K.length = 176) (hs : s.length = 16) : (decL K s).length = 16 := xorL_len _ _ (bckN_length K s hK hs 10) (rkey_length K hK 0 (by omega))
theorem enc_inj (K s t : List UInt8) (hK : K.length = 176) (hs : s.length = 16) (ht : t.length = 16) : encL K s = encL K t ↔ s = t :=
  ⟨fun h => by rw [← dec_enc K s hK hs, ← dec_enc K t hK ht, h], fun h => by rw [h]⟩
end Go.Proofs.Ytbacamepmilmhaa
namespace Go.Proofs.Ytbacamepmilmhaa
open Go Go.RowKit

def exKey : List UInt8 := [43, 126, 21, 22, 40, 174, 210, 166, 171, 247, 21, 136, 9, 207, 79, 60]
def exBlk : List UInt8 := [50, 67, 246, 168, 136, 90, 48, 141, 49, 49, 152, 162, 224, 55, 7, 52]
def exW : List UInt32 := [729683222, 682545830, 2885096840, 164581180, 2700803607, 2287217841, 597899577, 711751173, 4072838642, 2056698179, 1496678522, 1935275647, 1031817085, 1192689214, 505642564, 1836746811, 4014253377, 2823969663, 3060868411, 3674975488, 3570517752, 2089000327, 3404904636, 301536700, 1837671290, 285949693, 3690563137, 3389035517, 1314191118, 1600113139, 2225491890, 1319558223, 3939660577, 3045964498, 824964448, 2139957551, 2893506291, 435870753, 684796225, 1465647214, 3491035560, 3387827593, 3779005640, 3059944614]
def exR : List UInt8 := [1, 1, 1, 1, 1, 2, 2, 2, 2, 4, 4, 4, 4, 8, 8, 8, 8, 16, 16, 16, 16, 32, 32, 32, 32, 64, 64, 64, 64, 128, 128, 128, 128, 27, 27, 27, 27, 54, 54, 54, 54, 108, 108, 108, 108]
def exK : List UInt8 := [43, 126, 21, 22, 40, 174, 210, 166, 171, 247, 21, 136, 9, 207, 79, 60, 160, 250, 254, 23, 136, 84, 44, 177, 35, 163, 57, 57, 42, 108, 118, 5, 242, 194, 149, 242, 122, 150, 185, 67, 89, 53, 128, 122, 115, 89, 246, 127, 61, 128, 71, 125, 71, 22, 254, 62, 30, 35, 126, 68, 109, 122, 136, 59, 239, 68, 165, 65, 168, 82, 91, 127, 182, 113, 37, 59, 219, 11, 173, 0, 212, 209, 198, 248, 124, 131, 157, 135, 202, 242, 184, 188, 17, 249, 21, 188, 109, 136, 163, 122, 17, 11, 62, 253, 219, 249, 134, 65, 202, 0, 147, 253, 78, 84, 247, 14, 95, 95, 201, 243, 132, 166, 79, 178, 78, 166, 220, 79, 234, 210, 115, 33, 181, 141, 186, 210, 49, 43, 245, 96, 127, 141, 41, 47, 172, 119, 102, 243, 25, 250, 220, 33, 40, 209, 41, 65, 87, 92, 0, 110, 208, 20, 249, 168, 201, 238, 37, 137, 225, 63, 12, 200, 182, 99, 12, 166]
def exS : List (List UInt8) := [[25, 61, 227, 190, 160, 244, 226, 43, 154, 198, 141, 42, 233, 248, 72, 8], [164, 156, 127, 242, 104, 159, 53, 43, 107, 91, 234, 67, 2, 106, 80, 73], [170, 143, 95, 3, 97, 221, 227, 239, 130, 210, 74, 210, 104, 50, 70, 154], [72, 108, 78, 238, 103, 29, 157, 13, 77, 227, 177, 56, 214, 95, 88, 231], [224, 146, 127, 232, 200, 99, 99, 192, 217, 177, 53, 80, 133, 184, 190, 1], [241, 0, 111, 85, 193, 146, 76, 239, 124, 200, 139, 50, 93, 181, 213, 12], [38, 14, 46, 23, 61, 65, 183, 125, 232, 100, 114, 169, 253, 210, 139, 37], [90, 65, 66, 177, 25, 73, 220, 31, 163, 224, 25, 101, 122, 140, 4, 12], [234, 131, 92, 240, 4, 69, 51, 45, 101, 93, 152, 173, 133, 150, 176, 197], [235, 64, 242, 30, 89, 46, 56, 132, 139, 161, 19, 231, 27, 195, 66, 210], [57, 37, 132, 29, 2, 220, 9, 251, 220, 17, 133, 151, 25, 106, 11, 50]]
def wsF (key : List UInt8) (i : Nat) (p : List UInt32 × UInt8) : List UInt32 × UInt8 :=
  if i < 4 then (p.1 ++ [keyW key i], p.2)
  else if i % 4 = 0 then (p.1 ++ [x32 (p.1.getD (i - 4) 0) (x32 (boxW (rotr (p.1.getD (i - 1) 0) (-8))) (shl24 p.2))], tw p.2)
  else (p.1 ++ [x32 (p.1.getD (i - 4) 0) (p.1.getD (i - 1) 0)], p.2)
theorem wsN_succ (key : List UInt8) (i : Nat) : wsN key (i + 1) = wsF key i (wsN key i) := rfl
set_option maxRecDepth 100000 in
theorem exW_step : ∀ k : Fin 44, wsF exKey k.val (exW.take k.val, exR.getD k.val 0) = (exW.take (k.val + 1), exR.getD (k.val + 1) 0) := by decide +kernel
theorem exW_all : ∀ k, k ≤ 44 → wsN exKey k = (exW.take k, exR.getD k 0) := by
  intro k
  induction k with
  | zero => intro _; rfl
  | succ k ih =>
    intro h
    rw [wsN_succ, ih (by omega)]
    exact exW_step ⟨k, by omega⟩
theorem exW_is : ksW exKey = exW := by
  unfold ksW
  rw [exW_all 44 (by omega)]
  decide +kernel
def kbL (W : List UInt32) : Nat → List UInt8
  | 0 => List.replicate 176 0
  | k + 1 => splice (kbL W k) (4 * k) (putB 4 (W.getD k 0).toNat)
theorem kbK_kbL (key : List UInt8) : ∀ k, kbK key k = kbL (ksW key) k
  | 0 => rfl
  | k + 1 => by rw [kbK, kbL, kbK_kbL key k]
set_option maxRecDepth 100000 in
theorem exK_is : rks exKey = exK := by
  unfold rks
  rw [kbK_kbL, exW_is]
  decide +kernel
set_option maxRecDepth 100000 in
theorem exS_step : ∀ r : Fin 10, roundS exK (exS.getD r.val []) (r.val + 1) = exS.getD (r.val + 1) [] := by decide +kernel
theorem exS_all : ∀ r, r ≤ 10 → blkN exK exBlk r = exS.getD r [] := by
  intro r
  induction r with
  | zero => intro _; decide +kernel
  | succ r ih =>
    intro h
    rw [blkN, ih (by omega)]
    exact exS_step ⟨r, by omega⟩
theorem ex_sum : encL (rks exKey) exBlk = [57, 37, 132, 29, 2, 220, 9, 251, 220, 17, 133, 151, 25, 106, 11, 50] := by
  rw [exK_is, encL, exS_all 10 (by omega)]
  decide +kernel
end Go.Proofs.Ytbacamepmilmhaa
