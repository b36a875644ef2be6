/- Contracts: layer 4, a block ciphered. -/
import Derived.Test.YtclekllaikcglaaGreatMixed
import Derived.Test.YtclekllaikcglaaGreatAes
import Derived.Test.YtclekllaikcglaaGreatWeave
namespace Go.Proofs.YtclekllaikcglaaGreat
open Go Go.RowKit

theorem zero_b16 (w : World) : Sem.run Tryz.prog (zeroValue 162) w = .ok (.agg (bcells (List.replicate 16 0))) w := by kernel_rfl
theorem info_b16 : (Tryz.prog.info? 162).map (·.size) = some 16 := by kernel_rfl
theorem und_b16 : Tryz.prog.underlying 162 = some (.array 16 5) := by kernel_rfl
def z16 : List UInt8 := List.replicate 16 0
theorem zero_b16' (w : World) : Sem.run Tryz.prog (zeroValue 162) w = .ok (.agg (bcells z16)) w := zero_b16 w
theorem z16_length : z16.length = 16 := List.length_replicate
/-- Boxes, rows turned. -/
def subS (s : List UInt8) : List UInt8 := (List.range 16).map fun i => boxO (s.getD ((i + 4 * (i % 4)) % 16) 0)
@[simp] theorem subS_length (s : List UInt8) : (subS s).length = 16 := by simp [subS]
/-- The first j columns mixed. -/
def mixC (f s : List UInt8) : Nat → List UInt8
  | 0 => s
  | j + 1 => splice (mixC f s j) (4 * j) (mixL f (((mixC f s j).drop (4 * j)).take 4))
theorem mixC_length (f s : List UInt8) (hs : s.length = 16) : ∀ j, j ≤ 4 → (mixC f s j).length = 16
  | 0, _ => hs
  | j + 1, h => by
    have := mixC_length f s hs j (by omega)
    rw [mixC, splice_length _ _ _ (by rw [this, mixL_length]; omega), this]
/-- A round. -/
def roundS (K s : List UInt8) (r : Nat) : List UInt8 := xorL (if r < 10 then mixC [2, 3, 1, 1] (subS s) 4 else subS s) (rkey K r)
/-- What a block is behind r rounds. -/
def blkN (K s : List UInt8) : Nat → List UInt8
  | 0 => xorL s (rkey K 0)
  | r + 1 => roundS K (blkN K s r) (r + 1)
theorem xorL_len (a b : List UInt8) (ha : a.length = 16) (hb : b.length = 16) : (xorL a b).length = 16 := by rw [xorL_length a b (by omega)]; exact ha
theorem blkN_length (K s : List UInt8) (hK : K.length = 176) (hs : s.length = 16) : ∀ r, r ≤ 10 → (blkN K s r).length = 16
  | 0, _ => xorL_len _ _ hs (rkey_length K hK 0 (by omega))
  | r + 1, h => by
    have hm := mixC_length [2, 3, 1, 1] (subS (blkN K s r)) (subS_length _) 4 (by omega)
    unfold blkN roundS
    split
    · exact xorL_len _ _ hm (rkey_length K hK _ h)
    · exact xorL_len _ _ (subS_length _) (rkey_length K hK _ h)
def encL (K s : List UInt8) : List UInt8 := blkN K s 10
/-- The first k bytes boxed. -/
def subK (s : List UInt8) (k : Nat) : List UInt8 := (subS s).take k ++ s.drop k
theorem subK_length (s : List UInt8) (hs : s.length = 16) (k : Nat) (hk : k ≤ 16) : (subK s k).length = 16 := by
  unfold subK; rw [List.length_append, List.length_take, subS_length, List.length_drop]; omega
theorem subK_set (s : List UInt8) (hs : s.length = 16) (k : Nat) (hk : k < 16) : (subK s k).set k (boxO (s.getD ((k + 4 * (k % 4)) % 16) 0)) = subK s (k + 1) := by
  unfold subK
  rw [List.set_append_right _ _ (by rw [List.length_take, subS_length]; omega), List.length_take, subS_length, Nat.min_eq_left (by omega), Nat.sub_self]
  rw [List.take_succ_eq_append_getElem (by rw [subS_length]; exact hk), List.drop_eq_getElem_cons (by omega), List.set_cons_zero, List.append_assoc]
  simp [subS]
theorem subK_all (s : List UInt8) (hs : s.length = 16) : subK s 16 = subS s := by
  unfold subK
  rw [List.take_of_length_le (by simp), List.drop_of_length_le (by omega), List.append_nil]
set_option maxRecDepth 100000 in
set_option maxHeartbeats 1000000 in
theorem Block_no (c : Nat) (K s : List UInt8) (w : World) (hci : CI w c K) (h : s.length ≠ 16) (_hl : s.length ≤ 140737488351232) :
    Calls Tryz.prog 128 #[.pointer (some ⟨c, 0, none⟩), .string (bs s)] w fun e w' => e = .returned (.tuple #[.string (bs []), .bool false]) ∧ w = w' := by
  have hmd := hci.made
  have hne : ((s.length : Int) != 16) = true := by simp; omega
  clear hci
  go_enter Tryz.func128, Tryz.ntmps128
  go_wp2
  go_returns
  exact ⟨rfl, rfl⟩
theorem slice16_4 (c j : Nat) (hj : j < 4) (W : World) : Sem.run Tryz.prog (Instr.sliceAt 162 (.pointer (some ⟨c, 0, none⟩)) (some (.int .i64 (4 * (j : Int)))) (some (.int .i64 (4 * (j : Int) + 4))) none) W = .ok (.slice (some ⟨c, 4 * j, none⟩) 4 (16 - 4 * j)) W := by
  rcases (by omega : j = 0 ∨ j = 1 ∨ j = 2 ∨ j = 3) with rfl | rfl | rfl | rfl <;> kernel_rfl
theorem splice_z16 (s : List UInt8) (hs : s.length = 16) : splice z16 0 (s.take 16) = s := by
  rw [List.take_of_length_le (by omega)]
  unfold splice
  rw [List.take_zero, List.nil_append, List.drop_of_length_le (by rw [z16_length]; omega), List.append_nil]
set_option maxRecDepth 100000 in
set_option maxHeartbeats 4000000 in
theorem Block_yes (c : Nat) (K s : List UInt8) (w : World) (hci : CI w c K) (hs : s.length = 16) :
    Calls Tryz.prog 128 #[.pointer (some ⟨c, 0, none⟩), .string (bs s)] w fun e w' => e = .returned (.tuple #[.string (bs (encL K s)), .bool true]) ∧ Ext w w' := by
  have hmd := hci.made
  have hcl := blk_lt hci.2
  have hK := Lib.hid hci.1
  have HC := Lib.hid hci
  have hz := zero_b16'
  have HI := Lib.hid info_b16
  have HSP := Lib.hid (splice_z16 s hs)
  have GA := Lib.hid (fun (g : Nat) (t : List UInt8) (r : Nat) (W : World) (h1 : CI W c K) (h2 : c < g) (h3 : t.length = 16) (h4 : r ≤ 10) (h5 : W.heap[g]? = some (.cells (bcells t) 162 (0, 0))) => adds_any c K g t r W h1 h2 h3 h4 h5)
  have GA0 : Hid (∀ (g : Nat) (t : List UInt8) (W : World) (h1 : CI W c K) (h2 : c < g) (h3 : t.length = 16) (h5 : W.heap[g]? = some (.cells (bcells t) 162 (0, 0))), Calls Tryz.prog 147 #[.pointer (some ⟨c, 0, none⟩), .pointer (some ⟨g, 0, none⟩), .int .i64 0] W fun e w' => e = .returned (.tuple #[]) ∧ w'.heap[g]? = some (.cells (bcells (xorL t (rkey K 0))) 162 (0, 0)) ∧ Below g W w') := Lib.hid fun g t W h1 h2 h3 h5 => adds_any c K g t 0 W h1 h2 h3 (by omega) h5
  have GM : Hid (∀ (g o cap : Nat) (t : List UInt8) (W : World) (h1 : W.heap[g]? = some (.cells (bcells t) 162 (0, 0))) (h2 : o + 4 ≤ t.length), Calls Tryz.prog 148 #[.slice (some ⟨g, o, none⟩) 4 cap, .agg #[.int .u8 2, .int .u8 3, .int .u8 1, .int .u8 1]] W fun e w' => e = .returned (.tuple #[]) ∧ w'.heap[g]? = some (.cells (bcells (splice t o (mixL [2, 3, 1, 1] ((t.drop o).take 4)))) 162 (0, 0)) ∧ Below g W w') := Lib.hid fun g o cap t W h1 h2 => mixed_any g o cap t [2, 3, 1, 1] 2 3 1 1 rfl _ W h1 h2
  clear hci
  go_enter Tryz.func128, Tryz.ntmps128
  go_upto_region 6 with (first
    | (refine wpl_copy_str rfl rfl und_bytes info_u8 rfl rfl (L := z16) (heap_alloc_new w _) (by rw [z16_length]; decide) ?_; intro w1 hb1 _ hbel1; rw [HSP.out] at hb1; have HB1 := Lib.hid hb1; have hx1 : Ext w w1 := ((Ext.refl w).alloc _).trans_below hbel1; clear hb1 hbel1)
    | (go_at_call 147; refine (GA0.out w.heap.size s w1 (HC.out.ext hx1) hcl hs HB1.out).mono ?_; rintro e w2 ⟨rfl, hb2, hbel2⟩; have HB2 := Lib.hid hb2; have hx2 : Ext w w2 := hx1.trans_below hbel2; clear hb2 hbel2))
  have HX2 := Lib.hid hx2
  clear hx2 hx1 hz
  have hz := zero_b16'
  go_wp2
  go_loopw [7] (fun i wr => ∃ r : Nat, 1 ≤ r ∧ r ≤ 11 ∧ i = .int .i64 r ∧ wr.heap[w.heap.size]? = some (.cells (bcells (blkN K s (r - 1))) 162 (0, 0)) ∧ Ext w wr) (fun i _ => 11 - (intOf i).toNat)
  case atStart => exact ⟨1, by omega, by omega, rfl, HB2.out, HX2.out⟩
  case round =>
    obtain ⟨r, hr1, hr11, rfl, hb, hx⟩ := hrel
    have HB := Lib.hid hb
    clear hb
    by_cases hlt : r ≤ 10
    · have htl := blkN_length K s hK.out hs (r - 1) (by omega)
      have HN : Hid (blkN K s r = roundS K (blkN K s (r - 1)) r) := Lib.hid (by
        obtain ⟨r', rfl⟩ : ∃ r', r = r' + 1 := ⟨r - 1, by omega⟩
        rfl)
      generalize blkN K s (r - 1) = t at *
      have hIt := Lib.hid (show (Tryz.prog.info? 162).map (·.size) = some (bcells t).size by rw [bcells_size, htl]; exact info_b16)
      have hZt := Lib.hid (show (bcells z16).size = (bcells t).size by rw [bcells_size, bcells_size, htl, z16_length])
      go_upto_region 10 with (first
        | (refine wpList_load_row rfl _ _ rfl w.heap.size rfl _ _ _ _ HB.out und_b16 rfl hIt.out ?_)
        | (refine wpList_store_row rfl _ _ _ rfl wr.heap.size (bcells t) rfl rfl _ _ (heap_alloc_new wr _) hIt.out hZt.out (bcells_all _) ?_))
      obtain ⟨w4, hw4⟩ : ∃ w4, (wr.alloc (Obj.cells (bcells z16) 162)).setRow wr.heap.size (bcells t) = w4 := ⟨_, rfl⟩
      have hb8 : w4.heap[wr.heap.size]? = some (.cells (bcells t) 162 (0, 0)) := by rw [← hw4]; exact setRow_get (heap_alloc_new wr _)
      have hx4 : Ext wr w4 := by rw [← hw4]; exact below_setRow ((Ext.refl wr).alloc _) (Nat.le_refl _) _
      have hbB := hx4.keep HB.out
      have hxw := hx.trans hx4
      have hBlt : w.heap.size < wr.heap.size := blk_lt HB.out
      rw [hw4]
      clear hw4 hz
      obtain ⟨W8, hW8⟩ : ∃ W8, wr.heap.size = W8 := ⟨_, rfl⟩
      rw [hW8] at hb8 hBlt ⊢
      have K8 := Lib.hid hb8; have KB := Lib.hid hbB; have KX := Lib.hid hxw
      clear hb8 hbB hxw hx4 hW8 HB hx
      go_wp2
      go_loopw [35] (fun i wr => ∃ k : Nat, k ≤ 16 ∧ i = .int .i64 k ∧ wr.heap[w.heap.size]? = some (.cells (bcells (subK t k)) 162 (0, 0)) ∧ wr.heap[W8]? = some (.cells (bcells t) 162 (0, 0)) ∧ Ext w wr) (fun i _ => 16 - (intOf i).toNat)
      case atStart => exact ⟨0, by omega, rfl, by rw [show subK t 0 = t by simp [subK]]; exact KB.out, K8.out, KX.out⟩
      case round =>
        clear K8 KB KX
        obtain ⟨k, hk, rfl, hb, hb8, hx⟩ := hrel
        have HB := Lib.hid hb; have H8 := Lib.hid hb8
        clear hb hb8
        by_cases hlk : k < 16
        · obtain ⟨m, hm4⟩ : ∃ m : Nat, (k : Int) % 4 = (m : Int) := ⟨k % 4, by omega⟩
          obtain ⟨idx, hidx⟩ : ∃ idx : Nat, ((k : Int) + 4 * (m : Int)) % 16 = (idx : Int) := ⟨(k + 4 * m) % 16, by omega⟩
          have hidn : idx = (k + 4 * (k % 4)) % 16 := by omega
          have hi16 : (idx : Int) < 16 := by omega
          have hk16 : (k : Int) < 16 := by omega
          have hx8 := cell_blk (i := idx) H8.out (bcells_at t idx (by omega))
          rw [show t[idx]'(by omega) = t.getD idx 0 by simp [List.getD, show idx < t.length by omega]] at hx8
          have hbx := (HC.out.ext hx).box (t.getD idx 0)
          have HS := Lib.hid (subK_set t htl k hlk)
          rw [← hidn] at HS
          have hcc : ∃ c0, wr.cell? ⟨w.heap.size, k, none⟩ = some c0 := ⟨_, cell_blk HB.out (bcells_at _ k (by rw [subK_length t htl k hk]; exact hlk))⟩
          obtain ⟨c0, hc0⟩ := hcc
          have htm : (k : Int).tmod 4 = (m : Int) := by rw [Int.tmod_eq_emod_of_nonneg (by omega)]; exact hm4
          have hwm : IntKind.i64.wrap (4 * (m : Int)) = 4 * (m : Int) := by rw [IntKind.wrap_i64]; omega
          have hwa : IntKind.i64.wrap ((k : Int) + 4 * (m : Int)) = (k : Int) + 4 * (m : Int) := by rw [IntKind.wrap_i64]; omega
          have hti : ((k : Int) + 4 * (m : Int)).tmod 16 = (idx : Int) := by rw [Int.tmod_eq_emod_of_nonneg (by omega)]; exact hidx
          clear hidn
          generalize t.getD idx 0 = x at *
          have hxl := x.toNat_lt
          have hxi : (x.toNat : Int) < 256 := by omega
          go_wp2
          refine Loud.wp_region_weave 15 wr (Loud.sps [.val (.int .i64 (k : Int)), .val (.pointer (some ⟨c, 0, none⟩)), .val (.int .i64 (k : Int)), .val (.int .i64 (k : Int)), .val (.int .i64 (m : Int)), .val (.int .i64 (4 * (m : Int))), .val (.int .i64 ((k : Int) + 4 * (m : Int))), .val (.int .i64 (idx : Int)), .val (.pointer (some ⟨W8, idx, none⟩)), .val (.int .u8 (x.toNat : Int)), .val (.pointer (some ⟨c, 0, none⟩)), .val (.pointer (some ⟨c, 176, none⟩)), .val (.pointer (some ⟨c, 176 + x.toNat, none⟩)), .val (.int .u8 ((boxO x).toNat : Int)), .val (.pointer (some ⟨w.heap.size, k, none⟩))]) (by kernel_rfl) (by kernel_rfl) (by show Ext _ _; repeat (first | exact Ext.refl _ | assumption | (with_reducible refine Ext.drew ?_) | (with_reducible refine Ext.drewN ?_ _) | (with_reducible refine Ext.alloc ?_ _) | (refine Ext.trans ?_ (by assumption)))) (Loud.sps_st _) ?wAx1 ?whAx1 ?whSx1 ?whFx1
          case whAx1 => intro u K hK; simp only [List.take_succ_cons, List.take_zero, Loud.puts]; go_simp; exact hK
          case whSx1 =>
            simp only [List.take_succ_cons, List.take_zero, Loud.stepsW]
            refine ⟨?wsx1_0, ?wsx1_1, ?wsx1_2, ?wsx1_3, ?wsx1_4, ?wsx1_5, ?wsx1_6, ?wsx1_7, ?wsx1_8, ?wsx1_9, ?wsx1_10, ?wsx1_11, ?wsx1_12, ?wsx1_13, ?wsx1_14, trivial⟩
            case wsx1_0 =>
              intro u β wq hq h
              repeat (obtain ⟨h1, h⟩ := h; first | (replace h1 := h1 rfl; simp only [go_sem] at h1; try (obtain ⟨h1, h1b⟩ := h1)) | (have hno := (h1 : Region.binds _ _ = true → _); clear hno h1))
              refine Or.inl ⟨rfl, fun K hK => ?_⟩
              go_simp
              exact hK _ 0 _ (Ext.refl _) rfl
            case wsx1_1 =>
              intro u β wq hq h
              repeat (obtain ⟨h1, h⟩ := h; first | (replace h1 := h1 rfl; simp only [go_sem] at h1; try (obtain ⟨h1, h1b⟩ := h1)) | (have hno := (h1 : Region.binds _ _ = true → _); clear hno h1))
              refine Or.inl ⟨rfl, fun K hK => ?_⟩
              go_simp
              exact hK _ 0 _ (Ext.refl _) rfl
            case wsx1_2 =>
              intro u β wq hq h
              repeat (obtain ⟨h1, h⟩ := h; first | (replace h1 := h1 rfl; simp only [go_sem] at h1; try (obtain ⟨h1, h1b⟩ := h1)) | (have hno := (h1 : Region.binds _ _ = true → _); clear hno h1))
              refine Or.inl ⟨rfl, fun K hK => ?_⟩
              go_simp
              exact hK _ 0 _ (Ext.refl _) rfl
            case wsx1_3 =>
              intro u β wq hq h
              repeat (obtain ⟨h1, h⟩ := h; first | (replace h1 := h1 rfl; simp only [go_sem] at h1; try (obtain ⟨h1, h1b⟩ := h1)) | (have hno := (h1 : Region.binds _ _ = true → _); clear hno h1))
              refine Or.inl ⟨rfl, fun K hK => ?_⟩
              go_simp
              exact hK _ 0 _ (Ext.refl _) rfl
            case wsx1_4 =>
              intro u β wq hq h
              repeat (obtain ⟨h1, h⟩ := h; first | (replace h1 := h1 rfl; simp only [go_sem] at h1; try (obtain ⟨h1, h1b⟩ := h1)) | (have hno := (h1 : Region.binds _ _ = true → _); clear hno h1))
              refine Or.inl ⟨rfl, fun K hK => ?_⟩
              go_simp
              exact hK _ 0 _ (Ext.refl _) rfl
            case wsx1_5 =>
              intro u β wq hq h
              repeat (obtain ⟨h1, h⟩ := h; first | (replace h1 := h1 rfl; simp only [go_sem] at h1; try (obtain ⟨h1, h1b⟩ := h1)) | (have hno := (h1 : Region.binds _ _ = true → _); clear hno h1))
              refine Or.inl ⟨rfl, fun K hK => ?_⟩
              go_simp
              exact hK _ 0 _ (Ext.refl _) rfl
            case wsx1_6 =>
              intro u β wq hq h
              repeat (obtain ⟨h1, h⟩ := h; first | (replace h1 := h1 rfl; simp only [go_sem] at h1; try (obtain ⟨h1, h1b⟩ := h1)) | (have hno := (h1 : Region.binds _ _ = true → _); clear hno h1))
              refine Or.inl ⟨rfl, fun K hK => ?_⟩
              go_simp
              exact hK _ 0 _ (Ext.refl _) rfl
            case wsx1_7 =>
              intro u β wq hq h
              repeat (obtain ⟨h1, h⟩ := h; first | (replace h1 := h1 rfl; simp only [go_sem] at h1; try (obtain ⟨h1, h1b⟩ := h1)) | (have hno := (h1 : Region.binds _ _ = true → _); clear hno h1))
              refine Or.inl ⟨rfl, fun K hK => ?_⟩
              go_simp
              exact hK _ 0 _ (Ext.refl _) rfl
            case wsx1_8 =>
              intro u β wq hq h
              repeat (obtain ⟨h1, h⟩ := h; first | (replace h1 := h1 rfl; simp only [go_sem] at h1; try (obtain ⟨h1, h1b⟩ := h1)) | (have hno := (h1 : Region.binds _ _ = true → _); clear hno h1))
              refine Or.inl ⟨rfl, fun K hK => ?_⟩
              go_simp
              exact hK _ 0 _ (Ext.refl _) rfl
            case wsx1_9 =>
              intro u β wq hq h
              repeat (obtain ⟨h1, h⟩ := h; first | (replace h1 := h1 rfl; simp only [go_sem] at h1; try (obtain ⟨h1, h1b⟩ := h1)) | (have hno := (h1 : Region.binds _ _ = true → _); clear hno h1))
              refine Or.inl ⟨rfl, fun K hK => ?_⟩
              have hqc := hq.cell_of hx8
              go_simp
              exact hK _ 0 _ (Ext.refl _) rfl
            case wsx1_10 =>
              intro u β wq hq h
              repeat (obtain ⟨h1, h⟩ := h; first | (replace h1 := h1 rfl; simp only [go_sem] at h1; try (obtain ⟨h1, h1b⟩ := h1)) | (have hno := (h1 : Region.binds _ _ = true → _); clear hno h1))
              refine Or.inl ⟨rfl, fun K hK => ?_⟩
              go_simp
              exact hK _ 0 _ (Ext.refl _) rfl
            case wsx1_11 =>
              intro u β wq hq h
              repeat (obtain ⟨h1, h⟩ := h; first | (replace h1 := h1 rfl; simp only [go_sem] at h1; try (obtain ⟨h1, h1b⟩ := h1)) | (have hno := (h1 : Region.binds _ _ = true → _); clear hno h1))
              refine Or.inl ⟨rfl, fun K hK => ?_⟩
              go_simp
              exact hK _ 0 _ (Ext.refl _) rfl
            case wsx1_12 =>
              intro u β wq hq h
              repeat (obtain ⟨h1, h⟩ := h; first | (replace h1 := h1 rfl; simp only [go_sem] at h1; try (obtain ⟨h1, h1b⟩ := h1)) | (have hno := (h1 : Region.binds _ _ = true → _); clear hno h1))
              refine Or.inl ⟨rfl, fun K hK => ?_⟩
              go_simp
              exact hK _ 0 _ (Ext.refl _) rfl
            case wsx1_13 =>
              intro u β wq hq h
              repeat (obtain ⟨h1, h⟩ := h; first | (replace h1 := h1 rfl; simp only [go_sem] at h1; try (obtain ⟨h1, h1b⟩ := h1)) | (have hno := (h1 : Region.binds _ _ = true → _); clear hno h1))
              refine Or.inl ⟨rfl, fun K hK => ?_⟩
              have hqc := hq.cell_of hbx
              go_simp
              exact hK _ 0 _ (Ext.refl _) rfl
            case wsx1_14 =>
              intro u β wq hq h
              repeat (obtain ⟨h1, h⟩ := h; first | (replace h1 := h1 rfl; simp only [go_sem] at h1; try (obtain ⟨h1, h1b⟩ := h1)) | (have hno := (h1 : Region.binds _ _ = true → _); clear hno h1))
              refine Or.inl ⟨rfl, fun K hK => ?_⟩
              go_simp
              exact hK _ 0 _ (Ext.refl _) rfl
          intro u β w5 hq h
          have h0 := h 0 (by omega)
          have h1 := h 1 (by omega)
          have h2 := h 2 (by omega)
          have h3 := h 3 (by omega)
          have h4 := h 4 (by omega)
          have h5 := h 5 (by omega)
          have h6 := h 6 (by omega)
          have h7 := h 7 (by omega)
          have h8 := h 8 (by omega)
          have h9 := h 9 (by omega)
          have h10 := h 10 (by omega)
          have h11 := h 11 (by omega)
          have h12 := h 12 (by omega)
          have h13 := h 13 (by omega)
          have h14 := h 14 (by omega)
          clear h
          simp only [go_sem] at h0 h1 h2 h3 h4 h5 h6 h7 h8 h9 h10 h11 h12 h13 h14
          simp only [List.drop_succ_cons, List.drop_zero]
          rw [h14]
          have hbq := Lib.hid (hq.keep HB.out)
          have h8q := Lib.hid (hq.keep H8.out)
          have hc1 := hq.cell_of hc0
          have hf1 : w5.frozen? ⟨w.heap.size, k, none⟩ = false := frozen_blk hbq.out
          have hxq := hx.trans hq
          try rw [h13]
          go_wp2
          go_roundw
          case measure => simp [intOf]; omega
          case rel =>
            refine ⟨k + 1, by omega, by go_num, ?_, ?_, hxq.setCell (Nat.le_refl _) _⟩
            · rw [heap_setCell_same _ hbq.out, bcells_set, HS.out]
            · rw [heap_setCell_other _ _ _ (by show W8 ≠ w.heap.size; omega)]; exact h8q.out
        · obtain rfl : k = 16 := by omega
          rw [subK_all t htl] at HB
          have HX := hx
          clear H8
          by_cases hr10 : r < 10
          · go_wp2
            obtain ⟨wo, hwo⟩ : ∃ x, x = wr := ⟨_, rfl⟩
            subst hwo
            go_loopw [10] (fun i wr => ∃ j : Nat, j ≤ 4 ∧ i = .int .i64 (4 * (j : Int)) ∧ wr.heap[w.heap.size]? = some (.cells (bcells (mixC [2, 3, 1, 1] (subS t) j)) 162 (0, 0)) ∧ Ext w wr) (fun i _ => 16 - (intOf i).toNat)
            case atStart => exact ⟨0, by omega, rfl, HB.out, hx⟩
            case round =>
              clear HB HX hx
              obtain ⟨j, hj, rfl, hb, hx⟩ := hrel
              have HB := Lib.hid hb
              clear hb
              have HX := hx
              by_cases hlj : j < 4
              · have hsl := slice16_4 w.heap.size j hlj
                have hml := mixC_length [2, 3, 1, 1] (subS t) (subS_length t) j hj
                have HM : Hid (mixC [2, 3, 1, 1] (subS t) (j + 1) = splice (mixC [2, 3, 1, 1] (subS t) j) (4 * j) (mixL [2, 3, 1, 1] (((mixC [2, 3, 1, 1] (subS t) j).drop (4 * j)).take 4))) := Lib.hid rfl
                generalize mixC [2, 3, 1, 1] (subS t) j = u at *
                go_wp2_with (go_at_call 148; refine (GM.out w.heap.size (4 * j) _ u wr HB.out (by omega)).mono ?_; rintro e w6 ⟨rfl, hb6, hbel6⟩; have HB6 := Lib.hid hb6; have hx6 : Ext w w6 := hx.trans_below hbel6; clear hb6 hbel6)
                go_roundw
                case measure => simp [intOf]; omega
                case rel =>
                  repeat apply Exists.intro
                  refine ⟨?_, rfl⟩
                  exact ⟨j + 1, by omega, by go_num, by rw [HM.out]; exact HB6.out, hx6⟩
              · obtain rfl : j = 4 := by omega
                have hml := mixC_length [2, 3, 1, 1] (subS t) (subS_length t) 4 (by omega)
                go_wp2_with (go_at_call 147; refine (GA.out w.heap.size (mixC [2, 3, 1, 1] (subS t) 4) r _ (HC.out.ext HX) hcl hml hlt HB.out).mono ?_; rintro e w6 ⟨rfl, hb6, hbel6⟩; have HB6 := Lib.hid hb6; have hx6 : Ext w w6 := HX.trans_below hbel6; clear hb6 hbel6)
                go_roundw
                case measure => simp [intOf]; omega
                case rel => exact ⟨r + 1, by omega, by omega, by go_num, by rw [show r + 1 - 1 = r by omega, HN.out, roundS, if_pos hr10]; exact HB6.out, hx6⟩
          · go_wp2
            obtain ⟨wo, hwo⟩ : ∃ x, x = wr := ⟨_, rfl⟩
            subst hwo
            go_loopw [10] (fun i wr => i = .int .i64 0 ∧ wr.heap[w.heap.size]? = some (.cells (bcells (subS t)) 162 (0, 0)) ∧ Ext w wr) (fun _ _ => 0)
            case atStart => exact ⟨rfl, HB.out, hx⟩
            case round =>
              clear HB HX hx
              obtain ⟨rfl, hb, hx⟩ := hrel
              have HB := Lib.hid hb
              clear hb
              have HX := hx
              go_wp2_with (go_at_call 147; refine (GA.out w.heap.size (subS t) r _ (HC.out.ext HX) hcl (subS_length t) hlt HB.out).mono ?_; rintro e w6 ⟨rfl, hb6, hbel6⟩; have HB6 := Lib.hid hb6; have hx6 : Ext w w6 := HX.trans_below hbel6; clear hb6 hbel6)
              go_roundw
              case measure => simp [intOf]; omega
              case rel => exact ⟨r + 1, by omega, by omega, by go_num, by rw [show r + 1 - 1 = r by omega, HN.out, roundS, if_neg hr10]; exact HB6.out, hx6⟩
    · obtain rfl : r = 11 := by omega
      have htl := blkN_length K s hK.out hs 10 (by omega)
      have HE : Hid (encL K s = blkN K s 10) := Lib.hid rfl
      rw [show 11 - 1 = 10 from rfl] at HB
      generalize blkN K s 10 = t at *
      have kc := fun c => to_str_of (c := c) (n := 16) HB.out htl
      clear htl
      go_wp2
      go_returns
      exact ⟨by rw [HE.out]; rfl, hx⟩
end Go.Proofs.YtclekllaikcglaaGreat
namespace Go.Proofs.YtclekllaikcglaaGreat
open Go Go.RowKit

theorem run_loadVar_part {P : Program} (w : World) (g off : Nat) (ty : TypeId) (cs : List Value) (d : TypeDesc) (hc : ∀ j v, cs[j]? = some v → w.cell? ⟨g, off + j, none⟩ = some v)
    (hu : P.underlying ty = some d) (hd : (match d with | .struct _ | .array _ _ => true | _ => false) = true) (hi : (P.info? ty).map (·.size) = some cs.length) :
    (loadVar ty ⟨g, off, none⟩).run P w = .ok (.agg cs.toArray) w := by
  have hl : (loadCells ⟨g, off, none⟩ cs.length).run P w = .ok cs.toArray w :=
    run_loadCells_list (P := P) w ⟨g, off, none⟩ cs (fun j v hv => by
      have hadd : (⟨g, off, none⟩ : Addr).add j = ⟨g, off + j, none⟩ := by unfold Addr.add; split <;> simp_all
      rw [hadd]; exact hc j v hv)
  cases hq : P.info? ty with
  | none => simp [hq] at hi
  | some i =>
    have hs : i.size = cs.length := by simpa [hq] using hi
    have hagg : (isAgg ty).run P w = .ok true w := by
      unfold isAgg
      rw [Sem.run_bind, run_underlying hu w]
      cases d <;> simp_all
    simp [loadVar, Sem.run_bind, hagg, sizeOf, typeInfo, hq, hs, hl]
theorem wpl_load_part {P : Program} {ops : Array Oper} {rest : List Oper} {o : Oper} {a : Act} {w : World} {Q : Exit → Act → World → Prop} (hgd : o.guard = none) {ty : TypeId} {x : Operand} (ho : o.op = .load ty x)
    {g off : Nat} (hx : a.eval x = .pointer (some ⟨g, off, none⟩)) (cs : List Value) (d : TypeDesc) (hc : ∀ j v, cs[j]? = some v → w.cell? ⟨g, off + j, none⟩ = some v)
    (hu : P.underlying ty = some d) (hd : (match d with | .struct _ | .array _ _ => true | _ => false) = true) (hi : (P.info? ty).map (·.size) = some cs.length)
    (h : wpList P ops Q rest (a.put o.dst (.agg cs.toArray)) w) : wpList P ops Q (o :: rest) a w := by
  refine wpList_plain hgd fun K hK => ?_
  unfold Oper.wp execOp
  simp only [ho, hx, Instr.loadAt, Instr.sureAddr, Sem.run_bind, Sem.run_pure, Result.andThen_ok, run_loadVar_part w g off ty cs d hc hu hd hi]
  exact hK _ _ h
theorem run_index_agg {P : Program} {t e n m : Nat} {d : TypeDesc} (ht : P.underlying t = some (.array n e)) (he : P.underlying e = some d) (hd : (match d with | .struct _ | .array _ _ => true | _ => false) = true) (hi : (P.info? e).map (·.size) = some m) (cs : Array Value) (k : Nat) (hk : k < n) (w : World) :
    (Instr.index t (.agg cs) (.int .i64 (k : Int))).run P w = .ok (.agg (cs.extract (k * m) (k * m + m))) w := by
  obtain ⟨i0, hi0, hs⟩ : ∃ i0, P.info? e = some i0 ∧ i0.size = m := by
    cases hq : P.info? e with
    | none => simp [hq] at hi
    | some i => exact ⟨i, rfl, by simpa [hq] using hi⟩
  have hagg : (isAgg e).run P w = .ok true w := by
    unfold isAgg
    rw [Sem.run_bind, run_underlying he w]
    cases d <;> simp_all
  simp [Instr.index, asIntOf, run_underlying ht, hk, sizeOf, typeInfo, hi0, hs, part, hagg]
theorem bcells_extract (l : List UInt8) (i j : Nat) : (bcells l).extract i j = bcells ((l.drop i).take (j - i)) := by
  simp [bcells, List.map_take, List.map_drop]
theorem und_keys : Tryz.prog.underlying 163 = some (.array 11 162) := by kernel_rfl
theorem info_keys : (Tryz.prog.info? 163).map (·.size) = some 176 := by kernel_rfl
theorem info_strR : (Tryz.prog.info? 9).map (fun i => (i.zero, i.size, i.bytes)) = some (some (.string { data := #[] }), 1, 16) := by kernel_rfl
theorem und_strsR : Tryz.prog.underlying 25 = some (.slice 9) := by kernel_rfl
/-- A cipher's round keys, as texts. -/
def rkL (K : List UInt8) : List (List UInt8) := (List.range 11).map (rkey K)
theorem rkL_length (K : List UInt8) : (rkL K).length = 11 := by simp [rkL]
end Go.Proofs.YtclekllaikcglaaGreat
namespace Go.Proofs.YtclekllaikcglaaGreat
open Go Go.RowKit

theorem b8_self (b : UInt8) : b8 b.toNat = b := by unfold b8; simp
theorem un_box_all : ∀ b : Fin 256, unO (boxO (b8 b.val)) = b8 b.val := by decide +kernel
theorem box_un_all : ∀ b : Fin 256, boxO (unO (b8 b.val)) = b8 b.val := by decide +kernel
theorem box_ne_all : ∀ b : Fin 256, boxO (b8 b.val) ≠ b8 b.val := by decide +kernel
theorem un_box (b : UInt8) : unO (boxO b) = b := by
  have := un_box_all ⟨b.toNat, b.toNat_lt⟩
  simp only [b8_self] at this
  exact this
theorem box_un (b : UInt8) : boxO (unO b) = b := by
  have := box_un_all ⟨b.toNat, b.toNat_lt⟩
  simp only [b8_self] at this
  exact this
theorem box_ne (b : UInt8) : boxO b ≠ b := by
  have := box_ne_all ⟨b.toNat, b.toNat_lt⟩
  simp only [b8_self] at this
  exact this
theorem box_inj (a b : UInt8) : boxO a = boxO b ↔ a = b := ⟨fun h => by rw [← un_box a, ← un_box b, h], fun h => by rw [h]⟩
/-! ### Words -/
theorem wsN_keep (key : List UInt8) (n : Nat) : ∀ d, (wsN key (n + 1 + d)).1.getD n 0 = (wsN key (n + 1)).1.getD n 0
  | 0 => rfl
  | d + 1 => by
    rw [← wsN_keep key n d]
    have hl := wsN_length key (n + 1 + d)
    have : ∃ x r, wsN key (n + 1 + d + 1) = ((wsN key (n + 1 + d)).1 ++ [x], r) := by
      rw [wsN]
      split
      · exact ⟨_, _, rfl⟩
      · split
        · exact ⟨_, _, rfl⟩
        · exact ⟨_, _, rfl⟩
    obtain ⟨x, r, hx⟩ := this
    rw [show n + 1 + (d + 1) = n + 1 + d + 1 by omega, hx]
    simp only [List.getD]
    rw [List.getElem?_append_left (by omega)]
theorem ksW_at (key : List UInt8) (n : Nat) (hn : n < 44) : (ksW key).getD n 0 = (wsN key (n + 1)).1.getD n 0 := by
  have := wsN_keep key n (44 - (n + 1))
  rw [show n + 1 + (44 - (n + 1)) = 44 by omega] at this
  exact this
theorem wsN_last (key : List UInt8) (n : Nat) (x : UInt32) (r : UInt8) (h : wsN key (n + 1) = ((wsN key n).1 ++ [x], r)) : (wsN key (n + 1)).1.getD n 0 = x := by
  have hl := wsN_length key n
  rw [h]
  simp only [List.getD]
  rw [List.getElem?_append_right (by omega), hl, Nat.sub_self]
  rfl
theorem wsN_old (key : List UInt8) (n j : Nat) (hj : j < n) (hn : n ≤ 44) : (wsN key n).1.getD j 0 = (ksW key).getD j 0 := by
  rw [ksW_at key j (by omega)]
  have := wsN_keep key j (n - (j + 1))
  rw [show j + 1 + (n - (j + 1)) = n by omega] at this
  exact this
theorem ksW_key (key : List UInt8) (n : Nat) (h : n < 4) : (ksW key).getD n 0 = keyW key n := by
  rw [ksW_at key n (by omega)]
  exact wsN_last key n _ (wsN key n).2 (by rw [wsN]; simp only [if_pos h])
theorem ksW_mid (key : List UInt8) (n : Nat) (h4 : 4 ≤ n) (hn : n < 44) (hm : n % 4 ≠ 0) : (ksW key).getD n 0 = x32 ((ksW key).getD (n - 4) 0) ((ksW key).getD (n - 1) 0) := by
  rw [ksW_at key n hn, wsN_last key n (x32 ((wsN key n).1.getD (n - 4) 0) ((wsN key n).1.getD (n - 1) 0)) (wsN key n).2 (by rw [wsN]; simp only [if_neg (show ¬ n < 4 by omega), if_neg hm]), wsN_old key n (n - 4) (by omega) (by omega), wsN_old key n (n - 1) (by omega) (by omega)]
/-! ### Bytes -/
theorem putB_get (n m : Nat) (h : m < 4) : (putB 4 n)[m]? = some (UInt8.ofNat (n / 2 ^ (8 * (3 - m)))) := by
  rw [putB_at 4 n m h, show 4 - 1 - m = 3 - m by omega]
theorem kbK_at (key : List UInt8) : ∀ (n : Nat), n ≤ 44 → ∀ (i m : Nat), i < n → m < 4 → (kbK key n)[4 * i + m]? = some (UInt8.ofNat (((ksW key).getD i 0).toNat / 2 ^ (8 * (3 - m))))
  | 0, _, i, _, hi, _ => by omega
  | n + 1, hn, i, m, hi, hm => by
    have hl := kbK_length key n (by omega)
    have hp := putB_length 4 ((ksW key).getD n 0).toNat
    rw [kbK]
    unfold splice
    by_cases h : i = n
    · subst h
      rw [List.append_assoc, List.getElem?_append_right (by rw [List.length_take]; omega), List.length_take, hl, Nat.min_eq_left (by omega), show 4 * i + m - 4 * i = m by omega, List.getElem?_append_left (by omega)]
      exact putB_get _ m hm
    · rw [List.append_assoc, List.getElem?_append_left (by rw [List.length_take]; omega), List.getElem?_take_of_lt (by omega)]
      exact kbK_at key n (by omega) i m (by omega) hm
theorem rks_at (key : List UInt8) (i m : Nat) (hi : i < 44) (hm : m < 4) : (rks key)[4 * i + m]? = some (UInt8.ofNat (((ksW key).getD i 0).toNat / 2 ^ (8 * (3 - m)))) := kbK_at key 44 (by omega) i m hi hm
theorem rks_length (key : List UInt8) : (rks key).length = 176 := kbK_length key 44 (by omega)
theorem xor_byte (a b : UInt32) (k : Nat) : UInt8.ofNat ((x32 a b).toNat / 2 ^ k) = x8 (UInt8.ofNat (a.toNat / 2 ^ k)) (UInt8.ofNat (b.toNat / 2 ^ k)) := by
  apply UInt8.toNat_inj.1
  unfold x32
  rw [x8_toNat, UInt32.toNat_xor, UInt8.toNat_ofNat', UInt8.toNat_ofNat', UInt8.toNat_ofNat']
  show (a.toNat ^^^ b.toNat) / 2 ^ k % 2 ^ 8 = (a.toNat / 2 ^ k % 2 ^ 8) ^^^ (b.toNat / 2 ^ k % 2 ^ 8)
  rw [← Nat.shiftRight_eq_div_pow, ← Nat.shiftRight_eq_div_pow, ← Nat.shiftRight_eq_div_pow, Nat.shiftRight_xor_distrib, Nat.xor_mod_two_pow]
/-- A round key's byte, of each word but the first: the one ahead, either or the one above. -/
theorem rks_rule (key : List UInt8) (i j : Nat) (hi1 : 1 ≤ i) (hi : i ≤ 10) (hj4 : 4 ≤ j) (hj : j < 16) :
    (rkey (rks key) i).getD j 0 = x8 ((rkey (rks key) i).getD (j - 4) 0) ((rkey (rks key) (i - 1)).getD j 0) := by
  have hK := rks_length key
  have at_ : ∀ r t, r ≤ 10 → t < 16 → (rkey (rks key) r).getD t 0 = UInt8.ofNat (((ksW key).getD (4 * r + t / 4) 0).toNat / 2 ^ (8 * (3 - t % 4))) := by
    intro r t hr ht
    have h1 := rks_at key (4 * r + t / 4) (t % 4) (by omega) (by omega)
    rw [show 4 * (4 * r + t / 4) + t % 4 = 16 * r + t by omega] at h1
    unfold rkey
    simp only [List.getD]
    rw [List.getElem?_take_of_lt ht, List.getElem?_drop, h1]
    rfl
  rw [at_ i j hi hj, at_ i (j - 4) hi (by omega), at_ (i - 1) j (by omega) hj]
  have hw := ksW_mid key (4 * i + j / 4) (by omega) (by omega) (by omega)
  rw [hw, xor_byte, show 4 * i + j / 4 - 4 = 4 * (i - 1) + j / 4 by omega, show 4 * i + j / 4 - 1 = 4 * i + (j - 4) / 4 by omega, show (j - 4) % 4 = j % 4 by omega]
  exact x8_comm _ _
theorem putB_getB4 (a b c d : UInt8) : putB 4 (getB [a, b, c, d]) = [a, b, c, d] := by
  have ha := a.toNat_lt; have hb := b.toNat_lt; have hc := c.toNat_lt; have hd := d.toNat_lt
  have e : getB [a, b, c, d] = ((a.toNat * 256 + b.toNat) * 256 + c.toNat) * 256 + d.toNat := by simp [getB]
  rw [e]
  simp only [putB, List.range, List.range.loop, List.map_cons, List.map_nil]
  congr 1
  · apply UInt8.toNat_inj.1; rw [UInt8.toNat_ofNat']; omega
  · congr 1
    · apply UInt8.toNat_inj.1; rw [UInt8.toNat_ofNat']; omega
    · congr 1
      · apply UInt8.toNat_inj.1; rw [UInt8.toNat_ofNat']; omega
      · congr 1
        apply UInt8.toNat_inj.1; rw [UInt8.toNat_ofNat']; omega
theorem putB_getB_len (l : List UInt8) (h : l.length = 4) : putB 4 (getB l) = l := by
  match l, h with
  | [a, b, c, d], _ => exact putB_getB4 a b c d
/-- The first round key is the key. -/
theorem rks_first (key : List UInt8) (h : key.length = 16) : rkey (rks key) 0 = key := by
  have hK := rks_length key
  apply List.ext_getElem?
  intro n
  by_cases hn : n < 16
  · have h1 := rks_at key (n / 4) (n % 4) (by omega) (by omega)
    rw [show 4 * (n / 4) + n % 4 = n by omega, ksW_key key (n / 4) (by omega)] at h1
    have hs : (seg key (4 * (n / 4)) 4).length = 4 := by unfold seg; rw [List.length_take, List.length_drop]; omega
    have h2 : (keyW key (n / 4)).toNat = getB (seg key (4 * (n / 4)) 4) := by
      unfold keyW; rw [UInt32.toNat_ofNat', Nat.mod_eq_of_lt (getB_u32 _ hs)]
    rw [h2, ← putB_get _ _ (by omega), putB_getB_len _ hs] at h1
    unfold rkey
    rw [List.getElem?_take_of_lt hn, List.getElem?_drop, Nat.mul_zero, Nat.zero_add, h1]
    unfold seg
    rw [List.getElem?_take_of_lt (by omega), List.getElem?_drop, show 4 * (n / 4) + n % 4 = n by omega]
  · rw [List.getElem?_eq_none (by rw [rkey_length _ hK 0 (by omega)]; omega), List.getElem?_eq_none (by omega)]
end Go.Proofs.YtclekllaikcglaaGreat
namespace Go.Proofs.YtclekllaikcglaaGreat
open Go Go.RowKit

/-- The first k bytes unboxed, put where they came from. -/
def usK (s : List UInt8) : Nat → List UInt8
  | 0 => s
  | k + 1 => (usK s k).set ((k + 4 * (k % 4)) % 16) (unO (s.getD k 0))
def unS (s : List UInt8) : List UInt8 := usK s 16
theorem usK_length (s : List UInt8) (hs : s.length = 16) : ∀ k, (usK s k).length = 16
  | 0 => hs
  | k + 1 => by rw [usK, List.length_set, usK_length s hs k]
/-- A round back. -/
def backS (K s : List UInt8) (r : Nat) : List UInt8 := unS (if r < 10 then mixC [14, 11, 13, 9] (xorL s (rkey K r)) 4 else xorL s (rkey K r))
/-- What a block is when n rounds are taken back. -/
def bckN (K s : List UInt8) : Nat → List UInt8
  | 0 => s
  | n + 1 => backS K (bckN K s n) (10 - n)
theorem backS_length (K s : List UInt8) (hK : K.length = 176) (hs : s.length = 16) (r : Nat) (hr : r ≤ 10) : (backS K s r).length = 16 := by
  have hx := xorL_len s (rkey K r) hs (rkey_length K hK r hr)
  unfold backS unS
  split
  · exact usK_length _ (mixC_length _ _ hx 4 (by omega)) 16
  · exact usK_length _ hx 16
theorem bckN_length (K s : List UInt8) (hK : K.length = 176) (hs : s.length = 16) : ∀ n, (bckN K s n).length = 16
  | 0 => hs
  | n + 1 => backS_length K _ hK (bckN_length K s hK hs n) _ (by omega)
def decL (K s : List UInt8) : List UInt8 := xorL (bckN K s 10) (rkey K 0)
/-! ### Nil ciphers -/
set_option maxRecDepth 100000 in
theorem Block_nil (s : List UInt8) (w : World) :
    Calls Tryz.prog 128 #[.pointer none, .string (bs s)] w fun e w' => e = .returned (.tuple #[.string (bs []), .bool false]) ∧ w = w' := by
  go_enter Tryz.func128, Tryz.ntmps128
  go_wp2
  go_returns
  exact ⟨rfl, rfl⟩
end Go.Proofs.YtclekllaikcglaaGreat
namespace Go.Proofs.YtclekllaikcglaaGreat
open Go Go.RowKit

/-- The columns of a block, byte by byte. -/
def mixR (f s : List UInt8) : List UInt8 := (List.range 16).map fun i => mixK f ((s.drop (4 * (i / 4))).take 4) (i % 4) 4
theorem mixR_length (f s : List UInt8) : (mixR f s).length = 16 := by simp [mixR]
theorem mixR_at (f s : List UInt8) (c r : Nat) (hc : c < 4) (hr : r < 4) : (mixR f s)[4 * c + r]'(by rw [mixR_length]; omega) = mixK f ((s.drop (4 * c)).take 4) r 4 := by
  simp [mixR, show (4 * c + r) / 4 = c by omega, show (4 * c + r) % 4 = r by omega]
theorem mixR_is (s : List UInt8) (hs : s.length = 16) : mixR [2, 3, 1, 1] s = mixC [2, 3, 1, 1] s 4 := by
  match s, hs with
  | [a0, a1, a2, a3, a4, a5, a6, a7, a8, a9, a10, a11, a12, a13, a14, a15], _ => rfl
set_option maxRecDepth 100000 in
set_option maxHeartbeats 4000000 in
theorem refMixed_of (g0 cap : Nat) (s m : List UInt8) (f : List UInt8) (hf : f = [2, 3, 1, 1]) (hm : m.length = 16) (hs : s.length = 16) (w : World) (hg : w.heap[g0]? = some (.cells (bcells s) 5))
    (HM : Hid (∀ c r (hc : c < 4) (hr : r < 4), m[4 * c + r]'(by omega) = mixK f ((s.drop (4 * c)).take 4) r 4)) :
    Calls Tryz.prog 161 #[.slice (some ⟨g0, 0, none⟩) 16 cap] w fun e w' => ∃ g, e = .returned (.slice (some ⟨g, 0, none⟩) 16 16) ∧ w'.heap[g]? = some (.cells (bcells m) 5) ∧ w.heap.size ≤ g ∧ Ext w w' := by
  have hmk : ∀ w : World, (Instr.makeSlice 27 (.int .i64 16) (.int .i64 16)).run Tryz.prog w = .ok (.slice (some ⟨w.heap.size, 0, none⟩) 16 16) (w.alloc (.cells (bcells z16) 5)) := fun w => mk_bytes 16 (by omega) w
  have HG := Lib.hid hg
  have HL := Lib.hid hm
  have hgl := blk_lt hg
  have HFL : Hid (bcells f = #[.int .u8 2, .int .u8 3, .int .u8 1, .int .u8 1]) := Lib.hid (by rw [hf]; rfl)
  have hfl : f.length = 4 := by rw [hf]; rfl
  have GT := Lib.hid (fun a b W => (refTimes_any a b W).mono fun e w' h => (⟨h.1, Ext.of_eq h.2⟩ : e = .returned (.int .u8 ((gm a b).toNat : Int)) ∧ Ext W w'))
  clear hg
  go_enter Tryz.func161, Tryz.ntmps161
  go_wp2
  rw [← HFL.out]
  obtain ⟨W1, hW1⟩ : ∃ W1, ((w.alloc (.cells (bcells f) 5)).alloc (.cells (bcells z16) 5)) = W1 := ⟨_, rfl⟩
  have k1 : W1.heap[w.heap.size]? = some (.cells (bcells f) 5) := by rw [← hW1]; exact heap_alloc_old _ _ (heap_alloc_new _ _)
  have k2 : W1.heap[w.heap.size + 1]? = some (.cells (bcells z16) 5) := by
    have := heap_alloc_new (w.alloc (.cells (bcells f) 5)) (.cells (bcells z16) 5)
    rw [World.size_alloc] at this
    rw [← hW1]; exact this
  have k3 : Ext w W1 := by rw [← hW1]; exact ((Ext.refl w).alloc _).alloc _
  rw [hW1]
  clear hW1 hmk
  have K1 := Lib.hid k1; have K2 := Lib.hid k2; have K3 := Lib.hid k3
  clear k1 k2 k3
  go_loopw [5, 6, 7, 8] (fun c _ _ _ wr => ∃ n : Nat, n ≤ 4 ∧ c = .int .i64 n ∧ wr.heap[w.heap.size]? = some (.cells (bcells f) 5) ∧ wr.heap[w.heap.size + 1]? = some (.cells (bcells (m.take (4 * n) ++ List.replicate (16 - 4 * n) 0)) 5) ∧ Ext w wr) (fun c _ _ _ _ => 4 - (intOf c).toNat)
  case atStart => exact ⟨0, by omega, rfl, K1.out, K2.out, K3.out⟩
  case round =>
    clear K1 K2 K3
    obtain ⟨n, hn, rfl, k1, k2, hx⟩ := hrel
    by_cases hlt : n < 4
    · have K1 := Lib.hid k1; have K2 := Lib.hid k2
      clear k1 k2
      go_wp2
      obtain ⟨wo, hwo⟩ : ∃ x, x = wr := ⟨_, rfl⟩
      subst hwo
      go_loopw [6, 7, 8] (fun r _ _ wr => ∃ q : Nat, q ≤ 4 ∧ r = .int .i64 q ∧ wr.heap[w.heap.size]? = some (.cells (bcells f) 5) ∧ wr.heap[w.heap.size + 1]? = some (.cells (bcells (m.take (4 * n + q) ++ List.replicate (16 - (4 * n + q)) 0)) 5) ∧ Ext w wr) (fun r _ _ _ => 4 - (intOf r).toNat)
      case atStart => exact ⟨0, by omega, rfl, K1.out, K2.out, hx⟩
      case round =>
        clear K1 K2 hx
        obtain ⟨q, hq4, rfl, k1, k2, hx⟩ := hrel
        have K1 := Lib.hid k1; have K2 := Lib.hid k2
        clear k1 k2
        by_cases hlq : q < 4
        · have HMQ := Lib.hid (HM.out n q hlt hlq)
          have HCS : Hid (∀ k (hk : k < 4), s[4 * n + k]'(by omega) = ((s.drop (4 * n)).take 4).getD k 0) := Lib.hid fun k hk => by
            simp only [List.getD]
            rw [List.getElem?_take_of_lt hk, List.getElem?_drop, List.getElem?_eq_getElem (by omega)]
            rfl
          have hfill := fill_set m 0 16 (4 * n + q) HL.out (by omega)
          have hfat := fill_cell m 16 (4 * n + q) HL.out (by omega)
          have hoc := cell_blk (i := 4 * n + q) K2.out hfat
          rw [HMQ.out] at hfill
          have HFI := Lib.hid hfill
          clear hfill hfat HMQ
          generalize (s.drop (4 * n)).take 4 = col at *
          go_wp2
          obtain ⟨wo, hwo⟩ : ∃ x, x = wr := ⟨_, rfl⟩
          subst hwo
          go_loopw [7, 8] (fun v k wr => ∃ j : Nat, j ≤ 4 ∧ v = .int .u8 ((mixK f col q j).toNat : Int) ∧ k = .int .i64 j ∧ wr.heap[w.heap.size]? = some (.cells (bcells f) 5) ∧ wr.heap[w.heap.size + 1]? = some (.cells (bcells (m.take (4 * n + q) ++ List.replicate (16 - (4 * n + q)) 0)) 5) ∧ Ext w wr) (fun _ k _ => 4 - (intOf k).toNat)
          case atStart => exact ⟨0, by omega, rfl, rfl, K1.out, K2.out, hx⟩
          case round =>
            clear K1 K2 hx hoc
            obtain ⟨j, hj, rfl, rfl, k1, k2, hx⟩ := hrel
            have K1 := Lib.hid k1; have K2 := Lib.hid k2
            clear k1 k2
            by_cases hlj : j < 4
            · obtain ⟨idx, hidx⟩ : ∃ idx : Nat, ((j : Int) - (q : Int) + 4) % 4 = (idx : Int) := ⟨(j + 4 - q) % 4, by omega⟩
              have hid2 : idx = (j + 4 - q) % 4 := by omega
              have hi4 : idx < 4 := by omega
              have hgc := cell_blk (i := 4 * n + j) (hx.keep HG.out) (bcells_at s (4 * n + j) (by omega))
              rw [HCS.out j hlj] at hgc
              have hfc := cell_blk (i := idx) K1.out (bcells_at f idx (by omega))
              rw [show f[idx]'(by omega) = f.getD idx 0 by simp [List.getD, show idx < f.length by omega]] at hfc
              have HMJ : Hid (mixK f col q (j + 1) = x8 (mixK f col q j) (gm (col.getD j 0) (f.getD idx 0))) := Lib.hid (by rw [hid2]; rfl)
              clear hid2
              generalize col.getD j 0 = b at *
              generalize f.getD idx 0 = c at *
              generalize mixK f col q j = a at *
              obtain ⟨ix, hix⟩ : ∃ ix : Nat, 4 * (n : Int) + (j : Int) = (ix : Int) := ⟨4 * n + j, by omega⟩
              rw [show 4 * n + j = ix by omega] at hgc
              have hixl : (ix : Int) < 16 := by omega
              have hii : (idx : Int) < 4 := by omega
              have hw0 : IntKind.i64.wrap (4 * (n : Int)) = 4 * (n : Int) := by rw [IntKind.wrap_i64]; omega
              have hw1 : IntKind.i64.wrap (ix : Int) = (ix : Int) := by rw [IntKind.wrap_i64]; omega
              have hws : IntKind.i64.wrap ((j : Int) - (q : Int)) = (j : Int) - (q : Int) := by rw [IntKind.wrap_i64]; omega
              have hwt : IntKind.i64.wrap ((j : Int) - (q : Int) + 4) = (j : Int) - (q : Int) + 4 := by rw [IntKind.wrap_i64]; omega
              have htm : ((j : Int) - (q : Int) + 4).tmod 4 = (idx : Int) := by rw [Int.tmod_eq_emod_of_nonneg (by omega)]; exact hidx
              have hxr := bxor8n (x := (a.toNat : Int)) (y := ((gm b c).toNat : Int)) a.toNat (gm b c).toNat rfl rfl a.toNat_lt (gm b c).toNat_lt
              rw [← x8_toNat] at hxr
              go_wp2
              refine Loud.wp_region_weave 18 wr (Loud.sps [.val (.int .u8 (a.toNat : Int)), .val (.slice (some ⟨g0, 0, none⟩) 16 cap), .val (.int .i64 (n : Int)), .val (.int .i64 (4 * (n : Int))), .val (.int .i64 (j : Int)), .val (.int .i64 (ix : Int)), .val (.pointer (some ⟨g0, ix, none⟩)), .val (.int .u8 (b.toNat : Int)), .val (.slice (some ⟨w.heap.size, 0, none⟩) 4 4), .val (.int .i64 (j : Int)), .val (.int .i64 (q : Int)), .val (.int .i64 ((j : Int) - (q : Int))), .val (.int .i64 ((j : Int) - (q : Int) + 4)), .val (.int .i64 (idx : Int)), .val (.pointer (some ⟨w.heap.size, idx, none⟩)), .val (.int .u8 (c.toNat : Int)), .val (.int .u8 ((gm b c).toNat : Int)), .val (.int .u8 ((x8 a (gm b c)).toNat : Int))]) (by kernel_rfl) (by kernel_rfl) (by show Ext _ _; repeat (first | exact Ext.refl _ | assumption | (with_reducible refine Ext.drew ?_) | (with_reducible refine Ext.drewN ?_ _) | (with_reducible refine Ext.alloc ?_ _) | (refine Ext.trans ?_ (by assumption)))) (Loud.sps_st _) ?wAx1 ?whAx1 ?whSx1 ?whFx1
              case whAx1 => intro u K hK; simp only [List.take_succ_cons, List.take_zero, Loud.puts]; go_simp; exact hK
              case whSx1 =>
                simp only [List.take_succ_cons, List.take_zero, Loud.stepsW]
                refine ⟨?wsx1_0, ?wsx1_1, ?wsx1_2, ?wsx1_3, ?wsx1_4, ?wsx1_5, ?wsx1_6, ?wsx1_7, ?wsx1_8, ?wsx1_9, ?wsx1_10, ?wsx1_11, ?wsx1_12, ?wsx1_13, ?wsx1_14, ?wsx1_15, ?wsx1_16, ?wsx1_17, trivial⟩
                case wsx1_0 =>
                  intro u β wq hq h
                  repeat (obtain ⟨h1, h⟩ := h; first | (replace h1 := h1 rfl; simp only [go_sem] at h1; try (obtain ⟨h1, h1b⟩ := h1)) | (have hno := (h1 : Region.binds _ _ = true → _); clear hno h1))
                  refine Or.inl ⟨rfl, fun K hK => ?_⟩
                  go_simp
                  exact hK _ 0 _ (Ext.refl _) rfl
                case wsx1_1 =>
                  intro u β wq hq h
                  repeat (obtain ⟨h1, h⟩ := h; first | (replace h1 := h1 rfl; simp only [go_sem] at h1; try (obtain ⟨h1, h1b⟩ := h1)) | (have hno := (h1 : Region.binds _ _ = true → _); clear hno h1))
                  refine Or.inl ⟨rfl, fun K hK => ?_⟩
                  go_simp
                  exact hK _ 0 _ (Ext.refl _) rfl
                case wsx1_2 =>
                  intro u β wq hq h
                  repeat (obtain ⟨h1, h⟩ := h; first | (replace h1 := h1 rfl; simp only [go_sem] at h1; try (obtain ⟨h1, h1b⟩ := h1)) | (have hno := (h1 : Region.binds _ _ = true → _); clear hno h1))
                  refine Or.inl ⟨rfl, fun K hK => ?_⟩
                  go_simp
                  exact hK _ 0 _ (Ext.refl _) rfl
                case wsx1_3 =>
                  intro u β wq hq h
                  repeat (obtain ⟨h1, h⟩ := h; first | (replace h1 := h1 rfl; simp only [go_sem] at h1; try (obtain ⟨h1, h1b⟩ := h1)) | (have hno := (h1 : Region.binds _ _ = true → _); clear hno h1))
                  refine Or.inl ⟨rfl, fun K hK => ?_⟩
                  go_simp
                  exact hK _ 0 _ (Ext.refl _) rfl
                case wsx1_4 =>
                  intro u β wq hq h
                  repeat (obtain ⟨h1, h⟩ := h; first | (replace h1 := h1 rfl; simp only [go_sem] at h1; try (obtain ⟨h1, h1b⟩ := h1)) | (have hno := (h1 : Region.binds _ _ = true → _); clear hno h1))
                  refine Or.inl ⟨rfl, fun K hK => ?_⟩
                  go_simp
                  exact hK _ 0 _ (Ext.refl _) rfl
                case wsx1_5 =>
                  intro u β wq hq h
                  repeat (obtain ⟨h1, h⟩ := h; first | (replace h1 := h1 rfl; simp only [go_sem] at h1; try (obtain ⟨h1, h1b⟩ := h1)) | (have hno := (h1 : Region.binds _ _ = true → _); clear hno h1))
                  refine Or.inl ⟨rfl, fun K hK => ?_⟩
                  go_simp
                  exact hK _ 0 _ (Ext.refl _) rfl
                case wsx1_6 =>
                  intro u β wq hq h
                  repeat (obtain ⟨h1, h⟩ := h; first | (replace h1 := h1 rfl; simp only [go_sem] at h1; try (obtain ⟨h1, h1b⟩ := h1)) | (have hno := (h1 : Region.binds _ _ = true → _); clear hno h1))
                  refine Or.inl ⟨rfl, fun K hK => ?_⟩
                  go_simp
                  exact hK _ 0 _ (Ext.refl _) rfl
                case wsx1_7 =>
                  intro u β wq hq h
                  repeat (obtain ⟨h1, h⟩ := h; first | (replace h1 := h1 rfl; simp only [go_sem] at h1; try (obtain ⟨h1, h1b⟩ := h1)) | (have hno := (h1 : Region.binds _ _ = true → _); clear hno h1))
                  refine Or.inl ⟨rfl, fun K hK => ?_⟩
                  have hqc := hq.cell_of hgc
                  go_simp
                  exact hK _ 0 _ (Ext.refl _) rfl
                case wsx1_8 =>
                  intro u β wq hq h
                  repeat (obtain ⟨h1, h⟩ := h; first | (replace h1 := h1 rfl; simp only [go_sem] at h1; try (obtain ⟨h1, h1b⟩ := h1)) | (have hno := (h1 : Region.binds _ _ = true → _); clear hno h1))
                  refine Or.inl ⟨rfl, fun K hK => ?_⟩
                  go_simp
                  exact hK _ 0 _ (Ext.refl _) rfl
                case wsx1_9 =>
                  intro u β wq hq h
                  repeat (obtain ⟨h1, h⟩ := h; first | (replace h1 := h1 rfl; simp only [go_sem] at h1; try (obtain ⟨h1, h1b⟩ := h1)) | (have hno := (h1 : Region.binds _ _ = true → _); clear hno h1))
                  refine Or.inl ⟨rfl, fun K hK => ?_⟩
                  go_simp
                  exact hK _ 0 _ (Ext.refl _) rfl
                case wsx1_10 =>
                  intro u β wq hq h
                  repeat (obtain ⟨h1, h⟩ := h; first | (replace h1 := h1 rfl; simp only [go_sem] at h1; try (obtain ⟨h1, h1b⟩ := h1)) | (have hno := (h1 : Region.binds _ _ = true → _); clear hno h1))
                  refine Or.inl ⟨rfl, fun K hK => ?_⟩
                  go_simp
                  exact hK _ 0 _ (Ext.refl _) rfl
                case wsx1_11 =>
                  intro u β wq hq h
                  repeat (obtain ⟨h1, h⟩ := h; first | (replace h1 := h1 rfl; simp only [go_sem] at h1; try (obtain ⟨h1, h1b⟩ := h1)) | (have hno := (h1 : Region.binds _ _ = true → _); clear hno h1))
                  refine Or.inl ⟨rfl, fun K hK => ?_⟩
                  go_simp
                  exact hK _ 0 _ (Ext.refl _) rfl
                case wsx1_12 =>
                  intro u β wq hq h
                  repeat (obtain ⟨h1, h⟩ := h; first | (replace h1 := h1 rfl; simp only [go_sem] at h1; try (obtain ⟨h1, h1b⟩ := h1)) | (have hno := (h1 : Region.binds _ _ = true → _); clear hno h1))
                  refine Or.inl ⟨rfl, fun K hK => ?_⟩
                  go_simp
                  exact hK _ 0 _ (Ext.refl _) rfl
                case wsx1_13 =>
                  intro u β wq hq h
                  repeat (obtain ⟨h1, h⟩ := h; first | (replace h1 := h1 rfl; simp only [go_sem] at h1; try (obtain ⟨h1, h1b⟩ := h1)) | (have hno := (h1 : Region.binds _ _ = true → _); clear hno h1))
                  refine Or.inl ⟨rfl, fun K hK => ?_⟩
                  go_simp
                  exact hK _ 0 _ (Ext.refl _) rfl
                case wsx1_14 =>
                  intro u β wq hq h
                  repeat (obtain ⟨h1, h⟩ := h; first | (replace h1 := h1 rfl; simp only [go_sem] at h1; try (obtain ⟨h1, h1b⟩ := h1)) | (have hno := (h1 : Region.binds _ _ = true → _); clear hno h1))
                  refine Or.inl ⟨rfl, fun K hK => ?_⟩
                  go_simp
                  exact hK _ 0 _ (Ext.refl _) rfl
                case wsx1_15 =>
                  intro u β wq hq h
                  repeat (obtain ⟨h1, h⟩ := h; first | (replace h1 := h1 rfl; simp only [go_sem] at h1; try (obtain ⟨h1, h1b⟩ := h1)) | (have hno := (h1 : Region.binds _ _ = true → _); clear hno h1))
                  refine Or.inl ⟨rfl, fun K hK => ?_⟩
                  have hqc := hq.cell_of hfc
                  go_simp
                  exact hK _ 0 _ (Ext.refl _) rfl
                case wsx1_16 =>
                  intro u β wq hq h
                  repeat (obtain ⟨h1, h⟩ := h; first | (replace h1 := h1 rfl; simp only [go_sem] at h1; try (obtain ⟨h1, h1b⟩ := h1)) | (have hno := (h1 : Region.binds _ _ = true → _); clear hno h1))
                  refine Or.inl ⟨rfl, fun K hK => ?_⟩
                  go_simp
                  refine (GT.out b c _).mono ?_; rintro e w1 ⟨rfl, hx1⟩; exact ⟨_, rfl, hK _ 0 _ hx1 rfl⟩
                case wsx1_17 =>
                  intro u β wq hq h
                  repeat (obtain ⟨h1, h⟩ := h; first | (replace h1 := h1 rfl; simp only [go_sem] at h1; try (obtain ⟨h1, h1b⟩ := h1)) | (have hno := (h1 : Region.binds _ _ = true → _); clear hno h1))
                  refine Or.inl ⟨rfl, fun K hK => ?_⟩
                  go_simp
                  exact hK _ 0 _ (Ext.refl _) rfl
              intro u β w1 hq h
              have h0 := h 0 (by omega)
              have h1 := h 1 (by omega)
              have h2 := h 2 (by omega)
              have h3 := h 3 (by omega)
              have h4 := h 4 (by omega)
              have h5 := h 5 (by omega)
              have h6 := h 6 (by omega)
              have h7 := h 7 (by omega)
              have h8 := h 8 (by omega)
              have h9 := h 9 (by omega)
              have h10 := h 10 (by omega)
              have h11 := h 11 (by omega)
              have h12 := h 12 (by omega)
              have h13 := h 13 (by omega)
              have h14 := h 14 (by omega)
              have h15 := h 15 (by omega)
              have h16 := h 16 (by omega)
              have h17 := h 17 (by omega)
              clear h
              simp only [go_sem] at h0 h1 h2 h3 h4 h5 h6 h7 h8 h9 h10 h11 h12 h13 h14 h15 h16 h17
              simp only [List.drop_succ_cons, List.drop_zero]
              rw [h17]
              have hbq := Lib.hid (hq.keep K1.out)
              have hfq := Lib.hid (hq.keep K2.out)
              have hxq := hx.trans hq
              go_wp2
              go_roundw
              case measure => simp [intOf]; omega
              case rel =>
                repeat apply Exists.intro
                refine ⟨?_, by rw [decide_eq_true (show (n : Int) < 4 by omega), decide_eq_true (show (q : Int) < 4 by omega)]⟩
                exact ⟨j + 1, by omega, by rw [HMJ.out], by go_num, hbq.out, hfq.out, hxq⟩
            · obtain rfl : j = 4 := by omega
              generalize mixK f col q 4 = a at *
              obtain ⟨ix, hix⟩ : ∃ ix : Nat, 4 * (n : Int) + (q : Int) = (ix : Int) := ⟨4 * n + q, by omega⟩
              have hin : 4 * n + q = ix := by omega
              have hix1 : 4 * n + (q + 1) = ix + 1 := by omega
              rw [hin] at HFI K2
              have hoc := cell_blk (i := ix) K2.out (fill_cell m 16 ix HL.out (by omega))
              have hof : wr.frozen? ⟨w.heap.size + 1, ix, none⟩ = false := frozen_blk K2.out
              have hixl : (ix : Int) < 16 := by omega
              have hw0 : IntKind.i64.wrap (4 * (n : Int)) = 4 * (n : Int) := by rw [IntKind.wrap_i64]; omega
              have hw1 : IntKind.i64.wrap (ix : Int) = (ix : Int) := by rw [IntKind.wrap_i64]; omega
              have o1 := heap_setCell_other wr ⟨w.heap.size + 1, ix, none⟩ (.int .u8 (a.toNat : Int)) (k := w.heap.size) (by show w.heap.size ≠ w.heap.size + 1; omega)
              have o2 := heap_setCell_same (i := ix) (.int .u8 (a.toNat : Int)) K2.out
              rw [bcells_set, HFI.out] at o2
              have O1 := Lib.hid (o1.trans K1.out); have O2 := Lib.hid o2
              clear o1 o2 hin
              go_wp2
              go_roundw
              case measure => simp [intOf]; omega
              case rel =>
                exact ⟨q + 1, by omega, by go_num, O1.out, by rw [hix1]; exact O2.out, hx.setCell (by show w.heap.size ≤ w.heap.size + 1; omega) _⟩
        · obtain rfl : q = 4 := by omega
          go_wp2
          go_roundw
          case measure => simp [intOf]; omega
          case rel =>
            exact ⟨n + 1, by omega, by go_num, K1.out, by rw [show 4 * (n + 1) = 4 * n + 4 by omega]; exact K2.out, hx⟩
    · obtain rfl : n = 4 := by omega
      rw [show 4 * 4 = 16 from rfl, fill_done m 0 16 HL.out] at k2
      have K2 := Lib.hid k2
      clear k1 k2
      go_wp2
      go_returns
      exact ⟨_, rfl, K2.out, by omega, hx⟩
theorem refMixed_any (g0 cap : Nat) (s : List UInt8) (hs : s.length = 16) (w : World) (hg : w.heap[g0]? = some (.cells (bcells s) 5)) :
    Calls Tryz.prog 161 #[.slice (some ⟨g0, 0, none⟩) 16 cap] w fun e w' => ∃ g, e = .returned (.slice (some ⟨g, 0, none⟩) 16 16) ∧ w'.heap[g]? = some (.cells (bcells (mixC [2, 3, 1, 1] s 4)) 5) ∧ w.heap.size ≤ g ∧ Ext w w' := by
  rw [← mixR_is s hs]
  exact refMixed_of g0 cap s (mixR [2, 3, 1, 1] s) [2, 3, 1, 1] rfl (mixR_length _ _) hs w hg (Lib.hid fun c r hc hr => mixR_at _ s c r hc hr)
end Go.Proofs.YtclekllaikcglaaGreat
