/- Contracts: layer 4, a column mixed. -/
import Derived.Test.YtclekllaikcglaaGreatCip
import Derived.Test.YtclekllaikcglaaGreatWord
namespace Go.Proofs.YtclekllaikcglaaGreat
open Go Go.RowKit

theorem wpl_copy_row {P : Program} {ops : Array Oper} {rest : List Oper} {o : Oper} {a : Act} {Q : Exit → Act → World → Prop} {w : World} (hgd : o.guard = none) {d x : Operand} {dT sT elem : TypeId}
    (ho : o.op = .call { callee := .builtin .copy, args := #[d, x], argTypes := #[dT, sT] }) (hu : P.underlying dT = some (.slice elem)) (hs : (P.info? elem).map (·.size) = some 1)
    {g off dLen dCap sLen sCap : Nat} {ad : Addr} {cur : Array Value} {t : TypeId} (cs : List Value) (h1 : a.eval d = .slice (some ⟨g, off, none⟩) dLen dCap) (h2 : a.eval x = .slice (some ad) sLen sCap)
    (hg : w.heap[g]? = some (.cells cur t (0, 0))) (hn : cs.length = Nat.min sLen dLen) (hsrc : ∀ j v, cs[j]? = some v → w.cell? (ad.add j) = some v) (hfit : off + cs.length ≤ cur.size) (hone : ∀ v ∈ cs, v.oneCell' = true)
    (h : ∀ w', w'.heap[g]? = some (.cells (cur.toList.take off ++ cs ++ cur.toList.drop (off + cs.length)).toArray t (0, 0)) → Below g w w' → wpList P ops Q rest (a.put o.dst (goInt cs.length)) w') : wpList P ops Q (o :: rest) a w := by
  refine wpList_plain hgd fun K hK => ?_
  have hr := run_copy_row (P := P) w dT sT o.type elem g off dLen dCap ad sLen sCap cur t cs hu hs hg hn hsrc hfit hone
  unfold Oper.wp execOp
  simp only [ho, resolve, invoke, builtin, Sem.run_bind, Sem.run_pure, Result.andThen_ok, List.map_toArray, List.map_cons, List.map_nil, h1, h2, hr]
  exact hK _ _ (h _ (setRow_heap w g cur _ t _ hg) (setRow_below g (Nat.le_refl _) _))
/-- A row's sum: the first k products. -/
def mixK (f col : List UInt8) (r : Nat) : Nat → UInt8
  | 0 => 0
  | k + 1 => x8 (mixK f col r k) (gm (col.getD k 0) (f.getD ((k + 4 - r) % 4) 0))
def mixL (f col : List UInt8) : List UInt8 := (List.range 4).map fun r => mixK f col r 4
@[simp] theorem mixL_length (f col : List UInt8) : (mixL f col).length = 4 := by simp [mixL]
/-- What lies in out when r rows and k products are over. -/
def outK (f col : List UInt8) (r k : Nat) : List UInt8 := (mixL f col).take r ++ (mixK f col r k :: List.replicate (3 - r) 0)
theorem outK_length (f col : List UInt8) (r k : Nat) (hr : r < 4) : (outK f col r k).length = 4 := by
  unfold outK; rw [List.length_append, List.length_take, mixL_length, List.length_cons, List.length_replicate]; omega
theorem outK_at (f col : List UInt8) (r k : Nat) (hr : r < 4) : (outK f col r k)[r]? = some (mixK f col r k) := by
  unfold outK
  rw [List.getElem?_append_right (by rw [List.length_take, mixL_length]; omega), List.length_take, mixL_length, Nat.min_eq_left (by omega), Nat.sub_self]
  rfl
theorem outK_set (f col : List UInt8) (r k : Nat) (hr : r < 4) (x : UInt8) : (outK f col r k).set r x = (mixL f col).take r ++ (x :: List.replicate (3 - r) 0) := by
  unfold outK
  rw [List.set_append_right _ _ (by rw [List.length_take, mixL_length]; omega), List.length_take, mixL_length, Nat.min_eq_left (by omega), Nat.sub_self]
  rfl
theorem outK_done (f col : List UInt8) (r : Nat) (hr : r < 3) : outK f col r 4 = outK f col (r + 1) 0 := by
  unfold outK
  rw [List.take_succ_eq_append_getElem (by rw [mixL_length]; omega), List.append_assoc]
  congr 1
  rw [show 3 - r = (3 - (r + 1)) + 1 by omega, List.replicate_succ]
  simp [mixL, mixK]
theorem outK_all (f col : List UInt8) : outK f col 3 4 = mixL f col := by
  simp [outK, mixL, List.range, List.range.loop]
theorem outK_zero (f col : List UInt8) : outK f col 0 0 = List.replicate 4 0 := rfl
def outS (f col : List UInt8) (r : Nat) : List UInt8 := if r < 4 then outK f col r 0 else mixL f col
theorem outS_succ (f col : List UInt8) (r : Nat) (hr : r < 4) : outK f col r 4 = outS f col (r + 1) := by
  unfold outS
  by_cases h : r < 3
  · rw [if_pos (by omega), outK_done f col r h]
  · obtain rfl : r = 3 := by omega
    rw [if_neg (by omega), outK_all]
set_option maxRecDepth 100000 in
set_option maxHeartbeats 4000000 in
theorem mixed_any (g o cap : Nat) (s f : List UInt8) (f0 f1 f2 f3 : UInt8) (hf : f = [f0, f1, f2, f3]) (t : TypeId) (w : World) (hg : w.heap[g]? = some (.cells (bcells s) t (0, 0))) (ho : o + 4 ≤ s.length) :
    Calls Tryz.prog 148 #[.slice (some ⟨g, o, none⟩) 4 cap, .agg #[.int .u8 (f0.toNat : Int), .int .u8 (f1.toNat : Int), .int .u8 (f2.toNat : Int), .int .u8 (f3.toNat : Int)]] w fun e w' => e = .returned (.tuple #[]) ∧ w'.heap[g]? = some (.cells (bcells (splice s o (mixL f ((s.drop o).take 4)))) t (0, 0)) ∧ Below g w w' := by
  have HG := Lib.hid hg
  have hgl := blk_lt hg
  clear hg
  have GT : Hid (∀ (a b : UInt8) (W : World), Calls Tryz.prog 146 #[.int .u8 (a.toNat : Int), .int .u8 (b.toNat : Int)] W fun e w' => e = .returned (.int .u8 ((gm a b).toNat : Int)) ∧ Ext W w') := Lib.hid fun a b W => (times_any a b W).mono (by rintro e w' ⟨rfl, rfl⟩; exact ⟨rfl, Ext.refl _⟩)
  have hbf : (#[.int .u8 (f0.toNat : Int), .int .u8 (f1.toNat : Int), .int .u8 (f2.toNat : Int), .int .u8 (f3.toNat : Int)] : Array Value) = bcells f := by rw [hf]; rfl
  have hfl : f.length = 4 := by rw [hf]; rfl
  have HF := Lib.hid hbf
  clear hbf hf
  go_enter Tryz.func148, Tryz.ntmps148
  go_upto_region 2 with fail
  obtain ⟨w0, hw0⟩ : ∃ w0, ((w.alloc (Obj.cells #[.int .u8 (f0.toNat : Int), .int .u8 (f1.toNat : Int), .int .u8 (f2.toNat : Int), .int .u8 (f3.toNat : Int)] 196)).alloc (Obj.cells #[.int .u8 0, .int .u8 0, .int .u8 0, .int .u8 0] 196)) = w0 := ⟨_, rfl⟩
  obtain ⟨col, hcol⟩ : ∃ col, (s.drop o).take 4 = col := ⟨_, rfl⟩
  have hcl : col.length = 4 := by rw [← hcol, List.length_take, List.length_drop]; omega
  have hcs : ∀ k (hk : k < 4), s[o + k]'(by omega) = col.getD k 0 := by
    intro k hk
    have : col.getD k 0 = col[k]'(by omega) := by simp [List.getD, show k < col.length by omega]
    rw [this]
    subst hcol
    rw [List.getElem_take, List.getElem_drop]
  have HCS := Lib.hid hcs
  have k0 : w0.heap[w.heap.size]? = some (.cells (bcells f) 196 (0, 0)) := by rw [← hw0, ← HF.out]; exact heap_alloc_old _ _ (heap_alloc_new _ _)
  have k1 : w0.heap[w.heap.size + 1]? = some (.cells (bcells (outS f col 0)) 196 (0, 0)) := by rw [← hw0]; exact heap_alloc2b _ _ _
  have kx : Ext w w0 := by rw [← hw0]; exact ((Ext.refl w).alloc _).alloc _
  have HCOL := Lib.hid hcol
  rw [hw0]
  clear hw0 HF hcs hcol
  go_wp2
  go_loopw [7] (fun i wr => ∃ r : Nat, r ≤ 4 ∧ i = .int .i64 r ∧ wr.heap[w.heap.size]? = some (.cells (bcells f) 196 (0, 0)) ∧ wr.heap[w.heap.size + 1]? = some (.cells (bcells (outS f col r)) 196 (0, 0)) ∧ Ext w wr) (fun i _ => 4 - (intOf i).toNat)
  case atStart => exact ⟨0, by omega, rfl, k0, k1, kx⟩
  case round =>
    clear k0 k1 kx
    obtain ⟨r, hr, rfl, hfr, hor, hx⟩ := hrel
    have HO := Lib.hid hor; have HFR := Lib.hid hfr
    clear hor hfr
    by_cases hlt : r < 4
    · rw [show outS f col r = outK f col r 0 from if_pos hlt] at HO
      have HSU := Lib.hid (outS_succ f col r hlt)
      go_wp2
      obtain ⟨wo, rfl⟩ : ∃ x, x = wr := ⟨_, rfl⟩
      go_loopw [10] (fun i wr => ∃ k : Nat, k ≤ 4 ∧ i = .int .i64 k ∧ wr.heap[w.heap.size]? = some (.cells (bcells f) 196 (0, 0)) ∧ wr.heap[w.heap.size + 1]? = some (.cells (bcells (outK f col r k)) 196 (0, 0)) ∧ Ext w wr) (fun i _ => 4 - (intOf i).toNat)
      case atStart => exact ⟨0, by omega, rfl, HFR.out, HO.out, hx⟩
      case round =>
        clear HO HFR hx
        obtain ⟨k, hk, rfl, hfr, hor, hx⟩ := hrel
        have HO := Lib.hid hor; have HFR := Lib.hid hfr
        clear hor hfr
        by_cases hlk : k < 4
        · obtain ⟨idx, hidx⟩ : ∃ idx : Nat, ((k : Int) - (r : Int) + 4) % 4 = (idx : Int) := ⟨(k + 4 - r) % 4, by omega⟩
          have hid2 : idx = (k + 4 - r) % 4 := by omega
          have hi4 : idx < 4 := by omega
          have hoc := cell_blk (i := r) HO.out (by rw [bcells_get?, outK_at f col r k hlt]; rfl)
          have hgc := cell_blk (i := o + k) (hx.keep HG.out) (bcells_at s (o + k) (by omega))
          rw [HCS.out k hlk] at hgc
          have hfc := cell_blk (i := idx) HFR.out (bcells_at f idx (by omega))
          rw [show f[idx]'(by omega) = f.getD idx 0 by simp [List.getD, show idx < f.length by omega]] at hfc
          have HM : Hid (mixK f col r (k + 1) = x8 (mixK f col r k) (gm (col.getD k 0) (f.getD idx 0))) := Lib.hid (by rw [hid2]; rfl)
          have HS := Lib.hid (outK_set f col r k hlt (mixK f col r (k + 1)))
          clear hid2
          generalize col.getD k 0 = b at *
          generalize f.getD idx 0 = c at *
          generalize mixK f col r k = a at *
          have hri : (r : Int) < 4 := by omega
          have hki : (k : Int) < 4 := by omega
          have hii : (idx : Int) < 4 := by omega
          have hws : IntKind.i64.wrap ((k : Int) - (r : Int)) = (k : Int) - (r : Int) := by rw [IntKind.wrap_i64]; omega
          have hwt : IntKind.i64.wrap ((k : Int) - (r : Int) + 4) = (k : Int) - (r : Int) + 4 := by rw [IntKind.wrap_i64]; omega
          have htm : ((k : Int) - (r : Int) + 4).tmod 4 = (idx : Int) := by rw [Int.tmod_eq_emod_of_nonneg (by omega)]; exact hidx
          go_wp2
          refine Loud.wp_region_weave 17 wr (Loud.sps [.val (.int .i64 (r : Int)), .val (.pointer (some ⟨w.heap.size + 1, r, none⟩)), .val (.int .u8 (a.toNat : Int)), .val (.slice (some ⟨g, o, none⟩) 4 cap), .val (.int .i64 (k : Int)), .val (.pointer (some ⟨g, o + k, none⟩)), .val (.int .u8 (b.toNat : Int)), .val (.int .i64 (k : Int)), .val (.int .i64 (r : Int)), .val (.int .i64 ((k : Int) - (r : Int))), .val (.int .i64 ((k : Int) - (r : Int) + 4)), .val (.int .i64 (idx : Int)), .val (.pointer (some ⟨w.heap.size, idx, none⟩)), .val (.int .u8 (c.toNat : Int)), .val (.int .u8 ((gm b c).toNat : Int)), .val (.int .u8 ((x8 a (gm b c)).toNat : Int)), .val (.pointer (some ⟨w.heap.size + 1, r, none⟩))]) (by kernel_rfl) (by kernel_rfl) (by show Ext _ _; repeat (first | exact Ext.refl _ | assumption | (with_reducible refine Ext.drew ?_) | (with_reducible refine Ext.drewN ?_ _) | (with_reducible refine Ext.alloc ?_ _) | (refine Ext.trans ?_ (by assumption)))) (Loud.sps_st _) ?wAx1 ?whAx1 ?whSx1 ?whFx1
          case whAx1 => intro u K hK; simp only [List.take_succ_cons, List.take_zero, Loud.puts]; go_simp; exact hK
          case whSx1 =>
            simp only [List.take_succ_cons, List.take_zero, Loud.stepsW]
            refine ⟨?wsx1_0, ?wsx1_1, ?wsx1_2, ?wsx1_3, ?wsx1_4, ?wsx1_5, ?wsx1_6, ?wsx1_7, ?wsx1_8, ?wsx1_9, ?wsx1_10, ?wsx1_11, ?wsx1_12, ?wsx1_13, ?wsx1_14, ?wsx1_15, ?wsx1_16, trivial⟩
            case wsx1_0 =>
              intro u β wq hq h
              repeat (obtain ⟨h1, h⟩ := h; first | (replace h1 := h1 rfl; simp only [go_sem] at h1; try (obtain ⟨h1, h1b⟩ := h1)) | (have hno := (h1 : Region.binds _ _ = true → _); clear hno h1))
              refine Or.inl ⟨rfl, fun K hK => ?_⟩
              go_simp
              exact hK _ 0 _ (Ext.refl _) rfl
            case wsx1_1 =>
              intro u β wq hq h
              repeat (obtain ⟨h1, h⟩ := h; first | (replace h1 := h1 rfl; simp only [go_sem] at h1; try (obtain ⟨h1, h1b⟩ := h1)) | (have hno := (h1 : Region.binds _ _ = true → _); clear hno h1))
              refine Or.inl ⟨rfl, fun K hK => ?_⟩
              go_simp
              exact hK _ 0 _ (Ext.refl _) rfl
            case wsx1_2 =>
              intro u β wq hq h
              repeat (obtain ⟨h1, h⟩ := h; first | (replace h1 := h1 rfl; simp only [go_sem] at h1; try (obtain ⟨h1, h1b⟩ := h1)) | (have hno := (h1 : Region.binds _ _ = true → _); clear hno h1))
              refine Or.inl ⟨rfl, fun K hK => ?_⟩
              have hqc := hq.cell_of hoc
              go_simp
              exact hK _ 0 _ (Ext.refl _) rfl
            case wsx1_3 =>
              intro u β wq hq h
              repeat (obtain ⟨h1, h⟩ := h; first | (replace h1 := h1 rfl; simp only [go_sem] at h1; try (obtain ⟨h1, h1b⟩ := h1)) | (have hno := (h1 : Region.binds _ _ = true → _); clear hno h1))
              refine Or.inl ⟨rfl, fun K hK => ?_⟩
              go_simp
              exact hK _ 0 _ (Ext.refl _) rfl
            case wsx1_4 =>
              intro u β wq hq h
              repeat (obtain ⟨h1, h⟩ := h; first | (replace h1 := h1 rfl; simp only [go_sem] at h1; try (obtain ⟨h1, h1b⟩ := h1)) | (have hno := (h1 : Region.binds _ _ = true → _); clear hno h1))
              refine Or.inl ⟨rfl, fun K hK => ?_⟩
              go_simp
              exact hK _ 0 _ (Ext.refl _) rfl
            case wsx1_5 =>
              intro u β wq hq h
              repeat (obtain ⟨h1, h⟩ := h; first | (replace h1 := h1 rfl; simp only [go_sem] at h1; try (obtain ⟨h1, h1b⟩ := h1)) | (have hno := (h1 : Region.binds _ _ = true → _); clear hno h1))
              refine Or.inl ⟨rfl, fun K hK => ?_⟩
              go_simp
              exact hK _ 0 _ (Ext.refl _) rfl
            case wsx1_6 =>
              intro u β wq hq h
              repeat (obtain ⟨h1, h⟩ := h; first | (replace h1 := h1 rfl; simp only [go_sem] at h1; try (obtain ⟨h1, h1b⟩ := h1)) | (have hno := (h1 : Region.binds _ _ = true → _); clear hno h1))
              refine Or.inl ⟨rfl, fun K hK => ?_⟩
              have hqc := hq.cell_of hgc
              go_simp
              exact hK _ 0 _ (Ext.refl _) rfl
            case wsx1_7 =>
              intro u β wq hq h
              repeat (obtain ⟨h1, h⟩ := h; first | (replace h1 := h1 rfl; simp only [go_sem] at h1; try (obtain ⟨h1, h1b⟩ := h1)) | (have hno := (h1 : Region.binds _ _ = true → _); clear hno h1))
              refine Or.inl ⟨rfl, fun K hK => ?_⟩
              go_simp
              exact hK _ 0 _ (Ext.refl _) rfl
            case wsx1_8 =>
              intro u β wq hq h
              repeat (obtain ⟨h1, h⟩ := h; first | (replace h1 := h1 rfl; simp only [go_sem] at h1; try (obtain ⟨h1, h1b⟩ := h1)) | (have hno := (h1 : Region.binds _ _ = true → _); clear hno h1))
              refine Or.inl ⟨rfl, fun K hK => ?_⟩
              go_simp
              exact hK _ 0 _ (Ext.refl _) rfl
            case wsx1_9 =>
              intro u β wq hq h
              repeat (obtain ⟨h1, h⟩ := h; first | (replace h1 := h1 rfl; simp only [go_sem] at h1; try (obtain ⟨h1, h1b⟩ := h1)) | (have hno := (h1 : Region.binds _ _ = true → _); clear hno h1))
              refine Or.inl ⟨rfl, fun K hK => ?_⟩
              go_simp
              exact hK _ 0 _ (Ext.refl _) rfl
            case wsx1_10 =>
              intro u β wq hq h
              repeat (obtain ⟨h1, h⟩ := h; first | (replace h1 := h1 rfl; simp only [go_sem] at h1; try (obtain ⟨h1, h1b⟩ := h1)) | (have hno := (h1 : Region.binds _ _ = true → _); clear hno h1))
              refine Or.inl ⟨rfl, fun K hK => ?_⟩
              go_simp
              exact hK _ 0 _ (Ext.refl _) rfl
            case wsx1_11 =>
              intro u β wq hq h
              repeat (obtain ⟨h1, h⟩ := h; first | (replace h1 := h1 rfl; simp only [go_sem] at h1; try (obtain ⟨h1, h1b⟩ := h1)) | (have hno := (h1 : Region.binds _ _ = true → _); clear hno h1))
              refine Or.inl ⟨rfl, fun K hK => ?_⟩
              go_simp
              exact hK _ 0 _ (Ext.refl _) rfl
            case wsx1_12 =>
              intro u β wq hq h
              repeat (obtain ⟨h1, h⟩ := h; first | (replace h1 := h1 rfl; simp only [go_sem] at h1; try (obtain ⟨h1, h1b⟩ := h1)) | (have hno := (h1 : Region.binds _ _ = true → _); clear hno h1))
              refine Or.inl ⟨rfl, fun K hK => ?_⟩
              go_simp
              exact hK _ 0 _ (Ext.refl _) rfl
            case wsx1_13 =>
              intro u β wq hq h
              repeat (obtain ⟨h1, h⟩ := h; first | (replace h1 := h1 rfl; simp only [go_sem] at h1; try (obtain ⟨h1, h1b⟩ := h1)) | (have hno := (h1 : Region.binds _ _ = true → _); clear hno h1))
              refine Or.inl ⟨rfl, fun K hK => ?_⟩
              have hqc := hq.cell_of hfc
              go_simp
              exact hK _ 0 _ (Ext.refl _) rfl
            case wsx1_14 =>
              intro u β wq hq h
              repeat (obtain ⟨h1, h⟩ := h; first | (replace h1 := h1 rfl; simp only [go_sem] at h1; try (obtain ⟨h1, h1b⟩ := h1)) | (have hno := (h1 : Region.binds _ _ = true → _); clear hno h1))
              refine Or.inl ⟨rfl, fun K hK => ?_⟩
              go_simp
              refine (GT.out b c _).mono ?_; rintro e w1 ⟨rfl, hx1⟩; exact ⟨_, rfl, hK _ 0 _ hx1 rfl⟩
            case wsx1_15 =>
              intro u β wq hq h
              repeat (obtain ⟨h1, h⟩ := h; first | (replace h1 := h1 rfl; simp only [go_sem] at h1; try (obtain ⟨h1, h1b⟩ := h1)) | (have hno := (h1 : Region.binds _ _ = true → _); clear hno h1))
              refine Or.inl ⟨rfl, fun K hK => ?_⟩
              go_simp
              exact hK _ 0 _ (Ext.refl _) rfl
            case wsx1_16 =>
              intro u β wq hq h
              repeat (obtain ⟨h1, h⟩ := h; first | (replace h1 := h1 rfl; simp only [go_sem] at h1; try (obtain ⟨h1, h1b⟩ := h1)) | (have hno := (h1 : Region.binds _ _ = true → _); clear hno h1))
              refine Or.inl ⟨rfl, fun K hK => ?_⟩
              go_simp
              exact hK _ 0 _ (Ext.refl _) rfl
          intro u β w1 hq h
          have h0 := h 0 (by omega)
          have h1 := h 1 (by omega)
          have h2 := h 2 (by omega)
          have h3 := h 3 (by omega)
          have h4 := h 4 (by omega)
          have h5 := h 5 (by omega)
          have h6 := h 6 (by omega)
          have h7 := h 7 (by omega)
          have h8 := h 8 (by omega)
          have h9 := h 9 (by omega)
          have h10 := h 10 (by omega)
          have h11 := h 11 (by omega)
          have h12 := h 12 (by omega)
          have h13 := h 13 (by omega)
          have h14 := h 14 (by omega)
          have h15 := h 15 (by omega)
          have h16 := h 16 (by omega)
          clear h
          simp only [go_sem] at h0 h1 h2 h3 h4 h5 h6 h7 h8 h9 h10 h11 h12 h13 h14 h15 h16
          simp only [List.drop_succ_cons, List.drop_zero]
          rw [h16]
          have hbq := Lib.hid (hq.keep HO.out)
          have hfq := Lib.hid (hq.keep HFR.out)
          have hoc1 := hq.cell_of hoc
          have hfz1 : w1.frozen? ⟨w.heap.size + 1, r, none⟩ = false := frozen_blk hbq.out
          have hxq := hx.trans hq
          try rw [h15]
          go_wp2
          go_roundw
          case measure => simp [intOf]; omega
          case rel =>
            repeat apply Exists.intro
            refine ⟨?_, by rw [decide_eq_true hri]⟩
            refine ⟨k + 1, by omega, by go_num, ?_, ?_, hxq.setCell (by show w.heap.size ≤ w.heap.size + 1; omega) _⟩
            · rw [heap_setCell_other _ _ _ (by show w.heap.size ≠ w.heap.size + 1; omega)]; exact hfq.out
            · rw [heap_setCell_same _ hbq.out, bcells_set, ← HM.out, HS.out]; rfl
        · obtain rfl : k = 4 := by omega
          rw [HSU.out] at HO
          go_wp2
          go_roundw
          case measure => simp [intOf]; omega
          case rel => exact ⟨r + 1, by omega, by go_num, HFR.out, HO.out, hx⟩
    · obtain rfl : r = 4 := by omega
      rw [show outS f col 4 = mixL f col from if_neg (by omega)] at HO
      have hgq := Lib.hid (hx.keep HG.out)
      have hu8 : (Tryz.prog.info? 5).map (·.size) = some 1 := by kernel_rfl
      have HU8 := Lib.hid hu8
      clear hu8
      have hsrc : ∀ j v, ((mixL f col).map byteV)[j]? = some v → wr.cell? ((⟨w.heap.size + 1, 0, none⟩ : Addr).add j) = some v := by
        intro j v hj
        rw [show ((⟨w.heap.size + 1, 0, none⟩ : Addr).add j) = ⟨w.heap.size + 1, j, none⟩ by simp [Addr.add]; omega]
        exact cell_blk HO.out (by rw [bcells_toList, List.getElem?_toArray]; exact hj)
      go_wp2_with (refine wpl_copy_row rfl rfl und_bytes HU8.out (g := g) (off := o) (ad := ⟨w.heap.size + 1, 0, none⟩) ((mixL f col).map byteV) rfl rfl hgq.out (by simp [mixL_length]) hsrc (by simp [mixL_length]; omega) (oneCells _ (fun _ => rfl)) ?_; intro w' hb' hbel; have HB' := Lib.hid hb'; clear hb')
      go_returns
      refine ⟨rfl, ?_, (Below.mono hx (Nat.le_of_lt hgl)).trans hbel⟩
      rw [HB'.out, HCOL.out]
      congr 2
      unfold splice
      simp [bcells, byteV, List.map_take, List.map_drop]
end Go.Proofs.YtclekllaikcglaaGreat
namespace Go.Proofs.YtclekllaikcglaaGreat
open Go Go.RowKit

def w4 (l : List UInt32) : Array Value := (l.map fun x => Value.int .u32 (x.toNat : Int)).toArray
theorem w4_size (l : List UInt32) : (w4 l).size = l.length := by simp [w4]
theorem w4_at (l : List UInt32) (i : Nat) (h : i < l.length) : (w4 l)[i]? = some (.int .u32 (l[i].toNat : Int)) := by simp [w4, h]
theorem w4_set (l : List UInt32) (i : Nat) (x : UInt32) : (w4 l).setIfInBounds i (Value.int .u32 (x.toNat : Int)) = w4 (l.set i x) := by simp [w4, List.map_set]
theorem w4_all (l : List UInt32) : (w4 l).all (·.oneCell') = true := by
  rw [Array.all_eq_true_iff_forall_mem]
  intro v hv
  obtain ⟨b, _, rfl⟩ := List.mem_map.1 (by simpa [w4] using hv)
  rfl
def shl24 (r : UInt8) : UInt32 := UInt32.ofNat (r.toNat * 16777216)
theorem shl24_toNat (r : UInt8) : (shl24 r).toNat = r.toNat * 16777216 := UInt32.toNat_ofNat_of_lt' (by have := r.toNat_lt; show _ < 4294967296; omega)
def keyW (key : List UInt8) (i : Nat) : UInt32 := UInt32.ofNat (getB (seg key (4 * i) 4))
theorem getB_u32 (l : List UInt8) (h : l.length = 4) : getB l < 4294967296 := by
  have := getB_lt l
  rw [h] at this; exact this
/-- The first k words of a key's schedule, and the factor. -/
def wsN (key : List UInt8) : Nat → List UInt32 × UInt8
  | 0 => ([], 1)
  | i + 1 => let p := wsN key i
    if i < 4 then (p.1 ++ [keyW key i], p.2)
    else if i % 4 = 0 then (p.1 ++ [x32 (p.1.getD (i - 4) 0) (x32 (boxW (rotr (p.1.getD (i - 1) 0) (-8))) (shl24 p.2))], tw p.2)
    else (p.1 ++ [x32 (p.1.getD (i - 4) 0) (p.1.getD (i - 1) 0)], p.2)
theorem wsN_length (key : List UInt8) : ∀ k, (wsN key k).1.length = k
  | 0 => rfl
  | k + 1 => by
    have := wsN_length key k
    unfold wsN
    simp only
    split
    · simp [this]
    · split <;> simp [this]
/-- What lies in the words' array. -/
def wsA (key : List UInt8) (k : Nat) : List UInt32 := (wsN key k).1 ++ List.replicate (44 - k) 0
theorem wsA_length (key : List UInt8) (k : Nat) (h : k ≤ 44) : (wsA key k).length = 44 := by
  unfold wsA; rw [List.length_append, wsN_length, List.length_replicate]; omega
theorem wsA_set (key : List UInt8) (k : Nat) (h : k < 44) (x : UInt32) (p : List UInt32 × UInt8) (hp : wsN key (k + 1) = p) (hx : p.1 = (wsN key k).1 ++ [x]) : (wsA key k).set k x = wsA key (k + 1) := by
  unfold wsA
  have hl := wsN_length key k
  rw [List.set_append_right _ _ (by omega), hl, Nat.sub_self, show 44 - k = (44 - (k + 1)) + 1 by omega, List.replicate_succ, List.set_cons_zero, hp, hx, List.append_assoc]
  rfl
theorem wsA_at (key : List UInt8) (k j : Nat) (h : k ≤ 44) (hj : j < k) : (wsA key k)[j]'(by rw [wsA_length key k h]; omega) = (wsN key k).1.getD j 0 := by
  have hl := wsN_length key k
  unfold wsA
  rw [List.getElem_append_left (by omega)]
  simp [List.getD, show j < (wsN key k).1.length by omega]
/-- A key's words. -/
def ksW (key : List UInt8) : List UInt32 := (wsN key 44).1
theorem ksW_length (key : List UInt8) : (ksW key).length = 44 := wsN_length key 44
/-- The round keys' bytes of the first k words. -/
def kbK (key : List UInt8) : Nat → List UInt8
  | 0 => List.replicate 176 0
  | k + 1 => splice (kbK key k) (4 * k) (putB 4 ((ksW key).getD k 0).toNat)
theorem kbK_length (key : List UInt8) : ∀ k, k ≤ 44 → (kbK key k).length = 176
  | 0, _ => List.length_replicate
  | k + 1, h => by
    have := kbK_length key k (by omega)
    rw [kbK, splice_length _ _ _ (by rw [this, putB_length]; omega), this]
def rks (key : List UInt8) : List UInt8 := kbK key 44
theorem run_copy_strC {P : Program} {dT sT ty e : TypeId} (hu : P.underlying dT = some (.slice e)) {z : Value} {by_ : Nat} (hi : (P.info? e).map (fun i => (i.zero, i.size, i.bytes)) = some (some z, 1, by_))
    (w : World) (g o n c T : Nat) (old : Array Value) (l : List UInt8) (hg : w.heap[g]? = some (.cells old T (0, 0))) (hn : l.length ≤ n) (hl : o + l.length ≤ old.size) :
    (Builtin.copy_ #[dT, sT] ty #[.slice (some ⟨g, o, none⟩) n c, .string (bs l)]).run P w = .ok (goInt l.length) (w.setRow g (old.toList.take o ++ l.map byteV ++ old.toList.drop (o + l.length)).toArray) := by
  obtain ⟨i0, hi, _, hz1, _⟩ := info_parts hi
  have hst := run_storeCells_at P g o T (l.map byteV) 0 old w hg (by simp; omega) (oneCells _ (fun _ => rfl))
  rw [Nat.add_zero, List.length_map] at hst
  have hm : l.length.min n = l.length := Nat.min_eq_left hn
  have ht : List.take l.length (List.map (fun b => Value.int IntKind.u8 (b.toNat : Int)) l) = l.map byteV := by
    rw [List.take_of_length_le (by simp)]; rfl
  simp [Builtin.copy_, run_underlying hu, sizeOf, typeInfo, hi, Builtin.lenOf, Builtin.firstCells, hm, ht, hst]
theorem wpl_copy_strC {P : Program} {ops : Array Oper} {rest : List Oper} {o : Oper} {a : Act} {Q : Exit → Act → World → Prop} {w : World} (hgd : o.guard = none) {s x : Operand} {dT sT e : TypeId}
    (ho : o.op = .call { callee := .builtin .copy, args := #[s, x], argTypes := #[dT, sT] }) (hu : P.underlying dT = some (.slice e)) {z : Value} {by_ : Nat} (hi : (P.info? e).map (fun i => (i.zero, i.size, i.bytes)) = some (some z, 1, by_))
    {g off n c T : Nat} {old : Array Value} {l : List UInt8} (h1 : a.eval s = .slice (some ⟨g, off, none⟩) n c) (h2 : a.eval x = .string (bs l)) (hg : w.heap[g]? = some (.cells old T (0, 0))) (hn : l.length ≤ n) (hl : off + l.length ≤ old.size)
    (h : ∀ w', w'.heap[g]? = some (.cells (old.toList.take off ++ l.map byteV ++ old.toList.drop (off + l.length)).toArray T (0, 0)) → Below g w w' → wpList P ops Q rest (a.put o.dst (goInt l.length)) w') : wpList P ops Q (o :: rest) a w := by
  refine wpList_plain hgd fun K hK => ?_
  have hr := run_copy_strC (P := P) (ty := o.type) (sT := sT) hu hi w g off n c T old l hg hn hl
  unfold Oper.wp execOp
  simp only [ho, resolve, invoke, builtin, Sem.run_bind, Sem.run_pure, Result.andThen_ok, List.map_toArray, List.map_cons, List.map_nil, h1, h2, hr]
  exact hK _ _ (h _ (setRow_heap w g old _ T _ hg) (setRow_below g (Nat.le_refl _) _))
theorem cC_splice (K B U : List UInt8) (o : Nat) (l : List UInt8) (h : o + l.length ≤ K.length) : ((cCells K B U).toList.take o ++ l.map byteV ++ (cCells K B U).toList.drop (o + l.length)).toArray = cCells (splice K o l) B U := by
  unfold cCells splice
  congr 1
  simp only [List.map_append, List.append_assoc]
  rw [List.take_append_of_le_length (by simp; omega), List.drop_append_of_le_length (by simp; omega), List.map_take, List.map_drop]
/-- A store of a whole array into part of a block. -/
theorem wpl_store_part {P : Program} {ops : Array Oper} {rest : List Oper} {o : Oper} {a : Act} {Q : Exit → Act → World → Prop} {w : World} (hgd : o.guard = none) {ty : TypeId} {x y : Operand} (ho : o.op = .store ty x y) (hd : o.dst = none)
    {g off : Nat} {cs : Array Value} (hx : a.eval x = .pointer (some ⟨g, off, none⟩)) (hy : a.eval y = .agg cs) {t : TypeId} {old : Array Value} (hg : w.heap[g]? = some (.cells old t (0, 0))) (hi : (P.info? ty).map (·.size) = some cs.size)
    (hfit : off + cs.size ≤ old.size) (h1 : cs.all (·.oneCell') = true)
    (h : ∀ w', w'.heap[g]? = some (.cells (old.toList.take off ++ cs.toList ++ old.toList.drop (off + cs.size)).toArray t (0, 0)) → Below g w w' → wpList P ops Q rest a w') : wpList P ops Q (o :: rest) a w := by
  refine wpList_plain hgd fun K hK => ?_
  have hst := run_storeCells_at P g off t cs.toList 0 old w hg (by simpa using hfit) (fun v hv => (Array.all_eq_true_iff_forall_mem.1 h1) v (by simpa using hv))
  rw [Nat.add_zero, Array.length_toList] at hst
  obtain ⟨i0, hi0, hs⟩ : ∃ i0, P.info? ty = some i0 ∧ cs.size = i0.size := by
    cases hq : P.info? ty with
    | none => simp [hq] at hi
    | some i => exact ⟨i, rfl, by simp [hq] at hi; omega⟩
  have hr : (storeVar ty ⟨g, off, none⟩ (.agg cs)).run P w = .ok () (w.setRow g (old.toList.take off ++ cs.toList ++ old.toList.drop (off + cs.size)).toArray) := by
    simp [storeVar, sizeOf, typeInfo, hi0, Value.cells, hs] at hst ⊢
    exact hst
  unfold Oper.wp execOp
  simp only [ho, hx, hy, Instr.storeAt, Instr.sureAddr, Sem.run_bind, Sem.run_pure, Result.andThen_ok, hr]
  have := hK a (w.setRow g (old.toList.take off ++ cs.toList ++ old.toList.drop (off + cs.size)).toArray) (h _ (setRow_heap w g old _ t _ hg) (setRow_below g (Nat.le_refl _) _))
  show K (a.put o.dst undef) _
  rw [hd]
  exact this
def zC : Array Value := (bcells (List.replicate 688 0)).push (.bool false)
set_option maxRecDepth 100000 in
theorem zero_cipher (w : World) : Sem.run Tryz.prog (zeroValue 166) w = .ok (.agg zC) w := by kernel_rfl
theorem zC_size : zC.size = 689 := by rw [zC, Array.size_push, bcells_size, List.length_replicate]
def zK : List UInt8 := List.replicate 176 0
def zB : List UInt8 := List.replicate 256 0
theorem zK_length : zK.length = 176 := List.length_replicate
theorem zB_length : zB.length = 256 := List.length_replicate
set_option maxRecDepth 100000 in
theorem zC_made : zC.setIfInBounds 688 (.bool true) = cCells zK zB zB := by kernel_rfl
def z44 : List UInt32 := List.replicate 44 0
theorem zero_words (w : World) : Sem.run Tryz.prog (zeroValue 169) w = .ok (.agg (w4 z44)) w := by kernel_rfl
theorem info_w44 : (Tryz.prog.info? 169).map (·.size) = some 44 := by kernel_rfl
theorem und_w44 : Tryz.prog.underlying 169 = some (.array 44 46) := by kernel_rfl
end Go.Proofs.YtclekllaikcglaaGreat
namespace Go.Proofs.YtclekllaikcglaaGreat
open Go Go.RowKit

theorem slice16_at (c o m : Nat) (hm : m < 4) (W : World) : Sem.run Tryz.prog (Instr.sliceAt 162 (.pointer (some ⟨c, o, none⟩)) (some (.int .i64 (4 * (m : Int)))) none none) W = .ok (.slice (some ⟨c, o + 4 * m, none⟩) (16 - 4 * m) (16 - 4 * m)) W := by
  rcases (by omega : m = 0 ∨ m = 1 ∨ m = 2 ∨ m = 3) with rfl | rfl | rfl | rfl <;> kernel_rfl
set_option maxRecDepth 100000 in
set_option maxHeartbeats 1000000 in
theorem New_no (key : List UInt8) (w : World) (h : key.length ≠ 16) (_hl : key.length ≤ 140737488351232) : Calls Tryz.prog 111 #[.string (bs key)] w fun e w' => e = .returned (.tuple #[.pointer none, .int .i64 2]) ∧ w = w' := by
  have hne : ((key.length : Int) != 16) = true := by simp; omega
  go_enter Tryz.func111, Tryz.ntmps111
  go_wp2
  go_returns
  exact ⟨rfl, rfl⟩
set_option maxRecDepth 100000 in
set_option maxHeartbeats 4000000 in
theorem New_yes (key : List UInt8) (w : World) (h : key.length = 16) : Calls Tryz.prog 111 #[.string (bs key)] w fun e w' => ∃ c, e = .returned (.tuple #[.pointer (some ⟨c, 0, none⟩), .int .i64 0]) ∧ w.heap.size ≤ c ∧ CI w' c (rks key) ∧ Ext w w' := by
  have GB := Lib.hid boxes_any
  have hz := zero_cipher
  have hzs := zC_size
  have hzm := zC_made
  have hzw := zero_words
  have HI := Lib.hid (show (Tryz.prog.info? 164).map (·.size) = some (bcells boxT).size by rw [bcells_size, boxT_length]; exact info_b256)
  have HJ := Lib.hid (show (Tryz.prog.info? 164).map (·.size) = some (bcells unT).size by rw [bcells_size, unT_length]; exact info_b256)
  have HH := Lib.hid h
  go_enter Tryz.func111, Tryz.ntmps111
  go_upto_region 4 with fail
  obtain ⟨w0, hw0⟩ : ∃ w0, w.alloc (Obj.cells (cCells zK zB zB) 166) = w0 := ⟨_, rfl⟩
  have hc0 : w0.heap[w.heap.size]? = some (.cells (cCells zK zB zB) 166 (0, 0)) := by rw [← hw0]; exact heap_alloc_new _ _
  have hx0 : Ext w w0 := by rw [← hw0]; exact (Ext.refl w).alloc _
  rw [hw0]
  clear hw0 hz hzs hzm
  have HC0 := Lib.hid hc0
  clear hc0
  have P1 : Hid (∀ K B U : List UInt8, K.length = 176 → B.length = 256 → ((cCells K B U).toList.take 176 ++ (bcells boxT).toList ++ (cCells K B U).toList.drop (176 + (bcells boxT).size)).toArray = cCells K boxT U) := Lib.hid (by
    intro K B U hK hB
    rw [bcells_size, boxT_length, bcells_toList]
    unfold cCells
    congr 1
    simp only [List.map_append, List.append_assoc]
    rw [List.take_append_of_le_length (by simp; omega), List.take_of_length_le (by simp; omega), List.drop_append, List.drop_of_length_le (by simp; omega), List.drop_append, List.drop_of_length_le (by simp; omega)]
    simp [hK, hB])
  have P2 : Hid (∀ K B U : List UInt8, K.length = 176 → B.length = 256 → U.length = 256 → ((cCells K B U).toList.take 432 ++ (bcells unT).toList ++ (cCells K B U).toList.drop (432 + (bcells unT).size)).toArray = cCells K B unT) := Lib.hid (by
    intro K B U hK hB hU
    rw [bcells_size, unT_length, bcells_toList]
    unfold cCells
    congr 1
    simp only [List.map_append, List.append_assoc]
    rw [List.take_append, List.take_of_length_le (by simp; omega), List.take_append_of_le_length (by simp; omega), List.take_of_length_le (by simp; omega), List.drop_append, List.drop_of_length_le (by simp; omega), List.drop_append, List.drop_of_length_le (by simp; omega), List.drop_append, List.drop_of_length_le (by simp; omega)]
    simp [hK, hB, hU])
  go_upto_region 5 with (first
    | (go_at_call 123; with_reducible refine (GB.out _).mono ?_; rintro e w1 ⟨rfl, hx1⟩; have HC1 := Lib.hid (hx1.keep HC0.out))
    | (refine wpl_store_part rfl rfl rfl (g := w.heap.size) (off := 176) (cs := bcells boxT) rfl rfl HC1.out HI.out (by rw [cCells_size, bcells_size, boxT_length, zK_length, zB_length]; decide) (bcells_all _) ?_; intro w2 hc2 hb2; rw [P1.out _ _ _ zK_length zB_length] at hc2; have HC2 := Lib.hid hc2; clear hc2)
    | (refine wpl_store_part rfl rfl rfl (g := w.heap.size) (off := 432) (cs := bcells unT) rfl rfl HC2.out HJ.out (by rw [cCells_size, bcells_size, boxT_length, unT_length, zK_length, zB_length]; decide) (bcells_all _) ?_; intro w3 hc3 hb3; rw [P2.out _ _ _ zK_length boxT_length zB_length] at hc3; have HC3 := Lib.hid hc3; clear hc3))
  have hx3 : Ext w w3 := ((Ext.trans hx0 hx1).trans_below hb2 (Nat.le_refl _)).trans_below hb3 (Nat.le_refl _)
  have HCI : Hid (CI w3 w.heap.size zK) := Lib.hid ⟨zK_length, HC3.out⟩
  clear hb2 hb3 hx1 hx0
  go_upto_region 7 with fail
  obtain ⟨w5, hw5⟩ : ∃ w5, w3.alloc (Obj.cells (w4 z44) 169) = w5 := ⟨_, rfl⟩
  have k5 : w5.heap[w3.heap.size]? = some (.cells (w4 (wsA key 0)) 169 (0, 0)) := by rw [← hw5]; exact heap_alloc_new _ _
  have x5 : Ext w3 w5 := by rw [← hw5]; exact (Ext.refl _).alloc _
  rw [hw5]
  clear hw5 hzw HC3
  have GT := Lib.hid (fun (x : UInt32) (W : World) => Turn_any x (-8) W)
  have GX := Lib.hid (fun (x : UInt32) (W : World) (hc : CI W w.heap.size zK) => boxed_any x w.heap.size zK W hc)
  have GW := Lib.hid twice_any
  have HX3 := Lib.hid hx3
  clear hx3
  go_wp2
  go_loopw [6, 26] (fun r i wr => ∃ k : Nat, k ≤ 44 ∧ r = .int .u8 ((wsN key k).2.toNat : Int) ∧ i = .int .i64 k ∧ wr.heap[w3.heap.size]? = some (.cells (w4 (wsA key k)) 169 (0, 0)) ∧ Ext w3 wr) (fun _ i _ => 44 - (intOf i).toNat)
  case atStart => exact ⟨0, by omega, rfl, rfl, k5, x5⟩
  case round =>
    clear k5 x5
    obtain ⟨k, hk, rfl, rfl, hb, hx⟩ := hrel
    have HB := Lib.hid hb
    clear hb
    have hal := wsA_length key k hk
    by_cases hlt : k < 44
    · have hzc : ∃ c0, wr.cell? ⟨w3.heap.size, k, none⟩ = some c0 := ⟨_, cell_blk HB.out (w4_at _ k (by omega))⟩
      obtain ⟨c0, hc0⟩ := hzc
      have hfz := frozen_blk (i := k) HB.out
      by_cases h4 : k < 4
      · have GG := Lib.hid (fun W => Get32_any key (4 * (k : Int)) W (by have := HH.out; omega))
        have hgv : (Get32 key (4 * (k : Int))).1 = (keyW key k).toNat := by
          unfold Get32 keyW
          rw [if_pos (by have := HH.out; omega), show (4 * (k : Int)).toNat = 4 * k by omega, UInt32.toNat_ofNat_of_lt' (getB_u32 _ (seg_length _ _ _ (by have := HH.out; omega)))]
        have HN : Hid (wsN key (k + 1) = ((wsN key k).1 ++ [keyW key k], (wsN key k).2)) := Lib.hid (by rw [wsN]; simp only [if_pos h4])
        have HS := Lib.hid (wsA_set key k hlt (keyW key k) _ HN.out rfl)
        have H2 : Hid ((wsN key (k + 1)).2 = (wsN key k).2) := Lib.hid (by rw [HN.out])
        rw [hgv] at GG
        generalize keyW key k = v at *
        generalize (Get32 key (4 * (k : Int))).2 = bb at *
        generalize (wsN key k).2 = r at *
        go_wp2_with (go_at_call 65; refine (GG.out _).mono ?_; rintro e w' ⟨rfl, rfl⟩)
        go_roundw
        case measure => simp [intOf]; omega
        case rel =>
          refine ⟨k + 1, by omega, by rw [H2.out], by go_num, ?_, hx.setCell (Nat.le_refl _) _⟩
          rw [heap_setCell_same _ HB.out, w4_set, HS.out]
      · obtain ⟨k1, hk1⟩ : ∃ k1 : Nat, (k : Int) - 1 = (k1 : Int) := ⟨k - 1, by omega⟩
        obtain ⟨k4, hk4⟩ : ∃ k4 : Nat, (k : Int) - 4 = (k4 : Int) := ⟨k - 4, by omega⟩
        have hc1 := cell_blk (i := k1) HB.out (w4_at _ k1 (by omega))
        rw [wsA_at key k k1 hk (by omega)] at hc1
        have hc4 := cell_blk (i := k4) HB.out (w4_at _ k4 (by omega))
        rw [wsA_at key k k4 hk (by omega)] at hc4
        have e1 : k - 1 = k1 := by omega
        have e4 : k - 4 = k4 := by omega
        have hk1l : (k1 : Int) < 44 := by omega
        have hk4l : (k4 : Int) < 44 := by omega
        have hkl : (k : Int) < 44 := by omega
        by_cases hm : k % 4 = 0
        · have HN : Hid (wsN key (k + 1) = ((wsN key k).1 ++ [x32 ((wsN key k).1.getD k4 0) (x32 (boxW (rotr ((wsN key k).1.getD k1 0) (-8))) (shl24 (wsN key k).2))], tw (wsN key k).2)) := Lib.hid (by rw [wsN]; simp only [if_neg h4, if_pos hm, e1, e4])
          have HS := Lib.hid (wsA_set key k hlt _ _ HN.out rfl)
          have H2 : Hid ((wsN key (k + 1)).2 = tw (wsN key k).2) := Lib.hid (by rw [HN.out])
          have hmi : (k : Int) % 4 = 0 := by omega
          have hr := (wsN key k).2.toNat_lt
          have hsh := shl24_toNat (wsN key k).2
          have hs1 : ((wsN key k).2.toNat : Int) * 16777216 = ((shl24 (wsN key k).2).toNat : Int) := by rw [hsh]; omega
          have HC4 := Lib.hid hc4
          clear e1 e4 hsh hc4
          generalize (wsN key k).1.getD k1 0 = n1 at *
          generalize (wsN key k).1.getD k4 0 = n4 at *
          generalize (wsN key k).2 = r at *
          go_wp2_with (first
            | (go_at_call 125; with_reducible refine (GT.out _ _).mono ?_; rintro e w6 ⟨rfl, hx6⟩; have hci := HCI.out.ext (hx.trans hx6))
            | (go_at_call 124; with_reducible refine (GX.out _ _ hci).mono ?_; rintro e w7 ⟨rfl, hx7⟩; have hx67 := hx6.trans hx7; have HB7 := Lib.hid (hx67.keep HB.out); have hc47 := hx67.cell_of HC4.out; have hc07 := hx67.cell_of hc0; have hf7 := frozen_blk (i := k) HB7.out)
            | (go_at_call 126; with_reducible refine (GW.out _ _).mono ?_; rintro e w' ⟨rfl, rfl⟩))
          go_roundw
          case measure => simp [intOf]; omega
          case rel =>
            refine ⟨k + 1, by omega, by rw [H2.out], by go_num, ?_, (hx.trans hx67).setCell (Nat.le_refl _) _⟩
            rw [heap_setCell_same _ HB7.out, w4_set, HS.out]
        · have HN : Hid (wsN key (k + 1) = ((wsN key k).1 ++ [x32 ((wsN key k).1.getD k4 0) ((wsN key k).1.getD k1 0)], (wsN key k).2)) := Lib.hid (by rw [wsN]; simp only [if_neg h4, if_neg hm, e1, e4])
          have HS := Lib.hid (wsA_set key k hlt _ _ HN.out rfl)
          have H2 : Hid ((wsN key (k + 1)).2 = (wsN key k).2) := Lib.hid (by rw [HN.out])
          have hmi : ¬ (k : Int) % 4 = 0 := by omega
          clear e1 e4
          generalize (wsN key k).1.getD k1 0 = n1 at *
          generalize (wsN key k).1.getD k4 0 = n4 at *
          generalize (wsN key k).2 = r at *
          go_wp2
          go_roundw
          case measure => simp [intOf]; omega
          case rel =>
            refine ⟨k + 1, by omega, by rw [H2.out], by go_num, ?_, hx.setCell (Nat.le_refl _) _⟩
            rw [heap_setCell_same _ HB.out, w4_set, HS.out]
    · obtain rfl : k = 44 := by omega
      have hws : wsA key 44 = ksW key := by simp [wsA, ksW]
      rw [hws] at HB
      generalize (wsN key 44).2 = r44
      have HIW := Lib.hid (show (Tryz.prog.info? 169).map (·.size) = some (w4 (ksW key)).size by rw [w4_size, ksW_length key]; exact info_w44)
      obtain ⟨wt, hwt⟩ : ∃ wt, w4 (ksW key) = wt := ⟨_, rfl⟩
      rw [hwt] at HB HIW
      have HWT := Lib.hid hwt
      have HCW := HCI.out.ext hx
      have HX := HX3.out.trans hx
      clear hwt hws hal hk hlt
      go_wp2_with (refine wpList_load_row rfl _ _ rfl w3.heap.size rfl _ _ _ _ HB.out und_w44 rfl HIW.out ?_)
      obtain ⟨wo, hwo⟩ : ∃ x, x = wr := ⟨_, rfl⟩
      subst hwo
      go_loopw [67] (fun i wr => ∃ k : Nat, k ≤ 44 ∧ i = .int .i64 k ∧ wr.heap[w.heap.size]? = some (.cells (cCells (kbK key k) boxT unT) 166 (0, 0)) ∧ Ext w wr) (fun i _ => 44 - (intOf i).toNat)
      case atStart => exact ⟨0, by omega, rfl, HCW.2, HX⟩
      case round =>
        obtain ⟨k, hk, rfl, hb, hx2⟩ := hrel
        have HB2 := Lib.hid hb
        clear hb
        by_cases hlt : k < 44
        · obtain ⟨q, hq4⟩ : ∃ q : Nat, (k : Int) / 4 = (q : Int) := ⟨k / 4, by omega⟩
          obtain ⟨m, hm4⟩ : ∃ m : Nat, (k : Int) % 4 = (m : Int) := ⟨k % 4, by omega⟩
          have hkqm : Hid (q * 16 + 4 * m = 4 * k) := Lib.hid (by omega)
          have hq11 : (q : Int) < 11 := by omega
          have hm3 : m < 4 := by omega
          have hq11n : q < 11 := by omega
          have hwk : wt[k]? = some (.int .u32 (((ksW key).getD k 0).toNat : Int)) := by
            rw [← HWT.out, w4_at _ k (by rw [ksW_length key]; exact hlt)]
            simp [List.getD, show k < (ksW key).length by rw [ksW_length key]; exact hlt]
          have HKB := Lib.hid (kbK_length key k hk)
          have HN : Hid (kbK key (k + 1) = splice (kbK key k) (4 * k) (putB 4 ((ksW key).getD k 0).toNat)) := Lib.hid rfl
          generalize (ksW key).getD k 0 = n at *
          generalize kbK key k = kb at *
          have hnl := n.toNat_lt
          have hwq : IntKind.i64.wrap (q : Int) = (q : Int) := by rw [IntKind.wrap_i64]; omega
          have hwm : IntKind.i64.wrap (4 * (m : Int)) = 4 * (m : Int) := by rw [IntKind.wrap_i64]; omega
          have htm : (k : Int).tmod 4 = (m : Int) := by rw [Int.tmod_eq_emod_of_nonneg (by omega)]; exact hm4
          have hsl : ∀ W, Sem.run Tryz.prog (Instr.sliceAt 162 (.pointer (some ⟨w.heap.size, q * 16, none⟩)) (some (.int .i64 (4 * (m : Int)))) none none) W = .ok (.slice (some ⟨w.heap.size, q * 16 + 4 * m, none⟩) (16 - 4 * m) (16 - 4 * m)) W := fun W => slice16_at w.heap.size (q * 16) m hm3 W
          have hix : ∀ W, Sem.run Tryz.prog (Instr.index 169 (.agg wt) (.int .i64 (k : Int))) W = .ok (.int .u32 (n.toNat : Int)) W := fun W => run_index_one und_w44 (by kernel_rfl : Tryz.prog.underlying 46 = some (.int .u32)) rfl (by kernel_rfl) wt _ k hlt hwk W
          have GP := Lib.hid (fun W => Put32_any n.toNat W (by unfold U32; omega))
          go_upto_region 21 with fail
          refine Loud.wp_region_weave 12 wr (Loud.sps [.val (.pointer (some ⟨w.heap.size, 0, none⟩)), .val (.int .i64 (k : Int)), .val (.int .i64 (q : Int)), .val (.pointer (some ⟨w.heap.size, 0, none⟩)), .val (.pointer (some ⟨w.heap.size, 0, none⟩)), .val (.pointer (some ⟨w.heap.size, q * 16, none⟩)), .val (.int .i64 (k : Int)), .val (.int .i64 (m : Int)), .val (.int .i64 (4 * (m : Int))), .val (.slice (some ⟨w.heap.size, q * 16 + 4 * m, none⟩) (16 - 4 * m) (16 - 4 * m)), .val (.int .u32 (n.toNat : Int)), .val (.string (bs (putB 4 n.toNat)))]) (by kernel_rfl) (by kernel_rfl) (by show Ext _ _; repeat (first | exact Ext.refl _ | assumption | (with_reducible refine Ext.drew ?_) | (with_reducible refine Ext.drewN ?_ _) | (with_reducible refine Ext.alloc ?_ _) | (refine Ext.trans ?_ (by assumption)))) (Loud.sps_st _) ?wAx1 ?whAx1 ?whSx1 ?whFx1
          case whAx1 => intro u K hK; simp only [List.take_succ_cons, List.take_zero, Loud.puts]; go_simp; exact hK
          case whSx1 =>
            simp only [List.take_succ_cons, List.take_zero, Loud.stepsW]
            refine ⟨?wsx1_0, ?wsx1_1, ?wsx1_2, ?wsx1_3, ?wsx1_4, ?wsx1_5, ?wsx1_6, ?wsx1_7, ?wsx1_8, ?wsx1_9, ?wsx1_10, ?wsx1_11, trivial⟩
            case wsx1_0 =>
              intro u β wq hq h
              repeat (obtain ⟨h1, h⟩ := h; first | (replace h1 := h1 rfl; simp only [go_sem] at h1; try (obtain ⟨h1, h1b⟩ := h1)) | (have hno := (h1 : Region.binds _ _ = true → _); clear hno h1))
              refine Or.inl ⟨rfl, fun K hK => ?_⟩
              go_simp
              exact hK _ 0 _ (Ext.refl _) rfl
            case wsx1_1 =>
              intro u β wq hq h
              repeat (obtain ⟨h1, h⟩ := h; first | (replace h1 := h1 rfl; simp only [go_sem] at h1; try (obtain ⟨h1, h1b⟩ := h1)) | (have hno := (h1 : Region.binds _ _ = true → _); clear hno h1))
              refine Or.inl ⟨rfl, fun K hK => ?_⟩
              go_simp
              exact hK _ 0 _ (Ext.refl _) rfl
            case wsx1_2 =>
              intro u β wq hq h
              repeat (obtain ⟨h1, h⟩ := h; first | (replace h1 := h1 rfl; simp only [go_sem] at h1; try (obtain ⟨h1, h1b⟩ := h1)) | (have hno := (h1 : Region.binds _ _ = true → _); clear hno h1))
              refine Or.inl ⟨rfl, fun K hK => ?_⟩
              go_simp
              exact hK _ 0 _ (Ext.refl _) rfl
            case wsx1_3 =>
              intro u β wq hq h
              repeat (obtain ⟨h1, h⟩ := h; first | (replace h1 := h1 rfl; simp only [go_sem] at h1; try (obtain ⟨h1, h1b⟩ := h1)) | (have hno := (h1 : Region.binds _ _ = true → _); clear hno h1))
              refine Or.inl ⟨rfl, fun K hK => ?_⟩
              go_simp
              exact hK _ 0 _ (Ext.refl _) rfl
            case wsx1_4 =>
              intro u β wq hq h
              repeat (obtain ⟨h1, h⟩ := h; first | (replace h1 := h1 rfl; simp only [go_sem] at h1; try (obtain ⟨h1, h1b⟩ := h1)) | (have hno := (h1 : Region.binds _ _ = true → _); clear hno h1))
              refine Or.inl ⟨rfl, fun K hK => ?_⟩
              go_simp
              exact hK _ 0 _ (Ext.refl _) rfl
            case wsx1_5 =>
              intro u β wq hq h
              repeat (obtain ⟨h1, h⟩ := h; first | (replace h1 := h1 rfl; simp only [go_sem] at h1; try (obtain ⟨h1, h1b⟩ := h1)) | (have hno := (h1 : Region.binds _ _ = true → _); clear hno h1))
              refine Or.inl ⟨rfl, fun K hK => ?_⟩
              go_simp
              exact hK _ 0 _ (Ext.refl _) rfl
            case wsx1_6 =>
              intro u β wq hq h
              repeat (obtain ⟨h1, h⟩ := h; first | (replace h1 := h1 rfl; simp only [go_sem] at h1; try (obtain ⟨h1, h1b⟩ := h1)) | (have hno := (h1 : Region.binds _ _ = true → _); clear hno h1))
              refine Or.inl ⟨rfl, fun K hK => ?_⟩
              go_simp
              exact hK _ 0 _ (Ext.refl _) rfl
            case wsx1_7 =>
              intro u β wq hq h
              repeat (obtain ⟨h1, h⟩ := h; first | (replace h1 := h1 rfl; simp only [go_sem] at h1; try (obtain ⟨h1, h1b⟩ := h1)) | (have hno := (h1 : Region.binds _ _ = true → _); clear hno h1))
              refine Or.inl ⟨rfl, fun K hK => ?_⟩
              go_simp
              exact hK _ 0 _ (Ext.refl _) rfl
            case wsx1_8 =>
              intro u β wq hq h
              repeat (obtain ⟨h1, h⟩ := h; first | (replace h1 := h1 rfl; simp only [go_sem] at h1; try (obtain ⟨h1, h1b⟩ := h1)) | (have hno := (h1 : Region.binds _ _ = true → _); clear hno h1))
              refine Or.inl ⟨rfl, fun K hK => ?_⟩
              go_simp
              exact hK _ 0 _ (Ext.refl _) rfl
            case wsx1_9 =>
              intro u β wq hq h
              repeat (obtain ⟨h1, h⟩ := h; first | (replace h1 := h1 rfl; simp only [go_sem] at h1; try (obtain ⟨h1, h1b⟩ := h1)) | (have hno := (h1 : Region.binds _ _ = true → _); clear hno h1))
              refine Or.inl ⟨rfl, fun K hK => ?_⟩
              go_simp
              exact hK _ 0 _ (Ext.refl _) rfl
            case wsx1_10 =>
              intro u β wq hq h
              repeat (obtain ⟨h1, h⟩ := h; first | (replace h1 := h1 rfl; simp only [go_sem] at h1; try (obtain ⟨h1, h1b⟩ := h1)) | (have hno := (h1 : Region.binds _ _ = true → _); clear hno h1))
              refine Or.inl ⟨rfl, fun K hK => ?_⟩
              go_simp
              exact hK _ 0 _ (Ext.refl _) rfl
            case wsx1_11 =>
              intro u β wq hq h
              repeat (obtain ⟨h1, h⟩ := h; first | (replace h1 := h1 rfl; simp only [go_sem] at h1; try (obtain ⟨h1, h1b⟩ := h1)) | (have hno := (h1 : Region.binds _ _ = true → _); clear hno h1))
              refine Or.inl ⟨rfl, fun K hK => ?_⟩
              go_simp
              refine (GP.out _).mono ?_; rintro e w1 ⟨rfl, hx1⟩; exact ⟨_, rfl, hK _ 0 _ hx1 rfl⟩
          intro u β w8 hq h
          have h0 := h 0 (by omega)
          have h1 := h 1 (by omega)
          have h2 := h 2 (by omega)
          have h3 := h 3 (by omega)
          have h4 := h 4 (by omega)
          have h5 := h 5 (by omega)
          have h6 := h 6 (by omega)
          have h7 := h 7 (by omega)
          have h8 := h 8 (by omega)
          have h9 := h 9 (by omega)
          have h10 := h 10 (by omega)
          have h11 := h 11 (by omega)
          clear h
          simp only [go_sem] at h0 h1 h2 h3 h4 h5 h6 h7 h8 h9 h10 h11
          simp only [List.drop_succ_cons, List.drop_zero]
          rw [h11]
          go_wp2_with (refine wpl_copy_strC rfl rfl und_bytes info_u8 (by first | rfl | exact h9) (by first | rfl | exact h11) (hq.keep HB2.out) (by rw [putB_length]; omega) (by rw [putB_length, cCells_size, HKB.out]; have := hkqm.out; omega) ?_; intro w9 hb9 hbel9; rw [cC_splice _ _ _ _ _ (by rw [putB_length, HKB.out]; have := hkqm.out; omega), hkqm.out, ← HN.out] at hb9; have HB9 := Lib.hid hb9; clear hb9)
          go_roundw
          case measure => simp [intOf]; omega
          case rel =>
            exact ⟨k + 1, by omega, by go_num, HB9.out, (hx2.trans hq).trans_below hbel9⟩
        · obtain rfl : k = 44 := by omega
          go_wp2
          go_returns
          exact ⟨w.heap.size, rfl, Nat.le_refl _, ⟨kbK_length key 44 (by omega), HB2.out⟩, hx2⟩
end Go.Proofs.YtclekllaikcglaaGreat
