/- Contracts: layer 4, a column mixed. -/
import Derived.Test.YtgncnplgjhaojaaAdds
namespace Go.Proofs.Ytgncnplgjhaojaa
open Go Go.RowKit

theorem wpl_copy_row {P : Program} {ops : Array Oper} {rest : List Oper} {o : Oper} {a : Act} {Q : Exit → Act → World → Prop} {w : World} (hgd : o.guard = none) {d x : Operand} {dT sT elem : TypeId}
    (ho : o.op = .call { callee := .builtin .copy, args := #[d, x], argTypes := #[dT, sT] }) (hu : P.underlying dT = some (.slice elem)) (hs : (P.info? elem).map (·.size) = some 1)
    {g off dLen dCap sLen sCap : Nat} {ad : Addr} {cur : Array Value} {t : TypeId} (cs : List Value) (h1 : a.eval d = .slice (some ⟨g, off, none⟩) dLen dCap) (h2 : a.eval x = .slice (some ad) sLen sCap)
    (hg : w.heap[g]? = some (.cells cur t (0, 0))) (hn : cs.length = Nat.min sLen dLen) (hsrc : ∀ j v, cs[j]? = some v → w.cell? (ad.add j) = some v) (hfit : off + cs.length ≤ cur.size) (hone : ∀ v ∈ cs, v.oneCell' = true)
    (h : ∀ w', w'.heap[g]? = some (.cells (cur.toList.take off ++ cs ++ cur.toList.drop (off + cs.length)).toArray t (0, 0)) → Below g w w' → wpList P ops Q rest (a.put o.dst (goInt cs.length)) w') : wpList P ops Q (o :: rest) a w := by
  refine wpList_plain hgd fun K hK => ?_
  have hr := run_copy_row (P := P) w dT sT o.type elem g off dLen dCap ad sLen sCap cur t cs hu hs hg hn hsrc hfit hone
  unfold Oper.wp execOp
  simp only [ho, resolve, invoke, builtin, Sem.run_bind, Sem.run_pure, Result.andThen_ok, List.map_toArray, List.map_cons, List.map_nil, h1, h2, hr]
  exact hK _ _ (h _ (setRow_heap w g cur _ t _ hg) (setRow_below g (Nat.le_refl _) _))
/-- A row's sum: the first k products. -/
def mixK (f col : List UInt8) (r : Nat) : Nat → UInt8
  | 0 => 0
  | k + 1 => x8 (mixK f col r k) (gm (col.getD k 0) (f.getD ((k + 4 - r) % 4) 0))
def mixL (f col : List UInt8) : List UInt8 := (List.range 4).map fun r => mixK f col r 4
@[simp] theorem mixL_length (f col : List UInt8) : (mixL f col).length = 4 := by simp [mixL]
/-- What lies in out when r rows and k products are over. -/
def outK (f col : List UInt8) (r k : Nat) : List UInt8 := (mixL f col).take r ++ (mixK f col r k :: List.replicate (3 - r) 0)
theorem outK_length (f col : List UInt8) (r k : Nat) (hr : r < 4) : (outK f col r k).length = 4 := by
  unfold outK; rw [List.length_append, List.length_take, mixL_length, List.length_cons, List.length_replicate]; omega
theorem outK_at (f col : List UInt8) (r k : Nat) (hr : r < 4) : (outK f col r k)[r]? = some (mixK f col r k) := by
  unfold outK
  rw [List.getElem?_append_right (by rw [List.length_take, mixL_length]; omega), List.length_take, mixL_length, Nat.min_eq_left (by omega), Nat.sub_self]
  rfl
theorem outK_set (f col : List UInt8) (r k : Nat) (hr : r < 4) (x : UInt8) : (outK f col r k).set r x = (mixL f col).take r ++ (x :: List.replicate (3 - r) 0) := by
  unfold outK
  rw [List.set_append_right _ _ (by rw [List.length_take, mixL_length]; omega), List.length_take, mixL_length, Nat.min_eq_left (by omega), Nat.sub_self]
  rfl
theorem outK_done (f col : List UInt8) (r : Nat) (hr : r < 3) : outK f col r 4 = outK f col (r + 1) 0 := by
  unfold outK
  rw [List.take_succ_eq_append_getElem (by rw [mixL_length]; omega), List.append_assoc]
  congr 1
  rw [show 3 - r = (3 - (r + 1)) + 1 by omega, List.replicate_succ]
  simp [mixL, mixK]
theorem outK_all (f col : List UInt8) : outK f col 3 4 = mixL f col := by
  simp [outK, mixL, List.range, List.range.loop]
theorem outK_zero (f col : List UInt8) : outK f col 0 0 = List.replicate 4 0 := rfl
def outS (f col : List UInt8) (r : Nat) : List UInt8 := if r < 4 then outK f col r 0 else mixL f col
theorem outS_succ (f col : List UInt8) (r : Nat) (hr : r < 4) : outK f col r 4 = outS f col (r + 1) := by
  unfold outS
  by_cases h : r < 3
  · rw [if_pos (by omega), outK_done f col r h]
  · obtain rfl : r = 3 := by omega
    rw [if_neg (by omega), outK_all]
set_option maxRecDepth 100000 in
set_option maxHeartbeats 4000000 in
theorem mixed_any (g o cap : Nat) (s f : List UInt8) (f0 f1 f2 f3 : UInt8) (hf : f = [f0, f1, f2, f3]) (t : TypeId) (w : World) (hg : w.heap[g]? = some (.cells (bcells s) t (0, 0))) (ho : o + 4 ≤ s.length) :
    Calls Try.prog 42 #[.slice (some ⟨g, o, none⟩) 4 cap, .agg #[.int .u8 (f0.toNat : Int), .int .u8 (f1.toNat : Int), .int .u8 (f2.toNat : Int), .int .u8 (f3.toNat : Int)]] w fun e w' => e = .returned (.tuple #[]) ∧ w'.heap[g]? = some (.cells (bcells (splice s o (mixL f ((s.drop o).take 4)))) t (0, 0)) ∧ Below g w w' := by
  have HG := Lib.hid hg
  have hgl := blk_lt hg
  clear hg
  have GT : Hid (∀ (a b : UInt8) (W : World), Calls Try.prog 11 #[.int .u8 (a.toNat : Int), .int .u8 (b.toNat : Int)] W fun e w' => e = .returned (.int .u8 ((gm a b).toNat : Int)) ∧ Ext W w') := Lib.hid fun a b W => (times_any a b W).mono (by rintro e w' ⟨rfl, rfl⟩; exact ⟨rfl, Ext.refl _⟩)
  have hbf : (#[.int .u8 (f0.toNat : Int), .int .u8 (f1.toNat : Int), .int .u8 (f2.toNat : Int), .int .u8 (f3.toNat : Int)] : Array Value) = bcells f := by rw [hf]; rfl
  have hfl : f.length = 4 := by rw [hf]; rfl
  have HF := Lib.hid hbf
  clear hbf hf
  go_enter Try.func42, Try.ntmps42
  go_upto_region 2 with fail
  obtain ⟨w0, hw0⟩ : ∃ w0, ((w.alloc (Obj.cells #[.int .u8 (f0.toNat : Int), .int .u8 (f1.toNat : Int), .int .u8 (f2.toNat : Int), .int .u8 (f3.toNat : Int)] 69)).alloc (Obj.cells #[.int .u8 0, .int .u8 0, .int .u8 0, .int .u8 0] 69)) = w0 := ⟨_, rfl⟩
  obtain ⟨col, hcol⟩ : ∃ col, (s.drop o).take 4 = col := ⟨_, rfl⟩
  have hcl : col.length = 4 := by rw [← hcol, List.length_take, List.length_drop]; omega
  have hcs : ∀ k (hk : k < 4), s[o + k]'(by omega) = col.getD k 0 := by
    intro k hk
    have : col.getD k 0 = col[k]'(by omega) := by simp [List.getD, show k < col.length by omega]
    rw [this]
    subst hcol
    rw [List.getElem_take, List.getElem_drop]
  have HCS := Lib.hid hcs
  have k0 : w0.heap[w.heap.size]? = some (.cells (bcells f) 69 (0, 0)) := by rw [← hw0, ← HF.out]; exact heap_alloc_old _ _ (heap_alloc_new _ _)
  have k1 : w0.heap[w.heap.size + 1]? = some (.cells (bcells (outS f col 0)) 69 (0, 0)) := by rw [← hw0]; exact heap_alloc2b _ _ _
  have kx : Ext w w0 := by rw [← hw0]; exact ((Ext.refl w).alloc _).alloc _
  have HCOL := Lib.hid hcol
  rw [hw0]
  clear hw0 HF hcs hcol
  go_wp2
  go_loopw [7] (fun i wr => ∃ r : Nat, r ≤ 4 ∧ i = .int .i64 r ∧ wr.heap[w.heap.size]? = some (.cells (bcells f) 69 (0, 0)) ∧ wr.heap[w.heap.size + 1]? = some (.cells (bcells (outS f col r)) 69 (0, 0)) ∧ Ext w wr) (fun i _ => 4 - (intOf i).toNat)
  case atStart => exact ⟨0, by omega, rfl, k0, k1, kx⟩
  case round =>
    clear k0 k1 kx
    obtain ⟨r, hr, rfl, hfr, hor, hx⟩ := hrel
    have HO := Lib.hid hor; have HFR := Lib.hid hfr
    clear hor hfr
    by_cases hlt : r < 4
    · rw [show outS f col r = outK f col r 0 from if_pos hlt] at HO
      have HSU := Lib.hid (outS_succ f col r hlt)
      go_wp2
      obtain ⟨wo, rfl⟩ : ∃ x, x = wr := ⟨_, rfl⟩
      go_loopw [10] (fun i wr => ∃ k : Nat, k ≤ 4 ∧ i = .int .i64 k ∧ wr.heap[w.heap.size]? = some (.cells (bcells f) 69 (0, 0)) ∧ wr.heap[w.heap.size + 1]? = some (.cells (bcells (outK f col r k)) 69 (0, 0)) ∧ Ext w wr) (fun i _ => 4 - (intOf i).toNat)
      case atStart => exact ⟨0, by omega, rfl, HFR.out, HO.out, hx⟩
      case round =>
        clear HO HFR hx
        obtain ⟨k, hk, rfl, hfr, hor, hx⟩ := hrel
        have HO := Lib.hid hor; have HFR := Lib.hid hfr
        clear hor hfr
        by_cases hlk : k < 4
        · obtain ⟨idx, hidx⟩ : ∃ idx : Nat, ((k : Int) - (r : Int) + 4) % 4 = (idx : Int) := ⟨(k + 4 - r) % 4, by omega⟩
          have hid2 : idx = (k + 4 - r) % 4 := by omega
          have hi4 : idx < 4 := by omega
          have hoc := cell_blk (i := r) HO.out (by rw [bcells_get?, outK_at f col r k hlt]; rfl)
          have hgc := cell_blk (i := o + k) (hx.keep HG.out) (bcells_at s (o + k) (by omega))
          rw [HCS.out k hlk] at hgc
          have hfc := cell_blk (i := idx) HFR.out (bcells_at f idx (by omega))
          rw [show f[idx]'(by omega) = f.getD idx 0 by simp [List.getD, show idx < f.length by omega]] at hfc
          have HM : Hid (mixK f col r (k + 1) = x8 (mixK f col r k) (gm (col.getD k 0) (f.getD idx 0))) := Lib.hid (by rw [hid2]; rfl)
          have HS := Lib.hid (outK_set f col r k hlt (mixK f col r (k + 1)))
          clear hid2
          generalize col.getD k 0 = b at *
          generalize f.getD idx 0 = c at *
          generalize mixK f col r k = a at *
          have hri : (r : Int) < 4 := by omega
          have hki : (k : Int) < 4 := by omega
          have hii : (idx : Int) < 4 := by omega
          have hws : IntKind.i64.wrap ((k : Int) - (r : Int)) = (k : Int) - (r : Int) := by rw [IntKind.wrap_i64]; omega
          have hwt : IntKind.i64.wrap ((k : Int) - (r : Int) + 4) = (k : Int) - (r : Int) + 4 := by rw [IntKind.wrap_i64]; omega
          have htm : ((k : Int) - (r : Int) + 4).tmod 4 = (idx : Int) := by rw [Int.tmod_eq_emod_of_nonneg (by omega)]; exact hidx
          go_wp2
          refine Loud.wp_region_weave 17 wr (Loud.sps [.val (.int .i64 (r : Int)), .val (.pointer (some ⟨w.heap.size + 1, r, none⟩)), .val (.int .u8 (a.toNat : Int)), .val (.slice (some ⟨g, o, none⟩) 4 cap), .val (.int .i64 (k : Int)), .val (.pointer (some ⟨g, o + k, none⟩)), .val (.int .u8 (b.toNat : Int)), .val (.int .i64 (k : Int)), .val (.int .i64 (r : Int)), .val (.int .i64 ((k : Int) - (r : Int))), .val (.int .i64 ((k : Int) - (r : Int) + 4)), .val (.int .i64 (idx : Int)), .val (.pointer (some ⟨w.heap.size, idx, none⟩)), .val (.int .u8 (c.toNat : Int)), .val (.int .u8 ((gm b c).toNat : Int)), .val (.int .u8 ((x8 a (gm b c)).toNat : Int)), .val (.pointer (some ⟨w.heap.size + 1, r, none⟩))]) (by kernel_rfl) (by kernel_rfl) (by show Ext _ _; repeat (first | exact Ext.refl _ | assumption | (with_reducible refine Ext.drew ?_) | (with_reducible refine Ext.drewN ?_ _) | (with_reducible refine Ext.alloc ?_ _) | (refine Ext.trans ?_ (by assumption)))) (Loud.sps_st _) ?wAx1 ?whAx1 ?whSx1 ?whFx1
          case whAx1 => intro u K hK; simp only [List.take_succ_cons, List.take_zero, Loud.puts]; go_simp; exact hK
          case whSx1 =>
            simp only [List.take_succ_cons, List.take_zero, Loud.stepsW]
            refine ⟨?wsx1_0, ?wsx1_1, ?wsx1_2, ?wsx1_3, ?wsx1_4, ?wsx1_5, ?wsx1_6, ?wsx1_7, ?wsx1_8, ?wsx1_9, ?wsx1_10, ?wsx1_11, ?wsx1_12, ?wsx1_13, ?wsx1_14, ?wsx1_15, ?wsx1_16, trivial⟩
            case wsx1_0 =>
              intro u β wq hq h
              repeat (obtain ⟨h1, h⟩ := h; first | (replace h1 := h1 rfl; simp only [go_sem] at h1; try (obtain ⟨h1, h1b⟩ := h1)) | (have hno := (h1 : Region.binds _ _ = true → _); clear hno h1))
              refine Or.inl ⟨rfl, fun K hK => ?_⟩
              go_simp
              exact hK _ 0 _ (Ext.refl _) rfl
            case wsx1_1 =>
              intro u β wq hq h
              repeat (obtain ⟨h1, h⟩ := h; first | (replace h1 := h1 rfl; simp only [go_sem] at h1; try (obtain ⟨h1, h1b⟩ := h1)) | (have hno := (h1 : Region.binds _ _ = true → _); clear hno h1))
              refine Or.inl ⟨rfl, fun K hK => ?_⟩
              go_simp
              exact hK _ 0 _ (Ext.refl _) rfl
            case wsx1_2 =>
              intro u β wq hq h
              repeat (obtain ⟨h1, h⟩ := h; first | (replace h1 := h1 rfl; simp only [go_sem] at h1; try (obtain ⟨h1, h1b⟩ := h1)) | (have hno := (h1 : Region.binds _ _ = true → _); clear hno h1))
              refine Or.inl ⟨rfl, fun K hK => ?_⟩
              have hqc := hq.cell_of hoc
              go_simp
              exact hK _ 0 _ (Ext.refl _) rfl
            case wsx1_3 =>
              intro u β wq hq h
              repeat (obtain ⟨h1, h⟩ := h; first | (replace h1 := h1 rfl; simp only [go_sem] at h1; try (obtain ⟨h1, h1b⟩ := h1)) | (have hno := (h1 : Region.binds _ _ = true → _); clear hno h1))
              refine Or.inl ⟨rfl, fun K hK => ?_⟩
              go_simp
              exact hK _ 0 _ (Ext.refl _) rfl
            case wsx1_4 =>
              intro u β wq hq h
              repeat (obtain ⟨h1, h⟩ := h; first | (replace h1 := h1 rfl; simp only [go_sem] at h1; try (obtain ⟨h1, h1b⟩ := h1)) | (have hno := (h1 : Region.binds _ _ = true → _); clear hno h1))
              refine Or.inl ⟨rfl, fun K hK => ?_⟩
              go_simp
              exact hK _ 0 _ (Ext.refl _) rfl
            case wsx1_5 =>
              intro u β wq hq h
              repeat (obtain ⟨h1, h⟩ := h; first | (replace h1 := h1 rfl; simp only [go_sem] at h1; try (obtain ⟨h1, h1b⟩ := h1)) | (have hno := (h1 : Region.binds _ _ = true → _); clear hno h1))
              refine Or.inl ⟨rfl, fun K hK => ?_⟩
              go_simp
              exact hK _ 0 _ (Ext.refl _) rfl
            case wsx1_6 =>
              intro u β wq hq h
              repeat (obtain ⟨h1, h⟩ := h; first | (replace h1 := h1 rfl; simp only [go_sem] at h1; try (obtain ⟨h1, h1b⟩ := h1)) | (have hno := (h1 : Region.binds _ _ = true → _); clear hno h1))
              refine Or.inl ⟨rfl, fun K hK => ?_⟩
              have hqc := hq.cell_of hgc
              go_simp
              exact hK _ 0 _ (Ext.refl _) rfl
            case wsx1_7 =>
              intro u β wq hq h
              repeat (obtain ⟨h1, h⟩ := h; first | (replace h1 := h1 rfl; simp only [go_sem] at h1; try (obtain ⟨h1, h1b⟩ := h1)) | (have hno := (h1 : Region.binds _ _ = true → _); clear hno h1))
              refine Or.inl ⟨rfl, fun K hK => ?_⟩
              go_simp
              exact hK _ 0 _ (Ext.refl _) rfl
            case wsx1_8 =>
              intro u β wq hq h
              repeat (obtain ⟨h1, h⟩ := h; first | (replace h1 := h1 rfl; simp only [go_sem] at h1; try (obtain ⟨h1, h1b⟩ := h1)) | (have hno := (h1 : Region.binds _ _ = true → _); clear hno h1))
              refine Or.inl ⟨rfl, fun K hK => ?_⟩
              go_simp
              exact hK _ 0 _ (Ext.refl _) rfl
            case wsx1_9 =>
              intro u β wq hq h
              repeat (obtain ⟨h1, h⟩ := h; first | (replace h1 := h1 rfl; simp only [go_sem] at h1; try (obtain ⟨h1, h1b⟩ := h1)) | (have hno := (h1 : Region.binds _ _ = true → _); clear hno h1))
              refine Or.inl ⟨rfl, fun K hK => ?_⟩
              go_simp
              exact hK _ 0 _ (Ext.refl _) rfl
            case wsx1_10 =>
              intro u β wq hq h
              repeat (obtain ⟨h1, h⟩ := h; first | (replace h1 := h1 rfl; simp only [go_sem] at h1; try (obtain ⟨h1, h1b⟩ := h1)) | (have hno := (h1 : Region.binds _ _ = true → _); clear hno h1))
              refine Or.inl ⟨rfl, fun K hK => ?_⟩
              go_simp
              exact hK _ 0 _ (Ext.refl _) rfl
            case wsx1_11 =>
              intro u β wq hq h
              repeat (obtain ⟨h1, h⟩ := h; first | (replace h1 := h1 rfl; simp only [go_sem] at h1; try (obtain ⟨h1, h1b⟩ := h1)) | (have hno := (h1 : Region.binds _ _ = true → _); clear hno h1))
              refine Or.inl ⟨rfl, fun K hK => ?_⟩
              go_simp
              exact hK _ 0 _ (Ext.refl _) rfl
            case wsx1_12 =>
              intro u β wq hq h
              repeat (obtain ⟨h1, h⟩ := h; first | (replace h1 := h1 rfl; simp only [go_sem] at h1; try (obtain ⟨h1, h1b⟩ := h1)) | (have hno := (h1 : Region.binds _ _ = true → _); clear hno h1))
              refine Or.inl ⟨rfl, fun K hK => ?_⟩
              go_simp
              exact hK _ 0 _ (Ext.refl _) rfl
            case wsx1_13 =>
              intro u β wq hq h
              repeat (obtain ⟨h1, h⟩ := h; first | (replace h1 := h1 rfl; simp only [go_sem] at h1; try (obtain ⟨h1, h1b⟩ := h1)) | (have hno := (h1 : Region.binds _ _ = true → _); clear hno h1))
              refine Or.inl ⟨rfl, fun K hK => ?_⟩
              have hqc := hq.cell_of hfc
              go_simp
              exact hK _ 0 _ (Ext.refl _) rfl
            case wsx1_14 =>
              intro u β wq hq h
              repeat (obtain ⟨h1, h⟩ := h; first | (replace h1 := h1 rfl; simp only [go_sem] at h1; try (obtain ⟨h1, h1b⟩ := h1)) | (have hno := (h1 : Region.binds _ _ = true → _); clear hno h1))
              refine Or.inl ⟨rfl, fun K hK => ?_⟩
              go_simp
              refine (GT.out b c _).mono ?_; rintro e w1 ⟨rfl, hx1⟩; exact ⟨_, rfl, hK _ 0 _ hx1 rfl⟩
            case wsx1_15 =>
              intro u β wq hq h
              repeat (obtain ⟨h1, h⟩ := h; first | (replace h1 := h1 rfl; simp only [go_sem] at h1; try (obtain ⟨h1, h1b⟩ := h1)) | (have hno := (h1 : Region.binds _ _ = true → _); clear hno h1))
              refine Or.inl ⟨rfl, fun K hK => ?_⟩
              go_simp
              exact hK _ 0 _ (Ext.refl _) rfl
            case wsx1_16 =>
              intro u β wq hq h
              repeat (obtain ⟨h1, h⟩ := h; first | (replace h1 := h1 rfl; simp only [go_sem] at h1; try (obtain ⟨h1, h1b⟩ := h1)) | (have hno := (h1 : Region.binds _ _ = true → _); clear hno h1))
              refine Or.inl ⟨rfl, fun K hK => ?_⟩
              go_simp
              exact hK _ 0 _ (Ext.refl _) rfl
          intro u β w1 hq h
          have h0 := h 0 (by omega)
          have h1 := h 1 (by omega)
          have h2 := h 2 (by omega)
          have h3 := h 3 (by omega)
          have h4 := h 4 (by omega)
          have h5 := h 5 (by omega)
          have h6 := h 6 (by omega)
          have h7 := h 7 (by omega)
          have h8 := h 8 (by omega)
          have h9 := h 9 (by omega)
          have h10 := h 10 (by omega)
          have h11 := h 11 (by omega)
          have h12 := h 12 (by omega)
          have h13 := h 13 (by omega)
          have h14 := h 14 (by omega)
          have h15 := h 15 (by omega)
          have h16 := h 16 (by omega)
          clear h
          simp only [go_sem] at h0 h1 h2 h3 h4 h5 h6 h7 h8 h9 h10 h11 h12 h13 h14 h15 h16
          simp only [List.drop_succ_cons, List.drop_zero]
          rw [h16]
          have hbq := Lib.hid (hq.keep HO.out)
          have hfq := Lib.hid (hq.keep HFR.out)
          have hoc1 := hq.cell_of hoc
          have hfz1 : w1.frozen? ⟨w.heap.size + 1, r, none⟩ = false := frozen_blk hbq.out
          have hxq := hx.trans hq
          try rw [h15]
          go_wp2
          go_roundw
          case measure => simp [intOf]; omega
          case rel =>
            repeat apply Exists.intro
            refine ⟨?_, by rw [decide_eq_true hri]⟩
            refine ⟨k + 1, by omega, by go_num, ?_, ?_, hxq.setCell (by show w.heap.size ≤ w.heap.size + 1; omega) _⟩
            · rw [heap_setCell_other _ _ _ (by show w.heap.size ≠ w.heap.size + 1; omega)]; exact hfq.out
            · rw [heap_setCell_same _ hbq.out, bcells_set, ← HM.out, HS.out]; rfl
        · obtain rfl : k = 4 := by omega
          rw [HSU.out] at HO
          go_wp2
          go_roundw
          case measure => simp [intOf]; omega
          case rel => exact ⟨r + 1, by omega, by go_num, HFR.out, HO.out, hx⟩
    · obtain rfl : r = 4 := by omega
      rw [show outS f col 4 = mixL f col from if_neg (by omega)] at HO
      have hgq := Lib.hid (hx.keep HG.out)
      have hu8 : (Try.prog.info? 5).map (·.size) = some 1 := by kernel_rfl
      have HU8 := Lib.hid hu8
      clear hu8
      have hsrc : ∀ j v, ((mixL f col).map byteV)[j]? = some v → wr.cell? ((⟨w.heap.size + 1, 0, none⟩ : Addr).add j) = some v := by
        intro j v hj
        rw [show ((⟨w.heap.size + 1, 0, none⟩ : Addr).add j) = ⟨w.heap.size + 1, j, none⟩ by simp [Addr.add]; omega]
        exact cell_blk HO.out (by rw [bcells_toList, List.getElem?_toArray]; exact hj)
      go_wp2_with (refine wpl_copy_row rfl rfl und_bytes HU8.out (g := g) (off := o) (ad := ⟨w.heap.size + 1, 0, none⟩) ((mixL f col).map byteV) rfl rfl hgq.out (by simp [mixL_length]) hsrc (by simp [mixL_length]; omega) (oneCells _ (fun _ => rfl)) ?_; intro w' hb' hbel; have HB' := Lib.hid hb'; clear hb')
      go_returns
      refine ⟨rfl, ?_, (Below.mono hx (Nat.le_of_lt hgl)).trans hbel⟩
      rw [HB'.out, HCOL.out]
      congr 2
      unfold splice
      simp [bcells, byteV, List.map_take, List.map_drop]
end Go.Proofs.Ytgncnplgjhaojaa
