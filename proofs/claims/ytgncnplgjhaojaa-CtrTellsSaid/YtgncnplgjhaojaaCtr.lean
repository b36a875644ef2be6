/- Contracts: layer 5, the iterator of a stream's blocks. -/
import Derived.Test.YtgncnplgjhaojaaGfLaw
import Derived.Test.YtgncnplgjhaojaaNewB
import Derived.Test.YtgncnplgjhaojaaWeave
import Derived.Test.YtgncnplgjhaojaaEndless
namespace Go.Proofs.Ytgncnplgjhaojaa
open Go Go.RowKit Go.Shelf
attribute [local go_sem] Oper.semAt_some

/-- A stream's block k. -/
def ctrB (K nonce : List UInt8) (f k : Nat) : List UInt8 := encL K (nonce ++ putB 4 (f + k))
/-- A stream's first k blocks. -/
def ctrN (K nonce : List UInt8) (f : Nat) : Nat → List UInt8
  | 0 => []
  | k + 1 => ctrN K nonce f k ++ ctrB K nonce f k
theorem ctrB_length (K nonce : List UInt8) (f k : Nat) (hK : K.length = 176) (hn : nonce.length = 12) : (ctrB K nonce f k).length = 16 :=
  encL_length K _ hK (by rw [List.length_append, putB_length]; omega)
theorem ctrN_length (K nonce : List UInt8) (f : Nat) (hK : K.length = 176) (hn : nonce.length = 12) : ∀ k, (ctrN K nonce f k).length = 16 * k
  | 0 => rfl
  | k + 1 => by rw [ctrN, List.length_append, ctrN_length K nonce f hK hn k, ctrB_length K nonce f k hK hn]; omega
/-- The number in a cell. -/
def numAt (w : World) (p : Addr) : Nat := match w.cell? p with
  | some (.int _ i) => i.toNat
  | _ => 0
theorem numAt_of {w : World} {p : Addr} {k : IntKind} {i : Int} (h : w.cell? p = some (.int k i)) : numAt w p = i.toNat := by simp [numAt, h]
/-- What the iterator asks of a round. -/
def Keeps4 (c B1 B2 B3 : Nat) (A B : World) : Prop := ∀ b, b = c ∨ b = B1 ∨ b = B2 ∨ b = B3 → B.heap[b]? = A.heap[b]?
theorem Keeps4.t {c B1 B2 B3 : Nat} {A B C : World} (h : Keeps4 c B1 B2 B3 A B) (k : Keeps4 c B1 B2 B3 B C) : Keeps4 c B1 B2 B3 A C := fun b hb => (k b hb).trans (h b hb)
theorem Ext.grown {w w' : World} (h : Ext w w') : w.grownBy w' none := ⟨h.os, h.tape, h.output, h.size, fun _ hk _ => Ext.block h hk⟩

set_option maxRecDepth 100000 in
set_option maxHeartbeats 2000000 in
theorem blocks_in (n N : Nat) (hn : 1 ≤ n) (c B1 B2 B3 : Nat) (K nonce : List UInt8) (f : Nat) (hnl : nonce.length = 12) (hf : f + N ≤ 4294967296) (w : World) (hci : CI w c K)
    (T1 T2 : TypeId) (h1 : w.heap[B1]? = some (.cells #[.pointer (some ⟨c, 0, none⟩)] T1)) (h2 : w.heap[B2]? = some (.cells #[.string (bs nonce)] T2)) (h3 : w.heap[B3]? = some (.cells #[.int .u32 (f : Int)] 42))
    (d1 : c ≠ B3) (d2 : B1 ≠ B3) (d3 : B2 ≠ B3) :
    Streams Fence.wide n Try.prog 52 #[.pointer (some ⟨B1, 0, none⟩), .pointer (some ⟨B2, 0, none⟩), .pointer (some ⟨B3, 0, none⟩)] (fun k => .string (bs (ctrB K nonce f k))) ⟨B3, 0, none⟩ (Keeps4 c B1 B2 B3) N w := by
  have K1 := Lib.hid h1; have K2 := Lib.hid h2
  intro l J Jx W hx hJ hJw hJN hY h0
  have hlen : ∀ m, (nonce ++ putB 4 m).length = 16 := fun m => by rw [List.length_append, putB_length]; omega
  refine callsIn_of_wp Try.func52 rfl trivial ?_ rfl
  simp only [Try.ntmps52, List.size_toArray, List.length_cons, List.length_nil, Nat.reduceAdd, Nat.reduceSub, Array.replicate_succ, Array.replicate_zero, List.push_toArray, List.append_toArray, List.nil_append, List.cons_append]
  gi_wp2
  gi_loopw [5, 6] (fun _ _ wr => ∃ k : Nat, J k wr ∧ wr.heap[c]? = w.heap[c]? ∧ wr.heap[B1]? = w.heap[B1]? ∧ wr.heap[B2]? = w.heap[B2]? ∧ wr.heap[B3]? = some (.cells #[.int .u32 ((f + k : Nat) : Int)] 42)) (fun _ _ wr => f + N - numAt wr ⟨B3, 0, none⟩)
  case atStart => exact ⟨0, h0, (hx.keep hci.2).trans hci.2.symm, (hx.keep h1).trans h1.symm, (hx.keep h2).trans h2.symm, hx.keep h3⟩
  case round =>
    obtain ⟨k, hJs, e0, e1, e2, e3⟩ := hrel
    have HCI := Lib.hid (show CI wr c K from ⟨hci.1, e0.trans hci.2⟩)
    have c1 := cell_blk (i := 0) (e1.trans h1) rfl
    have c2 := cell_blk (i := 0) (e2.trans h2) rfl
    have c3 := cell_blk (i := 0) e3 rfl
    have hkN := hJN _ _ hJs
    have H3 := Lib.hid e3; have H0 := Lib.hid e0; have H1 := Lib.hid e1; have H2 := Lib.hid e2
    have HJ := Lib.hid hJs
    clear hJs e0 e1 e2 e3
    have HY := Lib.hid (hY k)
    have GP := Lib.hid (fun W => Put32_any (f + k) W (by unfold U32; omega))
    have GB := Lib.hid (fun W (h : CI W c K) => Block_yes c K (nonce ++ putB 4 (f + k)) W h (hlen _))
    have hfx : ((f + k : Nat) : Int) + 1 = ((f + (k + 1) : Nat) : Int) := by omega
    have hmu := numAt_of c3
    rw [show ctrB K nonce f k = encL K (nonce ++ putB 4 (f + k)) from rfl] at HY
    generalize encL K (nonce ++ putB 4 (f + k)) = y at *
    gi_wp2
    refine wpIn_wide.2 ?_
    go_wp2
    refine Loud.wp_region_weave 11 wr (Loud.sps [.val (.pointer (some ⟨c, 0, none⟩)), .val (.string (bs nonce)), .val (.int .u32 ((f + k : Nat) : Int)), .val (.string (bs (putB 4 (f + k)))), .val (.string (bs (nonce ++ putB 4 (f + k)))), .val (.tuple #[.string (bs y), .bool true]), .val (.tuple #[.string (bs y), .bool true]), .val (.string (bs y)), .val (.bool true), .val (.string (bs y)), .val (.bool true)]) (by kernel_rfl) (by kernel_rfl) (by show Ext _ _; repeat (first | exact Ext.refl _ | assumption | (with_reducible refine Ext.drew ?_) | (with_reducible refine Ext.drewN ?_ _) | (with_reducible refine Ext.alloc ?_ _) | (refine Ext.trans ?_ (by assumption)))) (Loud.sps_st _) ?wAx1 ?whAx1 ?whSx1 ?whFx1
    case whAx1 => intro u K hK; simp only [List.take_succ_cons, List.take_zero, Loud.puts]; go_simp; exact hK
    case whSx1 =>
      simp only [List.take_succ_cons, List.take_zero, Loud.stepsW]
      refine ⟨?wsx1_0, ?wsx1_1, ?wsx1_2, ?wsx1_3, ?wsx1_4, ?wsx1_5, ?wsx1_6, ?wsx1_7, ?wsx1_8, ?wsx1_9, ?wsx1_10, trivial⟩
      case wsx1_0 =>
        intro u β wq hq h
        repeat (obtain ⟨h1, h⟩ := h; first | (replace h1 := h1 rfl; simp only [go_sem] at h1; try (obtain ⟨h1, h1b⟩ := h1)) | (have hno := (h1 : Region.binds _ _ = true → _); clear hno h1))
        refine Or.inl ⟨rfl, fun K hK => ?_⟩
        have hqc := hq.cell_of c1
        go_simp
        exact hK _ 0 _ (Ext.refl _) rfl
      case wsx1_1 =>
        intro u β wq hq h
        repeat (obtain ⟨h1, h⟩ := h; first | (replace h1 := h1 rfl; simp only [go_sem] at h1; try (obtain ⟨h1, h1b⟩ := h1)) | (have hno := (h1 : Region.binds _ _ = true → _); clear hno h1))
        refine Or.inl ⟨rfl, fun K hK => ?_⟩
        have hqc := hq.cell_of c2
        go_simp
        exact hK _ 0 _ (Ext.refl _) rfl
      case wsx1_2 =>
        intro u β wq hq h
        repeat (obtain ⟨h1, h⟩ := h; first | (replace h1 := h1 rfl; simp only [go_sem] at h1; try (obtain ⟨h1, h1b⟩ := h1)) | (have hno := (h1 : Region.binds _ _ = true → _); clear hno h1))
        refine Or.inl ⟨rfl, fun K hK => ?_⟩
        have hqc := hq.cell_of c3
        go_simp
        exact hK _ 0 _ (Ext.refl _) rfl
      case wsx1_3 =>
        intro u β wq hq h
        repeat (obtain ⟨h1, h⟩ := h; first | (replace h1 := h1 rfl; simp only [go_sem] at h1; try (obtain ⟨h1, h1b⟩ := h1)) | (have hno := (h1 : Region.binds _ _ = true → _); clear hno h1))
        refine Or.inl ⟨rfl, fun K hK => ?_⟩
        go_simp
        refine (GP.out _).mono ?_; rintro e w1 ⟨rfl, hx1⟩; exact ⟨_, rfl, hK _ 0 _ hx1 rfl⟩
      case wsx1_4 =>
        intro u β wq hq h
        repeat (obtain ⟨h1, h⟩ := h; first | (replace h1 := h1 rfl; simp only [go_sem] at h1; try (obtain ⟨h1, h1b⟩ := h1)) | (have hno := (h1 : Region.binds _ _ = true → _); clear hno h1))
        refine Or.inl ⟨rfl, fun K hK => ?_⟩
        go_simp
        exact hK _ 0 _ (Ext.refl _) rfl
      case wsx1_5 =>
        intro u β wq hq h
        repeat (obtain ⟨h1, h⟩ := h; first | (replace h1 := h1 rfl; simp only [go_sem] at h1; try (obtain ⟨h1, h1b⟩ := h1)) | (have hno := (h1 : Region.binds _ _ = true → _); clear hno h1))
        refine Or.inl ⟨rfl, fun K hK => ?_⟩
        go_simp
        refine (GB.out _ (HCI.out.ext hq)).mono ?_; rintro e w1 ⟨rfl, hx1⟩; exact ⟨_, rfl, hK _ 0 _ hx1 rfl⟩
      case wsx1_6 =>
        intro u β wq hq h
        repeat (obtain ⟨h1, h⟩ := h; first | (replace h1 := h1 rfl; simp only [go_sem] at h1; try (obtain ⟨h1, h1b⟩ := h1)) | (have hno := (h1 : Region.binds _ _ = true → _); clear hno h1))
        refine Or.inl ⟨rfl, fun K hK => ?_⟩
        go_simp
        exact hK _ 0 _ (Ext.refl _) rfl
      case wsx1_7 =>
        intro u β wq hq h
        repeat (obtain ⟨h1, h⟩ := h; first | (replace h1 := h1 rfl; simp only [go_sem] at h1; try (obtain ⟨h1, h1b⟩ := h1)) | (have hno := (h1 : Region.binds _ _ = true → _); clear hno h1))
        refine Or.inl ⟨rfl, fun K hK => ?_⟩
        go_simp
        exact hK _ 0 _ (Ext.refl _) rfl
      case wsx1_8 =>
        intro u β wq hq h
        repeat (obtain ⟨h1, h⟩ := h; first | (replace h1 := h1 rfl; simp only [go_sem] at h1; try (obtain ⟨h1, h1b⟩ := h1)) | (have hno := (h1 : Region.binds _ _ = true → _); clear hno h1))
        refine Or.inl ⟨rfl, fun K hK => ?_⟩
        go_simp
        exact hK _ 0 _ (Ext.refl _) rfl
      case wsx1_9 =>
        intro u β wq hq h
        repeat (obtain ⟨h1, h⟩ := h; first | (replace h1 := h1 rfl; simp only [go_sem] at h1; try (obtain ⟨h1, h1b⟩ := h1)) | (have hno := (h1 : Region.binds _ _ = true → _); clear hno h1))
        refine Or.inl ⟨rfl, fun K hK => ?_⟩
        go_simp
        exact hK _ 0 _ (Ext.refl _) rfl
      case wsx1_10 =>
        intro u β wq hq h
        repeat (obtain ⟨h1, h⟩ := h; first | (replace h1 := h1 rfl; simp only [go_sem] at h1; try (obtain ⟨h1, h1b⟩ := h1)) | (have hno := (h1 : Region.binds _ _ = true → _); clear hno h1))
        refine Or.inl ⟨rfl, fun K hK => ?_⟩
        go_simp
        exact hK _ 0 _ (Ext.refl _) rfl
    intro u β w5 hq h
    have h0 := h 0 (by omega)
    have h1 := h 1 (by omega)
    have h2 := h 2 (by omega)
    have h3 := h 3 (by omega)
    have h4 := h 4 (by omega)
    have h5 := h 5 (by omega)
    have h6 := h 6 (by omega)
    have h7 := h 7 (by omega)
    have h8 := h 8 (by omega)
    have h9 := h 9 (by omega)
    have h10 := h 10 (by omega)
    clear h
    simp only [go_sem] at h0 h1 h2 h3 h4 h5 h6 h7 h8 h9 h10
    simp only [List.drop_succ_cons, List.drop_zero]
    rw [h10]
    go_wp2
    have hJ5 := hJ _ _ _ none HJ.out hq.grown (fun r h => by cases h)
    obtain ⟨fn, tmps, assign, body, hy, hR⟩ := HY.out w5 hJ5
    have HR := Lib.hid hR
    clear hR hJ5
    gi_wp2
    refine HR.out.mono ?_
    rintro e W3 (⟨rfl, hJ3, hk3⟩ | ⟨rfl, hJx3⟩)
    · have HJ3 := Lib.hid hJ3
      have hkN' := hJN _ _ hJ3
      have HE3 := Lib.hid ((hk3 B3 (by simp)).trans (hq.keep H3.out))
      have E0 := Lib.hid ((hk3 c (by simp)).trans ((hq.keep (H0.out.trans hci.2)).trans hci.2.symm))
      have E1 := Lib.hid ((hk3 B1 (by simp)).trans ((hq.keep (H1.out.trans K1.out)).trans K1.out.symm))
      have E2 := Lib.hid ((hk3 B2 (by simp)).trans ((hq.keep (H2.out.trans K2.out)).trans K2.out.symm))
      have d3' := cell_blk (i := 0) HE3.out rfl
      have f3 : W3.frozen? ⟨B3, 0, none⟩ = false := frozen_blk HE3.out
      clear hJ3
      have hwr : IntKind.u32.wrap ((f + (k + 1) : Nat) : Int) = ((f + (k + 1) : Nat) : Int) := by rw [IntKind.wrap_u32]; omega
      gi_wp2
      have g3 := heap_setCell_same (i := 0) (.int .u32 ((f + (k + 1) : Nat) : Int)) HE3.out
      have o3 := fun b (hb : b ≠ B3) => heap_setCell_other W3 ⟨B3, 0, none⟩ (.int .u32 ((f + (k + 1) : Nat) : Int)) (k := b) hb
      rw [show (f : Int) + (k : Int) + 1 = ((f + (k + 1) : Nat) : Int) by omega]
      go_roundw
      case measure =>
        rw [hmu, numAt_of (cell_blk (i := 0) g3 rfl)]
        omega
      case rel => exact ⟨k + 1, hJw _ _ _ HJ3.out, (o3 c d1).trans E0.out, (o3 B1 d2).trans E1.out, (o3 B2 d3).trans E2.out, g3⟩
    · have HJ3 := Lib.hid hJx3
      clear hJx3
      gi_wp2
      refine bodyPost_ret (results_none rfl _ _ _) rfl ?_
      exact ⟨⟨_, rfl⟩, _, HJ3.out⟩
end Go.Proofs.Ytgncnplgjhaojaa
