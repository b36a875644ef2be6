import Derived.Test.YtclekllaikcglaaGreatNew
import Derived.Test.YtclekllaikcglaaGreatWeave
import Derived.Test.YtclekllaikcglaaGreatEndless
import Derived.Test.YtclekllaikcglaaGreatBase

/- Contracts: layer 5, the iterator of a stream's blocks. -/
namespace Go.Proofs.YtclekllaikcglaaGreat
open Go Go.RowKit Go.Shelf
attribute [local go_sem] Oper.semAt_some
def ctrB (K nonce : List UInt8) (f k : Nat) : List UInt8 := encL K (nonce ++ putB 4 (f + k))
def ctrN (K nonce : List UInt8) (f : Nat) : Nat → List UInt8
 | 0 => []
 | k + 1 => ctrN K nonce f k ++ ctrB K nonce f k
theorem ctrB_length (K nonce : List UInt8) (f k : Nat) (hK : K.length = 176) (hn : nonce.length = 12) : (ctrB K nonce f k).length = 16 :=
 encL_length K _ hK (by rw [List.length_append, putB_length]; omega)
theorem ctrN_length (K nonce : List UInt8) (f : Nat) (hK : K.length = 176) (hn : nonce.length = 12) : ∀ k, (ctrN K nonce f k).length = 16 * k
 | 0 => rfl
 | k + 1 => by rw [ctrN, List.length_append, ctrN_length K nonce f hK hn k, ctrB_length K nonce f k hK hn]; omega
def numAt (w : World) (p : Addr) : Nat := match w.cell? p with
 | some (.int _ i) => i.toNat
 | _ => 0
theorem numAt_of {w : World} {p : Addr} {k : IntKind} {i : Int} (h : w.cell? p = some (.int k i)) : numAt w p = i.toNat := by simp [numAt, h]
def Keeps4 (c B1 B2 B3 : Nat) (A B : World) : Prop := ∀ b, b = c ∨ b = B1 ∨ b = B2 ∨ b = B3 → B.heap[b]? = A.heap[b]?
theorem Keeps4.t {c B1 B2 B3 : Nat} {A B C : World} (h : Keeps4 c B1 B2 B3 A B) (k : Keeps4 c B1 B2 B3 B C) : Keeps4 c B1 B2 B3 A C := fun b hb => (k b hb).trans (h b hb)
theorem ext_grown {w w' : World} (h : Ext w w') : w.grownBy w' none := ⟨h.os, h.tape, h.output, h.size, fun _ hk _ => Ext.block h hk⟩
set_option maxRecDepth 100000 in
set_option maxHeartbeats 2000000 in
theorem blocks_in (n N : Nat) (hn : 1 ≤ n) (c B1 B2 B3 : Nat) (K nonce : List UInt8) (f : Nat) (hnl : nonce.length = 12) (hf : f + N ≤ 4294967296) (w : World) (hci : CI w c K)
  (T1 T2 : TypeId) (h1 : w.heap[B1]? = some (.cells #[.pointer (some ⟨c, 0, none⟩)] T1)) (h2 : w.heap[B2]? = some (.cells #[.string (bs nonce)] T2)) (h3 : w.heap[B3]? = some (.cells #[.int .u32 (f : Int)] 46))
  (d1 : c ≠ B3) (d2 : B1 ≠ B3) (d3 : B2 ≠ B3) :
  Streams Fence.wide n Tryz.prog 127 #[.pointer (some ⟨B1, 0, none⟩), .pointer (some ⟨B2, 0, none⟩), .pointer (some ⟨B3, 0, none⟩)] (fun k => .string (bs (ctrB K nonce f k))) ⟨B3, 0, none⟩ (Keeps4 c B1 B2 B3) N w := by
 have K1 := Lib.hid h1; have K2 := Lib.hid h2
 intro l J Jx W hx hJ hJw hJN hY h0
 have hlen : ∀ m, (nonce ++ putB 4 m).length = 16 := fun m => by rw [List.length_append, putB_length]; omega
 refine callsIn_of_wp Tryz.func127 rfl trivial ?_ rfl
 simp only [Tryz.ntmps127, List.size_toArray, List.length_cons, List.length_nil, Nat.reduceAdd, Nat.reduceSub, Array.replicate_succ, Array.replicate_zero, List.push_toArray, List.append_toArray, List.nil_append, List.cons_append]
 gi_wp2
 gi_loopw [5, 6] (fun _ _ wr => ∃ k : Nat, J k wr ∧ wr.heap[c]? = w.heap[c]? ∧ wr.heap[B1]? = w.heap[B1]? ∧ wr.heap[B2]? = w.heap[B2]? ∧ wr.heap[B3]? = some (.cells #[.int .u32 ((f + k : Nat) : Int)] 46)) (fun _ _ wr => f + N - numAt wr ⟨B3, 0, none⟩)
 case atStart => exact ⟨0, h0, (hx.keep hci.2).trans hci.2.symm, (hx.keep h1).trans h1.symm, (hx.keep h2).trans h2.symm, hx.keep h3⟩
 case round =>
  obtain ⟨k, hJs, e0, e1, e2, e3⟩ := hrel
  have HCI := Lib.hid (show CI wr c K from ⟨hci.1, e0.trans hci.2⟩)
  have c1 := cell_blk (i := 0) (e1.trans h1) rfl
  have c2 := cell_blk (i := 0) (e2.trans h2) rfl
  have c3 := cell_blk (i := 0) e3 rfl
  have hkN := hJN _ _ hJs
  have H3 := Lib.hid e3; have H0 := Lib.hid e0; have H1 := Lib.hid e1; have H2 := Lib.hid e2
  have HJ := Lib.hid hJs
  clear hJs e0 e1 e2 e3
  have HY := Lib.hid (hY k)
  have GP := Lib.hid (fun W => Put32_any (f + k) W (by unfold U32; omega))
  have GB := Lib.hid (fun W (h : CI W c K) => Block_yes c K (nonce ++ putB 4 (f + k)) W h (hlen _))
  have hfx : ((f + k : Nat) : Int) + 1 = ((f + (k + 1) : Nat) : Int) := by omega
  have hmu := numAt_of c3
  rw [show ctrB K nonce f k = encL K (nonce ++ putB 4 (f + k)) from rfl] at HY
  generalize encL K (nonce ++ putB 4 (f + k)) = y at *
  gi_wp2
  refine wpIn_wide.2 ?_
  go_wp2
  refine Loud.wp_region_weave 11 wr (Loud.sps [.val (.pointer (some ⟨c, 0, none⟩)), .val (.string (bs nonce)), .val (.int .u32 ((f + k : Nat) : Int)), .val (.string (bs (putB 4 (f + k)))), .val (.string (bs (nonce ++ putB 4 (f + k)))), .val (.tuple #[.string (bs y), .bool true]), .val (.tuple #[.string (bs y), .bool true]), .val (.string (bs y)), .val (.bool true), .val (.string (bs y)), .val (.bool true)]) (by kernel_rfl) (by kernel_rfl) (by show Ext _ _; repeat (first | exact Ext.refl _ | assumption | (with_reducible refine Ext.drew ?_) | (with_reducible refine Ext.drewN ?_ _) | (with_reducible refine Ext.alloc ?_ _) | (refine Ext.trans ?_ (by assumption)))) (Loud.sps_st _) ?wAx1 ?whAx1 ?whSx1 ?whFx1
  case whAx1 => intro u K hK; simp only [List.take_succ_cons, List.take_zero, Loud.puts]; go_simp; exact hK
  case whSx1 =>
   refine ⟨?wsx1_0, ?wsx1_1, ?wsx1_2, ?wsx1_3, ?wsx1_4, ?wsx1_5, ?wsx1_6, ?wsx1_7, ?wsx1_8, ?wsx1_9, ?wsx1_10, trivial⟩
   all_goals (intro u β wq hq h; repeat (obtain ⟨h1, h⟩ := h; first | (replace h1 := h1 rfl; simp only [go_sem] at h1; try (obtain ⟨h1, h1b⟩ := h1)) | (have hno := (h1 : Region.binds _ _ = true → _); clear hno h1)))
   case wsx1_0 =>
    refine Or.inl ⟨rfl, fun K hK => ?_⟩
    have hqc := hq.cell_of c1
    go_simp
    exact hK _ 0 _ (Ext.refl _) rfl
   case wsx1_1 =>
    refine Or.inl ⟨rfl, fun K hK => ?_⟩
    have hqc := hq.cell_of c2
    go_simp
    exact hK _ 0 _ (Ext.refl _) rfl
   case wsx1_2 =>
    refine Or.inl ⟨rfl, fun K hK => ?_⟩
    have hqc := hq.cell_of c3
    go_simp
    exact hK _ 0 _ (Ext.refl _) rfl
   case wsx1_3 =>
    refine Or.inl ⟨rfl, fun K hK => ?_⟩
    go_simp
    refine (GP.out _).mono ?_; rintro e w1 ⟨rfl, hx1⟩; exact ⟨_, rfl, hK _ 0 _ hx1 rfl⟩
   case wsx1_5 =>
    refine Or.inl ⟨rfl, fun K hK => ?_⟩
    go_simp
    refine (GB.out _ (HCI.out.ext hq)).mono ?_; rintro e w1 ⟨rfl, hx1⟩; exact ⟨_, rfl, hK _ 0 _ hx1 rfl⟩
   all_goals (first | refine Or.inl ⟨rfl, fun K hK => ?_⟩ | refine Or.inl ⟨Loud.wanted_of rfl rfl (congrArg some (by assumption)), fun K hK => ?_⟩); go_simp; exact hK _ 0 _ (Ext.refl _) rfl
  intro u β w5 hq h
  have h0 := h 0 (by omega)
  have h1 := h 1 (by omega)
  have h2 := h 2 (by omega)
  have h3 := h 3 (by omega)
  have h4 := h 4 (by omega)
  have h5 := h 5 (by omega)
  have h6 := h 6 (by omega)
  have h7 := h 7 (by omega)
  have h8 := h 8 (by omega)
  have h9 := h 9 (by omega)
  have h10 := h 10 (by omega)
  clear h
  simp only [go_sem] at h0 h1 h2 h3 h4 h5 h6 h7 h8 h9 h10
  simp only [List.drop_succ_cons, List.drop_zero]
  rw [h10]
  go_wp2
  have hJ5 := hJ _ _ _ none HJ.out (ext_grown hq) (fun r h => by cases h)
  obtain ⟨fn, tmps, assign, body, hy, hR⟩ := HY.out w5 hJ5
  have HR := Lib.hid hR
  clear hR hJ5
  gi_wp2
  refine HR.out.mono ?_
  rintro e W3 (⟨rfl, hJ3, hk3⟩ | ⟨rfl, hJx3⟩)
  ·have HJ3 := Lib.hid hJ3
   have hkN' := hJN _ _ hJ3
   have HE3 := Lib.hid ((hk3 B3 (by simp)).trans (hq.keep H3.out))
   have E0 := Lib.hid ((hk3 c (by simp)).trans ((hq.keep (H0.out.trans hci.2)).trans hci.2.symm))
   have E1 := Lib.hid ((hk3 B1 (by simp)).trans ((hq.keep (H1.out.trans K1.out)).trans K1.out.symm))
   have E2 := Lib.hid ((hk3 B2 (by simp)).trans ((hq.keep (H2.out.trans K2.out)).trans K2.out.symm))
   have d3' := cell_blk (i := 0) HE3.out rfl
   have f3 : W3.frozen? ⟨B3, 0, none⟩ = false := frozen_blk HE3.out
   clear hJ3
   have hwr : IntKind.u32.wrap ((f + (k + 1) : Nat) : Int) = ((f + (k + 1) : Nat) : Int) := by rw [IntKind.wrap_u32]; omega
   gi_wp2
   have g3 := heap_setCell_same (i := 0) (.int .u32 ((f + (k + 1) : Nat) : Int)) HE3.out
   have o3 := fun b (hb : b ≠ B3) => heap_setCell_other W3 ⟨B3, 0, none⟩ (.int .u32 ((f + (k + 1) : Nat) : Int)) (k := b) hb
   rw [show (f : Int) + (k : Int) + 1 = ((f + (k + 1) : Nat) : Int) by omega]
   go_roundw
   case measure =>
    rw [hmu, numAt_of (cell_blk (i := 0) g3 rfl)]
    omega
   case rel => exact ⟨k + 1, hJw _ _ _ HJ3.out, (o3 c d1).trans E0.out, (o3 B1 d2).trans E1.out, (o3 B2 d3).trans E2.out, g3⟩
  ·have HJ3 := Lib.hid hJx3
   clear hJx3
   gi_wp2
   refine bodyPost_ret (results_none rfl _ _ _) rfl ?_
   exact ⟨⟨_, rfl⟩, _, HJ3.out⟩
end Go.Proofs.YtclekllaikcglaaGreat

/- Contracts: layer 5, the program's Stream. -/
namespace Go.Proofs.YtclekllaikcglaaGreat
open Go Go.RowKit Go.Shelf
attribute [local go_sem] Oper.semAt_some
set_option maxRecDepth 100000 in
theorem blocks_any (c f : Nat) (nonce : List UInt8) (w : World) :
  Calls Tryz.prog 112 #[.pointer (some ⟨c, 0, none⟩), .string (bs nonce), .int .u32 (f : Int)] w fun e w' => e = .returned (.func (.func 127) #[] #[.pointer (some ⟨w.heap.size, 0, none⟩), .pointer (some ⟨w.heap.size + 1, 0, none⟩), .pointer (some ⟨w.heap.size + 2, 0, none⟩)]) ∧ w' = ((w.alloc (.cells #[.pointer (some ⟨c, 0, none⟩)] 148)).alloc (.cells #[.string (bs nonce)] 9)).alloc (.cells #[.int .u32 (f : Int)] 46) := by
 go_enter Tryz.func112, Tryz.ntmps112
 go_wp2
 go_returns
 exact ⟨rfl, rfl⟩
set_option maxRecDepth 100000 in
set_option maxHeartbeats 2000000 in
theorem Stream_zero (key nonce : List UInt8) (f : Nat) (w : World) (hk : key.length = 16) (hn : nonce.length = 12) (h2 : f < 4294967296) :
  Calls Tryz.prog 89 #[.string (bs key), .string (bs nonce), .int .u32 (f : Int), .int .i64 0] w fun e w' => e = .returned (.tuple #[.string (bs []), .int .i64 0]) ∧ Ext w w' := by
 have GN := Lib.hid (fun W => New_yes key W hk)
 have hn' : ((nonce.length : Int) != 12) = false := by simp; omega
 have hc : ¬ (4294967296 : Int) < (f : Int) := by omega
 clear hn
 go_enter Tryz.func89, Tryz.ntmps89
 go_wp2_with (go_at_call 111; refine (GN.out _).mono ?_; rintro e w1 ⟨c, rfl, hcl, hci, hx1⟩; have q := hx1.cell_of (cell_blk (i := 0) (heap_alloc_new w _) rfl); clear hci hcl)
 go_returns
 exact ⟨rfl, ((Ext.refl w).alloc _).trans hx1⟩
theorem wpListIn_app {F : Fence} {n : Nat} {P : Program} {w : World} {ops : Array Oper} {rest : List Oper} {o : Oper} {a : Act} {Q : Exit → Act → World → Prop}
  (hg : o.guard = none) (s x : Operand) (t u : TypeId) (hop : o.op = Op.call { callee := Callee.builtin Builtin.append, args := #[s, x], argTypes := #[t, u] }) {v1 v2 v : Value} {w' : World} (hs : a.eval s = v1) (hx : a.eval x = v2)
  (hrun : (Builtin.append_ #[t, u] o.type #[v1, v2]).run P w = .ok v w') (hK : wpListIn F n P ops Q rest (a.put o.dst v) w') : wpListIn F n P ops Q (o :: rest) a w := by
 subst hs hx
 refine wpListIn_plain hg fun K hK' => ?_
 unfold Oper.wpIn
 refine ⟨by simp [Oper.about, hop, resolve, Target.leads, Sem.run_pure], ?_⟩
 rw [Oper.semAt_plain F _ _ (by rw [hop]; intro c hc'; cases hc')]
 simp [execOp, hop, resolve, invoke, builtin, hrun, Result.andThen]
 exact hK' _ _ hK
theorem padTo_long (N : Nat) (t : List UInt8) (h : t.length ≤ N) : padTo N t = t ++ List.replicate (N - t.length) 0 := by
 unfold padTo; rw [List.take_of_length_le h]
theorem run_app (g N : Nat) (t y : List UInt8) (ty : TypeId) (W : World) (hg : W.heap[g]? = some (.cells (bcells (padTo N t)) 5 (0, 0))) (h : t.length + y.length ≤ N) :
  (Builtin.append_ #[27, 9] ty #[.slice (some ⟨g, 0, none⟩) t.length N, .string (bs y)]).run Tryz.prog W = .ok (.slice (some ⟨g, 0, none⟩) (t.length + y.length) N) (W.setRow g (bcells (padTo N (t ++ y)))) := by
 obtain ⟨i0, hi, hz0, hz1, _⟩ := info_parts info_u8
 have hsz : (bs y).size = y.length := by simp [bs, ByteArray.size]
 have hc : (bcells (padTo N t)).size = N := by rw [bcells_size, padTo_length]
 have hr := Lib.run_append_room_string (P := Tryz.prog) W 27 9 ty 5 i0 und_bytes und_string hi hz1 g t.length N _ hg (bs y) (by rw [hsz]; exact h) (by rw [hsz, hc]; exact h)
 rw [hsz] at hr
 rw [hr]
 refine congrArg (fun x => Result.ok (Value.slice (some ⟨g, 0, none⟩) (t.length + y.length) N) (W.setRow g x)) ?_
 have hs : Lib.strCells (bs y) = y.map byteV := rfl
 have hb : (bcells (padTo N t)).toList = (padTo N t).map byteV := rfl
 rw [hs, hb, padTo_long N t (by omega), padTo_long N (t ++ y) (by rw [List.length_append]; exact h)]
 apply Array.ext'
 show _ = ((t ++ y ++ List.replicate (N - (t ++ y).length) 0).map byteV)
 rw [List.map_append, List.take_left' (by simp), List.map_append, List.map_append, List.length_append]
 rw [← List.drop_drop, List.drop_left' (by simp), ← List.map_drop, List.drop_replicate, Nat.sub_sub]
set_option maxRecDepth 100000 in
set_option maxHeartbeats 500000 in
theorem Stream_yes (key nonce : List UInt8) (f n : Nat) (w : World) (hk : key.length = 16) (hn : nonce.length = 12) (h0 : 0 < n) (h1 : n ≤ 1048576) (h2 : f < 4294967296) (h : f + (n + 15) / 16 ≤ 4294967296) :
  Calls Tryz.prog 89 #[.string (bs key), .string (bs nonce), .int .u32 (f : Int), .int .i64 (n : Int)] w fun e w' => e = .returned (.tuple #[.string (bs ((ctrN (rks key) nonce f ((n + 15) / 16)).take n)), .int .i64 0]) ∧ Ext w w' := by
 have GN := Lib.hid (fun W => New_yes key W hk)
 have hn' : ((nonce.length : Int) != 12) = false := by simp; omega
 obtain ⟨m, hm⟩ : ∃ m : Nat, ((n : Int) + 15) / 16 = (m : Int) := ⟨(n + 15) / 16, by omega⟩
 have hmn : (n + 15) / 16 = m := by omega
 rw [hmn] at h ⊢
 have hc : ¬ (4294967296 : Int) < (f : Int) + (m : Int) := by omega
 have hnn : ¬ (n : Int) < 0 := by omega
 have hnm : ¬ 1048576 < (n : Int) := by omega
 have hn0 : ((n : Int) == 0) = false := by simp; omega
 have hmk := fun W => mk_bytes0 (n + 16) (by omega) W
 rw [show ((n + 16 : Nat) : Int) = (n : Int) + 16 by omega] at hmk
 refine (callsIn_wide (n := 3)).1 ?_
 refine callsIn_of_wp_marks Tryz.func89 rfl trivial ?_ rfl
 simp only [Tryz.ntmps89, List.size_toArray, List.length_cons, List.length_nil, Nat.reduceAdd, Nat.reduceSub, Array.replicate_succ, Array.replicate_zero, List.push_toArray, List.append_toArray, List.nil_append, List.cons_append]
 gi_wp2_with (first
  | (refine ⟨trivial, ?_⟩; gi_at_call 111; refine (callsIn_wide.2 (GN.out _)).mono ?_; rintro e w1 ⟨c, rfl, hcl, hci, hx1⟩; have q := hx1.cell_of (cell_blk (i := 0) (heap_alloc_new w _) rfl); have HCI := Lib.hid hci; clear hci)
  | (refine ⟨trivial, ?_⟩; gi_at_call 112; refine (callsIn_wide.2 (blocks_any c f nonce _)).mono ?_; rintro e w2 ⟨rfl, rfl⟩))
 have hs1 : w.heap.size < w1.heap.size := by have := hx1.size; simp at this; omega
 obtain ⟨s, hs⟩ : ∃ s, w1.heap.size = s := ⟨_, rfl⟩
 obtain ⟨W0, hW0⟩ : ∃ W0, ((((w1.alloc (.cells (bcells (List.replicate (n + 16) 0)) 5)).alloc (.cells #[.slice (some ⟨w1.heap.size, 0, none⟩) 0 (n + 16)] 27)).alloc (.cells #[.pointer (some ⟨c, 0, none⟩)] 148)).alloc (.cells #[.string (bs nonce)] 9)).alloc (.cells #[.int .u32 (f : Int)] 46) = W0 := ⟨_, rfl⟩
 have hsz : W0.heap.size = s + 5 := by rw [← hW0, ← hs]; simp
 have kn : W0.heap[w.heap.size]? = some (.cells #[.int .i64 (n : Int)] 3) := by rw [← hW0]; exact heap_alloc_old _ _ (heap_alloc_old _ _ (heap_alloc_old _ _ (heap_alloc_old _ _ (heap_alloc_old _ _ (hx1.keep (heap_alloc_new _ _))))))
 have kg : W0.heap[s]? = some (.cells (bcells (padTo (n + 16) [])) 5) := by rw [← hW0, ← hs]; exact heap_alloc_old _ _ (heap_alloc_old _ _ (heap_alloc_old _ _ (heap_alloc_old _ _ (heap_alloc_new _ _))))
 have kp : W0.heap[s + 1]? = some (.cells #[.slice (some ⟨s, 0, none⟩) 0 (n + 16)] 27) := by
  have h := heap_alloc_new (w1.alloc (.cells (bcells (List.replicate (n + 16) 0)) 5)) (.cells #[.slice (some ⟨w1.heap.size, 0, none⟩) 0 (n + 16)] 27)
  rw [← hW0, ← hs]
  simp only [World.size_alloc] at h
  exact heap_alloc_old _ _ (heap_alloc_old _ _ (heap_alloc_old _ _ h))
 have k1 : W0.heap[s + 2]? = some (.cells #[.pointer (some ⟨c, 0, none⟩)] 148) := by
  have h := heap_alloc_new ((w1.alloc (.cells (bcells (List.replicate (n + 16) 0)) 5)).alloc (.cells #[.slice (some ⟨w1.heap.size, 0, none⟩) 0 (n + 16)] 27)) (.cells #[.pointer (some ⟨c, 0, none⟩)] 148)
  rw [← hW0, ← hs]
  simp only [World.size_alloc] at h
  exact heap_alloc_old _ _ (heap_alloc_old _ _ h)
 have k2 : W0.heap[s + 3]? = some (.cells #[.string (bs nonce)] 9) := by
  have h := heap_alloc_new (((w1.alloc (.cells (bcells (List.replicate (n + 16) 0)) 5)).alloc (.cells #[.slice (some ⟨w1.heap.size, 0, none⟩) 0 (n + 16)] 27)).alloc (.cells #[.pointer (some ⟨c, 0, none⟩)] 148)) (.cells #[.string (bs nonce)] 9)
  rw [← hW0, ← hs]
  simp only [World.size_alloc] at h
  exact heap_alloc_old _ _ h
 have k3 : W0.heap[s + 4]? = some (.cells #[.int .u32 (f : Int)] 46) := by
  have h := heap_alloc_new ((((w1.alloc (.cells (bcells (List.replicate (n + 16) 0)) 5)).alloc (.cells #[.slice (some ⟨w1.heap.size, 0, none⟩) 0 (n + 16)] 27)).alloc (.cells #[.pointer (some ⟨c, 0, none⟩)] 148)).alloc (.cells #[.string (bs nonce)] 9)) (.cells #[.int .u32 (f : Int)] 46)
  rw [← hW0, ← hs]
  simp only [World.size_alloc] at h
  exact h
 have hcs : c < s := hs ▸ blk_lt HCI.out.2
 have kx1 : Ext w1 W0 := by rw [← hW0]; exact (((((Ext.refl w1).alloc _).alloc _).alloc _).alloc _).alloc _
 have kx : Ext w W0 := (((Ext.refl w).alloc _).trans hx1).trans kx1
 have kci : CI W0 c (rks key) := HCI.out.ext kx1
 have hKl := rks_length key
 clear HCI hcl q GN hmk
 rw [hs] at hs1 ⊢
 rw [hs] at hW0
 rw [hW0]
 clear hW0 kx1
 obtain ⟨K, hKK⟩ : ∃ K, rks key = K := ⟨_, rfl⟩
 rw [hKK] at kci hKl
 have HKK := Lib.hid hKK
 clear hKK
 have own : ∀ (A B : World) (row : Option Nat) (b : Nat) (o : Obj), A.heap[b]? = some o → b < W0.heap.size → A.grownBy B row → (∀ r, row = some r → W0.heap.size ≤ r) → B.heap[b]? = some o := fun A B row b o h hb hg hr =>
  (hg.block b (blk_lt h) (fun e => by have := hr b e.symm; omega)).trans h
 refine wpIn_streams (a₁ := ?a1) rfl (by omega) (gf := 127) (lb := #[.pointer (some ⟨s + 2, 0, none⟩), .pointer (some ⟨s + 3, 0, none⟩), .pointer (some ⟨s + 4, 0, none⟩)]) rfl trivial (enters_of Tryz.func127 (by kernel_rfl) rfl)
  (blocks_in _ m (by omega) c (s + 2) (s + 3) (s + 4) K nonce f hn h W0 kci _ _ k1 k2 k3 (by omega) (by omega) (by omega)) (by show s + 4 < W0.heap.size; omega) Keeps4.t ?kb 1
  (fun k W => k < m ∧ W.heap[w.heap.size]? = some (.cells #[.int .i64 (n : Int)] 3) ∧ W.heap[s + 1]? = some (.cells #[.slice (some ⟨s, 0, none⟩) (ctrN K nonce f k).length (n + 16)] 27) ∧ W.heap[s]? = some (.cells (bcells (padTo (n + 16) (ctrN K nonce f k))) 5) ∧ Below w.heap.size w W)
  (fun _ W => W.heap[w.heap.size]? = some (.cells #[.int .i64 (n : Int)] 3) ∧ W.heap[s + 1]? = some (.cells #[.slice (some ⟨s, 0, none⟩) (ctrN K nonce f m).length (n + 16)] 27) ∧ W.heap[s]? = some (.cells (bcells (padTo (n + 16) (ctrN K nonce f m))) 5) ∧ Below w.heap.size w W)
  ?hI ?hIx ?hIw (fun k A h => h.1) ⟨by omega, kn, kp, kg, kx⟩ ?assign ?body ?stop
 case kb => exact fun A l o hl b hb => World.putObj_heap_other (by omega)
 case hI =>
  rintro k A B row ⟨h0, h1, h2, h3, h4⟩ hg hr
  exact ⟨h0, own A B row _ _ h1 (by omega) hg (fun r e => (hr r e).1), own A B row _ _ h2 (by omega) hg (fun r e => (hr r e).1), own A B row _ _ h3 (by omega) hg (fun r e => (hr r e).1), h4.grown hg (Nat.le_of_lt (blk_lt h1)) (fun r e => by have := (hr r e).1; omega)⟩
 case hIx =>
  rintro k A B row ⟨h1, h2, h3, h4⟩ hg hr
  exact ⟨own A B row _ _ h1 (by omega) hg (fun r e => (hr r e).1), own A B row _ _ h2 (by omega) hg (fun r e => (hr r e).1), own A B row _ _ h3 (by omega) hg (fun r e => (hr r e).1), h4.grown hg (Nat.le_of_lt (blk_lt h1)) (fun r e => by have := (hr r e).1; omega)⟩
 case hIw =>
  rintro k A v ⟨h0, h1, h2, h3, h4⟩
  exact ⟨h0, (heap_setCell_other _ _ _ (by show w.heap.size ≠ s + 4; omega)).trans h1, (heap_setCell_other _ _ _ (by show s + 1 ≠ s + 4; omega)).trans h2, (heap_setCell_other _ _ _ (by show s ≠ s + 4; omega)).trans h3, Below.setCell h4 (by show w.heap.size ≤ s + 4; omega) v⟩
 case assign =>
  intro l k W Q hQ
  gi_wp2
  exact hQ
 case body =>
  rintro l k W ⟨hkm, h1, h2, h3, h4⟩
  have hcl := ctrN_length K nonce f hKl hn k
  have hbl := ctrB_length K nonce f k hKl hn
  have HS : Hid (ctrN K nonce f (k + 1) = ctrN K nonce f k ++ ctrB K nonce f k) := Lib.hid rfl
  generalize ctrN K nonce f k = t at *
  generalize ctrB K nonce f k = y at *
  have hra := fun ty => run_app s (n + 16) t y ty W h3 (by omega)
  have q0 : W.cell? ⟨w.heap.size, 0, none⟩ = some (.int .i64 (n : Int)) := cell_blk h1 rfl
  have q1 : W.cell? ⟨s + 1, 0, none⟩ = some (.slice (some ⟨s, 0, none⟩) t.length (n + 16)) := cell_blk h2 rfl
  obtain ⟨W2, hW2⟩ : ∃ W2, W.setRow s (bcells (padTo (n + 16) (t ++ y))) = W2 := ⟨_, rfl⟩
  rw [hW2] at hra
  have e1 : W2.heap[w.heap.size]? = some (.cells #[.int .i64 (n : Int)] 3) := by rw [← hW2]; exact (setRow_other _ _ _ _ (by omega)).trans h1
  have e2 : W2.heap[s + 1]? = some (.cells #[.slice (some ⟨s, 0, none⟩) t.length (n + 16)] 27) := by rw [← hW2]; exact (setRow_other _ _ _ _ (by omega)).trans h2
  have e3 : W2.heap[s]? = some (.cells (bcells (padTo (n + 16) (t ++ y))) 5) := by rw [← hW2]; exact setRow_get h3
  have e4 : Below w.heap.size w W2 := by rw [← hW2]; exact below_setRow h4 (by omega) _
  have e5 : KeepsOthers W W2 := by
   rw [← hW2]
   refine ⟨by simp [World.setRow], fun k o hk ho => ?_⟩
   refine (setRow_other _ _ _ _ ?_).trans hk
   rintro rfl
   rw [h3] at hk; cases hk; cases ho
  have e6 : Keeps4 c (s + 2) (s + 3) (s + 4) W W2 := fun b hb => by rw [← hW2]; exact setRow_other _ _ _ _ (by omega)
  have p1 : W2.cell? ⟨w.heap.size, 0, none⟩ = some (.int .i64 (n : Int)) := cell_blk e1 rfl
  have p2 : W2.cell? ⟨s + 1, 0, none⟩ = some (.slice (some ⟨s, 0, none⟩) t.length (n + 16)) := cell_blk e2 rfl
  have p3 : W2.frozen? ⟨s + 1, 0, none⟩ = false := frozen_blk e2
  have E1 := Lib.hid (fun v => (heap_setCell_other W2 ⟨s + 1, 0, none⟩ v (k := w.heap.size) (by show w.heap.size ≠ s + 1; omega)).trans e1)
  have E2 := Lib.hid (fun v => heap_setCell_same (i := 0) v e2)
  have E3 := Lib.hid (fun v => (heap_setCell_other W2 ⟨s + 1, 0, none⟩ v (k := s) (by show s ≠ s + 1; omega)).trans e3)
  have E4 := Lib.hid (fun v => e4.setCell (p := ⟨s + 1, 0, none⟩) (by show w.heap.size ≤ s + 1; omega) v)
  have E5 := Lib.hid (fun v => e5.trans (KeepsOthers.setCell W2 ⟨s + 1, 0, none⟩ v))
  have E6 := Lib.hid (fun v => e6.t (C := W2.setCell ⟨s + 1, 0, none⟩ v) fun b hb => heap_setCell_other _ _ _ (by show b ≠ s + 1; omega))
  have hne : w.heap.size ≠ s + 1 := by omega
  have HA := Lib.hid hra
  have hm16 : n ≤ 16 * m := by omega
  have hm15 : 16 * m ≤ n + 15 := by omega
  clear hra h1 h2 h3 h4 hW2 e1 e2 e3 e4 e5 e6 own kci kx k1 k2 k3 kn kg kp hx1
  have hlen : (t ++ y).length = t.length + y.length := List.length_append
  by_cases hbr : n ≤ 16 * (k + 1)
  ·have hbi : (n : Int) ≤ (t.length : Int) + (y.length : Int) := by omega
   obtain rfl : m = k + 1 := by omega
   clear hcl hbl
   gi_wp2_with (gi_at_builtin; refine wpListIn_app (v := .slice (some ⟨s, 0, none⟩) (t.length + y.length) (n + 16)) (w' := W2) (v1 := .slice (some ⟨s, 0, none⟩) t.length (n + 16)) (v2 := .string (bs y)) rfl (Operand.tmp 49) (Operand.tmp 50) 27 9 rfl rfl rfl (HA.out _) ?_)
   refine ⟨E5.out _, rfl, E1.out _, ?_, ?_, E4.out _⟩
   ·rw [HS.out, hlen]; exact E2.out _
   ·rw [HS.out]; exact E3.out _
  ·have hbi : (t.length : Int) + (y.length : Int) < (n : Int) := by omega
   have hkm' : k + 1 < m := by omega
   have hbd : decide ((n : Int) ≤ (t.length : Int) + (y.length : Int)) = false := by simp; omega
   clear hcl hbl
   gi_wp2_with (gi_at_builtin; refine wpListIn_app (v := .slice (some ⟨s, 0, none⟩) (t.length + y.length) (n + 16)) (w' := W2) (v1 := .slice (some ⟨s, 0, none⟩) t.length (n + 16)) (v2 := .string (bs y)) rfl (Operand.tmp 49) (Operand.tmp 50) 27 9 rfl rfl rfl (HA.out _) ?_)
   refine ⟨E5.out _, E6.out _, hkm', E1.out _, ?_, ?_, E4.out _⟩
   ·rw [HS.out, hlen]; exact E2.out _
   ·rw [HS.out]; exact E3.out _
 case stop =>
  rintro D k W hD ⟨h1, h2, h3, h4⟩ hK
  have hcl := ctrN_length K nonce f hKl hn m
  obtain ⟨t, ht⟩ : ∃ t, ctrN K nonce f m = t := ⟨_, rfl⟩
  rw [ht] at h2 h3 hcl
  have HT := Lib.hid ht
  clear ht
  have hsp : padTo (n + 16) t = t.take n ++ (t.drop n ++ List.replicate (n + 16 - t.length) 0) := by
   rw [padTo_long _ _ (by omega), ← List.append_assoc, List.take_append_drop]
  rw [hsp] at h3
  have htn : (t.take n).length = n := by rw [List.length_take]; omega
  have hcv := fun cap => to_str_blk (c := cap) (n := n) h3 htn
  have q0 : W.cell? ⟨w.heap.size, 0, none⟩ = some (.int .i64 (n : Int)) := cell_blk h1 rfl
  have q1 : W.cell? ⟨s + 1, 0, none⟩ = some (.slice (some ⟨s, 0, none⟩) t.length (n + 16)) := cell_blk h2 rfl
  have HK := Lib.hid hK
  have H4 := Lib.hid h4
  have hlt := blk_lt hK
  have hnt : (n : Int) ≤ (t.length : Int) := by omega
  clear hcl hK h4 h1 h2 h3 hsp htn own kci kx k1 k2 k3 kn kg kp hx1
  gi_wp2
  refine ⟨by simp, .inl ⟨_, _, rfl, run_takeDeferred HK.out, ?_⟩⟩
  refine ⟨.tuple #[.string (bs (t.take n)), .int .i64 0], ?_, by rw [HKK.out, HT.out], ?_⟩
  ·exact results_tmp2 (fn := Tryz.f89) rfl _ _ _
  ·exact H4.out.trans (belowK_b (w := w) (Nat.le_refl _) _ D _ _ (by omega) HK.out rfl rfl)
end Go.Proofs.YtclekllaikcglaaGreat

/- Contracts: layer 5, the program's Stream and Turn, and the statements' full and works. -/
namespace Go.Proofs.YtclekllaikcglaaGreat
open Go Go.RowKit
def ctrS (K nonce : List UInt8) (f n : Nat) : List UInt8 := (ctrN K nonce f ((n + 15) / 16)).take n
theorem ctrS_length (K nonce : List UInt8) (f n : Nat) (hK : K.length = 176) (hn : nonce.length = 12) : (ctrS K nonce f n).length = n := by
 unfold ctrS; rw [List.length_take, ctrN_length K nonce f hK hn]; omega
theorem Stream_ok (key nonce : List UInt8) (f n : Nat) (w : World) (hk : key.length = 16) (hn : nonce.length = 12) (h1 : n ≤ 1048576) (h2 : f < 4294967296) (h : f + (n + 15) / 16 ≤ 4294967296) :
  Calls Tryz.prog 89 #[.string (bs key), .string (bs nonce), .int .u32 (f : Int), .int .i64 (n : Int)] w fun e w' => e = .returned (.tuple #[.string (bs (ctrS (rks key) nonce f n)), .int .i64 0]) ∧ Ext w w' := by
 by_cases h0 : n = 0
 ·subst h0
  exact Stream_zero key nonce f w hk hn h2
 ·exact Stream_yes key nonce f n w hk hn (by omega) h1 h2 h
set_option maxRecDepth 100000 in
theorem Turn_ok (key nonce s : List UInt8) (f : Nat) (w : World) (hk : key.length = 16) (hn : nonce.length = 12) (h1 : s.length ≤ 1048576) (h2 : f < 4294967296) (h : f + (s.length + 15) / 16 ≤ 4294967296) :
  Calls Tryz.prog 63 #[.string (bs key), .string (bs nonce), .int .u32 (f : Int), .string (bs s)] w fun e w' => e = .returned (.tuple #[.string (bs (xorL s (ctrS (rks key) nonce f s.length))), .int .i64 0]) ∧ Ext w w' := by
 have hsl := ctrS_length (rks key) nonce f s.length (rks_length key) hn
 have GS := Lib.hid (fun W => Stream_ok key nonce f s.length W hk hn h1 h2 h)
 generalize ctrS (rks key) nonce f s.length = x at *
 have GX := Lib.hid (fun W => Xor_yes s x W hsl.symm (by omega))
 clear hsl
 go_enter Tryz.func63, Tryz.ntmps63
 go_wp2_with (first
  | (go_at_call 89; refine (GS.out _).mono ?_; rintro e w1 ⟨rfl, hx1⟩)
  | (go_at_call 56; refine (GX.out _).mono ?_; rintro e w2 ⟨rfl, hx2⟩))
 go_returns
 exact ⟨rfl, hx1.trans hx2⟩
end Go.Proofs.YtclekllaikcglaaGreat
