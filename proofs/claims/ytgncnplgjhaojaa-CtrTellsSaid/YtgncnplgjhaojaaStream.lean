/- Contracts: layer 5, the program's Stream. -/
import Derived.Test.YtgncnplgjhaojaaCtr
namespace Go.Proofs.Ytgncnplgjhaojaa
open Go Go.RowKit Go.Shelf
attribute [local go_sem] Oper.semAt_some

set_option maxRecDepth 100000 in
theorem blocks_any (c f : Nat) (nonce : List UInt8) (w : World) :
    Calls Try.prog 44 #[.pointer (some ⟨c, 0, none⟩), .string (bs nonce), .int .u32 (f : Int)] w fun e w' => e = .returned (.func (.func 52) #[] #[.pointer (some ⟨w.heap.size, 0, none⟩), .pointer (some ⟨w.heap.size + 1, 0, none⟩), .pointer (some ⟨w.heap.size + 2, 0, none⟩)]) ∧ w' = ((w.alloc (.cells #[.pointer (some ⟨c, 0, none⟩)] 27)).alloc (.cells #[.string (bs nonce)] 9)).alloc (.cells #[.int .u32 (f : Int)] 42) := by
  go_enter Try.func44, Try.ntmps44
  go_wp2
  go_returns
  exact ⟨rfl, rfl⟩
set_option maxRecDepth 100000 in
set_option maxHeartbeats 2000000 in
theorem Stream_arg (key nonce : List UInt8) (f : Nat) (n : Int) (w : World) (hk : key.length = 16) (h : nonce.length ≠ 12 ∨ n < 0) (_hn : nonce.length ≤ 140737488351232) :
    Calls Try.prog 28 #[.string (bs key), .string (bs nonce), .int .u32 (f : Int), .int .i64 n] w fun e w' => e = .returned (.tuple #[.string (bs []), .int .i64 2]) ∧ Ext w w' := by
  have GN := Lib.hid (fun W => New_yes key W hk)
  by_cases hn : nonce.length = 12
  · have h0 : n < 0 := by omega
    have hn' : ((nonce.length : Int) != 12) = false := by simp; omega
    clear h hn
    go_enter Try.func28, Try.ntmps28
    go_wp2_with (go_at_call 19; refine (GN.out _).mono ?_; rintro e w1 ⟨c, rfl, hcl, hci, hx1⟩; have q := hx1.cell_of (cell_blk (i := 0) (heap_alloc_new w _) rfl); clear hci hcl)
    go_returns
    exact ⟨rfl, ((Ext.refl w).alloc _).trans hx1⟩
  · have hn' : ((nonce.length : Int) != 12) = true := by simp; omega
    clear h hn
    go_enter Try.func28, Try.ntmps28
    go_wp2_with (go_at_call 19; refine (GN.out _).mono ?_; rintro e w1 ⟨c, rfl, hcl, hci, hx1⟩; clear hci hcl)
    go_returns
    exact ⟨rfl, ((Ext.refl w).alloc _).trans hx1⟩
set_option maxRecDepth 100000 in
set_option maxHeartbeats 2000000 in
theorem Stream_key (key nonce : List UInt8) (f : Nat) (n : Int) (w : World) (hk : key.length ≠ 16) (hl : key.length ≤ 140737488351232) :
    Calls Try.prog 28 #[.string (bs key), .string (bs nonce), .int .u32 (f : Int), .int .i64 n] w fun e w' => e = .returned (.tuple #[.string (bs []), .int .i64 2]) ∧ Ext w w' := by
  have GN := Lib.hid (fun W => New_no key W hk hl)
  go_enter Try.func28, Try.ntmps28
  go_wp2_with (go_at_call 19; refine (GN.out _).mono ?_; rintro e w1 ⟨rfl, rfl⟩)
  go_returns
  exact ⟨rfl, (Ext.refl w).alloc _⟩
set_option maxRecDepth 100000 in
set_option maxHeartbeats 2000000 in
theorem Stream_max (key nonce : List UInt8) (f : Nat) (n : Int) (w : World) (hk : key.length = 16) (hn : nonce.length = 12) (h : 1048576 < n) :
    Calls Try.prog 28 #[.string (bs key), .string (bs nonce), .int .u32 (f : Int), .int .i64 n] w fun e w' => e = .returned (.tuple #[.string (bs []), .int .i64 5]) ∧ Ext w w' := by
  have GN := Lib.hid (fun W => New_yes key W hk)
  have hn' : ((nonce.length : Int) != 12) = false := by simp; omega
  have h0 : ¬ n < 0 := by omega
  clear hn
  go_enter Try.func28, Try.ntmps28
  go_wp2_with (go_at_call 19; refine (GN.out _).mono ?_; rintro e w1 ⟨c, rfl, hcl, hci, hx1⟩; have q := hx1.cell_of (cell_blk (i := 0) (heap_alloc_new w _) rfl); clear hci hcl)
  go_returns
  exact ⟨rfl, ((Ext.refl w).alloc _).trans hx1⟩
set_option maxRecDepth 100000 in
set_option maxHeartbeats 2000000 in
theorem Stream_end (key nonce : List UInt8) (f n : Nat) (w : World) (hk : key.length = 16) (hn : nonce.length = 12) (h1 : n ≤ 1048576) (h2 : f < 4294967296) (h : 4294967296 < f + (n + 15) / 16) :
    Calls Try.prog 28 #[.string (bs key), .string (bs nonce), .int .u32 (f : Int), .int .i64 (n : Int)] w fun e w' => e = .returned (.tuple #[.string (bs []), .int .i64 5]) ∧ Ext w w' := by
  have GN := Lib.hid (fun W => New_yes key W hk)
  have hn' : ((nonce.length : Int) != 12) = false := by simp; omega
  have h0 : ¬ (n : Int) < 0 := by omega
  have h3 : ¬ 1048576 < (n : Int) := by omega
  clear hn
  go_enter Try.func28, Try.ntmps28
  go_wp2_with (go_at_call 19; refine (GN.out _).mono ?_; rintro e w1 ⟨c, rfl, hcl, hci, hx1⟩; have q := hx1.cell_of (cell_blk (i := 0) (heap_alloc_new w _) rfl); clear hci hcl)
  go_returns
  exact ⟨rfl, ((Ext.refl w).alloc _).trans hx1⟩
set_option maxRecDepth 100000 in
set_option maxHeartbeats 2000000 in
theorem Stream_zero (key nonce : List UInt8) (f : Nat) (w : World) (hk : key.length = 16) (hn : nonce.length = 12) (h2 : f < 4294967296) :
    Calls Try.prog 28 #[.string (bs key), .string (bs nonce), .int .u32 (f : Int), .int .i64 0] w fun e w' => e = .returned (.tuple #[.string (bs []), .int .i64 0]) ∧ Ext w w' := by
  have GN := Lib.hid (fun W => New_yes key W hk)
  have hn' : ((nonce.length : Int) != 12) = false := by simp; omega
  have hc : ¬ (4294967296 : Int) < (f : Int) := by omega
  clear hn
  go_enter Try.func28, Try.ntmps28
  go_wp2_with (go_at_call 19; refine (GN.out _).mono ?_; rintro e w1 ⟨c, rfl, hcl, hci, hx1⟩; have q := hx1.cell_of (cell_blk (i := 0) (heap_alloc_new w _) rfl); clear hci hcl)
  go_returns
  exact ⟨rfl, ((Ext.refl w).alloc _).trans hx1⟩
theorem wpListIn_app {F : Fence} {n : Nat} {P : Program} {w : World} {ops : Array Oper} {rest : List Oper} {o : Oper} {a : Act} {Q : Exit → Act → World → Prop}
    (hg : o.guard = none) (s x : Operand) (t u : TypeId) (hop : o.op = Op.call { callee := Callee.builtin Builtin.append, args := #[s, x], argTypes := #[t, u] }) {v1 v2 v : Value} {w' : World} (hs : a.eval s = v1) (hx : a.eval x = v2)
    (hrun : (Builtin.append_ #[t, u] o.type #[v1, v2]).run P w = .ok v w') (hK : wpListIn F n P ops Q rest (a.put o.dst v) w') : wpListIn F n P ops Q (o :: rest) a w := by
  subst hs hx
  refine wpListIn_plain hg fun K hK' => ?_
  unfold Oper.wpIn
  refine ⟨by simp [Oper.about, hop, resolve, Target.leads, Sem.run_pure], ?_⟩
  rw [Oper.semAt_plain F _ _ (by rw [hop]; intro c hc'; cases hc')]
  simp [execOp, hop, resolve, invoke, builtin, hrun, Result.andThen]
  exact hK' _ _ hK
theorem padTo_long (N : Nat) (t : List UInt8) (h : t.length ≤ N) : padTo N t = t ++ List.replicate (N - t.length) 0 := by
  unfold padTo; rw [List.take_of_length_le h]
theorem run_app (g N : Nat) (t y : List UInt8) (ty : TypeId) (W : World) (hg : W.heap[g]? = some (.cells (bcells (padTo N t)) 5 (0, 0))) (h : t.length + y.length ≤ N) :
    (Builtin.append_ #[34, 9] ty #[.slice (some ⟨g, 0, none⟩) t.length N, .string (bs y)]).run Try.prog W = .ok (.slice (some ⟨g, 0, none⟩) (t.length + y.length) N) (W.setRow g (bcells (padTo N (t ++ y)))) := by
  obtain ⟨i0, hi, hz0, hz1, _⟩ := info_parts info_u8
  have hsz : (bs y).size = y.length := by simp [bs, ByteArray.size]
  have hc : (bcells (padTo N t)).size = N := by rw [bcells_size, padTo_length]
  have hr := Lib.run_append_room_string (P := Try.prog) W 34 9 ty 5 i0 und_bytes und_string hi hz1 g t.length N _ hg (bs y) (by rw [hsz]; exact h) (by rw [hsz, hc]; exact h)
  rw [hsz] at hr
  rw [hr]
  congr 2
  have hs : Lib.strCells (bs y) = y.map byteV := rfl
  have hb : (bcells (padTo N t)).toList = (padTo N t).map byteV := rfl
  rw [hs, hb, padTo_long N t (by omega), padTo_long N (t ++ y) (by rw [List.length_append]; exact h)]
  apply Array.ext'
  show _ = ((t ++ y ++ List.replicate (N - (t ++ y).length) 0).map byteV)
  rw [List.map_append, List.take_left' (by simp), List.map_append, List.map_append, List.length_append]
  rw [← List.drop_drop, List.drop_left' (by simp), ← List.map_drop, List.drop_replicate, Nat.sub_sub]
set_option maxRecDepth 100000 in
set_option maxHeartbeats 500000 in
theorem Stream_yes (key nonce : List UInt8) (f n : Nat) (w : World) (hk : key.length = 16) (hn : nonce.length = 12) (h0 : 0 < n) (h1 : n ≤ 1048576) (h2 : f < 4294967296) (h : f + (n + 15) / 16 ≤ 4294967296) :
    Calls Try.prog 28 #[.string (bs key), .string (bs nonce), .int .u32 (f : Int), .int .i64 (n : Int)] w fun e w' => e = .returned (.tuple #[.string (bs ((ctrN (rks key) nonce f ((n + 15) / 16)).take n)), .int .i64 0]) ∧ Ext w w' := by
  have GN := Lib.hid (fun W => New_yes key W hk)
  have hn' : ((nonce.length : Int) != 12) = false := by simp; omega
  obtain ⟨m, hm⟩ : ∃ m : Nat, ((n : Int) + 15) / 16 = (m : Int) := ⟨(n + 15) / 16, by omega⟩
  have hmn : (n + 15) / 16 = m := by omega
  rw [hmn] at h ⊢
  have hc : ¬ (4294967296 : Int) < (f : Int) + (m : Int) := by omega
  have hnn : ¬ (n : Int) < 0 := by omega
  have hnm : ¬ 1048576 < (n : Int) := by omega
  have hn0 : ((n : Int) == 0) = false := by simp; omega
  have hmk := fun W => mk_bytes0 (n + 16) (by omega) W
  rw [show ((n + 16 : Nat) : Int) = (n : Int) + 16 by omega] at hmk
  refine (callsIn_wide (n := 3)).1 ?_
  refine callsIn_of_wp_marks Try.func28 rfl trivial ?_ rfl
  simp only [Try.ntmps28, List.size_toArray, List.length_cons, List.length_nil, Nat.reduceAdd, Nat.reduceSub, Array.replicate_succ, Array.replicate_zero, List.push_toArray, List.append_toArray, List.nil_append, List.cons_append]
  gi_wp2_with (first
    | (refine ⟨trivial, ?_⟩; gi_at_call 19; refine (callsIn_wide.2 (GN.out _)).mono ?_; rintro e w1 ⟨c, rfl, hcl, hci, hx1⟩; have q := hx1.cell_of (cell_blk (i := 0) (heap_alloc_new w _) rfl); have HCI := Lib.hid hci; clear hci)
    | (refine ⟨trivial, ?_⟩; gi_at_call 44; refine (callsIn_wide.2 (blocks_any c f nonce _)).mono ?_; rintro e w2 ⟨rfl, rfl⟩))
  have hs1 : w.heap.size < w1.heap.size := by have := hx1.size; simp at this; omega
  obtain ⟨s, hs⟩ : ∃ s, w1.heap.size = s := ⟨_, rfl⟩
  obtain ⟨W0, hW0⟩ : ∃ W0, ((((w1.alloc (.cells (bcells (List.replicate (n + 16) 0)) 5)).alloc (.cells #[.slice (some ⟨w1.heap.size, 0, none⟩) 0 (n + 16)] 34)).alloc (.cells #[.pointer (some ⟨c, 0, none⟩)] 27)).alloc (.cells #[.string (bs nonce)] 9)).alloc (.cells #[.int .u32 (f : Int)] 42) = W0 := ⟨_, rfl⟩
  have hsz : W0.heap.size = s + 5 := by rw [← hW0, ← hs]; simp
  have kn : W0.heap[w.heap.size]? = some (.cells #[.int .i64 (n : Int)] 3) := by rw [← hW0]; exact heap_alloc_old _ _ (heap_alloc_old _ _ (heap_alloc_old _ _ (heap_alloc_old _ _ (heap_alloc_old _ _ (hx1.keep (heap_alloc_new _ _))))))
  have kg : W0.heap[s]? = some (.cells (bcells (padTo (n + 16) [])) 5) := by rw [← hW0, ← hs]; exact heap_alloc_old _ _ (heap_alloc_old _ _ (heap_alloc_old _ _ (heap_alloc_old _ _ (heap_alloc_new _ _))))
  have kp : W0.heap[s + 1]? = some (.cells #[.slice (some ⟨s, 0, none⟩) 0 (n + 16)] 34) := by
    have h := heap_alloc_new (w1.alloc (.cells (bcells (List.replicate (n + 16) 0)) 5)) (.cells #[.slice (some ⟨w1.heap.size, 0, none⟩) 0 (n + 16)] 34)
    rw [← hW0, ← hs]
    simp only [World.size_alloc] at h
    exact heap_alloc_old _ _ (heap_alloc_old _ _ (heap_alloc_old _ _ h))
  have k1 : W0.heap[s + 2]? = some (.cells #[.pointer (some ⟨c, 0, none⟩)] 27) := by
    have h := heap_alloc_new ((w1.alloc (.cells (bcells (List.replicate (n + 16) 0)) 5)).alloc (.cells #[.slice (some ⟨w1.heap.size, 0, none⟩) 0 (n + 16)] 34)) (.cells #[.pointer (some ⟨c, 0, none⟩)] 27)
    rw [← hW0, ← hs]
    simp only [World.size_alloc] at h
    exact heap_alloc_old _ _ (heap_alloc_old _ _ h)
  have k2 : W0.heap[s + 3]? = some (.cells #[.string (bs nonce)] 9) := by
    have h := heap_alloc_new (((w1.alloc (.cells (bcells (List.replicate (n + 16) 0)) 5)).alloc (.cells #[.slice (some ⟨w1.heap.size, 0, none⟩) 0 (n + 16)] 34)).alloc (.cells #[.pointer (some ⟨c, 0, none⟩)] 27)) (.cells #[.string (bs nonce)] 9)
    rw [← hW0, ← hs]
    simp only [World.size_alloc] at h
    exact heap_alloc_old _ _ h
  have k3 : W0.heap[s + 4]? = some (.cells #[.int .u32 (f : Int)] 42) := by
    have h := heap_alloc_new ((((w1.alloc (.cells (bcells (List.replicate (n + 16) 0)) 5)).alloc (.cells #[.slice (some ⟨w1.heap.size, 0, none⟩) 0 (n + 16)] 34)).alloc (.cells #[.pointer (some ⟨c, 0, none⟩)] 27)).alloc (.cells #[.string (bs nonce)] 9)) (.cells #[.int .u32 (f : Int)] 42)
    rw [← hW0, ← hs]
    simp only [World.size_alloc] at h
    exact h
  have hcs : c < s := hs ▸ blk_lt HCI.out.2
  have kx1 : Ext w1 W0 := by rw [← hW0]; exact (((((Ext.refl w1).alloc _).alloc _).alloc _).alloc _).alloc _
  have kx : Ext w W0 := (((Ext.refl w).alloc _).trans hx1).trans kx1
  have kci : CI W0 c (rks key) := HCI.out.ext kx1
  have hKl := rks_length key
  clear HCI hcl q GN hmk
  rw [hs] at hs1 ⊢
  rw [hs] at hW0
  rw [hW0]
  clear hW0 kx1
  obtain ⟨K, hKK⟩ : ∃ K, rks key = K := ⟨_, rfl⟩
  rw [hKK] at kci hKl
  have HKK := Lib.hid hKK
  clear hKK
  have own : ∀ (A B : World) (row : Option Nat) (b : Nat) (o : Obj), A.heap[b]? = some o → b < W0.heap.size → A.grownBy B row → (∀ r, row = some r → W0.heap.size ≤ r) → B.heap[b]? = some o := fun A B row b o h hb hg hr =>
    (hg.block b (blk_lt h) (fun e => by have := hr b e.symm; omega)).trans h
  refine wpIn_streams (a₁ := ?a1) rfl (by omega) (gf := 52) (lb := #[.pointer (some ⟨s + 2, 0, none⟩), .pointer (some ⟨s + 3, 0, none⟩), .pointer (some ⟨s + 4, 0, none⟩)]) rfl trivial (enters_of Try.func52 (by kernel_rfl) rfl)
    (blocks_in _ m (by omega) c (s + 2) (s + 3) (s + 4) K nonce f hn h W0 kci _ _ k1 k2 k3 (by omega) (by omega) (by omega)) (by show s + 4 < W0.heap.size; omega) Keeps4.t ?kb 1
    (fun k W => k < m ∧ W.heap[w.heap.size]? = some (.cells #[.int .i64 (n : Int)] 3) ∧ W.heap[s + 1]? = some (.cells #[.slice (some ⟨s, 0, none⟩) (ctrN K nonce f k).length (n + 16)] 34) ∧ W.heap[s]? = some (.cells (bcells (padTo (n + 16) (ctrN K nonce f k))) 5) ∧ Below w.heap.size w W)
    (fun _ W => W.heap[w.heap.size]? = some (.cells #[.int .i64 (n : Int)] 3) ∧ W.heap[s + 1]? = some (.cells #[.slice (some ⟨s, 0, none⟩) (ctrN K nonce f m).length (n + 16)] 34) ∧ W.heap[s]? = some (.cells (bcells (padTo (n + 16) (ctrN K nonce f m))) 5) ∧ Below w.heap.size w W)
    ?hI ?hIx ?hIw (fun k A h => h.1) ⟨by omega, kn, kp, kg, kx⟩ ?assign ?body ?stop
  case kb => exact fun A l o hl b hb => World.putObj_heap_other (by omega)
  case hI =>
    rintro k A B row ⟨h0, h1, h2, h3, h4⟩ hg hr
    exact ⟨h0, own A B row _ _ h1 (by omega) hg (fun r e => (hr r e).1), own A B row _ _ h2 (by omega) hg (fun r e => (hr r e).1), own A B row _ _ h3 (by omega) hg (fun r e => (hr r e).1), h4.grown hg (Nat.le_of_lt (blk_lt h1)) (fun r e => by have := (hr r e).1; omega)⟩
  case hIx =>
    rintro k A B row ⟨h1, h2, h3, h4⟩ hg hr
    exact ⟨own A B row _ _ h1 (by omega) hg (fun r e => (hr r e).1), own A B row _ _ h2 (by omega) hg (fun r e => (hr r e).1), own A B row _ _ h3 (by omega) hg (fun r e => (hr r e).1), h4.grown hg (Nat.le_of_lt (blk_lt h1)) (fun r e => by have := (hr r e).1; omega)⟩
  case hIw =>
    rintro k A v ⟨h0, h1, h2, h3, h4⟩
    exact ⟨h0, (heap_setCell_other _ _ _ (by show w.heap.size ≠ s + 4; omega)).trans h1, (heap_setCell_other _ _ _ (by show s + 1 ≠ s + 4; omega)).trans h2, (heap_setCell_other _ _ _ (by show s ≠ s + 4; omega)).trans h3, Below.setCell h4 (by show w.heap.size ≤ s + 4; omega) v⟩
  case assign =>
    intro l k W Q hQ
    gi_wp2
    exact hQ
  case body =>
    rintro l k W ⟨hkm, h1, h2, h3, h4⟩
    have hcl := ctrN_length K nonce f hKl hn k
    have hbl := ctrB_length K nonce f k hKl hn
    have HS : Hid (ctrN K nonce f (k + 1) = ctrN K nonce f k ++ ctrB K nonce f k) := Lib.hid rfl
    generalize ctrN K nonce f k = t at *
    generalize ctrB K nonce f k = y at *
    have hra := fun ty => run_app s (n + 16) t y ty W h3 (by omega)
    have q0 : W.cell? ⟨w.heap.size, 0, none⟩ = some (.int .i64 (n : Int)) := cell_blk h1 rfl
    have q1 : W.cell? ⟨s + 1, 0, none⟩ = some (.slice (some ⟨s, 0, none⟩) t.length (n + 16)) := cell_blk h2 rfl
    obtain ⟨W2, hW2⟩ : ∃ W2, W.setRow s (bcells (padTo (n + 16) (t ++ y))) = W2 := ⟨_, rfl⟩
    rw [hW2] at hra
    have e1 : W2.heap[w.heap.size]? = some (.cells #[.int .i64 (n : Int)] 3) := by rw [← hW2]; exact (setRow_other _ _ _ _ (by omega)).trans h1
    have e2 : W2.heap[s + 1]? = some (.cells #[.slice (some ⟨s, 0, none⟩) t.length (n + 16)] 34) := by rw [← hW2]; exact (setRow_other _ _ _ _ (by omega)).trans h2
    have e3 : W2.heap[s]? = some (.cells (bcells (padTo (n + 16) (t ++ y))) 5) := by rw [← hW2]; exact setRow_get h3
    have e4 : Below w.heap.size w W2 := by rw [← hW2]; exact below_setRow h4 (by omega) _
    have e5 : KeepsOthers W W2 := by
      rw [← hW2]
      refine ⟨by simp [World.setRow], fun k o hk ho => ?_⟩
      refine (setRow_other _ _ _ _ ?_).trans hk
      rintro rfl
      rw [h3] at hk; cases hk; cases ho
    have e6 : Keeps4 c (s + 2) (s + 3) (s + 4) W W2 := fun b hb => by rw [← hW2]; exact setRow_other _ _ _ _ (by omega)
    have p1 : W2.cell? ⟨w.heap.size, 0, none⟩ = some (.int .i64 (n : Int)) := cell_blk e1 rfl
    have p2 : W2.cell? ⟨s + 1, 0, none⟩ = some (.slice (some ⟨s, 0, none⟩) t.length (n + 16)) := cell_blk e2 rfl
    have p3 : W2.frozen? ⟨s + 1, 0, none⟩ = false := frozen_blk e2
    have E1 := Lib.hid (fun v => (heap_setCell_other W2 ⟨s + 1, 0, none⟩ v (k := w.heap.size) (by show w.heap.size ≠ s + 1; omega)).trans e1)
    have E2 := Lib.hid (fun v => heap_setCell_same (i := 0) v e2)
    have E3 := Lib.hid (fun v => (heap_setCell_other W2 ⟨s + 1, 0, none⟩ v (k := s) (by show s ≠ s + 1; omega)).trans e3)
    have E4 := Lib.hid (fun v => e4.setCell (p := ⟨s + 1, 0, none⟩) (by show w.heap.size ≤ s + 1; omega) v)
    have E5 := Lib.hid (fun v => e5.trans (KeepsOthers.setCell W2 ⟨s + 1, 0, none⟩ v))
    have E6 := Lib.hid (fun v => e6.t (C := W2.setCell ⟨s + 1, 0, none⟩ v) fun b hb => heap_setCell_other _ _ _ (by show b ≠ s + 1; omega))
    have hne : w.heap.size ≠ s + 1 := by omega
    have HA := Lib.hid hra
    have hm16 : n ≤ 16 * m := by omega
    have hm15 : 16 * m ≤ n + 15 := by omega
    clear hra h1 h2 h3 h4 hW2 e1 e2 e3 e4 e5 e6 own kci kx k1 k2 k3 kn kg kp hx1
    have hlen : (t ++ y).length = t.length + y.length := List.length_append
    by_cases hbr : n ≤ 16 * (k + 1)
    · have hbi : (n : Int) ≤ (t.length : Int) + (y.length : Int) := by omega
      obtain rfl : m = k + 1 := by omega
      clear hcl hbl
      gi_wp2_with (gi_at_builtin; refine wpListIn_app (v := .slice (some ⟨s, 0, none⟩) (t.length + y.length) (n + 16)) (w' := W2) (v1 := .slice (some ⟨s, 0, none⟩) t.length (n + 16)) (v2 := .string (bs y)) rfl (Operand.tmp 49) (Operand.tmp 50) 34 9 rfl rfl rfl (HA.out _) ?_)
      refine ⟨E5.out _, rfl, E1.out _, ?_, ?_, E4.out _⟩
      · rw [HS.out, hlen]; exact E2.out _
      · rw [HS.out]; exact E3.out _
    · have hbi : (t.length : Int) + (y.length : Int) < (n : Int) := by omega
      have hkm' : k + 1 < m := by omega
      have hbd : decide ((n : Int) ≤ (t.length : Int) + (y.length : Int)) = false := by simp; omega
      clear hcl hbl
      gi_wp2_with (gi_at_builtin; refine wpListIn_app (v := .slice (some ⟨s, 0, none⟩) (t.length + y.length) (n + 16)) (w' := W2) (v1 := .slice (some ⟨s, 0, none⟩) t.length (n + 16)) (v2 := .string (bs y)) rfl (Operand.tmp 49) (Operand.tmp 50) 34 9 rfl rfl rfl (HA.out _) ?_)
      refine ⟨E5.out _, E6.out _, hkm', E1.out _, ?_, ?_, E4.out _⟩
      · rw [HS.out, hlen]; exact E2.out _
      · rw [HS.out]; exact E3.out _
  case stop =>
    rintro D k W hD ⟨h1, h2, h3, h4⟩ hK
    have hcl := ctrN_length K nonce f hKl hn m
    obtain ⟨t, ht⟩ : ∃ t, ctrN K nonce f m = t := ⟨_, rfl⟩
    rw [ht] at h2 h3 hcl
    have HT := Lib.hid ht
    clear ht
    have hsp : padTo (n + 16) t = t.take n ++ (t.drop n ++ List.replicate (n + 16 - t.length) 0) := by
      rw [padTo_long _ _ (by omega), ← List.append_assoc, List.take_append_drop]
    rw [hsp] at h3
    have htn : (t.take n).length = n := by rw [List.length_take]; omega
    have hcv := fun cap => to_str_blk (c := cap) (n := n) h3 htn
    have q0 : W.cell? ⟨w.heap.size, 0, none⟩ = some (.int .i64 (n : Int)) := cell_blk h1 rfl
    have q1 : W.cell? ⟨s + 1, 0, none⟩ = some (.slice (some ⟨s, 0, none⟩) t.length (n + 16)) := cell_blk h2 rfl
    have HK := Lib.hid hK
    have H4 := Lib.hid h4
    have hlt := blk_lt hK
    have hnt : (n : Int) ≤ (t.length : Int) := by omega
    clear hcl hK h4 h1 h2 h3 hsp htn own kci kx k1 k2 k3 kn kg kp hx1
    gi_wp2
    refine ⟨by simp, .inl ⟨_, _, rfl, run_takeDeferred HK.out, ?_⟩⟩
    refine ⟨.tuple #[.string (bs (t.take n)), .int .i64 0], ?_, by rw [HKK.out, HT.out], ?_⟩
    · exact results_tmp2 (fn := Try.f28) rfl _ _ _
    · exact H4.out.trans (belowK_b (w := w) (Nat.le_refl _) _ D _ _ (by omega) HK.out rfl rfl)
end Go.Proofs.Ytgncnplgjhaojaa
