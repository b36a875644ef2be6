import Derived.Test.YtclekllaikcglaaGreatAes
import Derived.Test.YtclekllaikcglaaGreatHex
import Derived.Test.YtclekllaikcglaaGreatBase

/- Contracts: layer 4, a key's cipher. -/
namespace Go.Proofs.YtclekllaikcglaaGreat
open Go Go.RowKit
def w4 (l : List UInt32) : Array Value := (l.map fun x => Value.int .u32 (x.toNat : Int)).toArray
theorem w4_size (l : List UInt32) : (w4 l).size = l.length := by simp [w4]
theorem w4_at (l : List UInt32) (i : Nat) (h : i < l.length) : (w4 l)[i]? = some (.int .u32 (l[i].toNat : Int)) := by simp [w4, h]
theorem w4_set (l : List UInt32) (i : Nat) (x : UInt32) : (w4 l).setIfInBounds i (Value.int .u32 (x.toNat : Int)) = w4 (l.set i x) := by simp [w4, List.map_set]
def shl24 (r : UInt8) : UInt32 := UInt32.ofNat (r.toNat * 16777216)
theorem shl24_toNat (r : UInt8) : (shl24 r).toNat = r.toNat * 16777216 := UInt32.toNat_ofNat_of_lt' (by have := r.toNat_lt; show _ < 4294967296; omega)
def keyW (key : List UInt8) (i : Nat) : UInt32 := UInt32.ofNat (getB (seg key (4 * i) 4))
theorem getB_u32 (l : List UInt8) (h : l.length = 4) : getB l < 4294967296 := by
 have := getB_lt l
 rw [h] at this; exact this
def wsN (key : List UInt8) : Nat → List UInt32 × UInt8
 | 0 => ([], 1)
 | i + 1 => let p := wsN key i
  if i < 4 then (p.1 ++ [keyW key i], p.2)
  else if i % 4 = 0 then (p.1 ++ [x32 (p.1.getD (i - 4) 0) (x32 (boxW (rotr (p.1.getD (i - 1) 0) (-8))) (shl24 p.2))], tw p.2)
  else (p.1 ++ [x32 (p.1.getD (i - 4) 0) (p.1.getD (i - 1) 0)], p.2)
theorem wsN_length (key : List UInt8) : ∀ k, (wsN key k).1.length = k
 | 0 => rfl
 | k + 1 => by
  have := wsN_length key k
  unfold wsN
  simp only
  split
  ·simp [this]
  ·split <;> simp [this]
def wsA (key : List UInt8) (k : Nat) : List UInt32 := (wsN key k).1 ++ List.replicate (44 - k) 0
theorem wsA_length (key : List UInt8) (k : Nat) (h : k ≤ 44) : (wsA key k).length = 44 := by
 unfold wsA; rw [List.length_append, wsN_length, List.length_replicate]; omega
theorem wsA_set (key : List UInt8) (k : Nat) (h : k < 44) (x : UInt32) (p : List UInt32 × UInt8) (hp : wsN key (k + 1) = p) (hx : p.1 = (wsN key k).1 ++ [x]) : (wsA key k).set k x = wsA key (k + 1) := by
 unfold wsA
 have hl := wsN_length key k
 rw [List.set_append_right _ _ (by omega), hl, Nat.sub_self, show 44 - k = (44 - (k + 1)) + 1 by omega, List.replicate_succ, List.set_cons_zero, hp, hx, List.append_assoc]
 rfl
theorem wsA_at (key : List UInt8) (k j : Nat) (h : k ≤ 44) (hj : j < k) : (wsA key k)[j]'(by rw [wsA_length key k h]; omega) = (wsN key k).1.getD j 0 := by
 have hl := wsN_length key k
 unfold wsA
 rw [List.getElem_append_left (by omega)]
 simp [List.getD, show j < (wsN key k).1.length by omega]
def ksW (key : List UInt8) : List UInt32 := (wsN key 44).1
theorem ksW_length (key : List UInt8) : (ksW key).length = 44 := wsN_length key 44
def kbK (key : List UInt8) : Nat → List UInt8
 | 0 => List.replicate 176 0
 | k + 1 => splice (kbK key k) (4 * k) (putB 4 ((ksW key).getD k 0).toNat)
theorem kbK_length (key : List UInt8) : ∀ k, k ≤ 44 → (kbK key k).length = 176
 | 0, _ => List.length_replicate
 | k + 1, h => by
  have := kbK_length key k (by omega)
  rw [kbK, splice_length _ _ _ (by rw [this, putB_length]; omega), this]
def rks (key : List UInt8) : List UInt8 := kbK key 44
theorem run_copy_strC {P : Program} {dT sT ty e : TypeId} (hu : P.underlying dT = some (.slice e)) {z : Value} {by_ : Nat} (hi : (P.info? e).map (fun i => (i.zero, i.size, i.bytes)) = some (some z, 1, by_))
  (w : World) (g o n c T : Nat) (old : Array Value) (l : List UInt8) (hg : w.heap[g]? = some (.cells old T (0, 0))) (hn : l.length ≤ n) (hl : o + l.length ≤ old.size) :
  (Builtin.copy_ #[dT, sT] ty #[.slice (some ⟨g, o, none⟩) n c, .string (bs l)]).run P w = .ok (goInt l.length) (w.setRow g (old.toList.take o ++ l.map byteV ++ old.toList.drop (o + l.length)).toArray) := by
 obtain ⟨i0, hi, _, hz1, _⟩ := info_parts hi
 have hst := run_storeCells_at P g o T (l.map byteV) 0 old w hg (by simp; omega) (oneCells _ (fun _ => rfl))
 rw [Nat.add_zero, List.length_map] at hst
 have hm : l.length.min n = l.length := Nat.min_eq_left hn
 have ht : List.take l.length (List.map (fun b => Value.int IntKind.u8 (b.toNat : Int)) l) = l.map byteV := by
  rw [List.take_of_length_le (by simp)]; rfl
 simp [Builtin.copy_, run_underlying hu, sizeOf, typeInfo, hi, Builtin.lenOf, Builtin.firstCells, hm, ht, hst]
theorem wpl_copy_strC {P : Program} {ops : Array Oper} {rest : List Oper} {o : Oper} {a : Act} {Q : Exit → Act → World → Prop} {w : World} (hgd : o.guard = none) {s x : Operand} {dT sT e : TypeId}
  (ho : o.op = .call { callee := .builtin .copy, args := #[s, x], argTypes := #[dT, sT] }) (hu : P.underlying dT = some (.slice e)) {z : Value} {by_ : Nat} (hi : (P.info? e).map (fun i => (i.zero, i.size, i.bytes)) = some (some z, 1, by_))
  {g off n c T : Nat} {old : Array Value} {l : List UInt8} (h1 : a.eval s = .slice (some ⟨g, off, none⟩) n c) (h2 : a.eval x = .string (bs l)) (hg : w.heap[g]? = some (.cells old T (0, 0))) (hn : l.length ≤ n) (hl : off + l.length ≤ old.size)
  (h : ∀ w', w'.heap[g]? = some (.cells (old.toList.take off ++ l.map byteV ++ old.toList.drop (off + l.length)).toArray T (0, 0)) → Below g w w' → wpList P ops Q rest (a.put o.dst (goInt l.length)) w') : wpList P ops Q (o :: rest) a w := by
 refine wpList_plain hgd fun K hK => ?_
 have hr := run_copy_strC (P := P) (ty := o.type) (sT := sT) hu hi w g off n c T old l hg hn hl
 unfold Oper.wp execOp
 simp only [ho, resolve, invoke, builtin, Sem.run_bind, Sem.run_pure, Result.andThen_ok, List.map_toArray, List.map_cons, List.map_nil, h1, h2, hr]
 exact hK _ _ (h _ (setRow_heap w g old _ T _ hg) (setRow_below g (Nat.le_refl _) _))
theorem cC_splice (K B U : List UInt8) (o : Nat) (l : List UInt8) (h : o + l.length ≤ K.length) : ((cCells K B U).toList.take o ++ l.map byteV ++ (cCells K B U).toList.drop (o + l.length)).toArray = cCells (splice K o l) B U := by
 unfold cCells splice
 congr 1
 simp only [List.map_append, List.append_assoc]
 rw [List.take_append_of_le_length (by simp; omega), List.drop_append_of_le_length (by simp; omega), List.map_take, List.map_drop]
theorem wpl_store_part {P : Program} {ops : Array Oper} {rest : List Oper} {o : Oper} {a : Act} {Q : Exit → Act → World → Prop} {w : World} (hgd : o.guard = none) {ty : TypeId} {x y : Operand} (ho : o.op = .store ty x y) (hd : o.dst = none)
  {g off : Nat} {cs : Array Value} (hx : a.eval x = .pointer (some ⟨g, off, none⟩)) (hy : a.eval y = .agg cs) {t : TypeId} {old : Array Value} (hg : w.heap[g]? = some (.cells old t (0, 0))) (hi : (P.info? ty).map (·.size) = some cs.size)
  (hfit : off + cs.size ≤ old.size) (h1 : cs.all (·.oneCell') = true)
  (h : ∀ w', w'.heap[g]? = some (.cells (old.toList.take off ++ cs.toList ++ old.toList.drop (off + cs.size)).toArray t (0, 0)) → Below g w w' → wpList P ops Q rest a w') : wpList P ops Q (o :: rest) a w := by
 refine wpList_plain hgd fun K hK => ?_
 have hst := run_storeCells_at P g off t cs.toList 0 old w hg (by simpa using hfit) (fun v hv => (Array.all_eq_true_iff_forall_mem.1 h1) v (by simpa using hv))
 rw [Nat.add_zero, Array.length_toList] at hst
 obtain ⟨i0, hi0, hs⟩ : ∃ i0, P.info? ty = some i0 ∧ cs.size = i0.size := by
  cases hq : P.info? ty with
  | none => simp [hq] at hi
  | some i => exact ⟨i, rfl, by simp [hq] at hi; omega⟩
 have hr : (storeVar ty ⟨g, off, none⟩ (.agg cs)).run P w = .ok () (w.setRow g (old.toList.take off ++ cs.toList ++ old.toList.drop (off + cs.size)).toArray) := by
  simp [storeVar, sizeOf, typeInfo, hi0, Value.cells, hs] at hst ⊢
  exact hst
 unfold Oper.wp execOp
 simp only [ho, hx, hy, Instr.storeAt, Instr.sureAddr, Sem.run_bind, Sem.run_pure, Result.andThen_ok, hr]
 have := hK a (w.setRow g (old.toList.take off ++ cs.toList ++ old.toList.drop (off + cs.size)).toArray) (h _ (setRow_heap w g old _ t _ hg) (setRow_below g (Nat.le_refl _) _))
 show K (a.put o.dst undef) _
 rw [hd]
 exact this
def zC : Array Value := (bcells (List.replicate 688 0)).push (.bool false)
set_option maxRecDepth 100000 in
theorem zero_cipher (w : World) : Sem.run Tryz.prog (zeroValue 166) w = .ok (.agg zC) w := by kernel_rfl
theorem zC_size : zC.size = 689 := by rw [zC, Array.size_push, bcells_size, List.length_replicate]
def zK : List UInt8 := List.replicate 176 0
def zB : List UInt8 := List.replicate 256 0
theorem zK_length : zK.length = 176 := List.length_replicate
theorem zB_length : zB.length = 256 := List.length_replicate
set_option maxRecDepth 100000 in
theorem zC_made : zC.setIfInBounds 688 (.bool true) = cCells zK zB zB := by kernel_rfl
def z44 : List UInt32 := List.replicate 44 0
theorem zero_words (w : World) : Sem.run Tryz.prog (zeroValue 169) w = .ok (.agg (w4 z44)) w := by kernel_rfl
theorem info_w44 : (Tryz.prog.info? 169).map (·.size) = some 44 := by kernel_rfl
theorem und_w44 : Tryz.prog.underlying 169 = some (.array 44 46) := by kernel_rfl
end Go.Proofs.YtclekllaikcglaaGreat

/- Contracts: layer 4, New. -/
namespace Go.Proofs.YtclekllaikcglaaGreat
open Go Go.RowKit
theorem slice16_at (c o m : Nat) (hm : m < 4) (W : World) : Sem.run Tryz.prog (Instr.sliceAt 162 (.pointer (some ⟨c, o, none⟩)) (some (.int .i64 (4 * (m : Int)))) none none) W = .ok (.slice (some ⟨c, o + 4 * m, none⟩) (16 - 4 * m) (16 - 4 * m)) W := by
 rcases (by omega : m = 0 ∨ m = 1 ∨ m = 2 ∨ m = 3) with rfl | rfl | rfl | rfl <;> kernel_rfl
set_option maxRecDepth 100000 in
set_option maxHeartbeats 4000000 in
theorem New_yes (key : List UInt8) (w : World) (h : key.length = 16) : Calls Tryz.prog 111 #[.string (bs key)] w fun e w' => ∃ c, e = .returned (.tuple #[.pointer (some ⟨c, 0, none⟩), .int .i64 0]) ∧ w.heap.size ≤ c ∧ CI w' c (rks key) ∧ Ext w w' := by
 have GB := Lib.hid boxes_any
 have hz := zero_cipher
 have hzs := zC_size
 have hzm := zC_made
 have hzw := zero_words
 have HI := Lib.hid (show (Tryz.prog.info? 164).map (·.size) = some (bcells boxT).size by rw [bcells_size, boxT_length]; exact info_b256)
 have HJ := Lib.hid (show (Tryz.prog.info? 164).map (·.size) = some (bcells unT).size by rw [bcells_size, unT_length]; exact info_b256)
 have HH := Lib.hid h
 go_enter Tryz.func111, Tryz.ntmps111
 go_upto_region 4 with fail
 obtain ⟨w0, hw0⟩ : ∃ w0, w.alloc (Obj.cells (cCells zK zB zB) 166) = w0 := ⟨_, rfl⟩
 have hc0 : w0.heap[w.heap.size]? = some (.cells (cCells zK zB zB) 166 (0, 0)) := by rw [← hw0]; exact heap_alloc_new _ _
 have hx0 : Ext w w0 := by rw [← hw0]; exact (Ext.refl w).alloc _
 rw [hw0]
 clear hw0 hz hzs hzm
 have HC0 := Lib.hid hc0
 clear hc0
 have P1 : Hid (∀ K B U : List UInt8, K.length = 176 → B.length = 256 → ((cCells K B U).toList.take 176 ++ (bcells boxT).toList ++ (cCells K B U).toList.drop (176 + (bcells boxT).size)).toArray = cCells K boxT U) := Lib.hid (by
  intro K B U hK hB
  rw [bcells_size, boxT_length, bcells_toList]
  unfold cCells
  congr 1
  simp only [List.map_append, List.append_assoc]
  rw [List.take_append_of_le_length (by simp; omega), List.take_of_length_le (by simp; omega), List.drop_append, List.drop_of_length_le (by simp; omega), List.drop_append, List.drop_of_length_le (by simp; omega)]
  simp [hK, hB])
 have P2 : Hid (∀ K B U : List UInt8, K.length = 176 → B.length = 256 → U.length = 256 → ((cCells K B U).toList.take 432 ++ (bcells unT).toList ++ (cCells K B U).toList.drop (432 + (bcells unT).size)).toArray = cCells K B unT) := Lib.hid (by
  intro K B U hK hB hU
  rw [bcells_size, unT_length, bcells_toList]
  unfold cCells
  congr 1
  simp only [List.map_append, List.append_assoc]
  rw [List.take_append, List.take_of_length_le (by simp; omega), List.take_append_of_le_length (by simp; omega), List.take_of_length_le (by simp; omega), List.drop_append, List.drop_of_length_le (by simp; omega), List.drop_append, List.drop_of_length_le (by simp; omega), List.drop_append, List.drop_of_length_le (by simp; omega)]
  simp [hK, hB, hU])
 go_upto_region 5 with (first
  | (go_at_call 123; with_reducible refine (GB.out _).mono ?_; rintro e w1 ⟨rfl, hx1⟩; have HC1 := Lib.hid (hx1.keep HC0.out))
  | (refine wpl_store_part rfl rfl rfl (g := w.heap.size) (off := 176) (cs := bcells boxT) rfl rfl HC1.out HI.out (by rw [cCells_size, bcells_size, boxT_length, zK_length, zB_length]; decide) (bcells_all _) ?_; intro w2 hc2 hb2; rw [P1.out _ _ _ zK_length zB_length] at hc2; have HC2 := Lib.hid hc2; clear hc2)
  | (refine wpl_store_part rfl rfl rfl (g := w.heap.size) (off := 432) (cs := bcells unT) rfl rfl HC2.out HJ.out (by rw [cCells_size, bcells_size, boxT_length, unT_length, zK_length, zB_length]; decide) (bcells_all _) ?_; intro w3 hc3 hb3; rw [P2.out _ _ _ zK_length boxT_length zB_length] at hc3; have HC3 := Lib.hid hc3; clear hc3))
 have hx3 : Ext w w3 := ((Ext.trans hx0 hx1).trans_below hb2 (Nat.le_refl _)).trans_below hb3 (Nat.le_refl _)
 have HCI : Hid (CI w3 w.heap.size zK) := Lib.hid ⟨zK_length, HC3.out⟩
 clear hb2 hb3 hx1 hx0
 go_upto_region 7 with fail
 obtain ⟨w5, hw5⟩ : ∃ w5, w3.alloc (Obj.cells (w4 z44) 169) = w5 := ⟨_, rfl⟩
 have k5 : w5.heap[w3.heap.size]? = some (.cells (w4 (wsA key 0)) 169 (0, 0)) := by rw [← hw5]; exact heap_alloc_new _ _
 have x5 : Ext w3 w5 := by rw [← hw5]; exact (Ext.refl _).alloc _
 rw [hw5]
 clear hw5 hzw HC3
 have GT := Lib.hid (fun (x : UInt32) (W : World) => Turn_any x (-8) W)
 have GX := Lib.hid (fun (x : UInt32) (W : World) (hc : CI W w.heap.size zK) => boxed_any x w.heap.size zK W hc)
 have GW := Lib.hid twice_any
 have HX3 := Lib.hid hx3
 clear hx3
 go_wp2
 go_loopw [6, 26] (fun r i wr => ∃ k : Nat, k ≤ 44 ∧ r = .int .u8 ((wsN key k).2.toNat : Int) ∧ i = .int .i64 k ∧ wr.heap[w3.heap.size]? = some (.cells (w4 (wsA key k)) 169 (0, 0)) ∧ Ext w3 wr) (fun _ i _ => 44 - (intOf i).toNat)
 case atStart => exact ⟨0, by omega, rfl, rfl, k5, x5⟩
 case round =>
  clear k5 x5
  obtain ⟨k, hk, rfl, rfl, hb, hx⟩ := hrel
  have HB := Lib.hid hb
  clear hb
  have hal := wsA_length key k hk
  by_cases hlt : k < 44
  ·have hzc : ∃ c0, wr.cell? ⟨w3.heap.size, k, none⟩ = some c0 := ⟨_, cell_blk HB.out (w4_at _ k (by omega))⟩
   obtain ⟨c0, hc0⟩ := hzc
   have hfz := frozen_blk (i := k) HB.out
   by_cases h4 : k < 4
   ·have GG := Lib.hid (fun W => Get32_any key (4 * (k : Int)) W (by have := HH.out; omega))
    have hgv : (Get32 key (4 * (k : Int))).1 = (keyW key k).toNat := by
     unfold Get32 keyW
     rw [if_pos (by have := HH.out; omega), show (4 * (k : Int)).toNat = 4 * k by omega, UInt32.toNat_ofNat_of_lt' (getB_u32 _ (seg_length _ _ _ (by have := HH.out; omega)))]
    have HN : Hid (wsN key (k + 1) = ((wsN key k).1 ++ [keyW key k], (wsN key k).2)) := Lib.hid (by rw [wsN]; simp only [if_pos h4])
    have HS := Lib.hid (wsA_set key k hlt (keyW key k) _ HN.out rfl)
    have H2 : Hid ((wsN key (k + 1)).2 = (wsN key k).2) := Lib.hid (by rw [HN.out])
    rw [hgv] at GG
    generalize keyW key k = v at *
    generalize (Get32 key (4 * (k : Int))).2 = bb at *
    generalize (wsN key k).2 = r at *
    go_wp2_with (go_at_call 65; refine (GG.out _).mono ?_; rintro e w' ⟨rfl, rfl⟩)
    go_roundw
    case measure => simp [intOf]; omega
    case rel =>
     refine ⟨k + 1, by omega, by rw [H2.out], by go_num, ?_, hx.setCell (Nat.le_refl _) _⟩
     rw [heap_setCell_same _ HB.out, w4_set, HS.out]
   ·obtain ⟨k1, hk1⟩ : ∃ k1 : Nat, (k : Int) - 1 = (k1 : Int) := ⟨k - 1, by omega⟩
    obtain ⟨k4, hk4⟩ : ∃ k4 : Nat, (k : Int) - 4 = (k4 : Int) := ⟨k - 4, by omega⟩
    have hc1 := cell_blk (i := k1) HB.out (w4_at _ k1 (by omega))
    rw [wsA_at key k k1 hk (by omega)] at hc1
    have hc4 := cell_blk (i := k4) HB.out (w4_at _ k4 (by omega))
    rw [wsA_at key k k4 hk (by omega)] at hc4
    have e1 : k - 1 = k1 := by omega
    have e4 : k - 4 = k4 := by omega
    have hk1l : (k1 : Int) < 44 := by omega
    have hk4l : (k4 : Int) < 44 := by omega
    have hkl : (k : Int) < 44 := by omega
    by_cases hm : k % 4 = 0
    ·have HN : Hid (wsN key (k + 1) = ((wsN key k).1 ++ [x32 ((wsN key k).1.getD k4 0) (x32 (boxW (rotr ((wsN key k).1.getD k1 0) (-8))) (shl24 (wsN key k).2))], tw (wsN key k).2)) := Lib.hid (by rw [wsN]; simp only [if_neg h4, if_pos hm, e1, e4])
     have HS := Lib.hid (wsA_set key k hlt _ _ HN.out rfl)
     have H2 : Hid ((wsN key (k + 1)).2 = tw (wsN key k).2) := Lib.hid (by rw [HN.out])
     have hmi : (k : Int) % 4 = 0 := by omega
     have hr := (wsN key k).2.toNat_lt
     have hsh := shl24_toNat (wsN key k).2
     have hs1 : ((wsN key k).2.toNat : Int) * 16777216 = ((shl24 (wsN key k).2).toNat : Int) := by rw [hsh]; omega
     have HC4 := Lib.hid hc4
     clear e1 e4 hsh hc4
     generalize (wsN key k).1.getD k1 0 = n1 at *
     generalize (wsN key k).1.getD k4 0 = n4 at *
     generalize (wsN key k).2 = r at *
     go_wp2_with (first
      | (go_at_call 125; with_reducible refine (GT.out _ _).mono ?_; rintro e w6 ⟨rfl, hx6⟩; have hci := HCI.out.ext (hx.trans hx6))
      | (go_at_call 124; with_reducible refine (GX.out _ _ hci).mono ?_; rintro e w7 ⟨rfl, hx7⟩; have hx67 := hx6.trans hx7; have HB7 := Lib.hid (hx67.keep HB.out); have hc47 := hx67.cell_of HC4.out; have hc07 := hx67.cell_of hc0; have hf7 := frozen_blk (i := k) HB7.out)
      | (go_at_call 126; with_reducible refine (GW.out _ _).mono ?_; rintro e w' ⟨rfl, rfl⟩))
     go_roundw
     case measure => simp [intOf]; omega
     case rel =>
      refine ⟨k + 1, by omega, by rw [H2.out], by go_num, ?_, (hx.trans hx67).setCell (Nat.le_refl _) _⟩
      rw [heap_setCell_same _ HB7.out, w4_set, HS.out]
    ·have HN : Hid (wsN key (k + 1) = ((wsN key k).1 ++ [x32 ((wsN key k).1.getD k4 0) ((wsN key k).1.getD k1 0)], (wsN key k).2)) := Lib.hid (by rw [wsN]; simp only [if_neg h4, if_neg hm, e1, e4])
     have HS := Lib.hid (wsA_set key k hlt _ _ HN.out rfl)
     have H2 : Hid ((wsN key (k + 1)).2 = (wsN key k).2) := Lib.hid (by rw [HN.out])
     have hmi : ¬ (k : Int) % 4 = 0 := by omega
     clear e1 e4
     generalize (wsN key k).1.getD k1 0 = n1 at *
     generalize (wsN key k).1.getD k4 0 = n4 at *
     generalize (wsN key k).2 = r at *
     go_wp2
     go_roundw
     case measure => simp [intOf]; omega
     case rel =>
      refine ⟨k + 1, by omega, by rw [H2.out], by go_num, ?_, hx.setCell (Nat.le_refl _) _⟩
      rw [heap_setCell_same _ HB.out, w4_set, HS.out]
  ·obtain rfl : k = 44 := by omega
   have hws : wsA key 44 = ksW key := by simp [wsA, ksW]
   rw [hws] at HB
   generalize (wsN key 44).2 = r44
   have HIW := Lib.hid (show (Tryz.prog.info? 169).map (·.size) = some (w4 (ksW key)).size by rw [w4_size, ksW_length key]; exact info_w44)
   obtain ⟨wt, hwt⟩ : ∃ wt, w4 (ksW key) = wt := ⟨_, rfl⟩
   rw [hwt] at HB HIW
   have HWT := Lib.hid hwt
   have HCW := HCI.out.ext hx
   have HX := HX3.out.trans hx
   clear hwt hws hal hk hlt
   go_wp2_with (refine wpList_load_row rfl _ _ rfl w3.heap.size rfl _ _ _ _ HB.out und_w44 rfl HIW.out ?_)
   obtain ⟨wo, hwo⟩ : ∃ x, x = wr := ⟨_, rfl⟩
   subst hwo
   go_loopw [67] (fun i wr => ∃ k : Nat, k ≤ 44 ∧ i = .int .i64 k ∧ wr.heap[w.heap.size]? = some (.cells (cCells (kbK key k) boxT unT) 166 (0, 0)) ∧ Ext w wr) (fun i _ => 44 - (intOf i).toNat)
   case atStart => exact ⟨0, by omega, rfl, HCW.2, HX⟩
   case round =>
    obtain ⟨k, hk, rfl, hb, hx2⟩ := hrel
    have HB2 := Lib.hid hb
    clear hb
    by_cases hlt : k < 44
    ·obtain ⟨q, hq4⟩ : ∃ q : Nat, (k : Int) / 4 = (q : Int) := ⟨k / 4, by omega⟩
     obtain ⟨m, hm4⟩ : ∃ m : Nat, (k : Int) % 4 = (m : Int) := ⟨k % 4, by omega⟩
     have hkqm : Hid (q * 16 + 4 * m = 4 * k) := Lib.hid (by omega)
     have hq11 : (q : Int) < 11 := by omega
     have hm3 : m < 4 := by omega
     have hq11n : q < 11 := by omega
     have hwk : wt[k]? = some (.int .u32 (((ksW key).getD k 0).toNat : Int)) := by
      rw [← HWT.out, w4_at _ k (by rw [ksW_length key]; exact hlt)]
      simp [List.getD, show k < (ksW key).length by rw [ksW_length key]; exact hlt]
     have HKB := Lib.hid (kbK_length key k hk)
     have HN : Hid (kbK key (k + 1) = splice (kbK key k) (4 * k) (putB 4 ((ksW key).getD k 0).toNat)) := Lib.hid rfl
     generalize (ksW key).getD k 0 = n at *
     generalize kbK key k = kb at *
     have hnl := n.toNat_lt
     have hwq : IntKind.i64.wrap (q : Int) = (q : Int) := by rw [IntKind.wrap_i64]; omega
     have hwm : IntKind.i64.wrap (4 * (m : Int)) = 4 * (m : Int) := by rw [IntKind.wrap_i64]; omega
     have htm : (k : Int).tmod 4 = (m : Int) := by rw [Int.tmod_eq_emod_of_nonneg (by omega)]; exact hm4
     have hsl : ∀ W, Sem.run Tryz.prog (Instr.sliceAt 162 (.pointer (some ⟨w.heap.size, q * 16, none⟩)) (some (.int .i64 (4 * (m : Int)))) none none) W = .ok (.slice (some ⟨w.heap.size, q * 16 + 4 * m, none⟩) (16 - 4 * m) (16 - 4 * m)) W := fun W => slice16_at w.heap.size (q * 16) m hm3 W
     have hix : ∀ W, Sem.run Tryz.prog (Instr.index 169 (.agg wt) (.int .i64 (k : Int))) W = .ok (.int .u32 (n.toNat : Int)) W := fun W => run_index_one und_w44 (by kernel_rfl : Tryz.prog.underlying 46 = some (.int .u32)) rfl (by kernel_rfl) wt _ k hlt hwk W
     have GP := Lib.hid (fun W => Put32_any n.toNat W (by unfold U32; omega))
     go_upto_region 21 with fail
     refine Loud.wp_region_weave 12 wr (Loud.sps [.val (.pointer (some ⟨w.heap.size, 0, none⟩)), .val (.int .i64 (k : Int)), .val (.int .i64 (q : Int)), .val (.pointer (some ⟨w.heap.size, 0, none⟩)), .val (.pointer (some ⟨w.heap.size, 0, none⟩)), .val (.pointer (some ⟨w.heap.size, q * 16, none⟩)), .val (.int .i64 (k : Int)), .val (.int .i64 (m : Int)), .val (.int .i64 (4 * (m : Int))), .val (.slice (some ⟨w.heap.size, q * 16 + 4 * m, none⟩) (16 - 4 * m) (16 - 4 * m)), .val (.int .u32 (n.toNat : Int)), .val (.string (bs (putB 4 n.toNat)))]) (by kernel_rfl) (by kernel_rfl) (by show Ext _ _; repeat (first | exact Ext.refl _ | assumption | (with_reducible refine Ext.drew ?_) | (with_reducible refine Ext.drewN ?_ _) | (with_reducible refine Ext.alloc ?_ _) | (refine Ext.trans ?_ (by assumption)))) (Loud.sps_st _) ?wAx1 ?whAx1 ?whSx1 ?whFx1
     case whAx1 => intro u K hK; simp only [List.take_succ_cons, List.take_zero, Loud.puts]; go_simp; exact hK
     case whSx1 =>
      refine ⟨?wsx1_0, ?wsx1_1, ?wsx1_2, ?wsx1_3, ?wsx1_4, ?wsx1_5, ?wsx1_6, ?wsx1_7, ?wsx1_8, ?wsx1_9, ?wsx1_10, ?wsx1_11, trivial⟩
      all_goals (intro u β wq hq h; repeat (obtain ⟨h1, h⟩ := h; first | (replace h1 := h1 rfl; simp only [go_sem] at h1; try (obtain ⟨h1, h1b⟩ := h1)) | (have hno := (h1 : Region.binds _ _ = true → _); clear hno h1)))
      case wsx1_11 =>
       refine Or.inl ⟨rfl, fun K hK => ?_⟩
       go_simp
       refine (GP.out _).mono ?_; rintro e w1 ⟨rfl, hx1⟩; exact ⟨_, rfl, hK _ 0 _ hx1 rfl⟩
      all_goals (first | refine Or.inl ⟨rfl, fun K hK => ?_⟩ | refine Or.inl ⟨Loud.wanted_of rfl rfl (congrArg some (by assumption)), fun K hK => ?_⟩); go_simp; exact hK _ 0 _ (Ext.refl _) rfl
     intro u β w8 hq h
     have h0 := h 0 (by omega)
     have h1 := h 1 (by omega)
     have h2 := h 2 (by omega)
     have h3 := h 3 (by omega)
     have h4 := h 4 (by omega)
     have h5 := h 5 (by omega)
     have h6 := h 6 (by omega)
     have h7 := h 7 (by omega)
     have h8 := h 8 (by omega)
     have h9 := h 9 (by omega)
     have h10 := h 10 (by omega)
     have h11 := h 11 (by omega)
     clear h
     simp only [go_sem] at h0 h1 h2 h3 h4 h5 h6 h7 h8 h9 h10 h11
     simp only [List.drop_succ_cons, List.drop_zero]
     rw [h11]
     go_wp2_with (refine wpl_copy_strC rfl rfl und_bytes info_u8 (by first | rfl | exact h9) (by first | rfl | exact h11) (hq.keep HB2.out) (by rw [putB_length]; omega) (by rw [putB_length, cCells_size, HKB.out]; have := hkqm.out; omega) ?_; intro w9 hb9 hbel9; rw [cC_splice _ _ _ _ _ (by rw [putB_length, HKB.out]; have := hkqm.out; omega), hkqm.out, ← HN.out] at hb9; have HB9 := Lib.hid hb9; clear hb9)
     go_roundw
     case measure => simp [intOf]; omega
     case rel =>
      exact ⟨k + 1, by omega, by go_num, HB9.out, (hx2.trans hq).trans_below hbel9⟩
    ·obtain rfl : k = 44 := by omega
     go_wp2
     go_returns
     exact ⟨w.heap.size, rfl, Nat.le_refl _, ⟨kbK_length key 44 (by omega), HB2.out⟩, hx2⟩
end Go.Proofs.YtclekllaikcglaaGreat

/- Contracts: layer 4, a block ciphered. -/
namespace Go.Proofs.YtclekllaikcglaaGreat
open Go Go.RowKit
theorem zero_b16 (w : World) : Sem.run Tryz.prog (zeroValue 162) w = .ok (.agg (bcells (List.replicate 16 0))) w := by kernel_rfl
theorem info_b16 : (Tryz.prog.info? 162).map (·.size) = some 16 := by kernel_rfl
theorem und_b16 : Tryz.prog.underlying 162 = some (.array 16 5) := by kernel_rfl
def z16 : List UInt8 := List.replicate 16 0
theorem zero_b16' (w : World) : Sem.run Tryz.prog (zeroValue 162) w = .ok (.agg (bcells z16)) w := zero_b16 w
theorem z16_length : z16.length = 16 := List.length_replicate
def subS (s : List UInt8) : List UInt8 := (List.range 16).map fun i => boxO (s.getD ((i + 4 * (i % 4)) % 16) 0)
@[simp] theorem subS_length (s : List UInt8) : (subS s).length = 16 := by simp [subS]
def mixC (f s : List UInt8) : Nat → List UInt8
 | 0 => s
 | j + 1 => splice (mixC f s j) (4 * j) (mixL f (((mixC f s j).drop (4 * j)).take 4))
theorem mixC_length (f s : List UInt8) (hs : s.length = 16) : ∀ j, j ≤ 4 → (mixC f s j).length = 16
 | 0, _ => hs
 | j + 1, h => by
  have := mixC_length f s hs j (by omega)
  rw [mixC, splice_length _ _ _ (by rw [this, mixL_length]; omega), this]
def roundS (K s : List UInt8) (r : Nat) : List UInt8 := xorL (if r < 10 then mixC [2, 3, 1, 1] (subS s) 4 else subS s) (rkey K r)
def blkN (K s : List UInt8) : Nat → List UInt8
 | 0 => xorL s (rkey K 0)
 | r + 1 => roundS K (blkN K s r) (r + 1)
theorem xorL_len (a b : List UInt8) (ha : a.length = 16) (hb : b.length = 16) : (xorL a b).length = 16 := by rw [xorL_length a b (by omega)]; exact ha
theorem blkN_length (K s : List UInt8) (hK : K.length = 176) (hs : s.length = 16) : ∀ r, r ≤ 10 → (blkN K s r).length = 16
 | 0, _ => xorL_len _ _ hs (rkey_length K hK 0 (by omega))
 | r + 1, h => by
  have hm := mixC_length [2, 3, 1, 1] (subS (blkN K s r)) (subS_length _) 4 (by omega)
  unfold blkN roundS
  split
  ·exact xorL_len _ _ hm (rkey_length K hK _ h)
  ·exact xorL_len _ _ (subS_length _) (rkey_length K hK _ h)
def encL (K s : List UInt8) : List UInt8 := blkN K s 10
def subK (s : List UInt8) (k : Nat) : List UInt8 := (subS s).take k ++ s.drop k
theorem subK_length (s : List UInt8) (hs : s.length = 16) (k : Nat) (hk : k ≤ 16) : (subK s k).length = 16 := by
 unfold subK; rw [List.length_append, List.length_take, subS_length, List.length_drop]; omega
theorem subK_set (s : List UInt8) (hs : s.length = 16) (k : Nat) (hk : k < 16) : (subK s k).set k (boxO (s.getD ((k + 4 * (k % 4)) % 16) 0)) = subK s (k + 1) := by
 unfold subK
 rw [List.set_append_right _ _ (by rw [List.length_take, subS_length]; omega), List.length_take, subS_length, Nat.min_eq_left (by omega), Nat.sub_self]
 rw [List.take_succ_eq_append_getElem (by rw [subS_length]; exact hk), List.drop_eq_getElem_cons (by omega), List.set_cons_zero, List.append_assoc]
 simp [subS]
theorem subK_all (s : List UInt8) (hs : s.length = 16) : subK s 16 = subS s := by
 unfold subK
 rw [List.take_of_length_le (by simp), List.drop_of_length_le (by omega), List.append_nil]
theorem slice16_4 (c j : Nat) (hj : j < 4) (W : World) : Sem.run Tryz.prog (Instr.sliceAt 162 (.pointer (some ⟨c, 0, none⟩)) (some (.int .i64 (4 * (j : Int)))) (some (.int .i64 (4 * (j : Int) + 4))) none) W = .ok (.slice (some ⟨c, 4 * j, none⟩) 4 (16 - 4 * j)) W := by
 rcases (by omega : j = 0 ∨ j = 1 ∨ j = 2 ∨ j = 3) with rfl | rfl | rfl | rfl <;> kernel_rfl
theorem splice_z16 (s : List UInt8) (hs : s.length = 16) : splice z16 0 (s.take 16) = s := by
 rw [List.take_of_length_le (by omega)]
 unfold splice
 rw [List.take_zero, List.nil_append, List.drop_of_length_le (by rw [z16_length]; omega), List.append_nil]
set_option maxRecDepth 100000 in
set_option maxHeartbeats 4000000 in
theorem Block_yes (c : Nat) (K s : List UInt8) (w : World) (hci : CI w c K) (hs : s.length = 16) :
  Calls Tryz.prog 128 #[.pointer (some ⟨c, 0, none⟩), .string (bs s)] w fun e w' => e = .returned (.tuple #[.string (bs (encL K s)), .bool true]) ∧ Ext w w' := by
 have hmd := hci.made
 have hcl := blk_lt hci.2
 have hK := Lib.hid hci.1
 have HC := Lib.hid hci
 have hz := zero_b16'
 have HI := Lib.hid info_b16
 have HSP := Lib.hid (splice_z16 s hs)
 have GA := Lib.hid (fun (g : Nat) (t : List UInt8) (r : Nat) (W : World) (h1 : CI W c K) (h2 : c < g) (h3 : t.length = 16) (h4 : r ≤ 10) (h5 : W.heap[g]? = some (.cells (bcells t) 162 (0, 0))) => adds_any c K g t r W h1 h2 h3 h4 h5)
 have GA0 : Hid (∀ (g : Nat) (t : List UInt8) (W : World) (h1 : CI W c K) (h2 : c < g) (h3 : t.length = 16) (h5 : W.heap[g]? = some (.cells (bcells t) 162 (0, 0))), Calls Tryz.prog 147 #[.pointer (some ⟨c, 0, none⟩), .pointer (some ⟨g, 0, none⟩), .int .i64 0] W fun e w' => e = .returned (.tuple #[]) ∧ w'.heap[g]? = some (.cells (bcells (xorL t (rkey K 0))) 162 (0, 0)) ∧ Below g W w') := Lib.hid fun g t W h1 h2 h3 h5 => adds_any c K g t 0 W h1 h2 h3 (by omega) h5
 have GM : Hid (∀ (g o cap : Nat) (t : List UInt8) (W : World) (h1 : W.heap[g]? = some (.cells (bcells t) 162 (0, 0))) (h2 : o + 4 ≤ t.length), Calls Tryz.prog 148 #[.slice (some ⟨g, o, none⟩) 4 cap, .agg #[.int .u8 2, .int .u8 3, .int .u8 1, .int .u8 1]] W fun e w' => e = .returned (.tuple #[]) ∧ w'.heap[g]? = some (.cells (bcells (splice t o (mixL [2, 3, 1, 1] ((t.drop o).take 4)))) 162 (0, 0)) ∧ Below g W w') := Lib.hid fun g o cap t W h1 h2 => mixed_any g o cap t [2, 3, 1, 1] 2 3 1 1 rfl _ W h1 h2
 clear hci
 go_enter Tryz.func128, Tryz.ntmps128
 go_upto_region 6 with (first
  | (refine wpl_copy_str rfl rfl und_bytes info_u8 rfl rfl (L := z16) (heap_alloc_new w _) (by rw [z16_length]; decide) ?_; intro w1 hb1 _ hbel1; rw [HSP.out] at hb1; have HB1 := Lib.hid hb1; have hx1 : Ext w w1 := ((Ext.refl w).alloc _).trans_below hbel1; clear hb1 hbel1)
  | (go_at_call 147; refine (GA0.out w.heap.size s w1 (HC.out.ext hx1) hcl hs HB1.out).mono ?_; rintro e w2 ⟨rfl, hb2, hbel2⟩; have HB2 := Lib.hid hb2; have hx2 : Ext w w2 := hx1.trans_below hbel2; clear hb2 hbel2))
 have HX2 := Lib.hid hx2
 clear hx2 hx1 hz
 have hz := zero_b16'
 go_wp2
 go_loopw [7] (fun i wr => ∃ r : Nat, 1 ≤ r ∧ r ≤ 11 ∧ i = .int .i64 r ∧ wr.heap[w.heap.size]? = some (.cells (bcells (blkN K s (r - 1))) 162 (0, 0)) ∧ Ext w wr) (fun i _ => 11 - (intOf i).toNat)
 case atStart => exact ⟨1, by omega, by omega, rfl, HB2.out, HX2.out⟩
 case round =>
  obtain ⟨r, hr1, hr11, rfl, hb, hx⟩ := hrel
  have HB := Lib.hid hb
  clear hb
  by_cases hlt : r ≤ 10
  ·have htl := blkN_length K s hK.out hs (r - 1) (by omega)
   have HN : Hid (blkN K s r = roundS K (blkN K s (r - 1)) r) := Lib.hid (by
    obtain ⟨r', rfl⟩ : ∃ r', r = r' + 1 := ⟨r - 1, by omega⟩
    rfl)
   generalize blkN K s (r - 1) = t at *
   have hIt := Lib.hid (show (Tryz.prog.info? 162).map (·.size) = some (bcells t).size by rw [bcells_size, htl]; exact info_b16)
   have hZt := Lib.hid (show (bcells z16).size = (bcells t).size by rw [bcells_size, bcells_size, htl, z16_length])
   go_upto_region 10 with (first
    | (refine wpList_load_row rfl _ _ rfl w.heap.size rfl _ _ _ _ HB.out und_b16 rfl hIt.out ?_)
    | (refine wpList_store_row rfl _ _ _ rfl wr.heap.size (bcells t) rfl rfl _ _ (heap_alloc_new wr _) hIt.out hZt.out (bcells_all _) ?_))
   obtain ⟨w4, hw4⟩ : ∃ w4, (wr.alloc (Obj.cells (bcells z16) 162)).setRow wr.heap.size (bcells t) = w4 := ⟨_, rfl⟩
   have hb8 : w4.heap[wr.heap.size]? = some (.cells (bcells t) 162 (0, 0)) := by rw [← hw4]; exact setRow_get (heap_alloc_new wr _)
   have hx4 : Ext wr w4 := by rw [← hw4]; exact below_setRow ((Ext.refl wr).alloc _) (Nat.le_refl _) _
   have hbB := hx4.keep HB.out
   have hxw := hx.trans hx4
   have hBlt : w.heap.size < wr.heap.size := blk_lt HB.out
   rw [hw4]
   clear hw4 hz
   obtain ⟨W8, hW8⟩ : ∃ W8, wr.heap.size = W8 := ⟨_, rfl⟩
   rw [hW8] at hb8 hBlt ⊢
   have K8 := Lib.hid hb8; have KB := Lib.hid hbB; have KX := Lib.hid hxw
   clear hb8 hbB hxw hx4 hW8 HB hx
   go_wp2
   go_loopw [35] (fun i wr => ∃ k : Nat, k ≤ 16 ∧ i = .int .i64 k ∧ wr.heap[w.heap.size]? = some (.cells (bcells (subK t k)) 162 (0, 0)) ∧ wr.heap[W8]? = some (.cells (bcells t) 162 (0, 0)) ∧ Ext w wr) (fun i _ => 16 - (intOf i).toNat)
   case atStart => exact ⟨0, by omega, rfl, by rw [show subK t 0 = t by simp [subK]]; exact KB.out, K8.out, KX.out⟩
   case round =>
    clear K8 KB KX
    obtain ⟨k, hk, rfl, hb, hb8, hx⟩ := hrel
    have HB := Lib.hid hb; have H8 := Lib.hid hb8
    clear hb hb8
    by_cases hlk : k < 16
    ·obtain ⟨m, hm4⟩ : ∃ m : Nat, (k : Int) % 4 = (m : Int) := ⟨k % 4, by omega⟩
     obtain ⟨idx, hidx⟩ : ∃ idx : Nat, ((k : Int) + 4 * (m : Int)) % 16 = (idx : Int) := ⟨(k + 4 * m) % 16, by omega⟩
     have hidn : idx = (k + 4 * (k % 4)) % 16 := by omega
     have hi16 : (idx : Int) < 16 := by omega
     have hk16 : (k : Int) < 16 := by omega
     have hx8 := cell_blk (i := idx) H8.out (bcells_at t idx (by omega))
     rw [show t[idx]'(by omega) = t.getD idx 0 by simp [List.getD, show idx < t.length by omega]] at hx8
     have hbx := (HC.out.ext hx).box (t.getD idx 0)
     have HS := Lib.hid (subK_set t htl k hlk)
     rw [← hidn] at HS
     have hcc : ∃ c0, wr.cell? ⟨w.heap.size, k, none⟩ = some c0 := ⟨_, cell_blk HB.out (bcells_at _ k (by rw [subK_length t htl k hk]; exact hlk))⟩
     obtain ⟨c0, hc0⟩ := hcc
     have htm : (k : Int).tmod 4 = (m : Int) := by rw [Int.tmod_eq_emod_of_nonneg (by omega)]; exact hm4
     have hwm : IntKind.i64.wrap (4 * (m : Int)) = 4 * (m : Int) := by rw [IntKind.wrap_i64]; omega
     have hwa : IntKind.i64.wrap ((k : Int) + 4 * (m : Int)) = (k : Int) + 4 * (m : Int) := by rw [IntKind.wrap_i64]; omega
     have hti : ((k : Int) + 4 * (m : Int)).tmod 16 = (idx : Int) := by rw [Int.tmod_eq_emod_of_nonneg (by omega)]; exact hidx
     clear hidn
     generalize t.getD idx 0 = x at *
     have hxl := x.toNat_lt
     have hxi : (x.toNat : Int) < 256 := by omega
     go_wp2
     refine Loud.wp_region_weave 15 wr (Loud.sps [.val (.int .i64 (k : Int)), .val (.pointer (some ⟨c, 0, none⟩)), .val (.int .i64 (k : Int)), .val (.int .i64 (k : Int)), .val (.int .i64 (m : Int)), .val (.int .i64 (4 * (m : Int))), .val (.int .i64 ((k : Int) + 4 * (m : Int))), .val (.int .i64 (idx : Int)), .val (.pointer (some ⟨W8, idx, none⟩)), .val (.int .u8 (x.toNat : Int)), .val (.pointer (some ⟨c, 0, none⟩)), .val (.pointer (some ⟨c, 176, none⟩)), .val (.pointer (some ⟨c, 176 + x.toNat, none⟩)), .val (.int .u8 ((boxO x).toNat : Int)), .val (.pointer (some ⟨w.heap.size, k, none⟩))]) (by kernel_rfl) (by kernel_rfl) (by show Ext _ _; repeat (first | exact Ext.refl _ | assumption | (with_reducible refine Ext.drew ?_) | (with_reducible refine Ext.drewN ?_ _) | (with_reducible refine Ext.alloc ?_ _) | (refine Ext.trans ?_ (by assumption)))) (Loud.sps_st _) ?wAx1 ?whAx1 ?whSx1 ?whFx1
     case whAx1 => intro u K hK; simp only [List.take_succ_cons, List.take_zero, Loud.puts]; go_simp; exact hK
     case whSx1 =>
      refine ⟨?wsx1_0, ?wsx1_1, ?wsx1_2, ?wsx1_3, ?wsx1_4, ?wsx1_5, ?wsx1_6, ?wsx1_7, ?wsx1_8, ?wsx1_9, ?wsx1_10, ?wsx1_11, ?wsx1_12, ?wsx1_13, ?wsx1_14, trivial⟩
      all_goals (intro u β wq hq h; repeat (obtain ⟨h1, h⟩ := h; first | (replace h1 := h1 rfl; simp only [go_sem] at h1; try (obtain ⟨h1, h1b⟩ := h1)) | (have hno := (h1 : Region.binds _ _ = true → _); clear hno h1)))
      case wsx1_9 =>
       refine Or.inl ⟨rfl, fun K hK => ?_⟩
       have hqc := hq.cell_of hx8
       go_simp
       exact hK _ 0 _ (Ext.refl _) rfl
      case wsx1_13 =>
       refine Or.inl ⟨rfl, fun K hK => ?_⟩
       have hqc := hq.cell_of hbx
       go_simp
       exact hK _ 0 _ (Ext.refl _) rfl
      all_goals (first | refine Or.inl ⟨rfl, fun K hK => ?_⟩ | refine Or.inl ⟨Loud.wanted_of rfl rfl (congrArg some (by assumption)), fun K hK => ?_⟩); go_simp; exact hK _ 0 _ (Ext.refl _) rfl
     intro u β w5 hq h
     have h0 := h 0 (by omega)
     have h1 := h 1 (by omega)
     have h2 := h 2 (by omega)
     have h3 := h 3 (by omega)
     have h4 := h 4 (by omega)
     have h5 := h 5 (by omega)
     have h6 := h 6 (by omega)
     have h7 := h 7 (by omega)
     have h8 := h 8 (by omega)
     have h9 := h 9 (by omega)
     have h10 := h 10 (by omega)
     have h11 := h 11 (by omega)
     have h12 := h 12 (by omega)
     have h13 := h 13 (by omega)
     have h14 := h 14 (by omega)
     clear h
     simp only [go_sem] at h0 h1 h2 h3 h4 h5 h6 h7 h8 h9 h10 h11 h12 h13 h14
     simp only [List.drop_succ_cons, List.drop_zero]
     rw [h14]
     have hbq := Lib.hid (hq.keep HB.out)
     have h8q := Lib.hid (hq.keep H8.out)
     have hc1 := hq.cell_of hc0
     have hf1 : w5.frozen? ⟨w.heap.size, k, none⟩ = false := frozen_blk hbq.out
     have hxq := hx.trans hq
     try rw [h13]
     go_wp2
     go_roundw
     case measure => simp [intOf]; omega
     case rel =>
      refine ⟨k + 1, by omega, by go_num, ?_, ?_, hxq.setCell (Nat.le_refl _) _⟩
      ·rw [heap_setCell_same _ hbq.out, bcells_set, HS.out]
      ·rw [heap_setCell_other _ _ _ (by show W8 ≠ w.heap.size; omega)]; exact h8q.out
    ·obtain rfl : k = 16 := by omega
     rw [subK_all t htl] at HB
     have HX := hx
     clear H8
     by_cases hr10 : r < 10
     ·go_wp2
      obtain ⟨wo, hwo⟩ : ∃ x, x = wr := ⟨_, rfl⟩
      subst hwo
      go_loopw [10] (fun i wr => ∃ j : Nat, j ≤ 4 ∧ i = .int .i64 (4 * (j : Int)) ∧ wr.heap[w.heap.size]? = some (.cells (bcells (mixC [2, 3, 1, 1] (subS t) j)) 162 (0, 0)) ∧ Ext w wr) (fun i _ => 16 - (intOf i).toNat)
      case atStart => exact ⟨0, by omega, rfl, HB.out, hx⟩
      case round =>
       clear HB HX hx
       obtain ⟨j, hj, rfl, hb, hx⟩ := hrel
       have HB := Lib.hid hb
       clear hb
       have HX := hx
       by_cases hlj : j < 4
       ·have hsl := slice16_4 w.heap.size j hlj
        have hml := mixC_length [2, 3, 1, 1] (subS t) (subS_length t) j hj
        have HM : Hid (mixC [2, 3, 1, 1] (subS t) (j + 1) = splice (mixC [2, 3, 1, 1] (subS t) j) (4 * j) (mixL [2, 3, 1, 1] (((mixC [2, 3, 1, 1] (subS t) j).drop (4 * j)).take 4))) := Lib.hid rfl
        generalize mixC [2, 3, 1, 1] (subS t) j = u at *
        go_wp2_with (go_at_call 148; refine (GM.out w.heap.size (4 * j) _ u wr HB.out (by omega)).mono ?_; rintro e w6 ⟨rfl, hb6, hbel6⟩; have HB6 := Lib.hid hb6; have hx6 : Ext w w6 := hx.trans_below hbel6; clear hb6 hbel6)
        go_roundw
        case measure => simp [intOf]; omega
        case rel =>
         repeat apply Exists.intro
         refine ⟨?_, rfl⟩
         exact ⟨j + 1, by omega, by go_num, by rw [HM.out]; exact HB6.out, hx6⟩
       ·obtain rfl : j = 4 := by omega
        have hml := mixC_length [2, 3, 1, 1] (subS t) (subS_length t) 4 (by omega)
        go_wp2_with (go_at_call 147; refine (GA.out w.heap.size (mixC [2, 3, 1, 1] (subS t) 4) r _ (HC.out.ext HX) hcl hml hlt HB.out).mono ?_; rintro e w6 ⟨rfl, hb6, hbel6⟩; have HB6 := Lib.hid hb6; have hx6 : Ext w w6 := HX.trans_below hbel6; clear hb6 hbel6)
        go_roundw
        case measure => simp [intOf]; omega
        case rel => exact ⟨r + 1, by omega, by omega, by go_num, by rw [show r + 1 - 1 = r by omega, HN.out, roundS, if_pos hr10]; exact HB6.out, hx6⟩
     ·go_wp2
      obtain ⟨wo, hwo⟩ : ∃ x, x = wr := ⟨_, rfl⟩
      subst hwo
      go_loopw [10] (fun i wr => i = .int .i64 0 ∧ wr.heap[w.heap.size]? = some (.cells (bcells (subS t)) 162 (0, 0)) ∧ Ext w wr) (fun _ _ => 0)
      case atStart => exact ⟨rfl, HB.out, hx⟩
      case round =>
       clear HB HX hx
       obtain ⟨rfl, hb, hx⟩ := hrel
       have HB := Lib.hid hb
       clear hb
       have HX := hx
       go_wp2_with (go_at_call 147; refine (GA.out w.heap.size (subS t) r _ (HC.out.ext HX) hcl (subS_length t) hlt HB.out).mono ?_; rintro e w6 ⟨rfl, hb6, hbel6⟩; have HB6 := Lib.hid hb6; have hx6 : Ext w w6 := HX.trans_below hbel6; clear hb6 hbel6)
       go_roundw
       case measure => simp [intOf]; omega
       case rel => exact ⟨r + 1, by omega, by omega, by go_num, by rw [show r + 1 - 1 = r by omega, HN.out, roundS, if_neg hr10]; exact HB6.out, hx6⟩
  ·obtain rfl : r = 11 := by omega
   have htl := blkN_length K s hK.out hs 10 (by omega)
   have HE : Hid (encL K s = blkN K s 10) := Lib.hid rfl
   rw [show 11 - 1 = 10 from rfl] at HB
   generalize blkN K s 10 = t at *
   have kc := fun c => to_str_of (c := c) (n := 16) HB.out htl
   clear htl
   go_wp2
   go_returns
   exact ⟨by rw [HE.out]; rfl, hx⟩
end Go.Proofs.YtclekllaikcglaaGreat

/- Contracts: layer 4, a cipher's round keys. -/
namespace Go.Proofs.YtclekllaikcglaaGreat
open Go Go.RowKit
theorem info_strR : (Tryz.prog.info? 9).map (fun i => (i.zero, i.size, i.bytes)) = some (some (.string { data := #[] }), 1, 16) := by kernel_rfl
theorem und_strsR : Tryz.prog.underlying 25 = some (.slice 9) := by kernel_rfl
def rkL (K : List UInt8) : List (List UInt8) := (List.range 11).map (rkey K)
theorem rkL_length (K : List UInt8) : (rkL K).length = 11 := by simp [rkL]
end Go.Proofs.YtclekllaikcglaaGreat

/- Plain laws of layer 4: boxes; round keys by words. -/
namespace Go.Proofs.YtclekllaikcglaaGreat
open Go Go.RowKit
theorem b8_self (b : UInt8) : b8 b.toNat = b := by unfold b8; simp
theorem wsN_keep (key : List UInt8) (n : Nat) : ∀ d, (wsN key (n + 1 + d)).1.getD n 0 = (wsN key (n + 1)).1.getD n 0
 | 0 => rfl
 | d + 1 => by
  rw [← wsN_keep key n d]
  have hl := wsN_length key (n + 1 + d)
  have : ∃ x r, wsN key (n + 1 + d + 1) = ((wsN key (n + 1 + d)).1 ++ [x], r) := by
   rw [wsN]
   split
   ·exact ⟨_, _, rfl⟩
   ·split
    ·exact ⟨_, _, rfl⟩
    ·exact ⟨_, _, rfl⟩
  obtain ⟨x, r, hx⟩ := this
  rw [show n + 1 + (d + 1) = n + 1 + d + 1 by omega, hx]
  simp only [List.getD]
  rw [List.getElem?_append_left (by omega)]
theorem ksW_at (key : List UInt8) (n : Nat) (hn : n < 44) : (ksW key).getD n 0 = (wsN key (n + 1)).1.getD n 0 := by
 have := wsN_keep key n (44 - (n + 1))
 rw [show n + 1 + (44 - (n + 1)) = 44 by omega] at this
 exact this
theorem wsN_last (key : List UInt8) (n : Nat) (x : UInt32) (r : UInt8) (h : wsN key (n + 1) = ((wsN key n).1 ++ [x], r)) : (wsN key (n + 1)).1.getD n 0 = x := by
 have hl := wsN_length key n
 rw [h]
 simp only [List.getD]
 rw [List.getElem?_append_right (by omega), hl, Nat.sub_self]
 rfl
theorem wsN_old (key : List UInt8) (n j : Nat) (hj : j < n) (hn : n ≤ 44) : (wsN key n).1.getD j 0 = (ksW key).getD j 0 := by
 rw [ksW_at key j (by omega)]
 have := wsN_keep key j (n - (j + 1))
 rw [show j + 1 + (n - (j + 1)) = n by omega] at this
 exact this
theorem ksW_key (key : List UInt8) (n : Nat) (h : n < 4) : (ksW key).getD n 0 = keyW key n := by
 rw [ksW_at key n (by omega)]
 exact wsN_last key n _ (wsN key n).2 (by rw [wsN]; simp only [if_pos h])
theorem ksW_mid (key : List UInt8) (n : Nat) (h4 : 4 ≤ n) (hn : n < 44) (hm : n % 4 ≠ 0) : (ksW key).getD n 0 = x32 ((ksW key).getD (n - 4) 0) ((ksW key).getD (n - 1) 0) := by
 rw [ksW_at key n hn, wsN_last key n (x32 ((wsN key n).1.getD (n - 4) 0) ((wsN key n).1.getD (n - 1) 0)) (wsN key n).2 (by rw [wsN]; simp only [if_neg (show ¬ n < 4 by omega), if_neg hm]), wsN_old key n (n - 4) (by omega) (by omega), wsN_old key n (n - 1) (by omega) (by omega)]
theorem putB_get (n m : Nat) (h : m < 4) : (putB 4 n)[m]? = some (UInt8.ofNat (n / 2 ^ (8 * (3 - m)))) := by
 rw [putB_at 4 n m h, show 4 - 1 - m = 3 - m by omega]
theorem kbK_at (key : List UInt8) : ∀ (n : Nat), n ≤ 44 → ∀ (i m : Nat), i < n → m < 4 → (kbK key n)[4 * i + m]? = some (UInt8.ofNat (((ksW key).getD i 0).toNat / 2 ^ (8 * (3 - m))))
 | 0, _, i, _, hi, _ => by omega
 | n + 1, hn, i, m, hi, hm => by
  have hl := kbK_length key n (by omega)
  have hp := putB_length 4 ((ksW key).getD n 0).toNat
  rw [kbK]
  unfold splice
  by_cases h : i = n
  ·subst h
   rw [List.append_assoc, List.getElem?_append_right (by rw [List.length_take]; omega), List.length_take, hl, Nat.min_eq_left (by omega), show 4 * i + m - 4 * i = m by omega, List.getElem?_append_left (by omega)]
   exact putB_get _ m hm
  ·rw [List.append_assoc, List.getElem?_append_left (by rw [List.length_take]; omega), List.getElem?_take_of_lt (by omega)]
   exact kbK_at key n (by omega) i m (by omega) hm
theorem rks_at (key : List UInt8) (i m : Nat) (hi : i < 44) (hm : m < 4) : (rks key)[4 * i + m]? = some (UInt8.ofNat (((ksW key).getD i 0).toNat / 2 ^ (8 * (3 - m)))) := kbK_at key 44 (by omega) i m hi hm
theorem rks_length (key : List UInt8) : (rks key).length = 176 := kbK_length key 44 (by omega)
theorem xor_byte (a b : UInt32) (k : Nat) : UInt8.ofNat ((x32 a b).toNat / 2 ^ k) = x8 (UInt8.ofNat (a.toNat / 2 ^ k)) (UInt8.ofNat (b.toNat / 2 ^ k)) := by
 apply UInt8.toNat_inj.1
 unfold x32
 rw [x8_toNat, UInt32.toNat_xor, UInt8.toNat_ofNat', UInt8.toNat_ofNat', UInt8.toNat_ofNat']
 show (a.toNat ^^^ b.toNat) / 2 ^ k % 2 ^ 8 = (a.toNat / 2 ^ k % 2 ^ 8) ^^^ (b.toNat / 2 ^ k % 2 ^ 8)
 rw [← Nat.shiftRight_eq_div_pow, ← Nat.shiftRight_eq_div_pow, ← Nat.shiftRight_eq_div_pow, Nat.shiftRight_xor_distrib, Nat.xor_mod_two_pow]
theorem putB_getB4 (a b c d : UInt8) : putB 4 (getB [a, b, c, d]) = [a, b, c, d] := by
 have ha := a.toNat_lt; have hb := b.toNat_lt; have hc := c.toNat_lt; have hd := d.toNat_lt
 have e : getB [a, b, c, d] = ((a.toNat * 256 + b.toNat) * 256 + c.toNat) * 256 + d.toNat := by simp [getB]
 rw [e]
 simp only [putB, List.range, List.range.loop, List.map_cons, List.map_nil]
 congr 1
 ·apply UInt8.toNat_inj.1; rw [UInt8.toNat_ofNat']; omega
 ·congr 1
  ·apply UInt8.toNat_inj.1; rw [UInt8.toNat_ofNat']; omega
  ·congr 1
   ·apply UInt8.toNat_inj.1; rw [UInt8.toNat_ofNat']; omega
   ·congr 1
    apply UInt8.toNat_inj.1; rw [UInt8.toNat_ofNat']; omega
theorem putB_getB_len (l : List UInt8) (h : l.length = 4) : putB 4 (getB l) = l := by
 match l, h with
 | [a, b, c, d], _ => exact putB_getB4 a b c d
theorem rks_first (key : List UInt8) (h : key.length = 16) : rkey (rks key) 0 = key := by
 have hK := rks_length key
 apply List.ext_getElem?
 intro n
 by_cases hn : n < 16
 ·have h1 := rks_at key (n / 4) (n % 4) (by omega) (by omega)
  rw [show 4 * (n / 4) + n % 4 = n by omega, ksW_key key (n / 4) (by omega)] at h1
  have hs : (seg key (4 * (n / 4)) 4).length = 4 := by unfold seg; rw [List.length_take, List.length_drop]; omega
  have h2 : (keyW key (n / 4)).toNat = getB (seg key (4 * (n / 4)) 4) := by
   unfold keyW; rw [UInt32.toNat_ofNat', Nat.mod_eq_of_lt (getB_u32 _ hs)]
  rw [h2, ← putB_get _ _ (by omega), putB_getB_len _ hs] at h1
  unfold rkey
  rw [List.getElem?_take_of_lt hn, List.getElem?_drop, Nat.mul_zero, Nat.zero_add, h1]
  unfold seg
  rw [List.getElem?_take_of_lt (by omega), List.getElem?_drop, show 4 * (n / 4) + n % 4 = n by omega]
 ·rw [List.getElem?_eq_none (by rw [rkey_length _ hK 0 (by omega)]; omega), List.getElem?_eq_none (by omega)]
end Go.Proofs.YtclekllaikcglaaGreat

/- Contracts: layer 4, a block that comes back; nil ciphers. -/
namespace Go.Proofs.YtclekllaikcglaaGreat
open Go Go.RowKit
end Go.Proofs.YtclekllaikcglaaGreat

/- Plain laws of layer 4: products as those of polynomials; columns, rounds and blocks back. -/
namespace Go.Proofs.YtclekllaikcglaaGreat
open Go Go.RowKit
instance : Std.Associative x8 := ⟨x8_assoc⟩
instance : Std.Commutative x8 := ⟨x8_comm⟩
theorem encL_length (K s : List UInt8) (hK : K.length = 176) (hs : s.length = 16) : (encL K s).length = 16 := blkN_length K s hK hs 10 (by omega)
end Go.Proofs.YtclekllaikcglaaGreat

/- Plain laws of layer 4: round keys, byte by byte. -/
namespace Go.Proofs.YtclekllaikcglaaGreat
open Go Go.RowKit
def wb (w : UInt32) (m : Nat) : UInt8 := UInt8.ofNat (w.toNat / 2 ^ (8 * (3 - m)))
theorem wb_x (a b : UInt32) (m : Nat) : wb (x32 a b) m = x8 (wb a m) (wb b m) := xor_byte a b _
theorem wb_toNat (w : UInt32) (m : Nat) : (wb w m).toNat = w.toNat / 2 ^ (8 * (3 - m)) % 256 := by unfold wb; rw [UInt8.toNat_ofNat']
theorem rks_wb (key : List UInt8) (i m : Nat) (hi : i < 44) (hm : m < 4) : (rks key).getD (4 * i + m) 0 = wb ((ksW key).getD i 0) m := by
 simp only [List.getD]
 rw [rks_at key i m hi hm]; rfl
theorem ksW_top (key : List UInt8) (n : Nat) (h4 : 4 ≤ n) (hn : n < 44) (hm : n % 4 = 0) : (ksW key).getD n 0 = x32 ((ksW key).getD (n - 4) 0) (x32 (boxW (rotr ((ksW key).getD (n - 1) 0) (-8))) (shl24 (wsN key n).2)) := by
 rw [ksW_at key n hn, wsN_last key n (x32 ((wsN key n).1.getD (n - 4) 0) (x32 (boxW (rotr ((wsN key n).1.getD (n - 1) 0) (-8))) (shl24 (wsN key n).2))) (tw (wsN key n).2) (by rw [wsN]; simp only [if_neg (show ¬ n < 4 by omega), if_pos hm]), wsN_old key n (n - 4) (by omega) (by omega), wsN_old key n (n - 1) (by omega) (by omega)]
theorem rot_toNat (x : UInt32) : (rotr x (-8)).toNat = x.toNat % 16777216 * 256 + x.toNat / 16777216 := by
 have hx := x.toNat_lt
 have h : rotr x (-8) = UInt32.ofNat (rotrN x.toNat 24) := rfl
 rw [h, UInt32.toNat_ofNat_of_lt' (rotrN_lt _ _ hx)]
 unfold rotrN
 rw [show x.toNat * 2 ^ (32 - 24) % 4294967296 = (x.toNat % 16777216) <<< 8 by rw [Nat.shiftLeft_eq]; omega, Nat.or_comm, ← Nat.shiftLeft_add_eq_or_of_lt (show x.toNat / 2 ^ 24 < 2 ^ 8 by omega), Nat.shiftLeft_eq]
theorem byteK_wb (n : UInt32) (k : Nat) (hk : k < 4) : byteK n k = wb n k := by
 apply UInt8.toNat_inj.1
 unfold byteK
 rw [b8_mod, wb_toNat, show 24 - 8 * k = 8 * (3 - k) by omega]
theorem wb_box (n : UInt32) (k : Nat) (hk : k < 4) : wb (boxW n) k = boxO (wb n k) := by
 have h0 := (boxO (byteK n 0)).toNat_lt; have h1 := (boxO (byteK n 1)).toNat_lt; have h2 := (boxO (byteK n 2)).toNat_lt; have h3 := (boxO (byteK n 3)).toNat_lt
 rw [← byteK_wb n k hk]
 apply UInt8.toNat_inj.1
 rw [wb_toNat, boxW_toNat]
 simp only [bwN]
 rcases (by omega : k = 0 ∨ k = 1 ∨ k = 2 ∨ k = 3) with rfl | rfl | rfl | rfl <;> simp only [Nat.reduceSub, Nat.reduceMul, Nat.reducePow] <;> omega
theorem four_at (a b c d : Nat) (ha : a < 256) (hb : b < 256) (hc : c < 256) (hd : d < 256) :
  (((a * 256 + b) * 256 + c) * 256 + d) / 2 ^ 24 % 256 = a ∧ (((a * 256 + b) * 256 + c) * 256 + d) / 2 ^ 16 % 256 = b ∧ (((a * 256 + b) * 256 + c) * 256 + d) / 2 ^ 8 % 256 = c ∧ (((a * 256 + b) * 256 + c) * 256 + d) / 2 ^ 0 % 256 = d := by
 have h1 : (((a * 256 + b) * 256 + c) * 256 + d) / 2 ^ 24 = a := by omega
 have h2 : (((a * 256 + b) * 256 + c) * 256 + d) / 2 ^ 16 = a * 256 + b := by omega
 have h3 : (((a * 256 + b) * 256 + c) * 256 + d) / 2 ^ 8 = (a * 256 + b) * 256 + c := by omega
 rw [h1, h2, h3]
 refine ⟨by omega, by omega, by omega, by omega⟩
theorem wb_rot (x : UInt32) (k : Nat) (hk : k < 4) : wb (rotr x (-8)) k = wb x ((k + 1) % 4) := by
 have hx := x.toNat_lt
 apply UInt8.toNat_inj.1
 rw [wb_toNat, wb_toNat, rot_toNat]
 generalize x.toNat = n at *
 obtain ⟨a, b, c, d, hb, hc, hd, ha, rfl⟩ : ∃ a b c d : Nat, b < 256 ∧ c < 256 ∧ d < 256 ∧ a < 256 ∧ n = ((a * 256 + b) * 256 + c) * 256 + d := ⟨n / 16777216, n / 65536 % 256, n / 256 % 256, n % 256, by omega, by omega, by omega, by omega, by omega⟩
 rw [show (((a * 256 + b) * 256 + c) * 256 + d) % 16777216 * 256 + (((a * 256 + b) * 256 + c) * 256 + d) / 16777216 = ((b * 256 + c) * 256 + d) * 256 + a by omega]
 clear hx
 obtain ⟨p0, p1, p2, p3⟩ := four_at a b c d ha hb hc hd
 obtain ⟨q0, q1, q2, q3⟩ := four_at b c d a hb hc hd ha
 rcases (by omega : k = 0 ∨ k = 1 ∨ k = 2 ∨ k = 3) with rfl | rfl | rfl | rfl
 ·exact q0.trans p1.symm
 ·exact q1.trans p2.symm
 ·exact q2.trans p3.symm
 ·exact q3.trans p0.symm
theorem wb_shl (r : UInt8) (k : Nat) (hk : k < 4) : wb (shl24 r) k = if k = 0 then r else 0 := by
 have hr := r.toNat_lt
 apply UInt8.toNat_inj.1
 rw [wb_toNat, shl24_toNat]
 rcases (by omega : k = 0 ∨ k = 1 ∨ k = 2 ∨ k = 3) with rfl | rfl | rfl | rfl <;> simp <;> omega
def bI (key : List UInt8) (i : Nat) : List UInt8 :=
 if i % 4 = 0 then [x8 (boxO ((rks key).getD (4 * i - 3) 0)) (wsN key i).2, boxO ((rks key).getD (4 * i - 2) 0), boxO ((rks key).getD (4 * i - 1) 0), boxO ((rks key).getD (4 * i - 4) 0)]
 else [(rks key).getD (4 * i - 4) 0, (rks key).getD (4 * i - 3) 0, (rks key).getD (4 * i - 2) 0, (rks key).getD (4 * i - 1) 0]
theorem rks_fore (key : List UInt8) (i k : Nat) (h4 : 4 ≤ i) (hi : i < 44) (hk : k < 4) : (rks key).getD (4 * i + k) 0 = x8 ((rks key).getD (4 * i - 16 + k) 0) ((bI key i).getD k 0) := by
 rw [rks_wb key i k hi hk, show 4 * i - 16 + k = 4 * (i - 4) + k by omega, rks_wb key (i - 4) k (by omega) hk]
 have e0 : (rks key).getD (4 * i - 4) 0 = wb ((ksW key).getD (i - 1) 0) 0 := by rw [show 4 * i - 4 = 4 * (i - 1) + 0 by omega, rks_wb key (i - 1) 0 (by omega) (by omega)]
 have e1 : (rks key).getD (4 * i - 3) 0 = wb ((ksW key).getD (i - 1) 0) 1 := by rw [show 4 * i - 3 = 4 * (i - 1) + 1 by omega, rks_wb key (i - 1) 1 (by omega) (by omega)]
 have e2 : (rks key).getD (4 * i - 2) 0 = wb ((ksW key).getD (i - 1) 0) 2 := by rw [show 4 * i - 2 = 4 * (i - 1) + 2 by omega, rks_wb key (i - 1) 2 (by omega) (by omega)]
 have e3 : (rks key).getD (4 * i - 1) 0 = wb ((ksW key).getD (i - 1) 0) 3 := by rw [show 4 * i - 1 = 4 * (i - 1) + 3 by omega, rks_wb key (i - 1) 3 (by omega) (by omega)]
 unfold bI
 rw [e0, e1, e2, e3]
 by_cases hm : i % 4 = 0
 ·rw [if_pos hm, ksW_top key i h4 hi hm, wb_x, wb_x, wb_box _ k hk, wb_rot _ k hk, wb_shl _ k hk]
  rcases (by omega : k = 0 ∨ k = 1 ∨ k = 2 ∨ k = 3) with rfl | rfl | rfl | rfl <;> simp [x8_zero_right]
 ·rw [if_neg hm, ksW_mid key i h4 hi hm, wb_x]
  rcases (by omega : k = 0 ∨ k = 1 ∨ k = 2 ∨ k = 3) with rfl | rfl | rfl | rfl <;> simp
theorem wsN_fac (key : List UInt8) (i : Nat) (h4 : 4 ≤ i) : (wsN key (i + 1)).2 = if i % 4 = 0 then tw (wsN key i).2 else (wsN key i).2 := by
 rw [wsN]
 simp only [if_neg (show ¬ i < 4 by omega)]
 split <;> rfl
theorem wsN_four (key : List UInt8) : (wsN key 4).2 = 1 := rfl
theorem gm_two_all : ∀ b : Fin 256, gm (b8 b.val) 2 = tw (b8 b.val) := by decide +kernel
theorem gm_two (b : UInt8) : gm b 2 = tw b := by
 have := gm_two_all ⟨b.toNat, b.toNat_lt⟩
 simp only [b8_self] at this
 exact this
theorem rks_key (key : List UInt8) (h : key.length = 16) : (rks key).take 16 = key := by
 have := rks_first key h
 unfold rkey at this
 simpa using this
end Go.Proofs.YtclekllaikcglaaGreat

/- The document's example of a block ciphered. -/
namespace Go.Proofs.YtclekllaikcglaaGreat
open Go Go.RowKit
end Go.Proofs.YtclekllaikcglaaGreat

/- The statements of layer 4: works. -/
namespace Go.Proofs.YtclekllaikcglaaGreat
open Go Go.RowKit
end Go.Proofs.YtclekllaikcglaaGreat

/- The statements of layer 4: full; the walk of AesOnce. -/
namespace Go.Proofs.YtclekllaikcglaaGreat
open Go Go.RowKit
theorem run_index_str (l : List UInt8) (k : Nat) (hk : k < l.length) (w : World) : (Instr.index 9 (.string (bs l)) (.int .i64 (k : Int))).run Tryz.prog w = .ok (.int .u8 ((l.getD k 0).toNat : Int)) w := by
 have h1 := run_index_string (P := Tryz.prog) w 9 (bs l) .i64 (k : Int) und_string
 rw [dif_pos ⟨by omega, by rw [bs_size]; omega⟩] at h1
 simp only [bs_get, Int.toNat_natCast] at h1
 rw [h1]
 simp [List.getD, hk]
theorem rounds_look {w : World} {B : Nat} {T : TypeId} {v : Value} {K : List UInt8} (h : Row w B T v ((rkL K).map strV)) :
  ∃ g cap, v = .slice (some ⟨g, 0, none⟩) 11 cap ∧ ∀ i, i < 11 → w.cell? ⟨g, i, none⟩ = some (.string (bs (rkey K i))) := by
 have hl : ((rkL K).map strV).length = 11 := by rw [List.length_map, rkL_length]
 rcases h.look with ⟨_, h2⟩ | ⟨g, cap, cur, rfl, _⟩
 ·rw [h2] at hl; cases hl
 ·refine ⟨g, cap, by rw [hl], fun i hi => ?_⟩
  have := Row.cellAt h i (by omega)
  rw [this]
  simp [rkL, strV]
end Go.Proofs.YtclekllaikcglaaGreat
