/- Contracts: layer 4, a key's cipher. -/
import Derived.Test.YtgncnplgjhaojaaMixed
import Derived.Test.YtgncnplgjhaojaaHex
namespace Go.Proofs.Ytgncnplgjhaojaa
open Go Go.RowKit

def w4 (l : List UInt32) : Array Value := (l.map fun x => Value.int .u32 (x.toNat : Int)).toArray
theorem w4_size (l : List UInt32) : (w4 l).size = l.length := by simp [w4]
theorem w4_at (l : List UInt32) (i : Nat) (h : i < l.length) : (w4 l)[i]? = some (.int .u32 (l[i].toNat : Int)) := by simp [w4, h]
theorem w4_set (l : List UInt32) (i : Nat) (x : UInt32) : (w4 l).setIfInBounds i (Value.int .u32 (x.toNat : Int)) = w4 (l.set i x) := by simp [w4, List.map_set]
theorem w4_all (l : List UInt32) : (w4 l).all (·.oneCell') = true := by
  rw [Array.all_eq_true_iff_forall_mem]
  intro v hv
  obtain ⟨b, _, rfl⟩ := List.mem_map.1 (by simpa [w4] using hv)
  rfl
def shl24 (r : UInt8) : UInt32 := UInt32.ofNat (r.toNat * 16777216)
theorem shl24_toNat (r : UInt8) : (shl24 r).toNat = r.toNat * 16777216 := UInt32.toNat_ofNat_of_lt' (by have := r.toNat_lt; show _ < 4294967296; omega)
def keyW (key : List UInt8) (i : Nat) : UInt32 := UInt32.ofNat (getB (seg key (4 * i) 4))
theorem getB_u32 (l : List UInt8) (h : l.length = 4) : getB l < 4294967296 := by
  have := getB_lt l
  rw [h] at this; exact this
/-- The first k words of a key's schedule, and the factor. -/
def wsN (key : List UInt8) : Nat → List UInt32 × UInt8
  | 0 => ([], 1)
  | i + 1 => let p := wsN key i
    if i < 4 then (p.1 ++ [keyW key i], p.2)
    else if i % 4 = 0 then (p.1 ++ [x32 (p.1.getD (i - 4) 0) (x32 (boxW (rotr (p.1.getD (i - 1) 0) (-8))) (shl24 p.2))], tw p.2)
    else (p.1 ++ [x32 (p.1.getD (i - 4) 0) (p.1.getD (i - 1) 0)], p.2)
theorem wsN_length (key : List UInt8) : ∀ k, (wsN key k).1.length = k
  | 0 => rfl
  | k + 1 => by
    have := wsN_length key k
    unfold wsN
    simp only
    split
    · simp [this]
    · split <;> simp [this]
/-- What lies in the words' array. -/
def wsA (key : List UInt8) (k : Nat) : List UInt32 := (wsN key k).1 ++ List.replicate (44 - k) 0
theorem wsA_length (key : List UInt8) (k : Nat) (h : k ≤ 44) : (wsA key k).length = 44 := by
  unfold wsA; rw [List.length_append, wsN_length, List.length_replicate]; omega
theorem wsA_set (key : List UInt8) (k : Nat) (h : k < 44) (x : UInt32) (p : List UInt32 × UInt8) (hp : wsN key (k + 1) = p) (hx : p.1 = (wsN key k).1 ++ [x]) : (wsA key k).set k x = wsA key (k + 1) := by
  unfold wsA
  have hl := wsN_length key k
  rw [List.set_append_right _ _ (by omega), hl, Nat.sub_self, show 44 - k = (44 - (k + 1)) + 1 by omega, List.replicate_succ, List.set_cons_zero, hp, hx, List.append_assoc]
  rfl
theorem wsA_at (key : List UInt8) (k j : Nat) (h : k ≤ 44) (hj : j < k) : (wsA key k)[j]'(by rw [wsA_length key k h]; omega) = (wsN key k).1.getD j 0 := by
  have hl := wsN_length key k
  unfold wsA
  rw [List.getElem_append_left (by omega)]
  simp [List.getD, show j < (wsN key k).1.length by omega]
/-- A key's words. -/
def ksW (key : List UInt8) : List UInt32 := (wsN key 44).1
theorem ksW_length (key : List UInt8) : (ksW key).length = 44 := wsN_length key 44
/-- The round keys' bytes of the first k words. -/
def kbK (key : List UInt8) : Nat → List UInt8
  | 0 => List.replicate 176 0
  | k + 1 => splice (kbK key k) (4 * k) (putB 4 ((ksW key).getD k 0).toNat)
theorem kbK_length (key : List UInt8) : ∀ k, k ≤ 44 → (kbK key k).length = 176
  | 0, _ => List.length_replicate
  | k + 1, h => by
    have := kbK_length key k (by omega)
    rw [kbK, splice_length _ _ _ (by rw [this, putB_length]; omega), this]
def rks (key : List UInt8) : List UInt8 := kbK key 44
theorem run_copy_strC {P : Program} {dT sT ty e : TypeId} (hu : P.underlying dT = some (.slice e)) {z : Value} {by_ : Nat} (hi : (P.info? e).map (fun i => (i.zero, i.size, i.bytes)) = some (some z, 1, by_))
    (w : World) (g o n c T : Nat) (old : Array Value) (l : List UInt8) (hg : w.heap[g]? = some (.cells old T (0, 0))) (hn : l.length ≤ n) (hl : o + l.length ≤ old.size) :
    (Builtin.copy_ #[dT, sT] ty #[.slice (some ⟨g, o, none⟩) n c, .string (bs l)]).run P w = .ok (goInt l.length) (w.setRow g (old.toList.take o ++ l.map byteV ++ old.toList.drop (o + l.length)).toArray) := by
  obtain ⟨i0, hi, _, hz1, _⟩ := info_parts hi
  have hst := run_storeCells_at P g o T (l.map byteV) 0 old w hg (by simp; omega) (oneCells _ (fun _ => rfl))
  rw [Nat.add_zero, List.length_map] at hst
  have hm : l.length.min n = l.length := Nat.min_eq_left hn
  have ht : List.take l.length (List.map (fun b => Value.int IntKind.u8 (b.toNat : Int)) l) = l.map byteV := by
    rw [List.take_of_length_le (by simp)]; rfl
  simp [Builtin.copy_, run_underlying hu, sizeOf, typeInfo, hi, Builtin.lenOf, Builtin.firstCells, hm, ht, hst]
theorem wpl_copy_strC {P : Program} {ops : Array Oper} {rest : List Oper} {o : Oper} {a : Act} {Q : Exit → Act → World → Prop} {w : World} (hgd : o.guard = none) {s x : Operand} {dT sT e : TypeId}
    (ho : o.op = .call { callee := .builtin .copy, args := #[s, x], argTypes := #[dT, sT] }) (hu : P.underlying dT = some (.slice e)) {z : Value} {by_ : Nat} (hi : (P.info? e).map (fun i => (i.zero, i.size, i.bytes)) = some (some z, 1, by_))
    {g off n c T : Nat} {old : Array Value} {l : List UInt8} (h1 : a.eval s = .slice (some ⟨g, off, none⟩) n c) (h2 : a.eval x = .string (bs l)) (hg : w.heap[g]? = some (.cells old T (0, 0))) (hn : l.length ≤ n) (hl : off + l.length ≤ old.size)
    (h : ∀ w', w'.heap[g]? = some (.cells (old.toList.take off ++ l.map byteV ++ old.toList.drop (off + l.length)).toArray T (0, 0)) → Below g w w' → wpList P ops Q rest (a.put o.dst (goInt l.length)) w') : wpList P ops Q (o :: rest) a w := by
  refine wpList_plain hgd fun K hK => ?_
  have hr := run_copy_strC (P := P) (ty := o.type) (sT := sT) hu hi w g off n c T old l hg hn hl
  unfold Oper.wp execOp
  simp only [ho, resolve, invoke, builtin, Sem.run_bind, Sem.run_pure, Result.andThen_ok, List.map_toArray, List.map_cons, List.map_nil, h1, h2, hr]
  exact hK _ _ (h _ (setRow_heap w g old _ T _ hg) (setRow_below g (Nat.le_refl _) _))
theorem cC_splice (K B U : List UInt8) (o : Nat) (l : List UInt8) (h : o + l.length ≤ K.length) : ((cCells K B U).toList.take o ++ l.map byteV ++ (cCells K B U).toList.drop (o + l.length)).toArray = cCells (splice K o l) B U := by
  unfold cCells splice
  congr 1
  simp only [List.map_append, List.append_assoc]
  rw [List.take_append_of_le_length (by simp; omega), List.drop_append_of_le_length (by simp; omega), List.map_take, List.map_drop]
/-- A store of a whole array into part of a block. -/
theorem wpl_store_part {P : Program} {ops : Array Oper} {rest : List Oper} {o : Oper} {a : Act} {Q : Exit → Act → World → Prop} {w : World} (hgd : o.guard = none) {ty : TypeId} {x y : Operand} (ho : o.op = .store ty x y) (hd : o.dst = none)
    {g off : Nat} {cs : Array Value} (hx : a.eval x = .pointer (some ⟨g, off, none⟩)) (hy : a.eval y = .agg cs) {t : TypeId} {old : Array Value} (hg : w.heap[g]? = some (.cells old t (0, 0))) (hi : (P.info? ty).map (·.size) = some cs.size)
    (hfit : off + cs.size ≤ old.size) (h1 : cs.all (·.oneCell') = true)
    (h : ∀ w', w'.heap[g]? = some (.cells (old.toList.take off ++ cs.toList ++ old.toList.drop (off + cs.size)).toArray t (0, 0)) → Below g w w' → wpList P ops Q rest a w') : wpList P ops Q (o :: rest) a w := by
  refine wpList_plain hgd fun K hK => ?_
  have hst := run_storeCells_at P g off t cs.toList 0 old w hg (by simpa using hfit) (fun v hv => (Array.all_eq_true_iff_forall_mem.1 h1) v (by simpa using hv))
  rw [Nat.add_zero, Array.length_toList] at hst
  obtain ⟨i0, hi0, hs⟩ : ∃ i0, P.info? ty = some i0 ∧ cs.size = i0.size := by
    cases hq : P.info? ty with
    | none => simp [hq] at hi
    | some i => exact ⟨i, rfl, by simp [hq] at hi; omega⟩
  have hr : (storeVar ty ⟨g, off, none⟩ (.agg cs)).run P w = .ok () (w.setRow g (old.toList.take off ++ cs.toList ++ old.toList.drop (off + cs.size)).toArray) := by
    simp [storeVar, sizeOf, typeInfo, hi0, Value.cells, hs] at hst ⊢
    exact hst
  unfold Oper.wp execOp
  simp only [ho, hx, hy, Instr.storeAt, Instr.sureAddr, Sem.run_bind, Sem.run_pure, Result.andThen_ok, hr]
  have := hK a (w.setRow g (old.toList.take off ++ cs.toList ++ old.toList.drop (off + cs.size)).toArray) (h _ (setRow_heap w g old _ t _ hg) (setRow_below g (Nat.le_refl _) _))
  show K (a.put o.dst undef) _
  rw [hd]
  exact this
def zC : Array Value := (bcells (List.replicate 688 0)).push (.bool false)
set_option maxRecDepth 100000 in
theorem zero_cipher (w : World) : Sem.run Try.prog (zeroValue 59) w = .ok (.agg zC) w := by kernel_rfl
theorem zC_size : zC.size = 689 := by rw [zC, Array.size_push, bcells_size, List.length_replicate]
def zK : List UInt8 := List.replicate 176 0
def zB : List UInt8 := List.replicate 256 0
theorem zK_length : zK.length = 176 := List.length_replicate
theorem zB_length : zB.length = 256 := List.length_replicate
set_option maxRecDepth 100000 in
theorem zC_made : zC.setIfInBounds 688 (.bool true) = cCells zK zB zB := by kernel_rfl
def z44 : List UInt32 := List.replicate 44 0
theorem zero_words (w : World) : Sem.run Try.prog (zeroValue 60) w = .ok (.agg (w4 z44)) w := by kernel_rfl
theorem info_w44 : (Try.prog.info? 60).map (·.size) = some 44 := by kernel_rfl
theorem und_w44 : Try.prog.underlying 60 = some (.array 44 42) := by kernel_rfl
end Go.Proofs.Ytgncnplgjhaojaa
