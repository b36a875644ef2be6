/- Plain lemmas on worlds, byte strings and slices, over any program. -/
import Derived.WalkKit
import Derived.WalkSpells
import Derived.WalkLawsBesides
import Derived.Lib.Hide
import Derived.Deep.QuietTactic
import Derived.BigQuiet
import Derived.StillTailTactics
import Derived.IntWalk
import Derived.Handy
import Derived.ProofKit
import Derived.SizedLaws
import Derived.OpenShut
import Derived.ShutString
import Derived.Laws.CopyOwn
import Derived.SliceStrings
import Derived.Deep.Slices
import Derived.RangeFuncNested
import Derived.RangeFuncBound
import Derived.RangeFuncCalls
import Derived.RangeFuncLeaves
import Derived.Shelf.Abstract
import Derived.Shelf.RegionOpen
import Derived.OwnWalkIn
import Derived.TacticsInMore
import Derived.LoopNIn
import Derived.LoopIn
import Derived.Lib.AppendStr
namespace Go.Proofs.YtclekllaikcglaaGreat
open Go Go.RowKit

/-- A text's bytes as the model's string. -/
def bs (l : List UInt8) : ByteArray := ⟨l.toArray⟩
theorem bs_of (s : ByteArray) : s = bs s.data.toList := by cases s; simp [bs]
theorem bs_ex (s : ByteArray) : ∃ l, s = bs l := ⟨_, bs_of s⟩
@[simp, go_sem] theorem bs_size (l : List UInt8) : (bs l).size = l.length := by simp [bs, ByteArray.size]
@[simp, go_sem] theorem bs_toList (l : List UInt8) : (bs l).toList = l := by simp [bs]
@[simp, go_sem] theorem bs_dataList (l : List UInt8) : (bs l).data.toList = l := by simp [bs]
@[simp, go_sem] theorem bs_data (l : List UInt8) : (bs l).data = l.toArray := rfl
@[simp, go_sem] theorem bs_append (a b : List UInt8) : bs a ++ bs b = bs (a ++ b) := by simp [bs, ByteArray.mk_append_mk]
theorem bs_extract (l : List UInt8) (i j : Nat) : (bs l).extract i j = bs ((l.drop i).take (j - i)) := by simp [bs, ByteArray.extract_mk]
@[simp, go_sem] theorem bs_inj (a b : List UInt8) : bs a = bs b ↔ a = b := by
  constructor
  · intro h; have := congrArg (fun s => s.data.toList) h; simpa using this
  · rintro rfl; rfl
@[simp, go_sem] theorem bs_get (l : List UInt8) (i : Nat) (h : i < (bs l).size) : (bs l)[i] = l[i]'(by simpa using h) := by
  show (bs l).data[i] = _
  simp [bs]
theorem bs_empty : ({ data := #[] } : ByteArray) = bs [] := rfl

/-- Byte cells. -/
def bcells (l : List UInt8) : Array Value := (l.map fun b => Value.int .u8 (b.toNat : Int)).toArray
@[simp] theorem bcells_size (l : List UInt8) : (bcells l).size = l.length := by simp [bcells]
theorem bcells_get? (l : List UInt8) (i : Nat) : (bcells l)[i]? = l[i]?.map fun b => Value.int .u8 (b.toNat : Int) := by simp [bcells]
theorem bcells_at (l : List UInt8) (i : Nat) (h : i < l.length) : (bcells l)[i]? = some (Value.int .u8 (l[i].toNat : Int)) := by rw [bcells_get?]; simp [h]
theorem bcells_set (l : List UInt8) (i : Nat) (x : UInt8) : (bcells l).setIfInBounds i (Value.int .u8 (x.toNat : Int)) = bcells (l.set i x) := by
  simp [bcells, List.map_set]
theorem bcells_replicate (n : Nat) : Array.replicate n (Value.int .u8 0) = bcells (List.replicate n 0) := by
  simp [bcells]

/-- The world has grown: what was there is as it was. -/
def Ext (w w' : World) : Prop := Below w.heap.size w w'
theorem Ext.refl (w : World) : Ext w w := Below.refl _ _
theorem Ext.trans {a b c : World} (h : Ext a b) (k : Ext b c) : Ext a c := Below.trans h (Below.mono k h.size)
theorem Ext.below {w w' : World} (h : Ext w w') : Below w.heap.size w w' := h
theorem Ext.of_eq {w w' : World} (h : w = w') : Ext w w' := h ▸ Ext.refl _
theorem Ext.alloc {a w : World} (h : Ext a w) (o : Obj) : Ext a (w.alloc o) := Below.alloc h (Below.size h) o
theorem Ext.drew {a w : World} (h : Ext a w) : Ext a w.drew := Below.drew h
theorem Ext.drewN {a w : World} (h : Ext a w) (n : Nat) : Ext a (w.drewN n) := below_drewN h n
theorem Ext.setCell {a w : World} (h : Ext a w) {p : Addr} (hp : a.heap.size ≤ p.block) (u : Value) : Ext a (w.setCell p u) := Below.setCell h hp u
theorem Ext.trans_below {B : Nat} {a b c : World} (h : Ext a b) (k : Below B b c) (hB : a.heap.size ≤ B := by omega) : Ext a c := Below.trans h (Below.mono k hB)
theorem Ext.size {a w : World} (h : Ext a w) : a.heap.size ≤ w.heap.size := Below.size h
theorem Ext.block {a w : World} (h : Ext a w) {k : Nat} (hk : k < a.heap.size) : w.heap[k]? = a.heap[k]? := Below.block h k hk
theorem Ext.keep {a w : World} (h : Ext a w) {k : Nat} {o : Obj} (hk : a.heap[k]? = some o) : w.heap[k]? = some o := by
  rw [h.block ((Array.getElem?_eq_some_iff.1 hk).1)]; exact hk
theorem Ext.cell_of {a w : World} (h : Ext a w) {p : Addr} {v : Value} (hp : a.cell? p = some v) : w.cell? p = some v := by
  rw [h.below.cell (World.block_lt_of_cell? _ _ hp)]; exact hp
theorem blk_lt {w : World} {k : Nat} {o : Obj} (hk : w.heap[k]? = some o) : k < w.heap.size := (Array.getElem?_eq_some_iff.1 hk).1

/-- The cells of a block that is known whole. -/
theorem cell_blk {w : World} {b i : Nat} {cs : Array Value} {T : TypeId} {fz : Nat × Nat} {v : Value} (h : w.heap[b]? = some (.cells cs T fz)) (hi : cs[i]? = some v) : w.cell? ⟨b, i, none⟩ = some v := by
  simp [World.cell?, h, hi]
theorem frozen_blk {w : World} {b i : Nat} {cs : Array Value} {T : TypeId} (h : w.heap[b]? = some (.cells cs T (0, 0))) : w.frozen? ⟨b, i, none⟩ = false := by
  simp [World.frozen?, h]

theorem heap_alloc_new (w : World) (o : Obj) : (w.alloc o).heap[w.heap.size]? = some o := by
  show (w.heap.push o)[w.heap.size]? = _
  simp
theorem heap_alloc_old (w : World) (o : Obj) {k : Nat} {x : Obj} (h : w.heap[k]? = some x) : (w.alloc o).heap[k]? = some x := by
  rw [Below.heap_alloc w o k (blk_lt h)]; exact h
theorem heap_setCell_same {w : World} {b i : Nat} {cs : Array Value} {T : TypeId} {fz : Nat × Nat} (v : Value) (h : w.heap[b]? = some (.cells cs T fz)) : (w.setCell ⟨b, i, none⟩ v).heap[b]? = some (.cells (cs.setIfInBounds i v) T fz) := by
  simp only [World.setCell, Array.getElem?_modify, if_pos, h, Option.map_some]
  rfl
theorem heap_setCell_other (w : World) (a : Addr) (v : Value) {k : Nat} (h : k ≠ a.block) : (w.setCell a v).heap[k]? = w.heap[k]? := Below.heap_setCell _ _ _ _ h
@[simp] theorem heap_drew (w : World) : w.drew.heap = w.heap := rfl
@[simp] theorem heap_drewN (w : World) (n : Nat) : (w.drewN n).heap = w.heap := rfl

/-- string(b): the bytes of a block that is known whole. -/
theorem run_bytes_string {P : Program} {src dst e : TypeId} (hs : P.underlying src = some (.slice e)) (he : P.underlying e = some (.int .u8)) (hd : P.underlying dst = some .string)
    (w : World) (b off c : Nat) (l : List UInt8) (h : ∀ i (hi : i < l.length), w.cell? ⟨b, off + i, none⟩ = some (.int .u8 (l[i].toNat : Int))) :
    (convert src dst (.slice (some ⟨b, off, none⟩) l.length c)).run P w = .ok (.string (bs l)) w := by
  rw [run_convert_bytes_string w src dst e _ _ _ hs he hd]
  have hl : (loadCells ⟨b, off, none⟩ l.length).run P w = .ok ((l.map fun x => (x.toNat : Int)).map (Value.int .u8)).toArray w := by
    have := run_loadCells_list (P := P) (w := w) ⟨b, off, none⟩ ((l.map fun x => (x.toNat : Int)).map (Value.int .u8)) (by
      intro j v hj
      simp at hj
      obtain ⟨x, hx, rfl⟩ := hj
      obtain ⟨hj', rfl⟩ := List.getElem?_eq_some_iff.1 hx
      have := h j hj'
      simpa [Addr.add_lit] using this)
    simpa using this
  rw [run_bytesToString w _ _ _ _ hl]
  have : ∀ (m : List UInt8) (acc : List UInt8), (m.map fun x => (x.toNat : Int)).foldl (fun (r : ByteArray) (n : Int) => r.push (UInt8.ofNat n.toNat)) (bs acc) = bs (acc ++ m) := by
    intro m
    induction m with
    | nil => intro acc; simp
    | cons x m ih =>
      intro acc
      simp only [List.map_cons, List.foldl_cons, Int.toNat_natCast, UInt8.ofNat_toNat]
      have hp : (bs acc).push x = bs (acc ++ [x]) := by simp [bs, ByteArray.push]
      rw [hp, ih]; simp
  have h0 := this l []
  simp only [List.nil_append] at h0
  rw [show (ByteArray.empty) = bs [] from rfl, h0]
theorem run_bytes_string_nil {P : Program} {src dst e : TypeId} (hs : P.underlying src = some (.slice e)) (he : P.underlying e = some (.int .u8)) (hd : P.underlying dst = some .string)
    (w : World) (n c : Nat) : (convert src dst (.slice none n c)).run P w = .ok (.string (bs [])) w := by
  rw [run_convert_bytes_string w src dst e _ _ _ hs he hd]; rfl

/-- []byte(s): the bytes, and spare cells behind them; the block is marked just past its end. -/
def capOf (e : TypeId) (w : World) (n : Nat) : Nat := grownCap w n 0 e
theorem capOf_ge (e : TypeId) (w : World) (n : Nat) : n ≤ capOf e w n := grownCap_ge w n 0 e
theorem run_string_bytes {P : Program} {src dst e : TypeId} (hs : P.underlying src = some .string) (hd : P.underlying dst = some (.slice e)) (he : P.underlying e = some (.int .u8)) (l : List UInt8) (w : World) :
    (convert src dst (.string (bs l))).run P w = .ok (.slice (some ⟨w.heap.size, 0, none⟩) l.length (capOf e w l.length))
      (w.alloc (.cells (bcells (l ++ List.replicate (capOf e w l.length - l.length) 0)) e (capOf e w l.length, capOf e w l.length + 1))).drew := by
  have h := run_bytes_of_string (P := P) w src dst e (bs l) hs hd he
  have hge := capOf_ge e w l.length
  have h2 : bytesRow (bs l) (grownCap w l.length 0 e) = bcells (l ++ List.replicate (capOf e w l.length - l.length) 0) := by
    simp [bytesRow, bcells, capOf]
  rw [bs_size, h2] at h
  rw [h, bcells_size]
  have h3 : (l ++ List.replicate (capOf e w l.length - l.length) (0 : UInt8)).length = capOf e w l.length := by simp; omega
  rw [h3]
  rfl

/-- make([]byte, n). -/
theorem run_make_bytes {P : Program} {t e : TypeId} (ht : P.underlying t = some (.slice e)) (hi : (P.info? e).map (fun i => (i.zero, i.size, i.bytes)) = some (some (.int .u8 0), 1, 1))
    (c : Nat) (hc : c ≤ 281474976710656) (w : World) :
    (Instr.makeSlice t (.int .i64 c) (.int .i64 c)).run P w = .ok (.slice (some ⟨w.heap.size, 0, none⟩) c c) (w.alloc (.cells (bcells (List.replicate c 0)) e)) := by
  obtain ⟨i0, hi, hz0, hz1, hz2⟩ := info_parts hi
  have := run_make (P := P) w t e i0 (.int .u8 0) ht hi hz0 .i64 .i64 c c (by omega) (by omega) (by rw [hz2]; omega) (by omega)
  rw [this, ← bcells_replicate]
  congr 4
  simp [madeCells, hz1, Value.cells]
  apply Array.ext <;> simp
  intro i _; rw [Nat.mod_one]; rfl

theorem run_make_bytes0 {P : Program} {t e : TypeId} (ht : P.underlying t = some (.slice e)) (hi : (P.info? e).map (fun i => (i.zero, i.size, i.bytes)) = some (some (.int .u8 0), 1, 1))
    (c : Nat) (hc : c ≤ 281474976710656) (w : World) :
    (Instr.makeSlice t (.int .i64 0) (.int .i64 c)).run P w = .ok (.slice (some ⟨w.heap.size, 0, none⟩) 0 c) (w.alloc (.cells (bcells (List.replicate c 0)) e)) := by
  obtain ⟨i0, hi, hz0, hz1, hz2⟩ := info_parts hi
  have := run_make (P := P) w t e i0 (.int .u8 0) ht hi hz0 .i64 .i64 0 c (by omega) (by omega) (by rw [hz2]; omega) (by omega)
  rw [this, ← bcells_replicate]
  congr 4
  simp [madeCells, hz1, Value.cells]
  apply Array.ext <;> simp
  intro i _; rw [Nat.mod_one]; rfl
/-- A row that is filled from the front. -/
theorem set_take_rep {α : Type} (s : List α) (z : α) (k : Nat) (hk : k < s.length) :
    (s.take k ++ List.replicate (s.length - k) z).set k s[k] = s.take (k + 1) ++ List.replicate (s.length - (k + 1)) z := by
  have h1 : s.length - k = (s.length - (k + 1)) + 1 := by omega
  have h2 : s.take (k + 1) = s.take k ++ [s[k]] := List.take_succ_eq_append_getElem hk
  rw [h1, List.replicate_succ, h2]
  rw [List.set_append_right _ _ (by simp; omega)]
  simp only [List.length_take, Nat.min_eq_left (Nat.le_of_lt hk), Nat.sub_self, List.set_cons_zero, List.append_assoc, List.cons_append, List.nil_append]

theorem fill_set {α : Type} (s : List α) (z : α) (n k : Nat) (hn : s.length = n) (hk : k < n) :
    (s.take k ++ List.replicate (n - k) z).set k (s[k]'(by omega)) = s.take (k + 1) ++ List.replicate (n - (k + 1)) z := by
  subst hn; exact set_take_rep s z k hk
theorem fill_at {α : Type} (s : List α) (z : α) (n k : Nat) (hn : s.length = n) (hk : k < n) : (s.take k ++ List.replicate (n - k) z)[k]? = some z := by
  subst hn
  rw [List.getElem?_append_right (by simp; omega), List.length_take, Nat.min_eq_left (Nat.le_of_lt hk), Nat.sub_self, List.getElem?_replicate, if_pos (by omega)]
theorem fill_done {α : Type} (s : List α) (z : α) (n : Nat) (hn : s.length = n) : s.take n ++ List.replicate (n - n) z = s := by
  subst hn; simp
theorem fill_cell (s : List UInt8) (n k : Nat) (hn : s.length = n) (hk : k < n) : (bcells (s.take k ++ List.replicate (n - k) 0))[k]? = some (.int .u8 0) := by
  rw [bcells_get?, fill_at s 0 n k hn hk]; rfl

theorem ret_eq {a b : Value} (h : a = b) : Ending.returned a = .returned b := by rw [h]
theorem ret_str {a b : List UInt8} (h : a = b) : Ending.returned (.string (bs a)) = .returned (.string (bs b)) := by rw [h]
theorem ret_int {k : IntKind} {a b : Int} (h : a = b) : Ending.returned (.int k a) = .returned (.int k b) := by rw [h]
theorem ret_bool {a b : Bool} (h : a = b) : Ending.returned (.bool a) = .returned (.bool b) := by rw [h]
theorem oi32 (x : UInt32) : BitVec.ofInt 32 (x.toNat : Int) = x.toBitVec := by
  rw [BitVec.ofInt_natCast]; exact BitVec.eq_of_toNat_eq (by simp)
theorem oi8 (x : UInt8) : BitVec.ofInt 8 (x.toNat : Int) = x.toBitVec := by
  rw [BitVec.ofInt_natCast]; exact BitVec.eq_of_toNat_eq (by simp)
theorem oi64 (x : UInt64) : BitVec.ofInt 64 (x.toNat : Int) = x.toBitVec := by
  rw [BitVec.ofInt_natCast]; exact BitVec.eq_of_toNat_eq (by simp)
theorem wrap_toNat32 (x : UInt32) : IntKind.u32.wrap (x.toNat : Int) = (x.toNat : Int) := by
  rw [IntKind.wrap_u32]; have := x.toNat_lt; omega
theorem wrap_toNat8 (x : UInt8) : IntKind.u8.wrap (x.toNat : Int) = (x.toNat : Int) := by
  rw [IntKind.wrap_u8]; have := x.toNat_lt; omega
theorem wrap_toNat64 (x : UInt64) : IntKind.u64.wrap (x.toNat : Int) = (x.toNat : Int) := by
  rw [IntKind.wrap_u64]; have := x.toNat_lt; omega
/-- xor on UInt32, under a name that simp does not open. -/
def x32 (x y : UInt32) : UInt32 := x ^^^ y
@[go_sem] theorem bxor32 (x y : UInt32) : bits .xor .u32 (x.toNat : Int) (y.toNat : Int) = ((x32 x y).toNat : Int) := by
  show IntKind.u32.wrap ((BitVec.ofInt 32 _ ^^^ BitVec.ofInt 32 _).toNat : Int) = _
  rw [oi32, oi32]; exact wrap_toNat32 (x ^^^ y)
/-- and on UInt32, under a name that simp does not open. -/
def a32 (x y : UInt32) : UInt32 := x &&& y
@[go_sem] theorem band32 (x y : UInt32) : bits .and .u32 (x.toNat : Int) (y.toNat : Int) = ((a32 x y).toNat : Int) := by
  show IntKind.u32.wrap ((BitVec.ofInt 32 _ &&& BitVec.ofInt 32 _).toNat : Int) = _
  rw [oi32, oi32]; exact wrap_toNat32 (x &&& y)
/-- or on UInt32, under a name that simp does not open. -/
def o32 (x y : UInt32) : UInt32 := x ||| y
@[go_sem] theorem bor32 (x y : UInt32) : bits .or .u32 (x.toNat : Int) (y.toNat : Int) = ((o32 x y).toNat : Int) := by
  show IntKind.u32.wrap ((BitVec.ofInt 32 _ ||| BitVec.ofInt 32 _).toNat : Int) = _
  rw [oi32, oi32]; exact wrap_toNat32 (x ||| y)
/-- xor on UInt8, under a name that simp does not open. -/
def x8 (x y : UInt8) : UInt8 := x ^^^ y
@[go_sem] theorem bxor8 (x y : UInt8) : bits .xor .u8 (x.toNat : Int) (y.toNat : Int) = ((x8 x y).toNat : Int) := by
  show IntKind.u8.wrap ((BitVec.ofInt 8 _ ^^^ BitVec.ofInt 8 _).toNat : Int) = _
  rw [oi8, oi8]; exact wrap_toNat8 (x ^^^ y)
/-- and on UInt8, under a name that simp does not open. -/
def a8 (x y : UInt8) : UInt8 := x &&& y
@[go_sem] theorem band8 (x y : UInt8) : bits .and .u8 (x.toNat : Int) (y.toNat : Int) = ((a8 x y).toNat : Int) := by
  show IntKind.u8.wrap ((BitVec.ofInt 8 _ &&& BitVec.ofInt 8 _).toNat : Int) = _
  rw [oi8, oi8]; exact wrap_toNat8 (x &&& y)
/-- or on UInt8, under a name that simp does not open. -/
def o8 (x y : UInt8) : UInt8 := x ||| y
@[go_sem] theorem bor8 (x y : UInt8) : bits .or .u8 (x.toNat : Int) (y.toNat : Int) = ((o8 x y).toNat : Int) := by
  show IntKind.u8.wrap ((BitVec.ofInt 8 _ ||| BitVec.ofInt 8 _).toNat : Int) = _
  rw [oi8, oi8]; exact wrap_toNat8 (x ||| y)
/-- or on UInt64, under a name that simp does not open. -/
def o64 (x y : UInt64) : UInt64 := x ||| y
@[go_sem] theorem bor64 (x y : UInt64) : bits .or .u64 (x.toNat : Int) (y.toNat : Int) = ((o64 x y).toNat : Int) := by
  show IntKind.u64.wrap ((BitVec.ofInt 64 _ ||| BitVec.ofInt 64 _).toNat : Int) = _
  rw [oi64, oi64]; exact wrap_toNat64 (x ||| y)
theorem or_join (k : IntKind) (j : Nat) (hj : j ≤ k.bits) (hk : ∀ n : Int, 0 ≤ n → n < 2 ^ j → k.wrap n = n) (i a b : Nat) (hb : b < 2 ^ i) (ha : a * 2 ^ i + b < 2 ^ j) :
    bits .or k ((a : Int) * 2 ^ i) (b : Int) = ((a * 2 ^ i + b : Nat) : Int) := by
  have h := bits_join k j hj hk i ((a * 2 ^ i : Nat) : Int) (b : Int) (by omega) (by simp) (by exact_mod_cast (by omega : a * 2 ^ i < 2 ^ j)) (by omega) (by exact_mod_cast hb) (by exact_mod_cast (by omega : b < 2 ^ j))
  rw [show ((a : Int) * 2 ^ i) = ((a * 2 ^ i : Nat) : Int) by simp, h]; simp
theorem wraps_u32 (n : Int) (h₀ : 0 ≤ n) (h₁ : n < 2 ^ 32) : IntKind.u32.wrap n = n := by rw [IntKind.wrap_u32]; omega
theorem wraps_u64 (n : Int) (h₀ : 0 ≤ n) (h₁ : n < 2 ^ 64) : IntKind.u64.wrap n = n := by rw [IntKind.wrap_u64]; omega
theorem or_byte32 (a : Nat) (x : UInt8) (ha : a ≤ 16777215) : bits .or .u32 ((a : Int) * 256) (x.toNat : Int) = ((a * 256 + x.toNat : Nat) : Int) := by
  have hx := x.toNat_lt
  exact or_join .u32 32 (by decide) wraps_u32 8 a x.toNat (by omega) (by omega)
theorem or_byte64 (a : Nat) (x : UInt8) (ha : a ≤ 72057594037927935) : bits .or .u64 ((a : Int) * 256) (x.toNat : Int) = ((a * 256 + x.toNat : Nat) : Int) := by
  have hx := x.toNat_lt
  exact or_join .u64 64 (by decide) wraps_u64 8 a x.toNat (by omega) (by omega)
@[go_sem] theorem w_mod32 (x : UInt32) : ((x.toNat : Int) % 4294967296) = (x.toNat : Int) := by have := x.toNat_lt; omega
@[go_sem] theorem w_wrap64 (x : UInt32) : IntKind.u64.wrap (x.toNat : Int) = (x.toNat : Int) := by rw [IntKind.wrap_u64]; have := x.toNat_lt; omega
@[simp, go_sem] theorem bs_extract0 (l : List UInt8) (n : Nat) : (bs l).extract 0 n = bs (l.take n) := by rw [bs_extract]; simp
@[go_sem] theorem b_mod32 (x : UInt8) : ((x.toNat : Int) % 4294967296) = (x.toNat : Int) := by have := x.toNat_lt; omega
@[go_sem] theorem b_wrap32 (x : UInt8) : IntKind.u32.wrap (x.toNat : Int) = (x.toNat : Int) := by rw [IntKind.wrap_u32]; exact b_mod32 x
@[go_sem] theorem b_wrap64 (x : UInt8) : IntKind.u64.wrap (x.toNat : Int) = (x.toNat : Int) := by rw [IntKind.wrap_u64]; have := x.toNat_lt; omega
@[go_sem] theorem b_wrapi (x : UInt8) : IntKind.i64.wrap (x.toNat : Int) = (x.toNat : Int) := by rw [IntKind.wrap_i64]; have := x.toNat_lt; omega
@[go_sem] theorem b_wrapi' (x : UInt8) : wrap64 (x.toNat : Int) = (x.toNat : Int) := by unfold wrap64; have := x.toNat_lt; omega

theorem frozen_spare {w : World} {b i c : Nat} {cs : Array Value} {T : TypeId} (h : w.heap[b]? = some (.cells cs T (c, c + 1))) (hi : i < c) : w.frozen? ⟨b, i, none⟩ = false := by
  simp only [World.frozen?, h]; simp; omega
theorem bcells_left (l r : List UInt8) (i : Nat) (h : i < l.length) : (bcells (l ++ r))[i]? = some (.int .u8 (l[i].toNat : Int)) := by
  rw [bcells_get?, List.getElem?_append_left h, List.getElem?_eq_getElem h]; rfl
theorem bcells_set_left (l r : List UInt8) (i : Nat) (x : UInt8) (h : i < l.length) : (bcells (l ++ r)).setIfInBounds i (Value.int .u8 (x.toNat : Int)) = bcells (l.set i x ++ r) := by
  rw [bcells_set, List.set_append_left _ _ h]

/-! ### Slices that the call owns, of elements of one cell -/
def Row (w : World) (B : Nat) (e : TypeId) (v : Value) (xs : List Value) : Prop := w.ownsRow B e 1 v xs.length xs
theorem Row.nil (w : World) (B : Nat) (e : TypeId) : Row w B e (.slice none 0 0) [] := World.ownsRow_nil w B e 1
theorem Row.made (w : World) (c : Nat) (T : TypeId) (hc : c ≤ maxLen) : Row (w.alloc (.cells (bcells (List.replicate c 0)) T)) w.heap.size T (.slice (some ⟨w.heap.size, 0, none⟩) 0 c) [] :=
  World.ownsRow_made w _ c (Nat.le_refl _) hc (by simp)
theorem Row.kept {w w' : World} {B C : Nat} {e : TypeId} {v : Value} {xs : List Value} (h : Row w B e v xs) (hb : Below C w w') (hC : ∀ k, v.ownBlock = some k → k < C) : Row w' B e v xs := by
  refine ⟨h.1, ?_⟩
  rcases h.2 with h2 | ⟨g, cap, cur, hv, hg, hh, r⟩
  · exact .inl h2
  · exact .inr ⟨g, cap, cur, hv, hg, by rw [hb.block g (hC g (by rw [hv]; rfl))]; exact hh, r⟩
theorem Row.ext {w w' : World} {B : Nat} {e : TypeId} {v : Value} {xs : List Value} (h : Row w B e v xs) (hx : Ext w w') : Row w' B e v xs :=
  h.kept hx (fun k hk => (World.ownsRow.lt h k hk).2)
theorem Row.lt {w : World} {B : Nat} {e : TypeId} {v : Value} {xs : List Value} (h : Row w B e v xs) : ∀ k, v.ownBlock = some k → B ≤ k ∧ k < w.heap.size := World.ownsRow.lt h
theorem Row.mono {w : World} {B B' : Nat} {e : TypeId} {v : Value} {xs : List Value} (h : Row w B e v xs) (hB : B' ≤ B) : Row w B' e v xs := by
  refine ⟨h.1, ?_⟩
  rcases h.2 with h2 | ⟨g, cap, cur, hv, hg, r⟩
  · exact .inl h2
  · exact .inr ⟨g, cap, cur, hv, by omega, r⟩
/-- What a row's value looks like: nil, or a block whose first cells are the row. -/
theorem Row.look {w : World} {B : Nat} {e : TypeId} {v : Value} {xs : List Value} (h : Row w B e v xs) :
    (v = .slice none 0 0 ∧ xs = []) ∨ ∃ g cap cur, v = .slice (some ⟨g, 0, none⟩) xs.length cap ∧ B ≤ g ∧ w.heap[g]? = some (.cells cur e (0, 0)) ∧ xs.length ≤ cap ∧ cur.size = cap ∧ cur.toList.take xs.length = xs := by
  rcases h.2 with ⟨h1, h2⟩ | ⟨g, cap, cur, hv, hg, hh, h3, h4, h5, h6⟩
  · exact .inl ⟨h1, List.eq_nil_of_length_eq_zero h2⟩
  · exact .inr ⟨g, cap, cur, hv, hg, hh, h3, by simpa using h5, by simpa using h6⟩
theorem Row.cellAt {w : World} {B : Nat} {e : TypeId} {xs : List Value} {g n cap : Nat} (h : Row w B e (.slice (some ⟨g, 0, none⟩) n cap) xs) (i : Nat) (hi : i < xs.length) : w.cell? ⟨g, i, none⟩ = some xs[i] := by
  rcases h.look with ⟨h1, _⟩ | ⟨g', cap', cur, hv, _, hh, h3, h5, h6⟩
  · cases h1
  · cases hv
    refine cell_blk hh ?_
    have : (cur.toList.take xs.length)[i]? = some xs[i] := by rw [h6]; exact List.getElem?_eq_getElem hi
    rw [List.getElem?_take, if_pos hi] at this
    simpa using this
theorem Row.len_eq {w : World} {B : Nat} {e : TypeId} {xs : List Value} {ad : Option Addr} {n cap : Nat} (h : Row w B e (.slice ad n cap) xs) : n = xs.length := by
  rcases h.look with ⟨h1, h2⟩ | ⟨g', cap', cur, hv, _⟩
  · cases h1; simp [h2]
  · cases hv; rfl
theorem oneCells {α : Type} {f : α → Value} (l : List α) (h : ∀ x, (f x).oneCell' = true) : ∀ u ∈ l.map f, u.oneCell' = true := by
  intro u hu; obtain ⟨x, _, rfl⟩ := List.mem_map.1 hu; exact h x
theorem wpl_append {P : Program} {ops : Array Oper} {rest : List Oper} {o : Oper} {a : Act} {Q : Exit → Act → World → Prop} {w : World} (hgd : o.guard = none) (s x : Operand) (t : TypeId)
    (ho : o.op = .call { callee := .builtin .append, args := #[s, x], argTypes := #[t, t] }) {e bytes : Nat} {z : Value}
    (ht : P.underlying t = some (.slice e)) (hinfo : (P.info? e).map (fun i => (i.zero, i.size, i.bytes)) = some (some z, 1, bytes)) (hz : z.cells.size = 1) (hby : 0 < bytes)
    (B : Nat) (hB : B ≤ w.heap.size) (v : Value) (xs : List Value) (hs : a.eval s = v) (hown : Row w B e v xs)
    (ad : Addr) (m c : Nat) (news : List Value) (hx : a.eval x = .slice (some ad) m c) (hm : news.length = m) (hnews : ∀ j u, news[j]? = some u → w.cell? (ad.add j) = some u) (h1 : ∀ u ∈ news, u.oneCell' = true)
    (hlen : (xs.length + m) * bytes ≤ 140737488355328)
    (h : ∀ v' w', Row w' B e v' (xs ++ news) → Below B w w' → (∀ k, k < w.heap.size → some k ≠ v.ownBlock → w'.heap[k]? = w.heap[k]?) → wpList P ops Q rest (a.put o.dst v') w') : wpList P ops Q (o :: rest) a w := by
  obtain ⟨i0, hi, hz0, hz1, hz2⟩ := info_parts hinfo
  subst hm
  have h63 : xs.length + news.length ≤ maxLen := by
    have : xs.length + news.length ≤ (xs.length + news.length) * bytes := Nat.le_mul_of_pos_right _ hby
    unfold maxLen; omega
  refine wpList_append_own w hgd s x t ho B e i0 z 1 bytes ht hi hz0 hz1 hz2 hz (by omega) v xs.length xs hs hown ad news.length c news hx (by simp) hnews h1 h63 hlen hB ?_
  intro v' w' h2 hg _
  refine h v' w' ?_ ((Below.refl B w).grown hg hB (fun k hk => ((World.ownsRow.lt hown) k hk).1)) (fun k hk hne => hg.block k hk hne)
  unfold Row; rw [List.length_append]; exact h2
theorem cells_one_new (w : World) (u : Value) (t : TypeId) : ∀ j x, [u][j]? = some x → (w.alloc (.cells #[u] t)).cell? ((⟨w.heap.size, 0, none⟩ : Addr).add j) = some x := by
  intro j x hj
  match j, hj with
  | 0, hj => simp at hj; subst hj; rw [Addr.add_lit]; exact cell_blk (heap_alloc_new _ _) (by simp)
  | j + 1, hj => simp at hj
theorem cells_one_at (w : World) (u : Value) (t : TypeId) (b : Nat) (hb : b = w.heap.size) : ∀ j x, [u][j]? = some x → (w.alloc (.cells #[u] t)).cell? ((⟨b, 0, none⟩ : Addr).add j) = some x := by
  subst hb; exact cells_one_new w u t
theorem cells_two_new (w : World) (u v : Value) (t : TypeId) : ∀ j x, [u, v][j]? = some x → (w.alloc (.cells #[u, v] t)).cell? ((⟨w.heap.size, 0, none⟩ : Addr).add j) = some x := by
  intro j x hj
  match j, hj with
  | 0, hj => simp at hj; subst hj; rw [Addr.add_lit]; exact cell_blk (heap_alloc_new _ _) (by simp)
  | 1, hj => simp at hj; subst hj; rw [Addr.add_lit]; exact cell_blk (heap_alloc_new _ _) (by simp)
  | j + 2, hj => simp at hj
def byteV (b : UInt8) : Value := .int .u8 (b.toNat : Int)
theorem bcells_toList (l : List UInt8) : bcells l = (l.map byteV).toArray := rfl
/-- string(b) of an owned row of bytes. -/
theorem row_to_str {P : Program} {src dst e : TypeId} (hs : P.underlying src = some (.slice e)) (he : P.underlying e = some (.int .u8)) (hd : P.underlying dst = some .string)
    {w : World} {B : Nat} {v : Value} {l : List UInt8} (h : Row w B e v (l.map byteV)) : (convert src dst v).run P w = .ok (.string (bs l)) w := by
  rcases h.look with ⟨hv, hl⟩ | ⟨g, cap, cur, hv, _, hh, h3, h5, h6⟩
  · subst hv
    obtain rfl : l = [] := by simpa using hl
    exact run_bytes_string_nil hs he hd w 0 0
  · subst hv
    rw [List.length_map]
    refine run_bytes_string hs he hd w g 0 cap l (fun i hi => ?_)
    rw [Nat.zero_add]
    have := Row.cellAt h i (by simpa using hi)
    rw [this]; simp [byteV]

theorem quiet_same {P : Program} {f : FuncId} {args : Array Value} {w : World} {n : Nat} {v : Value}
    (h : Calls P f args (w.drewN n) fun e w' => e = .returned v ∧ w.drewN n = w') : Calls P f args (w.drewN n) fun e w'' => e = .returned v ∧ ∃ m, w'' = w.drewN m :=
  Calls.quiet_of_same (h.mono fun _ _ h => ⟨h.1, h.2.symm⟩)

/-! ### min of ints -/
theorem wpl_min2 {P : Program} {ops : Array Oper} {rest : List Oper} {o : Oper} {a : Act} {Q : Exit → Act → World → Prop} {w : World} {s1 s2 : Operand} {ts : Array TypeId} {x y : Int} (hgd : o.guard = none)
    (ho : o.op = .call { callee := .builtin .min, args := #[s1, s2], argTypes := ts }) (h1 : a.eval s1 = .int .i64 x) (h2 : a.eval s2 = .int .i64 y) (c : Int) (hc : c = min x y)
    (h : wpList P ops Q rest (a.put o.dst (.int .i64 c)) w) : wpList P ops Q (o :: rest) a w := by
  refine wpList_plain hgd fun K hK => ?_
  have e : (if y < x then y else x) = c := by rw [hc]; split <;> omega
  unfold Oper.wp execOp
  simp only [ho, resolve, invoke, builtin, Builtin.min_, Sem.run_bind, Sem.run_pure, Result.andThen_ok, List.map_toArray, List.map_cons, List.map_nil, h1, h2, List.foldlM_cons, List.foldlM_nil, Builtin.min2, e]
  exact hK _ _ h
theorem wpl_min3 {P : Program} {ops : Array Oper} {rest : List Oper} {o : Oper} {a : Act} {Q : Exit → Act → World → Prop} {w : World} {s1 s2 s3 : Operand} {ts : Array TypeId} {x y z : Int} (hgd : o.guard = none)
    (ho : o.op = .call { callee := .builtin .min, args := #[s1, s2, s3], argTypes := ts }) (h1 : a.eval s1 = .int .i64 x) (h2 : a.eval s2 = .int .i64 y) (h3 : a.eval s3 = .int .i64 z) (c : Int) (hc : c = min (min x y) z)
    (h : wpList P ops Q rest (a.put o.dst (.int .i64 c)) w) : wpList P ops Q (o :: rest) a w := by
  refine wpList_plain hgd fun K hK => ?_
  have e0 : (if y < x then y else x) = min x y := by split <;> omega
  have e : (if z < min x y then z else min x y) = c := by rw [hc]; split <;> omega
  unfold Oper.wp execOp
  simp only [ho, resolve, invoke, builtin, Builtin.min_, Sem.run_bind, Sem.run_pure, Result.andThen_ok, List.map_toArray, List.map_cons, List.map_nil, h1, h2, h3, List.foldlM_cons, List.foldlM_nil, Builtin.min2, e0, e]
  exact hK _ _ h

/-- A number's low byte, under a name that simp does not open. -/
def b8 (n : Nat) : UInt8 := UInt8.ofNat n
theorem b8_toNat (n : Nat) (h : n < 256) : (b8 n).toNat = n := UInt8.toNat_ofNat_of_lt' h
theorem b8_mod (n : Nat) : (b8 n).toNat = n % 256 := by simp [b8]

def U8 (n : Nat) : Prop := n < 256
def U32 (n : Nat) : Prop := n < 4294967296
def U64 (n : Nat) : Prop := n < 18446744073709551616
end Go.Proofs.YtclekllaikcglaaGreat
namespace Go.Proofs.YtclekllaikcglaaGreat
open Go Go.ChangeShapes Go.WideShapes Go.ChangeAt Go.RowKit

theorem wf_range {k : IntKind} {n : Int} (h : (Lit.int k n).wf = true) : k.min ≤ n ∧ n ≤ k.max := by
  simpa [Lit.wf] using h
theorem nat_u64 {n : Int} (h : (Lit.int .u64 n).wf = true) : ∃ m : Nat, n = m ∧ U64 m := by
  have := wf_range h
  rw [show IntKind.u64.min = 0 from rfl, show IntKind.u64.max = 18446744073709551615 from rfl] at this
  exact ⟨n.toNat, by omega, by unfold U64; omega⟩
theorem nat_u32 {n : Int} (h : (Lit.int .u32 n).wf = true) : ∃ m : UInt32, n = m.toNat := by
  have := wf_range h
  rw [show IntKind.u32.min = 0 from rfl, show IntKind.u32.max = 4294967295 from rfl] at this
  exact ⟨UInt32.ofNat n.toNat, by rw [UInt32.toNat_ofNat_of_lt' (by show n.toNat < 4294967296; omega)]; omega⟩
theorem nat_u8 {n : Int} (h : (Lit.int .u8 n).wf = true) : ∃ m : UInt8, n = m.toNat := by
  have := wf_range h
  rw [show IntKind.u8.min = 0 from rfl, show IntKind.u8.max = 255 from rfl] at this
  exact ⟨UInt8.ofNat n.toNat, by rw [UInt8.toNat_ofNat_of_lt' (by show n.toNat < 256; omega)]; omega⟩
theorem nat_u16 {n : Int} (h : (Lit.int .u16 n).wf = true) : ∃ m : Nat, n = m ∧ m < 65536 := by
  have := wf_range h
  rw [show IntKind.u16.min = 0 from rfl, show IntKind.u16.max = 65535 from rfl] at this
  exact ⟨n.toNat, by omega, by omega⟩
theorem rng_i64 {n : Int} (h : (Lit.int .i64 n).wf = true) : -9223372036854775808 ≤ n ∧ n ≤ 9223372036854775807 := wf_range h
theorem trodAll_length {H : Type} {enc : TypeId × Value → H} {P : Program} {w : World} {base : Nat} {sp : Nat → Bool} {held : Bool} : ∀ {ts : List TypeId} {vs : List Value} {ds : List (DataW H)} {ps : List MemPlace},
    DataW.TrodAll enc P w base sp held ts vs ds ps → ds.length = ts.length
  | [], vs, ds, ps, h => by cases vs <;> cases ds <;> simp [DataW.TrodAll] at h ⊢
  | t :: ts, vs, ds, ps, h => by
    obtain ⟨v, vs', d, ds', p, q, rfl, rfl, _, _, r⟩ := trodAll_cons h
    simp [trodAll_length r]
theorem trodAll_stays {H : Type} {enc : TypeId × Value → H} {P : Program} (hl : laidOutB P = true) {W W' : World} (hb : Below W.heap.size W W') : ∀ {ts : List TypeId} {vs : List Value} {ds : List (DataW H)} {ps : List MemPlace},
    ts.all (fun t => P.readableRec t && decide (t < P.types.size)) = true → DataW.TrodAll enc P W 0 (fun _ => true) true ts vs ds ps → (∀ x ∈ ps, x.block < W.heap.size) →
    DataW.TrodAll enc P W' 0 (fun b => decide (b < W.heap.size)) true ts vs ds ps
  | [], vs, ds, ps, _, h, _ => by cases vs <;> cases ds <;> simp [DataW.TrodAll] at h ⊢; exact h
  | t :: ts, vs, ds, ps, hr, h, hlt => by
    obtain ⟨v, vs', d, ds', p, q, rfl, rfl, rfl, hp, r⟩ := trodAll_cons h
    simp only [List.all_cons, Bool.and_eq_true, decide_eq_true_eq] at hr
    refine ⟨p, q, Below.trod hl hr.1.1 hr.1.2 hp hb (fun x hx => hlt x (List.mem_append_left _ hx)), trodAll_stays hl hb hr.2 r (fun x hx => hlt x (List.mem_append_right _ hx)), rfl⟩
theorem law_lifted {H : Type} {enc : TypeId × Value → H} {C : Checked} {os : Os} {f : FuncId} {fn : Func} {s : ChangeSpec} {tb : TypeId}
    (own : ownKnob C.prog.godebug = none) (started : os.Started) (noInit : C.prog.inits.idxOf? f = none) (hfn : C.prog.funcs[f]? = some fn)
    (witness : ∃ (w : World) (tape : Tape) (i : Input), w.os = os ∧ (w.forCall tape i).Shaped C.prog ∧ i.vars = [] ∧ Input.okWide C.prog (w.forCall tape i) .any w.heap.size f i ∧
      s.pre6 enc C.prog fn [] false (w.forCall tape i).memory i.args ∧ ({} : Assume).holds C.prog (lone (Frame.enter C.prog f i.args .normal) [] (w.forCall tape i)))
    (hvars : s.vars = []) (hspec : ∀ (ds : List (DataW H)), ds.length = fn.params.size → s.fn H ds = { results := [.lit (.bool true)], args := ds })
    (hres : fn.resultTypes = #[tb]) (hb : C.prog.underlying tb = some .bool) (hlaid : laidOutB C.prog = true)
    (hread : fn.params.toList.all (fun t => C.prog.readableRec t && decide (t < C.prog.types.size)) = true)
    (law : ∀ (W : World) (base : Nat) (args : Array Value) (ds : List (DataW H)) (p : List MemPlace),
      (∀ (j : Nat) t v, fn.params[j]? = some t → args[j]? = some v → Value.okWide C.prog W .any base t v) →
      DataW.TrodAll enc C.prog W 0 (fun _ => true) true fn.params.toList args.toList ds p →
      (DataW.weightsEach C.prog fn.params.toList ds).all (· ≤ reachBytes) = true →
      (∀ x ∈ p, x.block < W.heap.size) →
      Calls C.prog f args W fun e W' => e = .returned (.bool true) ∧ Ext W W') :
    ReturnsInHanded {} C os f .any (s.pre6 enc C.prog fn [] false) (s.post enc C.prog fn false true false false) := by
  refine returnsInHanded_of_change_sized own started noInit hfn witness ?_
  intro W base args ds gs before hval hW _ hsz _
  have hW' := hW
  obtain ⟨p, q, hA, hV, rfl, _, _⟩ := hW
  have hV' : DataW.TrodVars enc C.prog W (fun _ => true) [] gs q := by rw [← hvars]; exact hV
  obtain ⟨rfl, rfl⟩ := trodVars_none hV'
  have hlt : ∀ x ∈ p, x.block < W.heap.size := fun x hx => by simpa using hW'.lt x (List.mem_append_left _ hx)
  have hvt : s.plain.varTypes C.prog = [] := by unfold DataSpec.varTypes ChangeSpec.plain; simp [hvars]
  rw [hvt, List.append_nil, List.append_nil] at hsz
  simp only [List.append_nil] at hW'
  refine (law W base args ds p hval hA hsz hlt).mono fun e W' ⟨he, hx⟩ => ?_
  subst he
  have hlen := trodAll_length hA
  have hs := hspec ds (by simpa using hlen)
  have hbl : Below W.heap.size W W' := hx
  refine ⟨_, rfl, ds, [], p, [], p, [], hW', ?_, ?_, ?_, hbl.frame _, fun h => by cases h⟩
  · rw [List.append_nil, hs, hres]
    exact trodAll_cons_mk (shut_bool hb true) trodAll_mk0
  · rw [List.append_nil, hs]
    exact trodAll_stays hlaid hbl hread hA hlt
  · rw [List.append_nil, hs, hvars]; rfl
end Go.Proofs.YtclekllaikcglaaGreat
namespace Go.Proofs.YtclekllaikcglaaGreat
open Go Go.RowKit

def strV (l : List UInt8) : Value := .string (bs l)
/-- The slice v reads as xs (of one-cell elements). -/
def Sl (w : World) (v : Value) (xs : List Value) : Prop :=
  ∃ ad cap, v = .slice ad xs.length cap ∧ ∀ i (hi : i < xs.length), ∃ b off, ad = some ⟨b, off, none⟩ ∧ b < w.heap.size ∧ w.cell? ⟨b, off + i, none⟩ = some xs[i]
theorem Sl.ext {w w' : World} {v : Value} {xs : List Value} (h : Sl w v xs) (hx : Ext w w') : Sl w' v xs := by
  obtain ⟨ad, cap, hv, hc⟩ := h
  refine ⟨ad, cap, hv, fun i hi => ?_⟩
  obtain ⟨b, off, ha, hb, hcell⟩ := hc i hi
  exact ⟨b, off, ha, Nat.lt_of_lt_of_le hb hx.size, by rw [hx.below.cell (p := ⟨b, off + i, none⟩) hb]; exact hcell⟩
theorem Sl.at_ {w : World} {ad : Option Addr} {n cap : Nat} {xs : List Value} (h : Sl w (.slice ad n cap) xs) (i : Nat) (hi : i < xs.length) :
    ∃ b off, ad = some ⟨b, off, none⟩ ∧ b < w.heap.size ∧ w.cell? ⟨b, off + i, none⟩ = some xs[i] := by
  obtain ⟨ad', cap', hv, hc⟩ := h
  simp only [Value.slice.injEq] at hv
  rw [hv.1]; exact hc i hi
/-- A slice of texts. -/
theorem Sl.str {w : World} {ad : Option Addr} {n cap : Nat} {l : List (List UInt8)} (h : Sl w (.slice ad n cap) (l.map strV)) (i : Nat) (hi : i < l.length) :
    ∃ b off, ad = some ⟨b, off, none⟩ ∧ b < w.heap.size ∧ w.cell? ⟨b, off + i, none⟩ = some (.string (bs l[i])) := by
  obtain ⟨b, off, h1, h2, h3⟩ := h.at_ i (by simpa using hi)
  exact ⟨b, off, h1, h2, by rw [h3]; simp [strV]⟩
theorem Sl.len {w : World} {ad : Option Addr} {n cap : Nat} {xs : List Value} (h : Sl w (.slice ad n cap) xs) : n = xs.length := by
  obtain ⟨ad', cap', hv, _⟩ := h
  simp only [Value.slice.injEq] at hv
  exact hv.2.1
theorem Sl.look {w : World} {v : Value} {xs : List Value} (h : Sl w v xs) : ∃ ad cap, v = .slice ad xs.length cap := let ⟨ad, cap, hv, _⟩ := h; ⟨ad, cap, hv⟩
theorem Sl.below {w w' : World} {B : Nat} {v : Value} {xs : List Value} (h : Sl w v xs) (hx : Below B w w') (hB : w.heap.size ≤ B) : Sl w' v xs := h.ext (hx.mono hB)
theorem Sl.nil (w : World) : Sl w (.slice none 0 0) [] := ⟨none, 0, rfl, fun i hi => absurd hi (by simp)⟩
theorem Row.sl {w : World} {B : Nat} {e : TypeId} {v : Value} {xs : List Value} (h : Row w B e v xs) : Sl w v xs := by
  rcases h.look with ⟨rfl, rfl⟩ | ⟨g, cap, cur, rfl, _, hh, h3, h5, h6⟩
  · exact Sl.nil w
  · exact ⟨_, cap, rfl, fun i hi => ⟨g, 0, rfl, blk_lt hh, by rw [Nat.zero_add]; exact Row.cellAt h i hi⟩⟩

/-! ### copy -/
def splice (L : List UInt8) (o : Nat) (c : List UInt8) : List UInt8 := L.take o ++ c ++ L.drop (o + c.length)
theorem splice_length (L : List UInt8) (o : Nat) (c : List UInt8) (h : o + c.length ≤ L.length) : (splice L o c).length = L.length := by
  simp [splice]; omega
/-- A text, made n bytes long. -/
def padTo (n : Nat) (l : List UInt8) : List UInt8 := l.take n ++ List.replicate (n - l.length) 0
@[simp] theorem padTo_length (n : Nat) (l : List UInt8) : (padTo n l).length = n := by simp [padTo]; omega
theorem padTo_same (l : List UInt8) : padTo l.length l = l := by simp [padTo]
theorem splice_zeros (n : Nat) (l : List UInt8) : splice (List.replicate n 0) 0 (l.take n) = padTo n l := by
  simp [splice, padTo]; omega
theorem map_bytes (l : List UInt8) : (bs l).data.map (fun b => Value.int .u8 (b.toNat : Int)) = bcells l := by simp [bcells]
theorem run_copy_str {P : Program} {dT sT ty e : TypeId} (hu : P.underlying dT = some (.slice e)) {z : Value} {by_ : Nat} (hi : (P.info? e).map (fun i => (i.zero, i.size, i.bytes)) = some (some z, 1, by_))
    (w : World) (g o n c T : Nat) (L l : List UInt8) (hg : w.heap[g]? = some (.cells (bcells L) T (0, 0))) (hl : o + n ≤ L.length) :
    (Builtin.copy_ #[dT, sT] ty #[.slice (some ⟨g, o, none⟩) n c, .string (bs l)]).run P w = .ok (goInt (min l.length n)) (w.setRow g (bcells (splice L o (l.take n)))) := by
  obtain ⟨i0, hi, _, hz1, _⟩ := info_parts hi
  have hst := run_storeCells_at P g o T ((l.take n).map byteV) 0 (bcells L) w hg (by simp; omega) (oneCells _ (fun _ => rfl))
  have hm : l.length.min n = min l.length n := rfl
  have ht : List.take (min l.length n) (List.map (fun b => Value.int IntKind.u8 (b.toNat : Int)) l) = (l.take n).map byteV := by
    rw [← List.map_take, Nat.min_comm]
    show _ = List.map byteV _
    congr 1
    rw [List.take_eq_take_iff]; simp
  have hw : (List.take (o + 0) (bcells L).toList ++ List.map byteV (List.take n l) ++ List.drop (o + 0 + (List.map byteV (List.take n l)).length) (bcells L).toList).toArray = bcells (splice L o (l.take n)) := by
    have e : (fun b : UInt8 => Value.int IntKind.u8 (b.toNat : Int)) = byteV := rfl
    simp [bcells, splice, e, List.map_take, List.map_drop]
  rw [hw] at hst
  rw [List.map_take] at hst
  have hmi : ((min l.length n : Nat) : Int) = min (l.length : Int) (n : Int) := by omega
  simp [Builtin.copy_, run_underlying hu, sizeOf, typeInfo, hi, Builtin.lenOf, Builtin.firstCells, hm, ht, hst, hmi]
theorem setRow_below {w : World} {g : Nat} (B : Nat) (hB : B ≤ g) (cs : Array Value) : Below B w (w.setRow g cs) := below_setRow (Below.refl B w) hB cs
/-- copy(b, text) into a slice of the call's own. -/
theorem wpl_copy_str {P : Program} {ops : Array Oper} {rest : List Oper} {o : Oper} {a : Act} {Q : Exit → Act → World → Prop} {w : World} (hgd : o.guard = none) {s x : Operand} {dT sT e : TypeId}
    (ho : o.op = .call { callee := .builtin .copy, args := #[s, x], argTypes := #[dT, sT] }) (hu : P.underlying dT = some (.slice e)) {z : Value} {by_ : Nat} (hi : (P.info? e).map (fun i => (i.zero, i.size, i.bytes)) = some (some z, 1, by_))
    {g off n c T : Nat} {L l : List UInt8} (h1 : a.eval s = .slice (some ⟨g, off, none⟩) n c) (h2 : a.eval x = .string (bs l)) (hg : w.heap[g]? = some (.cells (bcells L) T (0, 0))) (hl : off + n ≤ L.length)
    (h : ∀ w', w'.heap[g]? = some (.cells (bcells (splice L off (l.take n))) T (0, 0)) → (∀ k, k ≠ g → w'.heap[k]? = w.heap[k]?) → Below g w w' → wpList P ops Q rest (a.put o.dst (goInt (min l.length n))) w') : wpList P ops Q (o :: rest) a w := by
  refine wpList_plain hgd fun K hK => ?_
  have hr := run_copy_str (P := P) (ty := o.type) (sT := sT) hu hi w g off n c T L l hg hl
  unfold Oper.wp execOp
  simp only [ho, resolve, invoke, builtin, Sem.run_bind, Sem.run_pure, Result.andThen_ok, List.map_toArray, List.map_cons, List.map_nil, h1, h2, hr]
  exact hK _ _ (h _ (setRow_heap w g (bcells L) _ T _ hg) (fun k hk => setRow_other w g k _ hk) (setRow_below g (Nat.le_refl _) _))
/-- The call hands back a slice of its own. -/
def RetRow (w : World) (T : TypeId) (xs : List Value) (e : Ending) (w' : World) : Prop := ∃ v, e = .returned v ∧ Row w' w.heap.size T v xs ∧ Ext w w'
end Go.Proofs.YtclekllaikcglaaGreat
namespace Go.Proofs.YtclekllaikcglaaGreat
open Go Go.ChangeShapes Go.WideShapes Go.ChangeAt Go.RowKit

section
variable {H : Type} {enc : TypeId × Value → H} {P : Program}
theorem weights_all {e : TypeId} {l : List (DataW H)} {d : DataW H} (hd : d ∈ l) : ∀ n ∈ d.weights P e, n ∈ DataW.weightsAll P e l := by
  induction l with
  | nil => cases hd
  | cons x l ih =>
    intro n hn
    simp only [DataW.weightsAll, List.mem_append]
    rcases List.mem_cons.1 hd with rfl | hd
    · exact Or.inl hn
    · exact Or.inr (ih hd n hn)
theorem sized_elem {ts : List TypeId} {ds : List (DataW H)} (h : (DataW.weightsEach P ts ds).all (· ≤ reachBytes) = true) {j : Nat} {t e : TypeId} {elems spare : List (DataW H)} (ht : ts[j]? = some t) (hd : ds[j]? = some (.slice elems spare)) (hu : P.underlying t = some (.slice e))
    {d : DataW H} (hm : d ∈ elems) : ∀ n ∈ d.weights P e, n ≤ reachBytes := by
  intro n hn
  have := List.all_eq_true.1 h n (DataW.weights_mem_each ht hd n (by
    simp only [DataW.weights, hu]
    have := weights_all (P := P) hm n hn
    simp [this]))
  simpa using this
/-- A slice of texts that came in. -/
theorem strs_in {W : World} {base : Nat} {t e : TypeId} {v : Value} {d : DataW H} {p : List MemPlace} (hu : P.underlying t = some (.slice e)) (he : P.underlying e = some .string) (hc : P.cellsOf e = 1) (hby : P.bytesOf e = 16)
    (hval : Value.okWide P W .any base t v) (h : DataW.Trod enc P W 0 (fun _ => true) true t v d p) (hlt : ∀ x ∈ p, x.block < W.heap.size)
    {ts : List TypeId} {ds : List (DataW H)} (hsz : (DataW.weightsEach P ts ds).all (· ≤ reachBytes) = true) {j : Nat} (ht : ts[j]? = some t) (hd : ds[j]? = some d) :
    ∃ (l : List (List UInt8)) (ad : Option Addr) (cap : Nat), v = .slice ad l.length cap ∧ Sl W (.slice ad l.length cap) (l.map strV) ∧ l.length ≤ 8796093022208 ∧ ∀ x ∈ l, x.length ≤ 140737488351232 := by
  obtain ⟨a0, n, cap, rfl⟩ := okWide_slice hu hval
  obtain ⟨fuel, hf⟩ := h
  rcases open_strings hu he hc hf with ⟨hcs, hx⟩ | ⟨a, len', cap', ss, hcs, _, hl, hm, hz, hx, hcell, hws⟩
  · simp [Value.cells] at hcs
    obtain ⟨rfl, rfl, rfl⟩ := hcs
    exact ⟨[], none, 0, rfl, Sl.nil W, by simp, by simp⟩
  · simp [Value.cells] at hcs
    obtain ⟨rfl, rfl, rfl⟩ := hcs
    simp only [Prod.mk.injEq] at hx
    obtain ⟨rfl, rfl⟩ := hx
    simp only [if_true] at hz
    have hlen : (ss.take n).length = n := by simp; omega
    refine ⟨(ss.take n).map (fun s => s.data.toList), some a, cap, by rw [List.length_map, hlen], ⟨some a, cap, by simp, fun i hi => ?_⟩, ?_, ?_⟩
    · simp only [List.length_map, hlen] at hi
      have hci := hcell i (by omega)
      obtain ⟨xb, xo, spot⟩ := a
      have hspot : spot = none := by simpa [Addr.add] using World.cell?_spot (hcell 0 (by omega))
      subst hspot
      rw [Addr.add_lit] at hci
      refine ⟨xb, xo, rfl, ?_, ?_⟩
      · exact hlt (MemPlace.cell xb (xo + i)) (by
          simp only [MemPlace.row, List.mem_map, List.mem_range]
          exact ⟨i, by omega, rfl⟩)
      · rw [hci]
        have hi' : i < ss.length := by omega
        simp [strV, List.getD, hi', ← bs_of]
    · have h1 := sized_slice hsz ht hd hu
      simp only [strs, List.length_map, List.length_take, List.length_drop, hby, reachBytes] at h1 ⊢
      omega
    · intro x hx
      obtain ⟨s, hs, rfl⟩ := List.mem_map.1 hx
      have := sized_elem hsz ht hd hu (d := .lit (.string s.data.toList)) (by simp only [strs, List.mem_map]; exact ⟨s, hs, rfl⟩) s.data.toList.length (by simp [DataW.weights])
      exact this
/-- A slice of truths that came in. -/
theorem bools_in {W : World} {base : Nat} {t e : TypeId} {v : Value} {d : DataW H} {p : List MemPlace} (hu : P.underlying t = some (.slice e)) (he : P.underlying e = some .bool) (hc : P.cellsOf e = 1) (hby : P.bytesOf e = 1)
    (hval : Value.okWide P W .any base t v) (h : DataW.Trod enc P W 0 (fun _ => true) true t v d p) (hlt : ∀ x ∈ p, x.block < W.heap.size)
    {ts : List TypeId} {ds : List (DataW H)} (hsz : (DataW.weightsEach P ts ds).all (· ≤ reachBytes) = true) {j : Nat} (ht : ts[j]? = some t) (hd : ds[j]? = some d) :
    ∃ (l : List Bool) (ad : Option Addr) (cap : Nat), v = .slice ad l.length cap ∧ Sl W (.slice ad l.length cap) (l.map Value.bool) ∧ l.length ≤ 140737488351232 := by
  obtain ⟨a0, n, cap, rfl⟩ := okWide_slice hu hval
  obtain ⟨fuel, hf⟩ := h
  rcases Deep.open_slice1 hu hc hf with ⟨hcs, hx⟩ | ⟨a, len', cap', m, q, V, D, Pl, hcs, _, hl, hm, hz, hx, hcell⟩
  · simp [Value.cells] at hcs
    obtain ⟨rfl, rfl, rfl⟩ := hcs
    exact ⟨[], none, 0, rfl, Sl.nil W, by simp⟩
  · simp [Value.cells] at hcs
    obtain ⟨rfl, rfl, rfl⟩ := hcs
    simp only [Prod.mk.injEq] at hx
    obtain ⟨rfl, rfl⟩ := hx
    simp only [if_true] at hz
    have each : ∀ i, i < m → ∃ b : Bool, V i = .bool b := fun i hi => by
      obtain ⟨b, h1, _⟩ := DataW.trod_bool he (hcell i hi).2
      exact ⟨b, by simpa using h1⟩
    have hV : ∀ i, i < m → V i = .bool (match V i with | .bool b => b | _ => false) := fun i hi => by
      obtain ⟨b, hb⟩ := each i hi
      rw [hb]
    refine ⟨(List.range n).map (fun i => match V i with | .bool b => b | _ => false), some a, cap, by simp, ⟨some a, cap, by simp, fun i hi => ?_⟩, ?_⟩
    · simp only [List.length_map, List.length_range] at hi
      have hci := (hcell i (by omega)).1
      obtain ⟨xb, xo, spot⟩ := a
      have hspot : spot = none := by simpa [Addr.add] using World.cell?_spot (hcell 0 (by omega)).1
      subst hspot
      rw [Addr.add_lit] at hci
      refine ⟨xb, xo, rfl, ?_, ?_⟩
      · exact hlt (MemPlace.cell xb (xo + i)) (by
          refine List.mem_append_left _ ?_
          simp only [MemPlace.row, List.mem_map, List.mem_range]
          exact ⟨i, by omega, rfl⟩)
      · rw [hci, hV i (by omega)]
        simp
    · have h1 := sized_slice hsz ht hd hu
      simp only [List.length_map, List.length_range, hby, reachBytes] at h1 ⊢
      omega
end
end Go.Proofs.YtclekllaikcglaaGreat
namespace Go.Proofs.YtclekllaikcglaaGreat
open Go Go.ChangeShapes Go.WideShapes Go.ChangeAt Go.RowKit
theorem rng_i8 {n : Int} (h : (Lit.int .i8 n).wf = true) : -128 ≤ n ∧ n ≤ 127 := wf_range h
section
variable {H : Type} {enc : TypeId × Value → H} {P : Program}
/-- A slice of bytes that came in. -/
theorem u8s_in {W : World} {base : Nat} {t e : TypeId} {v : Value} {d : DataW H} {p : List MemPlace} (hu : P.underlying t = some (.slice e)) (he : P.underlying e = some (.int .u8)) (hc : P.cellsOf e = 1) (hby : P.bytesOf e = 1)
    (hval : Value.okWide P W .any base t v) (h : DataW.Trod enc P W 0 (fun _ => true) true t v d p) (hlt : ∀ x ∈ p, x.block < W.heap.size)
    {ts : List TypeId} {ds : List (DataW H)} (hsz : (DataW.weightsEach P ts ds).all (· ≤ reachBytes) = true) {j : Nat} (ht : ts[j]? = some t) (hd : ds[j]? = some d) :
    ∃ (l : List UInt8) (ad : Option Addr) (cap : Nat), v = .slice ad l.length cap ∧ Sl W (.slice ad l.length cap) (l.map byteV) ∧ l.length ≤ 140737488351232 := by
  obtain ⟨a0, n, cap, rfl⟩ := okWide_slice hu hval
  obtain ⟨fuel, hf⟩ := h
  rcases Deep.open_slice1 hu hc hf with ⟨hcs, hx⟩ | ⟨a, len', cap', m, q, V, D, Pl, hcs, _, hl, hm, hz, hx, hcell⟩
  · simp [Value.cells] at hcs
    obtain ⟨rfl, rfl, rfl⟩ := hcs
    exact ⟨[], none, 0, rfl, Sl.nil W, by simp⟩
  · simp [Value.cells] at hcs
    obtain ⟨rfl, rfl, rfl⟩ := hcs
    simp only [Prod.mk.injEq] at hx
    obtain ⟨rfl, rfl⟩ := hx
    simp only [if_true] at hz
    have each : ∀ i, i < m → ∃ b : UInt8, V i = byteV b := fun i hi => by
      obtain ⟨z, h1, _, hw⟩ := DataW.trod_int he (hcell i hi).2
      obtain ⟨b, rfl⟩ := nat_u8 hw
      exact ⟨b, by simpa [byteV] using h1⟩
    obtain ⟨B, hB⟩ := Deep.choose_lt each
    refine ⟨(List.range n).map B, some a, cap, by simp, ⟨some a, cap, by simp, fun i hi => ?_⟩, ?_⟩
    · simp only [List.length_map, List.length_range] at hi
      have hci := (hcell i (by omega)).1
      obtain ⟨xb, xo, spot⟩ := a
      have hspot : spot = none := by simpa [Addr.add] using World.cell?_spot (hcell 0 (by omega)).1
      subst hspot
      rw [Addr.add_lit] at hci
      refine ⟨xb, xo, rfl, ?_, ?_⟩
      · exact hlt (MemPlace.cell xb (xo + i)) (by
          refine List.mem_append_left _ ?_
          simp only [MemPlace.row, List.mem_map, List.mem_range]
          exact ⟨i, by omega, rfl⟩)
      · rw [hci, hB i (by omega)]
        simp
    · have h1 := sized_slice hsz ht hd hu
      simp only [List.length_map, List.length_range, hby, reachBytes] at h1 ⊢
      omega
end
end Go.Proofs.YtclekllaikcglaaGreat
namespace Go.Proofs.YtclekllaikcglaaGreat
open Go Go.RowKit Go.Shelf

/-- What an iterator that is never done keeps: whatever the caller's rounds are, it gives the k-th element in round k, until a round says no more. -/
def Streams (F : Fence) (n : Nat) (P : Program) (g : Nat) (lb : Array Value) (el : Nat → Value) (pc : Addr) (Kp : World → World → Prop) (N : Nat) (w : World) : Prop :=
  ∀ (l : Nat) (J Jx : Nat → World → Prop) (W : World), Ext w W → AbidesFrom W.heap.size J → (∀ k A v, J k A → J k (A.setCell pc v)) → (∀ k A, J k A → k < N) →
    (∀ k A, J k A → YieldAt F (n - 1) P l #[el k] A fun e B => (e = .returned (.bool true) ∧ J (k + 1) B ∧ Kp A B) ∨ (e = .returned (.bool false) ∧ Jx (k + 1) B)) →
    J 0 W → CallsIn F n P g (#[.func (.yield l) #[] #[]] ++ lb) W fun e B => (∃ v, e = .returned v) ∧ ∃ k, Jx (k + 1) B

/-- How a round may end. -/
def RoundEnds (Kp : World → World → Prop) (I Ix : Nat → World → Prop) (id k : Nat) (W : World) : Exit → Act → World → Prop
  | .normal, _, B => KeepsOthers W B ∧ Kp W B ∧ I (k + 1) B
  | .exit j, _, B => KeepsOthers W B ∧ j = id ∧ Ix (k + 1) B
  | _, _, _ => False

theorem wpIn_streams {F : Fence} {n : Nat} {P : Program} {g : Operand} {p : Tmp} {assign body : Code} {Q : Exit → Act → World → Prop} {a : Act} {w : World}
    (hro : F.round = none) (h1 : 1 ≤ n) {gf : Nat} {lb : Array Value} (hg : a.eval g = .func (.func gf) #[] lb) (hFg : F.fn gf) (eg : ∀ args w, (callFunc gf args).run P w = .ok (.enter gf args) w)
    {el : Nat → Value} {pc : Addr} {Kp : World → World → Prop} {N : Nat} (hseq : Streams F (n - 1) P gf lb el pc Kp N w) (hpc : pc.block < w.heap.size)
    (hKt : ∀ {A B C : World}, Kp A B → Kp B C → Kp A C) (hKb : ∀ (A : World) (l : Nat) (o : Obj), w.heap.size ≤ l → Kp A (A.putObj l o))
    (id : Nat) (I Ix : Nat → World → Prop) (hI : OwnFrom w.heap.size I) (hIx : OwnFrom w.heap.size Ix) (hIw : ∀ k A v, I k A → I k (A.setCell pc v)) (hIN : ∀ k A, I k A → k < N) (h0 : I 0 w) (a₁ : Nat → Act)
    (hassign : ∀ (l k : Nat) (W : World) (K : Act → World → Prop), K (a₁ k) W →
      assign.wpIn (F.inRound l) (n - 1 - 1) P (Exit.then K (fun _ _ _ => False)) { tmps := a.tmps.setIfInBounds p (el k), defers := [] } W)
    (hbody : ∀ (l k : Nat) (W : World), I k W → body.wpIn (F.inRound l) (n - 1 - 1) P (RoundEnds Kp I Ix id k W) (a₁ k) W)
    (hstop : ∀ (D k : Nat) (W : World), w.heap.size ≤ D → Ix (k + 1) W → W.heap[D]? = some (.deferred (some [])) → (Code.exit id).wpIn F n P Q { a with defers := { target := .collected D, args := #[] } :: a.defers } W) :
    (Code.rangeFunc g #[p] assign body).wpIn F n P Q a w := by
  refine wpIn_rangeFunc fun fn hfn => ?_
  rw [hro]
  let D := w.heap.size
  let L : LoopState → Option Code → Obj := fun st j => .loop { state := st, pending := j, fn, tmps := a.tmps, params := #[p], assign, body, defers := D }
  let W1 := (w.alloc (.deferred (some []))).alloc (L .ready none)
  have kL : W1.heap[D + 1]? = some (L .ready none) := by
    have := heap_alloc_new (w.alloc (.deferred (some []))) (L .ready none)
    rwa [World.size_alloc] at this
  have kD : W1.heap[D]? = some (.deferred (some [])) := heap_alloc_old _ _ (heap_alloc_new w _)
  have kx : Ext w W1 := ((Ext.refl w).alloc _).alloc _
  refine ⟨D + 1, [{ target := .collected D, args := #[] }], W1, { target := .fn (.func gf) lb, args := #[.func (.yield (D + 1)) #[] #[]] }, W1, gf, #[.func (.yield (D + 1)) #[] #[]] ++ lb, W1,
    run_enterLoop_outer _ _ _ _ _, ?_, ?_, ?_, fun _ => h1, ?_⟩
  · simp only [resolve, hg]; simp [go_sem]
  · intro f hf; simp [Target.leads] at hf; subst hf; exact hFg
  · simp [invoke, go_sem, eg]
  have noC : ∀ {A : World} {row : Option Nat}, (∀ r, row = some r → W1.heap.size ≤ r ∧ ∃ o : Obj, A.heap[r]? = some o ∧ o.isWalk = true) → ∀ r, row = some r → w.heap.size ≤ r ∧ ∃ o : Obj, A.heap[r]? = some o ∧ o.isCells = false := fun hr r e => by
    obtain ⟨hb, o, ho, hw⟩ := hr r e
    have hsz : W1.heap.size = w.heap.size + 2 := by show ((w.alloc _).alloc _).heap.size = _; simp
    exact ⟨by omega, o, ho, Obj.not_cells_of_walk hw⟩
  have other : ∀ {A : World} {v : Value} {k : Nat}, w.heap.size ≤ k → (A.setCell pc v).heap[k]? = A.heap[k]? := fun hk => heap_setCell_other _ _ _ (by omega)
  have hs := hseq (D + 1) (fun k W => I k W ∧ W.heap[D + 1]? = some (L .ready none) ∧ W.heap[D]? = some (.deferred (some [])))
    (fun k W => Ix k W ∧ W.heap[D + 1]? = some (L .done (some (.exit id))) ∧ W.heap[D]? = some (.deferred (some []))) W1 kx
  refine (hs ?_ ?_ (fun k A h => hIN k A h.1) ?_ (And.intro (hI.alloc (s := 0) _ (hI.alloc (s := 0) _ h0)) (And.intro kL kD))).mono ?_
  · rintro k A B row ⟨h2, h3, h4⟩ hgr hr
    exact ⟨hI k A B row h2 hgr (noC hr), (grownBy_keeps hgr (fun r e => (hr r e).2) h3 rfl).trans h3, (grownBy_keeps hgr (fun r e => (hr r e).2) h4 rfl).trans h4⟩
  · rintro k A v ⟨h2, h3, h4⟩
    exact ⟨hIw k A v h2, (other (by show w.heap.size ≤ w.heap.size + 1; omega)).trans h3, (other (Nat.le_refl _)).trans h4⟩
  · rintro k A ⟨h2, h3, h4⟩
    have hlt : D + 1 < A.heap.size := blk_lt h3
    refine ⟨fn, a.tmps.setIfInBounds p (el k), assign, body, (run_yield (args := #[el k]) h3 rfl).trans (by simp), roundIn_of_wpIn hfn ?_⟩
    refine hassign _ k A _ ?_
    refine ⟨_, run_beginRound h3 rfl, ?_⟩
    have b3 : (A.putObj (D + 1) (L .busy none)).heap[D + 1]? = some (L .busy none) := World.putObj_heap_same hlt
    have b4 : (A.putObj (D + 1) (L .busy none)).heap[D]? = some (.deferred (some [])) := (World.putObj_heap_other (by omega)).trans h4
    refine wpIn_mono (hbody _ k _ (hI.putObj (l := D + 1) _ h2 (by show w.heap.size ≤ w.heap.size + 1; omega) h3 rfl)) ?_
    intro e a3 B he
    have he' : KeepsOthers (A.putObj (D + 1) (L .busy none)) B ∧ ((e = .normal ∧ Kp (A.putObj (D + 1) (L .busy none)) B ∧ I (k + 1) B) ∨ (e = .exit id ∧ Ix (k + 1) B)) := by
      cases e with
      | normal => exact ⟨he.1, .inl ⟨rfl, he.2⟩⟩
      | exit j => obtain ⟨h1, rfl, h2⟩ := he; exact ⟨h1, .inr ⟨rfl, h2⟩⟩
      | ret => exact he.elim
      | goto _ => exact he.elim
      | panic _ => exact he.elim
      | outgrown => exact he.elim
    obtain ⟨hk, h5⟩ := he'
    have c3 : B.heap[D + 1]? = some (L .busy none) := hk.same _ _ b3 rfl
    have c4 : B.heap[D]? = some (.deferred (some [])) := hk.same _ _ b4 rfl
    have hlb : D + 1 < B.heap.size := blk_lt c3
    rcases h5 with ⟨rfl, hkp, hi⟩ | ⟨rfl, hx⟩
    · exact ⟨_, _, run_endRound none c3, .inl ⟨rfl, ⟨hI.putObj (l := D + 1) _ hi (by show w.heap.size ≤ w.heap.size + 1; omega) c3 rfl, World.putObj_heap_same hlb, (World.putObj_heap_other (by omega)).trans c4⟩,
        hKt (hKt (hKb _ _ _ (by show w.heap.size ≤ w.heap.size + 1; omega)) hkp) (hKb _ _ _ (by show w.heap.size ≤ w.heap.size + 1; omega))⟩⟩
    · exact ⟨_, _, run_endRound (some (.exit id)) c3, .inr ⟨rfl, hIx.putObj (l := D + 1) _ hx (by show w.heap.size ≤ w.heap.size + 1; omega) c3 rfl, World.putObj_heap_same hlb, (World.putObj_heap_other (by omega)).trans c4⟩⟩
  · rintro e B ⟨⟨v, rfl⟩, k, hx, h3, h4⟩
    exact ⟨some (.exit id), _, run_endLoop h3 (by simp), hstop D k _ (Nat.le_refl _) (hIx.putObj (l := D + 1) _ hx (by show w.heap.size ≤ w.heap.size + 1; omega) h3 rfl) ((World.putObj_heap_other (by omega)).trans h4)⟩
end Go.Proofs.YtclekllaikcglaaGreat
