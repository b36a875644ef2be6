import Derived.WalkKit
import Derived.WalkSpells
import Derived.WalkLawsBesides
import Derived.Lib.Hide
import Derived.Deep.QuietTactic
import Derived.BigQuiet
import Derived.StillTailTactics
import Derived.IntWalk
import Derived.Handy
import Derived.ProofKit
import Derived.SizedLaws
import Derived.OpenShut
import Derived.ShutString
import Derived.Laws.CopyOwn
import Derived.SliceStrings
import Derived.Deep.Slices
import Derived.Test.YtclekllaikcglaaGreatProg

/- Plain lemmas on worlds, byte strings and slices, over any program. -/
namespace Go.Proofs.YtclekllaikcglaaGreat
open Go Go.RowKit
def bs (l : List UInt8) : ByteArray := ⟨l.toArray⟩
theorem bs_of (s : ByteArray) : s = bs s.data.toList := by cases s; simp [bs]
theorem bs_ex (s : ByteArray) : ∃ l, s = bs l := ⟨_, bs_of s⟩
@[simp, go_sem] theorem bs_size (l : List UInt8) : (bs l).size = l.length := by simp [bs, ByteArray.size]
@[simp, go_sem] theorem bs_toList (l : List UInt8) : (bs l).toList = l := by simp [bs]
@[simp, go_sem] theorem bs_dataList (l : List UInt8) : (bs l).data.toList = l := by simp [bs]
@[simp, go_sem] theorem bs_data (l : List UInt8) : (bs l).data = l.toArray := rfl
@[simp, go_sem] theorem bs_append (a b : List UInt8) : bs a ++ bs b = bs (a ++ b) := by simp [bs, ByteArray.mk_append_mk]
theorem bs_extract (l : List UInt8) (i j : Nat) : (bs l).extract i j = bs ((l.drop i).take (j - i)) := by simp [bs, ByteArray.extract_mk]
@[simp, go_sem] theorem bs_inj (a b : List UInt8) : bs a = bs b ↔ a = b := by
 constructor
 ·intro h; have := congrArg (fun s => s.data.toList) h; simpa using this
 ·rintro rfl; rfl
@[simp, go_sem] theorem bs_get (l : List UInt8) (i : Nat) (h : i < (bs l).size) : (bs l)[i] = l[i]'(by simpa using h) := by
 show (bs l).data[i] = _
 simp [bs]
def bcells (l : List UInt8) : Array Value := (l.map fun b => Value.int .u8 (b.toNat : Int)).toArray
@[simp] theorem bcells_size (l : List UInt8) : (bcells l).size = l.length := by simp [bcells]
theorem bcells_get? (l : List UInt8) (i : Nat) : (bcells l)[i]? = l[i]?.map fun b => Value.int .u8 (b.toNat : Int) := by simp [bcells]
theorem bcells_at (l : List UInt8) (i : Nat) (h : i < l.length) : (bcells l)[i]? = some (Value.int .u8 (l[i].toNat : Int)) := by rw [bcells_get?]; simp [h]
theorem bcells_set (l : List UInt8) (i : Nat) (x : UInt8) : (bcells l).setIfInBounds i (Value.int .u8 (x.toNat : Int)) = bcells (l.set i x) := by
 simp [bcells, List.map_set]
theorem bcells_replicate (n : Nat) : Array.replicate n (Value.int .u8 0) = bcells (List.replicate n 0) := by
 simp [bcells]
def Ext (w w' : World) : Prop := Below w.heap.size w w'
theorem Ext.refl (w : World) : Ext w w := Below.refl _ _
theorem Ext.trans {a b c : World} (h : Ext a b) (k : Ext b c) : Ext a c := Below.trans h (Below.mono k h.size)
theorem Ext.below {w w' : World} (h : Ext w w') : Below w.heap.size w w' := h
theorem Ext.of_eq {w w' : World} (h : w = w') : Ext w w' := h ▸ Ext.refl _
theorem Ext.alloc {a w : World} (h : Ext a w) (o : Obj) : Ext a (w.alloc o) := Below.alloc h (Below.size h) o
theorem Ext.drew {a w : World} (h : Ext a w) : Ext a w.drew := Below.drew h
theorem Ext.drewN {a w : World} (h : Ext a w) (n : Nat) : Ext a (w.drewN n) := below_drewN h n
theorem Ext.setCell {a w : World} (h : Ext a w) {p : Addr} (hp : a.heap.size ≤ p.block) (u : Value) : Ext a (w.setCell p u) := Below.setCell h hp u
theorem Ext.trans_below {B : Nat} {a b c : World} (h : Ext a b) (k : Below B b c) (hB : a.heap.size ≤ B := by omega) : Ext a c := Below.trans h (Below.mono k hB)
theorem Ext.size {a w : World} (h : Ext a w) : a.heap.size ≤ w.heap.size := Below.size h
theorem Ext.block {a w : World} (h : Ext a w) {k : Nat} (hk : k < a.heap.size) : w.heap[k]? = a.heap[k]? := Below.block h k hk
theorem Ext.keep {a w : World} (h : Ext a w) {k : Nat} {o : Obj} (hk : a.heap[k]? = some o) : w.heap[k]? = some o := by
 rw [h.block ((Array.getElem?_eq_some_iff.1 hk).1)]; exact hk
theorem Ext.cell_of {a w : World} (h : Ext a w) {p : Addr} {v : Value} (hp : a.cell? p = some v) : w.cell? p = some v := by
 rw [h.below.cell (World.block_lt_of_cell? _ _ hp)]; exact hp
theorem blk_lt {w : World} {k : Nat} {o : Obj} (hk : w.heap[k]? = some o) : k < w.heap.size := (Array.getElem?_eq_some_iff.1 hk).1
theorem cell_blk {w : World} {b i : Nat} {cs : Array Value} {T : TypeId} {fz : Nat × Nat} {v : Value} (h : w.heap[b]? = some (.cells cs T fz)) (hi : cs[i]? = some v) : w.cell? ⟨b, i, none⟩ = some v := by
 simp [World.cell?, h, hi]
theorem frozen_blk {w : World} {b i : Nat} {cs : Array Value} {T : TypeId} (h : w.heap[b]? = some (.cells cs T (0, 0))) : w.frozen? ⟨b, i, none⟩ = false := by
 simp [World.frozen?, h]
theorem heap_alloc_new (w : World) (o : Obj) : (w.alloc o).heap[w.heap.size]? = some o := by
 show (w.heap.push o)[w.heap.size]? = _
 simp
theorem heap_alloc_old (w : World) (o : Obj) {k : Nat} {x : Obj} (h : w.heap[k]? = some x) : (w.alloc o).heap[k]? = some x := by
 rw [Below.heap_alloc w o k (blk_lt h)]; exact h
theorem heap_setCell_same {w : World} {b i : Nat} {cs : Array Value} {T : TypeId} {fz : Nat × Nat} (v : Value) (h : w.heap[b]? = some (.cells cs T fz)) : (w.setCell ⟨b, i, none⟩ v).heap[b]? = some (.cells (cs.setIfInBounds i v) T fz) := by
 simp only [World.setCell, Array.getElem?_modify, if_pos, h, Option.map_some]
 rfl
theorem heap_setCell_other (w : World) (a : Addr) (v : Value) {k : Nat} (h : k ≠ a.block) : (w.setCell a v).heap[k]? = w.heap[k]? := Below.heap_setCell _ _ _ _ h
@[simp] theorem heap_drew (w : World) : w.drew.heap = w.heap := rfl
@[simp] theorem heap_drewN (w : World) (n : Nat) : (w.drewN n).heap = w.heap := rfl
theorem run_bytes_string {P : Program} {src dst e : TypeId} (hs : P.underlying src = some (.slice e)) (he : P.underlying e = some (.int .u8)) (hd : P.underlying dst = some .string)
  (w : World) (b off c : Nat) (l : List UInt8) (h : ∀ i (hi : i < l.length), w.cell? ⟨b, off + i, none⟩ = some (.int .u8 (l[i].toNat : Int))) :
  (convert src dst (.slice (some ⟨b, off, none⟩) l.length c)).run P w = .ok (.string (bs l)) w := by
 rw [run_convert_bytes_string w src dst e _ _ _ hs he hd]
 have hl : (loadCells ⟨b, off, none⟩ l.length).run P w = .ok ((l.map fun x => (x.toNat : Int)).map (Value.int .u8)).toArray w := by
  have := run_loadCells_list (P := P) (w := w) ⟨b, off, none⟩ ((l.map fun x => (x.toNat : Int)).map (Value.int .u8)) (by
   intro j v hj
   simp at hj
   obtain ⟨x, hx, rfl⟩ := hj
   obtain ⟨hj', rfl⟩ := List.getElem?_eq_some_iff.1 hx
   have := h j hj'
   simpa [Addr.add_lit] using this)
  simpa using this
 rw [run_bytesToString w _ _ _ _ hl]
 have : ∀ (m : List UInt8) (acc : List UInt8), (m.map fun x => (x.toNat : Int)).foldl (fun (r : ByteArray) (n : Int) => r.push (UInt8.ofNat n.toNat)) (bs acc) = bs (acc ++ m) := by
  intro m
  induction m with
  | nil => intro acc; simp
  | cons x m ih =>
   intro acc
   simp only [List.map_cons, List.foldl_cons, Int.toNat_natCast, UInt8.ofNat_toNat]
   have hp : (bs acc).push x = bs (acc ++ [x]) := by simp [bs, ByteArray.push]
   rw [hp, ih]; simp
 have h0 := this l []
 simp only [List.nil_append] at h0
 rw [show (ByteArray.empty) = bs [] from rfl, h0]
def capOf (e : TypeId) (w : World) (n : Nat) : Nat := grownCap w n 0 e
theorem capOf_ge (e : TypeId) (w : World) (n : Nat) : n ≤ capOf e w n := grownCap_ge w n 0 e
theorem run_string_bytes {P : Program} {src dst e : TypeId} (hs : P.underlying src = some .string) (hd : P.underlying dst = some (.slice e)) (he : P.underlying e = some (.int .u8)) (l : List UInt8) (w : World) :
  (convert src dst (.string (bs l))).run P w = .ok (.slice (some ⟨w.heap.size, 0, none⟩) l.length (capOf e w l.length))
   (w.alloc (.cells (bcells (l ++ List.replicate (capOf e w l.length - l.length) 0)) e (capOf e w l.length, capOf e w l.length + 1))).drew := by
 have h := run_bytes_of_string (P := P) w src dst e (bs l) hs hd he
 have hge := capOf_ge e w l.length
 have h2 : bytesRow (bs l) (grownCap w l.length 0 e) = bcells (l ++ List.replicate (capOf e w l.length - l.length) 0) := by
  simp [bytesRow, bcells, capOf]
 rw [bs_size, h2] at h
 rw [h, bcells_size]
 have h3 : (l ++ List.replicate (capOf e w l.length - l.length) (0 : UInt8)).length = capOf e w l.length := by simp; omega
 rw [h3]
 rfl
theorem run_make_bytes {P : Program} {t e : TypeId} (ht : P.underlying t = some (.slice e)) (hi : (P.info? e).map (fun i => (i.zero, i.size, i.bytes)) = some (some (.int .u8 0), 1, 1))
  (c : Nat) (hc : c ≤ 281474976710656) (w : World) :
  (Instr.makeSlice t (.int .i64 c) (.int .i64 c)).run P w = .ok (.slice (some ⟨w.heap.size, 0, none⟩) c c) (w.alloc (.cells (bcells (List.replicate c 0)) e)) := by
 obtain ⟨i0, hi, hz0, hz1, hz2⟩ := info_parts hi
 have := run_make (P := P) w t e i0 (.int .u8 0) ht hi hz0 .i64 .i64 c c (by omega) (by omega) (by rw [hz2]; omega) (by omega)
 rw [this, ← bcells_replicate]
 congr 4
 simp [madeCells, hz1, Value.cells]
 apply Array.ext <;> simp
 intro i _; rw [Nat.mod_one]; rfl
theorem run_make_bytes0 {P : Program} {t e : TypeId} (ht : P.underlying t = some (.slice e)) (hi : (P.info? e).map (fun i => (i.zero, i.size, i.bytes)) = some (some (.int .u8 0), 1, 1))
  (c : Nat) (hc : c ≤ 281474976710656) (w : World) :
  (Instr.makeSlice t (.int .i64 0) (.int .i64 c)).run P w = .ok (.slice (some ⟨w.heap.size, 0, none⟩) 0 c) (w.alloc (.cells (bcells (List.replicate c 0)) e)) := by
 obtain ⟨i0, hi, hz0, hz1, hz2⟩ := info_parts hi
 have := run_make (P := P) w t e i0 (.int .u8 0) ht hi hz0 .i64 .i64 0 c (by omega) (by omega) (by rw [hz2]; omega) (by omega)
 rw [this, ← bcells_replicate]
 congr 4
 simp [madeCells, hz1, Value.cells]
 apply Array.ext <;> simp
 intro i _; rw [Nat.mod_one]; rfl
theorem set_take_rep {α : Type} (s : List α) (z : α) (k : Nat) (hk : k < s.length) :
  (s.take k ++ List.replicate (s.length - k) z).set k s[k] = s.take (k + 1) ++ List.replicate (s.length - (k + 1)) z := by
 have h1 : s.length - k = (s.length - (k + 1)) + 1 := by omega
 have h2 : s.take (k + 1) = s.take k ++ [s[k]] := List.take_succ_eq_append_getElem hk
 rw [h1, List.replicate_succ, h2]
 rw [List.set_append_right _ _ (by simp; omega)]
 simp only [List.length_take, Nat.min_eq_left (Nat.le_of_lt hk), Nat.sub_self, List.set_cons_zero, List.append_assoc, List.cons_append, List.nil_append]
theorem fill_set {α : Type} (s : List α) (z : α) (n k : Nat) (hn : s.length = n) (hk : k < n) :
  (s.take k ++ List.replicate (n - k) z).set k (s[k]'(by omega)) = s.take (k + 1) ++ List.replicate (n - (k + 1)) z := by
 subst hn; exact set_take_rep s z k hk
theorem fill_at {α : Type} (s : List α) (z : α) (n k : Nat) (hn : s.length = n) (hk : k < n) : (s.take k ++ List.replicate (n - k) z)[k]? = some z := by
 subst hn
 rw [List.getElem?_append_right (by simp; omega), List.length_take, Nat.min_eq_left (Nat.le_of_lt hk), Nat.sub_self, List.getElem?_replicate, if_pos (by omega)]
theorem fill_done {α : Type} (s : List α) (z : α) (n : Nat) (hn : s.length = n) : s.take n ++ List.replicate (n - n) z = s := by
 subst hn; simp
theorem fill_cell (s : List UInt8) (n k : Nat) (hn : s.length = n) (hk : k < n) : (bcells (s.take k ++ List.replicate (n - k) 0))[k]? = some (.int .u8 0) := by
 rw [bcells_get?, fill_at s 0 n k hn hk]; rfl
theorem ret_str {a b : List UInt8} (h : a = b) : Ending.returned (.string (bs a)) = .returned (.string (bs b)) := by rw [h]
theorem ret_int {k : IntKind} {a b : Int} (h : a = b) : Ending.returned (.int k a) = .returned (.int k b) := by rw [h]
theorem ret_bool {a b : Bool} (h : a = b) : Ending.returned (.bool a) = .returned (.bool b) := by rw [h]
theorem oi32 (x : UInt32) : BitVec.ofInt 32 (x.toNat : Int) = x.toBitVec := by
 rw [BitVec.ofInt_natCast]; exact BitVec.eq_of_toNat_eq (by simp)
theorem oi8 (x : UInt8) : BitVec.ofInt 8 (x.toNat : Int) = x.toBitVec := by
 rw [BitVec.ofInt_natCast]; exact BitVec.eq_of_toNat_eq (by simp)
theorem oi64 (x : UInt64) : BitVec.ofInt 64 (x.toNat : Int) = x.toBitVec := by
 rw [BitVec.ofInt_natCast]; exact BitVec.eq_of_toNat_eq (by simp)
theorem wrap_toNat32 (x : UInt32) : IntKind.u32.wrap (x.toNat : Int) = (x.toNat : Int) := by
 rw [IntKind.wrap_u32]; have := x.toNat_lt; omega
theorem wrap_toNat8 (x : UInt8) : IntKind.u8.wrap (x.toNat : Int) = (x.toNat : Int) := by
 rw [IntKind.wrap_u8]; have := x.toNat_lt; omega
theorem wrap_toNat64 (x : UInt64) : IntKind.u64.wrap (x.toNat : Int) = (x.toNat : Int) := by
 rw [IntKind.wrap_u64]; have := x.toNat_lt; omega
def x32 (x y : UInt32) : UInt32 := x ^^^ y
@[go_sem] theorem bxor32 (x y : UInt32) : bits .xor .u32 (x.toNat : Int) (y.toNat : Int) = ((x32 x y).toNat : Int) := by
 show IntKind.u32.wrap ((BitVec.ofInt 32 _ ^^^ BitVec.ofInt 32 _).toNat : Int) = _
 rw [oi32, oi32]; exact wrap_toNat32 (x ^^^ y)
def a32 (x y : UInt32) : UInt32 := x &&& y
@[go_sem] theorem band32 (x y : UInt32) : bits .and .u32 (x.toNat : Int) (y.toNat : Int) = ((a32 x y).toNat : Int) := by
 show IntKind.u32.wrap ((BitVec.ofInt 32 _ &&& BitVec.ofInt 32 _).toNat : Int) = _
 rw [oi32, oi32]; exact wrap_toNat32 (x &&& y)
def o32 (x y : UInt32) : UInt32 := x ||| y
@[go_sem] theorem bor32 (x y : UInt32) : bits .or .u32 (x.toNat : Int) (y.toNat : Int) = ((o32 x y).toNat : Int) := by
 show IntKind.u32.wrap ((BitVec.ofInt 32 _ ||| BitVec.ofInt 32 _).toNat : Int) = _
 rw [oi32, oi32]; exact wrap_toNat32 (x ||| y)
def x8 (x y : UInt8) : UInt8 := x ^^^ y
@[go_sem] theorem bxor8 (x y : UInt8) : bits .xor .u8 (x.toNat : Int) (y.toNat : Int) = ((x8 x y).toNat : Int) := by
 show IntKind.u8.wrap ((BitVec.ofInt 8 _ ^^^ BitVec.ofInt 8 _).toNat : Int) = _
 rw [oi8, oi8]; exact wrap_toNat8 (x ^^^ y)
def a8 (x y : UInt8) : UInt8 := x &&& y
@[go_sem] theorem band8 (x y : UInt8) : bits .and .u8 (x.toNat : Int) (y.toNat : Int) = ((a8 x y).toNat : Int) := by
 show IntKind.u8.wrap ((BitVec.ofInt 8 _ &&& BitVec.ofInt 8 _).toNat : Int) = _
 rw [oi8, oi8]; exact wrap_toNat8 (x &&& y)
def o8 (x y : UInt8) : UInt8 := x ||| y
@[go_sem] theorem bor8 (x y : UInt8) : bits .or .u8 (x.toNat : Int) (y.toNat : Int) = ((o8 x y).toNat : Int) := by
 show IntKind.u8.wrap ((BitVec.ofInt 8 _ ||| BitVec.ofInt 8 _).toNat : Int) = _
 rw [oi8, oi8]; exact wrap_toNat8 (x ||| y)
def o64 (x y : UInt64) : UInt64 := x ||| y
@[go_sem] theorem bor64 (x y : UInt64) : bits .or .u64 (x.toNat : Int) (y.toNat : Int) = ((o64 x y).toNat : Int) := by
 show IntKind.u64.wrap ((BitVec.ofInt 64 _ ||| BitVec.ofInt 64 _).toNat : Int) = _
 rw [oi64, oi64]; exact wrap_toNat64 (x ||| y)
theorem or_join (k : IntKind) (j : Nat) (hj : j ≤ k.bits) (hk : ∀ n : Int, 0 ≤ n → n < 2 ^ j → k.wrap n = n) (i a b : Nat) (hb : b < 2 ^ i) (ha : a * 2 ^ i + b < 2 ^ j) :
  bits .or k ((a : Int) * 2 ^ i) (b : Int) = ((a * 2 ^ i + b : Nat) : Int) := by
 have h := bits_join k j hj hk i ((a * 2 ^ i : Nat) : Int) (b : Int) (by omega) (by simp) (by exact_mod_cast (by omega : a * 2 ^ i < 2 ^ j)) (by omega) (by exact_mod_cast hb) (by exact_mod_cast (by omega : b < 2 ^ j))
 rw [show ((a : Int) * 2 ^ i) = ((a * 2 ^ i : Nat) : Int) by simp, h]; simp
theorem wraps_u32 (n : Int) (h₀ : 0 ≤ n) (h₁ : n < 2 ^ 32) : IntKind.u32.wrap n = n := by rw [IntKind.wrap_u32]; omega
theorem or_byte32 (a : Nat) (x : UInt8) (ha : a ≤ 16777215) : bits .or .u32 ((a : Int) * 256) (x.toNat : Int) = ((a * 256 + x.toNat : Nat) : Int) := by
 have hx := x.toNat_lt
 exact or_join .u32 32 (by decide) wraps_u32 8 a x.toNat (by omega) (by omega)
@[go_sem] theorem w_mod32 (x : UInt32) : ((x.toNat : Int) % 4294967296) = (x.toNat : Int) := by have := x.toNat_lt; omega
@[go_sem] theorem w_wrap64 (x : UInt32) : IntKind.u64.wrap (x.toNat : Int) = (x.toNat : Int) := by rw [IntKind.wrap_u64]; have := x.toNat_lt; omega
@[simp, go_sem] theorem bs_extract0 (l : List UInt8) (n : Nat) : (bs l).extract 0 n = bs (l.take n) := by rw [bs_extract]; simp
@[go_sem] theorem b_mod32 (x : UInt8) : ((x.toNat : Int) % 4294967296) = (x.toNat : Int) := by have := x.toNat_lt; omega
@[go_sem] theorem b_wrap32 (x : UInt8) : IntKind.u32.wrap (x.toNat : Int) = (x.toNat : Int) := by rw [IntKind.wrap_u32]; exact b_mod32 x
@[go_sem] theorem b_wrap64 (x : UInt8) : IntKind.u64.wrap (x.toNat : Int) = (x.toNat : Int) := by rw [IntKind.wrap_u64]; have := x.toNat_lt; omega
@[go_sem] theorem b_wrapi (x : UInt8) : IntKind.i64.wrap (x.toNat : Int) = (x.toNat : Int) := by rw [IntKind.wrap_i64]; have := x.toNat_lt; omega
@[go_sem] theorem b_wrapi' (x : UInt8) : wrap64 (x.toNat : Int) = (x.toNat : Int) := by unfold wrap64; have := x.toNat_lt; omega
theorem frozen_spare {w : World} {b i c : Nat} {cs : Array Value} {T : TypeId} (h : w.heap[b]? = some (.cells cs T (c, c + 1))) (hi : i < c) : w.frozen? ⟨b, i, none⟩ = false := by
 simp only [World.frozen?, h]; simp; omega
theorem bcells_left (l r : List UInt8) (i : Nat) (h : i < l.length) : (bcells (l ++ r))[i]? = some (.int .u8 (l[i].toNat : Int)) := by
 rw [bcells_get?, List.getElem?_append_left h, List.getElem?_eq_getElem h]; rfl
theorem bcells_set_left (l r : List UInt8) (i : Nat) (x : UInt8) (h : i < l.length) : (bcells (l ++ r)).setIfInBounds i (Value.int .u8 (x.toNat : Int)) = bcells (l.set i x ++ r) := by
 rw [bcells_set, List.set_append_left _ _ h]
def Row (w : World) (B : Nat) (e : TypeId) (v : Value) (xs : List Value) : Prop := w.ownsRow B e 1 v xs.length xs
theorem Row.nil (w : World) (B : Nat) (e : TypeId) : Row w B e (.slice none 0 0) [] := World.ownsRow_nil w B e 1
theorem Row.kept {w w' : World} {B C : Nat} {e : TypeId} {v : Value} {xs : List Value} (h : Row w B e v xs) (hb : Below C w w') (hC : ∀ k, v.ownBlock = some k → k < C) : Row w' B e v xs := by
 refine ⟨h.1, ?_⟩
 rcases h.2 with h2 | ⟨g, cap, cur, hv, hg, hh, r⟩
 ·exact .inl h2
 ·exact .inr ⟨g, cap, cur, hv, hg, by rw [hb.block g (hC g (by rw [hv]; rfl))]; exact hh, r⟩
theorem Row.ext {w w' : World} {B : Nat} {e : TypeId} {v : Value} {xs : List Value} (h : Row w B e v xs) (hx : Ext w w') : Row w' B e v xs :=
 h.kept hx (fun k hk => (World.ownsRow.lt h k hk).2)
theorem Row.lt {w : World} {B : Nat} {e : TypeId} {v : Value} {xs : List Value} (h : Row w B e v xs) : ∀ k, v.ownBlock = some k → B ≤ k ∧ k < w.heap.size := World.ownsRow.lt h
theorem Row.mono {w : World} {B B' : Nat} {e : TypeId} {v : Value} {xs : List Value} (h : Row w B e v xs) (hB : B' ≤ B) : Row w B' e v xs := by
 refine ⟨h.1, ?_⟩
 rcases h.2 with h2 | ⟨g, cap, cur, hv, hg, r⟩
 ·exact .inl h2
 ·exact .inr ⟨g, cap, cur, hv, by omega, r⟩
theorem Row.look {w : World} {B : Nat} {e : TypeId} {v : Value} {xs : List Value} (h : Row w B e v xs) :
  (v = .slice none 0 0 ∧ xs = []) ∨ ∃ g cap cur, v = .slice (some ⟨g, 0, none⟩) xs.length cap ∧ B ≤ g ∧ w.heap[g]? = some (.cells cur e (0, 0)) ∧ xs.length ≤ cap ∧ cur.size = cap ∧ cur.toList.take xs.length = xs := by
 rcases h.2 with ⟨h1, h2⟩ | ⟨g, cap, cur, hv, hg, hh, h3, h4, h5, h6⟩
 ·exact .inl ⟨h1, List.eq_nil_of_length_eq_zero h2⟩
 ·exact .inr ⟨g, cap, cur, hv, hg, hh, h3, by simpa using h5, by simpa using h6⟩
theorem Row.cellAt {w : World} {B : Nat} {e : TypeId} {xs : List Value} {g n cap : Nat} (h : Row w B e (.slice (some ⟨g, 0, none⟩) n cap) xs) (i : Nat) (hi : i < xs.length) : w.cell? ⟨g, i, none⟩ = some xs[i] := by
 rcases h.look with ⟨h1, _⟩ | ⟨g', cap', cur, hv, _, hh, h3, h5, h6⟩
 ·cases h1
 ·cases hv
  refine cell_blk hh ?_
  have : (cur.toList.take xs.length)[i]? = some xs[i] := by rw [h6]; exact List.getElem?_eq_getElem hi
  rw [List.getElem?_take, if_pos hi] at this
  simpa using this
theorem oneCells {α : Type} {f : α → Value} (l : List α) (h : ∀ x, (f x).oneCell' = true) : ∀ u ∈ l.map f, u.oneCell' = true := by
 intro u hu; obtain ⟨x, _, rfl⟩ := List.mem_map.1 hu; exact h x
theorem wpl_append {P : Program} {ops : Array Oper} {rest : List Oper} {o : Oper} {a : Act} {Q : Exit → Act → World → Prop} {w : World} (hgd : o.guard = none) (s x : Operand) (t : TypeId)
  (ho : o.op = .call { callee := .builtin .append, args := #[s, x], argTypes := #[t, t] }) {e bytes : Nat} {z : Value}
  (ht : P.underlying t = some (.slice e)) (hinfo : (P.info? e).map (fun i => (i.zero, i.size, i.bytes)) = some (some z, 1, bytes)) (hz : z.cells.size = 1) (hby : 0 < bytes)
  (B : Nat) (hB : B ≤ w.heap.size) (v : Value) (xs : List Value) (hs : a.eval s = v) (hown : Row w B e v xs)
  (ad : Addr) (m c : Nat) (news : List Value) (hx : a.eval x = .slice (some ad) m c) (hm : news.length = m) (hnews : ∀ j u, news[j]? = some u → w.cell? (ad.add j) = some u) (h1 : ∀ u ∈ news, u.oneCell' = true)
  (hlen : (xs.length + m) * bytes ≤ 140737488355328)
  (h : ∀ v' w', Row w' B e v' (xs ++ news) → Below B w w' → (∀ k, k < w.heap.size → some k ≠ v.ownBlock → w'.heap[k]? = w.heap[k]?) → wpList P ops Q rest (a.put o.dst v') w') : wpList P ops Q (o :: rest) a w := by
 obtain ⟨i0, hi, hz0, hz1, hz2⟩ := info_parts hinfo
 subst hm
 have h63 : xs.length + news.length ≤ maxLen := by
  have : xs.length + news.length ≤ (xs.length + news.length) * bytes := Nat.le_mul_of_pos_right _ hby
  unfold maxLen; omega
 refine wpList_append_own w hgd s x t ho B e i0 z 1 bytes ht hi hz0 hz1 hz2 hz (by omega) v xs.length xs hs hown ad news.length c news hx (by simp) hnews h1 h63 hlen hB ?_
 intro v' w' h2 hg _
 refine h v' w' ?_ ((Below.refl B w).grown hg hB (fun k hk => ((World.ownsRow.lt hown) k hk).1)) (fun k hk hne => hg.block k hk hne)
 unfold Row; rw [List.length_append]; exact h2
theorem cells_one_new (w : World) (u : Value) (t : TypeId) : ∀ j x, [u][j]? = some x → (w.alloc (.cells #[u] t)).cell? ((⟨w.heap.size, 0, none⟩ : Addr).add j) = some x := by
 intro j x hj
 match j, hj with
 | 0, hj => simp at hj; subst hj; rw [Addr.add_lit]; exact cell_blk (heap_alloc_new _ _) (by simp)
 | j + 1, hj => simp at hj
theorem cells_one_at (w : World) (u : Value) (t : TypeId) (b : Nat) (hb : b = w.heap.size) : ∀ j x, [u][j]? = some x → (w.alloc (.cells #[u] t)).cell? ((⟨b, 0, none⟩ : Addr).add j) = some x := by
 subst hb; exact cells_one_new w u t
def byteV (b : UInt8) : Value := .int .u8 (b.toNat : Int)
theorem bcells_toList (l : List UInt8) : bcells l = (l.map byteV).toArray := rfl
def b8 (n : Nat) : UInt8 := UInt8.ofNat n
theorem b8_toNat (n : Nat) (h : n < 256) : (b8 n).toNat = n := UInt8.toNat_ofNat_of_lt' h
theorem b8_mod (n : Nat) : (b8 n).toNat = n % 256 := by simp [b8]
def U32 (n : Nat) : Prop := n < 4294967296
def U64 (n : Nat) : Prop := n < 18446744073709551616
end Go.Proofs.YtclekllaikcglaaGreat

/- From a law's walk to its row: over any arguments that can be read. -/
namespace Go.Proofs.YtclekllaikcglaaGreat
open Go Go.ChangeShapes Go.WideShapes Go.ChangeAt Go.RowKit
theorem wf_range {k : IntKind} {n : Int} (h : (Lit.int k n).wf = true) : k.min ≤ n ∧ n ≤ k.max := by
 simpa [Lit.wf] using h
theorem nat_u32 {n : Int} (h : (Lit.int .u32 n).wf = true) : ∃ m : UInt32, n = m.toNat := by
 have := wf_range h
 rw [show IntKind.u32.min = 0 from rfl, show IntKind.u32.max = 4294967295 from rfl] at this
 exact ⟨UInt32.ofNat n.toNat, by rw [UInt32.toNat_ofNat_of_lt' (by show n.toNat < 4294967296; omega)]; omega⟩
theorem nat_u8 {n : Int} (h : (Lit.int .u8 n).wf = true) : ∃ m : UInt8, n = m.toNat := by
 have := wf_range h
 rw [show IntKind.u8.min = 0 from rfl, show IntKind.u8.max = 255 from rfl] at this
 exact ⟨UInt8.ofNat n.toNat, by rw [UInt8.toNat_ofNat_of_lt' (by show n.toNat < 256; omega)]; omega⟩
theorem trodAll_length {H : Type} {enc : TypeId × Value → H} {P : Program} {w : World} {base : Nat} {sp : Nat → Bool} {held : Bool} : ∀ {ts : List TypeId} {vs : List Value} {ds : List (DataW H)} {ps : List MemPlace},
  DataW.TrodAll enc P w base sp held ts vs ds ps → ds.length = ts.length
 | [], vs, ds, ps, h => by cases vs <;> cases ds <;> simp [DataW.TrodAll] at h ⊢
 | t :: ts, vs, ds, ps, h => by
  obtain ⟨v, vs', d, ds', p, q, rfl, rfl, _, _, r⟩ := trodAll_cons h
  simp [trodAll_length r]
theorem trodAll_stays {H : Type} {enc : TypeId × Value → H} {P : Program} (hl : laidOutB P = true) {W W' : World} (hb : Below W.heap.size W W') : ∀ {ts : List TypeId} {vs : List Value} {ds : List (DataW H)} {ps : List MemPlace},
  ts.all (fun t => P.readableRec t && decide (t < P.types.size)) = true → DataW.TrodAll enc P W 0 (fun _ => true) true ts vs ds ps → (∀ x ∈ ps, x.block < W.heap.size) →
  DataW.TrodAll enc P W' 0 (fun b => decide (b < W.heap.size)) true ts vs ds ps
 | [], vs, ds, ps, _, h, _ => by cases vs <;> cases ds <;> simp [DataW.TrodAll] at h ⊢; exact h
 | t :: ts, vs, ds, ps, hr, h, hlt => by
  obtain ⟨v, vs', d, ds', p, q, rfl, rfl, rfl, hp, r⟩ := trodAll_cons h
  simp only [List.all_cons, Bool.and_eq_true, decide_eq_true_eq] at hr
  refine ⟨p, q, Below.trod hl hr.1.1 hr.1.2 hp hb (fun x hx => hlt x (List.mem_append_left _ hx)), trodAll_stays hl hb hr.2 r (fun x hx => hlt x (List.mem_append_right _ hx)), rfl⟩
theorem law_lifted {H : Type} {enc : TypeId × Value → H} {C : Checked} {os : Os} {f : FuncId} {fn : Func} {s : ChangeSpec} {tb : TypeId}
  (own : ownKnob C.prog.godebug = none) (started : os.Started) (noInit : C.prog.inits.idxOf? f = none) (hfn : C.prog.funcs[f]? = some fn)
  (witness : ∃ (w : World) (tape : Tape) (i : Input), w.os = os ∧ (w.forCall tape i).Shaped C.prog ∧ i.vars = [] ∧ Input.okWide C.prog (w.forCall tape i) .any w.heap.size f i ∧
   s.pre6 enc C.prog fn [] false (w.forCall tape i).memory i.args ∧ ({} : Assume).holds C.prog (lone (Frame.enter C.prog f i.args .normal) [] (w.forCall tape i)))
  (hvars : s.vars = []) (hspec : ∀ (ds : List (DataW H)), ds.length = fn.params.size → s.fn H ds = { results := [.lit (.bool true)], args := ds })
  (hres : fn.resultTypes = #[tb]) (hb : C.prog.underlying tb = some .bool) (hlaid : laidOutB C.prog = true)
  (hread : fn.params.toList.all (fun t => C.prog.readableRec t && decide (t < C.prog.types.size)) = true)
  (law : ∀ (W : World) (base : Nat) (args : Array Value) (ds : List (DataW H)) (p : List MemPlace),
   (∀ (j : Nat) t v, fn.params[j]? = some t → args[j]? = some v → Value.okWide C.prog W .any base t v) →
   DataW.TrodAll enc C.prog W 0 (fun _ => true) true fn.params.toList args.toList ds p →
   (DataW.weightsEach C.prog fn.params.toList ds).all (· ≤ reachBytes) = true →
   (∀ x ∈ p, x.block < W.heap.size) →
   Calls C.prog f args W fun e W' => e = .returned (.bool true) ∧ Ext W W') :
  ReturnsInHanded {} C os f .any (s.pre6 enc C.prog fn [] false) (s.post enc C.prog fn false true false false) := by
 refine returnsInHanded_of_change_sized own started noInit hfn witness ?_
 intro W base args ds gs before hval hW _ hsz _
 have hW' := hW
 obtain ⟨p, q, hA, hV, rfl, _, _⟩ := hW
 have hV' : DataW.TrodVars enc C.prog W (fun _ => true) [] gs q := by rw [← hvars]; exact hV
 obtain ⟨rfl, rfl⟩ := trodVars_none hV'
 have hlt : ∀ x ∈ p, x.block < W.heap.size := fun x hx => by simpa using hW'.lt x (List.mem_append_left _ hx)
 have hvt : s.plain.varTypes C.prog = [] := by unfold DataSpec.varTypes ChangeSpec.plain; simp [hvars]
 rw [hvt, List.append_nil, List.append_nil] at hsz
 simp only [List.append_nil] at hW'
 refine (law W base args ds p hval hA hsz hlt).mono fun e W' ⟨he, hx⟩ => ?_
 subst he
 have hlen := trodAll_length hA
 have hs := hspec ds (by simpa using hlen)
 have hbl : Below W.heap.size W W' := hx
 refine ⟨_, rfl, ds, [], p, [], p, [], hW', ?_, ?_, ?_, hbl.frame _, fun h => by cases h⟩
 ·rw [List.append_nil, hs, hres]
  exact trodAll_cons_mk (shut_bool hb true) trodAll_mk0
 ·rw [List.append_nil, hs]
  exact trodAll_stays hlaid hbl hread hA hlt
 ·rw [List.append_nil, hs, hvars]; rfl
end Go.Proofs.YtclekllaikcglaaGreat

/- Laws on memory: slices that came in, copy, maps keyed by integers. -/
namespace Go.Proofs.YtclekllaikcglaaGreat
open Go Go.RowKit
def strV (l : List UInt8) : Value := .string (bs l)
def Sl (w : World) (v : Value) (xs : List Value) : Prop :=
 ∃ ad cap, v = .slice ad xs.length cap ∧ ∀ i (hi : i < xs.length), ∃ b off, ad = some ⟨b, off, none⟩ ∧ b < w.heap.size ∧ w.cell? ⟨b, off + i, none⟩ = some xs[i]
theorem Sl.ext {w w' : World} {v : Value} {xs : List Value} (h : Sl w v xs) (hx : Ext w w') : Sl w' v xs := by
 obtain ⟨ad, cap, hv, hc⟩ := h
 refine ⟨ad, cap, hv, fun i hi => ?_⟩
 obtain ⟨b, off, ha, hb, hcell⟩ := hc i hi
 exact ⟨b, off, ha, Nat.lt_of_lt_of_le hb hx.size, by rw [hx.below.cell (p := ⟨b, off + i, none⟩) hb]; exact hcell⟩
theorem Sl.at_ {w : World} {ad : Option Addr} {n cap : Nat} {xs : List Value} (h : Sl w (.slice ad n cap) xs) (i : Nat) (hi : i < xs.length) :
  ∃ b off, ad = some ⟨b, off, none⟩ ∧ b < w.heap.size ∧ w.cell? ⟨b, off + i, none⟩ = some xs[i] := by
 obtain ⟨ad', cap', hv, hc⟩ := h
 simp only [Value.slice.injEq] at hv
 rw [hv.1]; exact hc i hi
theorem Sl.str {w : World} {ad : Option Addr} {n cap : Nat} {l : List (List UInt8)} (h : Sl w (.slice ad n cap) (l.map strV)) (i : Nat) (hi : i < l.length) :
  ∃ b off, ad = some ⟨b, off, none⟩ ∧ b < w.heap.size ∧ w.cell? ⟨b, off + i, none⟩ = some (.string (bs l[i])) := by
 obtain ⟨b, off, h1, h2, h3⟩ := h.at_ i (by simpa using hi)
 exact ⟨b, off, h1, h2, by rw [h3]; simp [strV]⟩
theorem Sl.len {w : World} {ad : Option Addr} {n cap : Nat} {xs : List Value} (h : Sl w (.slice ad n cap) xs) : n = xs.length := by
 obtain ⟨ad', cap', hv, _⟩ := h
 simp only [Value.slice.injEq] at hv
 exact hv.2.1
theorem Sl.look {w : World} {v : Value} {xs : List Value} (h : Sl w v xs) : ∃ ad cap, v = .slice ad xs.length cap := let ⟨ad, cap, hv, _⟩ := h; ⟨ad, cap, hv⟩
theorem Sl.nil (w : World) : Sl w (.slice none 0 0) [] := ⟨none, 0, rfl, fun i hi => absurd hi (by simp)⟩
theorem Row.sl {w : World} {B : Nat} {e : TypeId} {v : Value} {xs : List Value} (h : Row w B e v xs) : Sl w v xs := by
 rcases h.look with ⟨rfl, rfl⟩ | ⟨g, cap, cur, rfl, _, hh, h3, h5, h6⟩
 ·exact Sl.nil w
 ·exact ⟨_, cap, rfl, fun i hi => ⟨g, 0, rfl, blk_lt hh, by rw [Nat.zero_add]; exact Row.cellAt h i hi⟩⟩
def splice (L : List UInt8) (o : Nat) (c : List UInt8) : List UInt8 := L.take o ++ c ++ L.drop (o + c.length)
theorem splice_length (L : List UInt8) (o : Nat) (c : List UInt8) (h : o + c.length ≤ L.length) : (splice L o c).length = L.length := by
 simp [splice]; omega
def padTo (n : Nat) (l : List UInt8) : List UInt8 := l.take n ++ List.replicate (n - l.length) 0
@[simp] theorem padTo_length (n : Nat) (l : List UInt8) : (padTo n l).length = n := by simp [padTo]; omega
theorem splice_zeros (n : Nat) (l : List UInt8) : splice (List.replicate n 0) 0 (l.take n) = padTo n l := by
 simp [splice, padTo]; omega
theorem run_copy_str {P : Program} {dT sT ty e : TypeId} (hu : P.underlying dT = some (.slice e)) {z : Value} {by_ : Nat} (hi : (P.info? e).map (fun i => (i.zero, i.size, i.bytes)) = some (some z, 1, by_))
  (w : World) (g o n c T : Nat) (L l : List UInt8) (hg : w.heap[g]? = some (.cells (bcells L) T (0, 0))) (hl : o + n ≤ L.length) :
  (Builtin.copy_ #[dT, sT] ty #[.slice (some ⟨g, o, none⟩) n c, .string (bs l)]).run P w = .ok (goInt (min l.length n)) (w.setRow g (bcells (splice L o (l.take n)))) := by
 obtain ⟨i0, hi, _, hz1, _⟩ := info_parts hi
 have hst := run_storeCells_at P g o T ((l.take n).map byteV) 0 (bcells L) w hg (by simp; omega) (oneCells _ (fun _ => rfl))
 have hm : l.length.min n = min l.length n := rfl
 have ht : List.take (min l.length n) (List.map (fun b => Value.int IntKind.u8 (b.toNat : Int)) l) = (l.take n).map byteV := by
  rw [← List.map_take, Nat.min_comm]
  show _ = List.map byteV _
  congr 1
  rw [List.take_eq_take_iff]; simp
 have hw : (List.take (o + 0) (bcells L).toList ++ List.map byteV (List.take n l) ++ List.drop (o + 0 + (List.map byteV (List.take n l)).length) (bcells L).toList).toArray = bcells (splice L o (l.take n)) := by
  have e : (fun b : UInt8 => Value.int IntKind.u8 (b.toNat : Int)) = byteV := rfl
  simp [bcells, splice, e, List.map_take, List.map_drop]
 rw [hw] at hst
 rw [List.map_take] at hst
 have hmi : ((min l.length n : Nat) : Int) = min (l.length : Int) (n : Int) := by omega
 simp [Builtin.copy_, run_underlying hu, sizeOf, typeInfo, hi, Builtin.lenOf, Builtin.firstCells, hm, ht, hst, hmi]
theorem setRow_below {w : World} {g : Nat} (B : Nat) (hB : B ≤ g) (cs : Array Value) : Below B w (w.setRow g cs) := below_setRow (Below.refl B w) hB cs
theorem wpl_copy_str {P : Program} {ops : Array Oper} {rest : List Oper} {o : Oper} {a : Act} {Q : Exit → Act → World → Prop} {w : World} (hgd : o.guard = none) {s x : Operand} {dT sT e : TypeId}
  (ho : o.op = .call { callee := .builtin .copy, args := #[s, x], argTypes := #[dT, sT] }) (hu : P.underlying dT = some (.slice e)) {z : Value} {by_ : Nat} (hi : (P.info? e).map (fun i => (i.zero, i.size, i.bytes)) = some (some z, 1, by_))
  {g off n c T : Nat} {L l : List UInt8} (h1 : a.eval s = .slice (some ⟨g, off, none⟩) n c) (h2 : a.eval x = .string (bs l)) (hg : w.heap[g]? = some (.cells (bcells L) T (0, 0))) (hl : off + n ≤ L.length)
  (h : ∀ w', w'.heap[g]? = some (.cells (bcells (splice L off (l.take n))) T (0, 0)) → (∀ k, k ≠ g → w'.heap[k]? = w.heap[k]?) → Below g w w' → wpList P ops Q rest (a.put o.dst (goInt (min l.length n))) w') : wpList P ops Q (o :: rest) a w := by
 refine wpList_plain hgd fun K hK => ?_
 have hr := run_copy_str (P := P) (ty := o.type) (sT := sT) hu hi w g off n c T L l hg hl
 unfold Oper.wp execOp
 simp only [ho, resolve, invoke, builtin, Sem.run_bind, Sem.run_pure, Result.andThen_ok, List.map_toArray, List.map_cons, List.map_nil, h1, h2, hr]
 exact hK _ _ (h _ (setRow_heap w g (bcells L) _ T _ hg) (fun k hk => setRow_other w g k _ hk) (setRow_below g (Nat.le_refl _) _))
def RetRow (w : World) (T : TypeId) (xs : List Value) (e : Ending) (w' : World) : Prop := ∃ v, e = .returned v ∧ Row w' w.heap.size T v xs ∧ Ext w w'
end Go.Proofs.YtclekllaikcglaaGreat

/- From a law's walk to its row: slices of strings and of bools. -/
namespace Go.Proofs.YtclekllaikcglaaGreat
open Go Go.ChangeShapes Go.WideShapes Go.ChangeAt Go.RowKit
section
variable {H : Type} {enc : TypeId × Value → H} {P : Program}
theorem weights_all {e : TypeId} {l : List (DataW H)} {d : DataW H} (hd : d ∈ l) : ∀ n ∈ d.weights P e, n ∈ DataW.weightsAll P e l := by
 induction l with
 | nil => cases hd
 | cons x l ih =>
  intro n hn
  simp only [DataW.weightsAll, List.mem_append]
  rcases List.mem_cons.1 hd with rfl | hd
  ·exact Or.inl hn
  ·exact Or.inr (ih hd n hn)
theorem sized_elem {ts : List TypeId} {ds : List (DataW H)} (h : (DataW.weightsEach P ts ds).all (· ≤ reachBytes) = true) {j : Nat} {t e : TypeId} {elems spare : List (DataW H)} (ht : ts[j]? = some t) (hd : ds[j]? = some (.slice elems spare)) (hu : P.underlying t = some (.slice e))
  {d : DataW H} (hm : d ∈ elems) : ∀ n ∈ d.weights P e, n ≤ reachBytes := by
 intro n hn
 have := List.all_eq_true.1 h n (DataW.weights_mem_each ht hd n (by
  simp only [DataW.weights, hu]
  have := weights_all (P := P) hm n hn
  simp [this]))
 simpa using this
end
end Go.Proofs.YtclekllaikcglaaGreat

/- Contracts of the functions of package word and of its reference. -/
namespace Go.Proofs.YtclekllaikcglaaGreat
open Go Go.RowKit
theorem info_u8 : (Tryz.prog.info? 5).map (fun i => (i.zero, i.size, i.bytes)) = some (some (.int .u8 0), 1, 1) := by kernel_rfl
theorem und_bytes : Tryz.prog.underlying 27 = some (.slice 5) := by kernel_rfl
theorem und_u8 : Tryz.prog.underlying 5 = some (.int .u8) := by kernel_rfl
theorem und_string : Tryz.prog.underlying 9 = some .string := by kernel_rfl
theorem mk_bytes (c : Nat) (hc : c ≤ 281474976710656) (w : World) :
  (Instr.makeSlice 27 (.int .i64 c) (.int .i64 c)).run Tryz.prog w = .ok (.slice (some ⟨w.heap.size, 0, none⟩) c c) (w.alloc (.cells (bcells (List.replicate c 0)) 5)) :=
 run_make_bytes und_bytes info_u8 c hc w
theorem mk_bytes0 (c : Nat) (hc : c ≤ 281474976710656) (w : World) :
  (Instr.makeSlice 27 (.int .i64 0) (.int .i64 c)).run Tryz.prog w = .ok (.slice (some ⟨w.heap.size, 0, none⟩) 0 c) (w.alloc (.cells (bcells (List.replicate c 0)) 5)) :=
 run_make_bytes0 und_bytes info_u8 c hc w
theorem to_str (w : World) (b off c : Nat) (l : List UInt8) (h : ∀ i (hi : i < l.length), w.cell? ⟨b, off + i, none⟩ = some (.int .u8 (l[i].toNat : Int))) :
  (convert 27 9 (.slice (some ⟨b, off, none⟩) l.length c)).run Tryz.prog w = .ok (.string (bs l)) w :=
 run_bytes_string und_bytes und_u8 und_string w b off c l h
theorem to_str_new (w : World) (n c T : Nat) (l : List UInt8) (hl : l.length = n) :
  (convert 27 9 (.slice (some ⟨w.heap.size, 0, none⟩) n c)).run Tryz.prog (w.alloc (.cells (bcells l) T)) = .ok (.string (bs l)) (w.alloc (.cells (bcells l) T)) := by
 subst hl
 exact to_str _ _ 0 _ l (fun i hi => by rw [Nat.zero_add]; exact cell_blk (heap_alloc_new _ _) (bcells_at l i hi))
theorem to_bytes (l : List UInt8) (w : World) :
  (convert 9 27 (.string (bs l))).run Tryz.prog w = .ok (.slice (some ⟨w.heap.size, 0, none⟩) l.length (capOf 5 w l.length))
   (w.alloc (.cells (bcells (l ++ List.replicate (capOf 5 w l.length - l.length) 0)) 5 (capOf 5 w l.length, capOf 5 w l.length + 1))).drew :=
 run_string_bytes und_string und_bytes und_u8 l w
theorem to_str_blk {w : World} {b n c : Nat} {l r : List UInt8} {T : TypeId} {fz : Nat × Nat} (h : w.heap[b]? = some (.cells (bcells (l ++ r)) T fz)) (hn : l.length = n) :
  (convert 27 9 (.slice (some ⟨b, 0, none⟩) n c)).run Tryz.prog w = .ok (.string (bs l)) w := by
 subst hn
 exact to_str w b 0 c l (fun i hi => by rw [Nat.zero_add]; exact cell_blk h (bcells_left l r i hi))
theorem to_str_of {w : World} {b n c : Nat} {l : List UInt8} {T : TypeId} {fz : Nat × Nat} (h : w.heap[b]? = some (.cells (bcells l) T fz)) (hn : l.length = n) :
  (convert 27 9 (.slice (some ⟨b, 0, none⟩) n c)).run Tryz.prog w = .ok (.string (bs l)) w :=
 to_str_blk (r := []) (by rw [List.append_nil]; exact h) hn
def putB (size n : Nat) : List UInt8 := (List.range size).map fun i => UInt8.ofNat (n / 2 ^ (8 * (size - 1 - i)))
@[simp] theorem putB_length (size n : Nat) : (putB size n).length = size := by simp [putB]
theorem putB_at (size n k : Nat) (h : k < size) : (putB size n)[k]? = some (UInt8.ofNat (n / 2 ^ (8 * (size - 1 - k)))) := by simp [putB, h]
theorem put_step (size n k : Nat) (h : k < size) :
  (bcells ((putB size n).take k ++ List.replicate (size - k) 0)).setIfInBounds k (.int .u8 ((n : Int) / 2 ^ (8 * (size - 1 - k)) % 256)) = bcells ((putB size n).take (k + 1) ++ List.replicate (size - (k + 1)) 0) := by
 have e : ((n : Int) / 2 ^ (8 * (size - 1 - k)) % 256) = ((UInt8.ofNat (n / 2 ^ (8 * (size - 1 - k)))).toNat : Int) := by
  simp
 rw [e, bcells_set]
 have h1 := set_take_rep (putB size n) 0 k (by simpa using h)
 have h2 : (putB size n)[k]'(by simpa using h) = UInt8.ofNat (n / 2 ^ (8 * (size - 1 - k))) := by simp [putB]
 rw [h2] at h1
 simp only [putB_length] at h1
 rw [h1]
set_option maxHeartbeats 400000 in
theorem put64_any (n size : Nat) (w : World) (hs : size ≤ 8) (_hn : U64 n) :
  Calls Tryz.prog 110 #[.int .u64 n, .int .i64 size] w fun e w' => e = .returned (.string (bs (putB size n))) ∧ Ext w w' := by
 have hmk : ∀ w, (Instr.makeSlice 27 (.int .i64 size) (.int .i64 size)).run Tryz.prog w = .ok (.slice (some ⟨w.heap.size, 0, none⟩) size size) (w.alloc (.cells (bcells (List.replicate size 0)) 5)) := fun w => mk_bytes size (by omega) w
 go_enter Tryz.func110, Tryz.ntmps110
 go_wp2
 clear hmk
 go_loopw [10] (fun i wr => ∃ k : Nat, k ≤ size ∧ i = .int .i64 k ∧ wr = w.alloc (.cells (bcells ((putB size n).take k ++ List.replicate (size - k) 0)) 5)) (fun i _ => size - (intOf i).toNat)
 case atStart => exact ⟨0, by omega, rfl, by simp⟩
 case round =>
  obtain ⟨k, hk, rfl, rfl⟩ := hrel
  by_cases hlt : k < size
  ·have hc : (bcells ((putB size n).take k ++ List.replicate (size - k) 0))[k]? = some (.int .u8 0) := fill_cell _ _ _ (by simp) hlt
   go_wp2
   rw [put_step size n k hlt]
   go_roundw
   case rel => exact ⟨k + 1, by omega, by go_num, rfl⟩
   case measure => simp [intOf]; omega
  ·obtain rfl : k = size := by omega
   have kc := fun (w : World) => to_str_new w k k 5 (putB k n) (by simp)
   rw [fill_done _ 0 k (putB_length k n)]
   go_wp2
   go_ret
   exact ⟨rfl, (Ext.refl _).alloc _⟩
set_option maxHeartbeats 400000 in
theorem put32_any (n size : Nat) (w : World) (hs : size ≤ 4) (_hn : U32 n) :
  Calls Tryz.prog 91 #[.int .u32 n, .int .i64 size] w fun e w' => e = .returned (.string (bs (putB size n))) ∧ Ext w w' := by
 have hmk : ∀ w, (Instr.makeSlice 27 (.int .i64 size) (.int .i64 size)).run Tryz.prog w = .ok (.slice (some ⟨w.heap.size, 0, none⟩) size size) (w.alloc (.cells (bcells (List.replicate size 0)) 5)) := fun w => mk_bytes size (by omega) w
 go_enter Tryz.func91, Tryz.ntmps91
 go_wp2
 clear hmk
 go_loopw [10] (fun i wr => ∃ k : Nat, k ≤ size ∧ i = .int .i64 k ∧ wr = w.alloc (.cells (bcells ((putB size n).take k ++ List.replicate (size - k) 0)) 5)) (fun i _ => size - (intOf i).toNat)
 case atStart => exact ⟨0, by omega, rfl, by simp⟩
 case round =>
  obtain ⟨k, hk, rfl, rfl⟩ := hrel
  by_cases hlt : k < size
  ·have hc : (bcells ((putB size n).take k ++ List.replicate (size - k) 0))[k]? = some (.int .u8 0) := fill_cell _ _ _ (by simp) hlt
   go_wp2
   rw [put_step size n k hlt]
   go_roundw
   case rel => exact ⟨k + 1, by omega, by go_num, rfl⟩
   case measure => simp [intOf]; omega
  ·obtain rfl : k = size := by omega
   have kc := fun (w : World) => to_str_new w k k 5 (putB k n) (by simp)
   rw [fill_done _ 0 k (putB_length k n)]
   go_wp2
   go_ret
   exact ⟨rfl, (Ext.refl _).alloc _⟩
def getB (l : List UInt8) : Nat := l.foldl (fun a b => a * 256 + b.toNat) 0
theorem getB_snoc (l : List UInt8) (x : UInt8) : getB (l ++ [x]) = getB l * 256 + x.toNat := by simp [getB]
theorem getB_lt (l : List UInt8) : getB l < 256 ^ l.length := by
 have : ∀ (m : List UInt8), getB m.reverse < 256 ^ m.length := by
  intro m
  induction m with
  | nil => simp [getB]
  | cons x m ih =>
   rw [List.reverse_cons, getB_snoc, List.length_cons, Nat.pow_succ]
   have := x.toNat_lt
   omega
 simpa using this l.reverse
def seg (l : List UInt8) (p n : Nat) : List UInt8 := (l.drop p).take n
theorem seg_snoc (l : List UInt8) (p k : Nat) (h : p + k < l.length) : seg l p (k + 1) = seg l p k ++ [l[p + k]] := by
 unfold seg
 rw [List.take_succ_eq_append_getElem (by simp; omega)]
 simp
theorem seg_length (l : List UInt8) (p k : Nat) (h : p + k ≤ l.length) : (seg l p k).length = k := by
 unfold seg; simp; omega
set_option maxHeartbeats 400000 in
theorem get32_yes (l : List UInt8) (p : Nat) (w : World) (hl : l.length ≤ 1099511627776) (h : p + 4 ≤ l.length) :
  Calls Tryz.prog 90 #[.string (bs l), .int .i64 p, .int .i64 4] w fun e w' => e = .returned (.tuple #[.int .u32 (getB (seg l p 4)), .bool true]) ∧ w = w' := by
 go_enter Tryz.func90, Tryz.ntmps90
 go_wp2
 go_loop [6, 20] (fun v i => ∃ k : Nat, k ≤ 4 ∧ i = .int .i64 k ∧ v = .int .u32 (getB (seg l p k))) (fun _ i => 4 - (intOf i).toNat)
 case atStart => exact ⟨0, by omega, rfl, by simp [seg, getB]⟩
 case round =>
  obtain ⟨k, hk, rfl, rfl⟩ := hrel
  by_cases hlt : k < 4
  ·have h1 := getB_lt (seg l p k)
   rw [seg_length l p k (by omega)] at h1
   have h2 : getB (seg l p k) ≤ 16777215 := by
    have : 256 ^ k ≤ 256 ^ 3 := Nat.pow_le_pow_right (by omega) (by omega)
    omega
   clear h1
   go_wp2
   go_round
   case rel => exact ⟨k + 1, by omega, by go_num, by rw [seg_snoc l p k (by omega), getB_snoc, or_byte32 _ _ h2]⟩
   case measure => simp [intOf]; omega
  ·obtain rfl : k = 4 := by omega
   go_wp2
   go_ret2
   exact ⟨rfl, rfl⟩
set_option maxHeartbeats 400000 in
theorem get32_no (l : List UInt8) (p : Int) (w : World) (hl : l.length ≤ 1099511627776) (h : p < 0 ∨ (l.length : Int) < p + 4) :
  Calls Tryz.prog 90 #[.string (bs l), .int .i64 p, .int .i64 4] w fun e w' => e = .returned (.tuple #[.int .u32 0, .bool false]) ∧ w = w' := by
 by_cases h0 : p < 0
 ·clear h
  go_enter Tryz.func90, Tryz.ntmps90
  go_wp2
  go_ret2
  exact ⟨rfl, rfl⟩
 ·have h1 : (l.length : Int) - 4 < p := by omega
  clear h
  go_enter Tryz.func90, Tryz.ntmps90
  go_wp2
  go_ret2
  exact ⟨rfl, rfl⟩
def Get32 (l : List UInt8) (p : Int) : Nat × Bool := if 0 ≤ p ∧ p + 4 ≤ l.length then (getB (seg l p.toNat 4), true) else (0, false)
set_option maxHeartbeats 400000 in
theorem Get32_any (l : List UInt8) (p : Int) (w : World) (hl : l.length ≤ 1099511627776) :
  Calls Tryz.prog 65 #[.string (bs l), .int .i64 p] w fun e w' => e = .returned (.tuple #[.int .u32 (Get32 l p).1, .bool (Get32 l p).2]) ∧ w = w' := by
 by_cases h : 0 ≤ p ∧ p + 4 ≤ l.length
 ·obtain ⟨q, rfl⟩ := Int.eq_ofNat_of_zero_le h.1
  have hv : Get32 l q = (getB (seg l q 4), true) := by rw [Get32, if_pos h]; rfl
  rw [hv]
  go_enter Tryz.func65, Tryz.ntmps65
  go_wp2_with (go_at_call 90; refine (get32_yes l q _ hl (by omega)).mono ?_; rintro e w' ⟨rfl, rfl⟩)
  go_ret2
  exact ⟨rfl, rfl⟩
 ·have hv : Get32 l p = (0, false) := by rw [Get32, if_neg h]
  rw [hv]
  go_enter Tryz.func65, Tryz.ntmps65
  go_wp2_with (go_at_call 90; refine (get32_no l p _ hl (by omega)).mono ?_; rintro e w' ⟨rfl, rfl⟩)
  go_ret2
  exact ⟨rfl, rfl⟩
set_option maxHeartbeats 400000 in
theorem Put32_any (n : Nat) (w : World) (hn : U32 n) :
  Calls Tryz.prog 67 #[.int .u32 n] w fun e w' => e = .returned (.string (bs (putB 4 n))) ∧ Ext w w' := by
 go_enter Tryz.func67, Tryz.ntmps67
 go_wp2_with (go_at_call 91; refine (put32_any n 4 _ (by omega) hn).mono ?_; rintro e w' ⟨rfl, hx⟩)
 go_ret
 exact ⟨rfl, hx⟩
set_option maxHeartbeats 400000 in
theorem Put64_any (n : Nat) (w : World) (hn : U64 n) :
  Calls Tryz.prog 88 #[.int .u64 n] w fun e w' => e = .returned (.string (bs (putB 8 n))) ∧ Ext w w' := by
 go_enter Tryz.func88, Tryz.ntmps88
 go_wp2_with (go_at_call 110; refine (put64_any n 8 _ (by omega) hn).mono ?_; rintro e w' ⟨rfl, hx⟩)
 go_ret
 exact ⟨rfl, hx⟩
def xorL (a b : List UInt8) : List UInt8 := List.zipWith x8 a b
theorem xorL_length (a b : List UInt8) (h : a.length = b.length) : (xorL a b).length = a.length := by simp [xorL, h]
def xorK (a b : List UInt8) (k : Nat) : List UInt8 := (xorL a b).take k ++ a.drop k
theorem xorK_length (a b : List UInt8) (h : a.length = b.length) (k : Nat) (hk : k ≤ a.length) : (xorK a b k).length = a.length := by
 simp [xorK, xorL_length a b h]; omega
theorem xorK_at (a b : List UInt8) (h : a.length = b.length) (k : Nat) (hk : k < a.length) : (xorK a b k)[k]'(by rw [xorK_length a b h k (by omega)]; exact hk) = a[k] := by
 apply Option.some.inj
 rw [← List.getElem?_eq_getElem]
 unfold xorK
 rw [List.getElem?_append_right (by simp; omega), List.length_take, xorL_length a b h, Nat.min_eq_left (by omega)]
 simp [hk]
theorem xorK_step (a b : List UInt8) (h : a.length = b.length) (k : Nat) (hk : k < a.length) : (xorK a b k).set k (x8 a[k] (b[k]'(by omega))) = xorK a b (k + 1) := by
 unfold xorK
 rw [List.set_append_right _ _ (by simp; omega), List.length_take, xorL_length a b h, Nat.min_eq_left (by omega), Nat.sub_self]
 rw [List.take_succ_eq_append_getElem (by rw [xorL_length a b h]; exact hk)]
 rw [List.drop_eq_getElem_cons hk, List.set_cons_zero]
 simp [xorL]
set_option maxRecDepth 100000 in
set_option maxHeartbeats 400000 in
theorem Xor_yes (a b : List UInt8) (w : World) (h : a.length = b.length) (hl : a.length ≤ 1099511627776) :
  Calls Tryz.prog 56 #[.string (bs a), .string (bs b)] w fun e w' => e = .returned (.tuple #[.string (bs (xorL a b)), .bool true]) ∧ Ext w w' := by
 have hf : ((a.length : Int) != b.length) = false := by simp [h]
 have kt := to_bytes a
 have hb : b.length ≤ 1099511627776 := by omega
 have h' := Lib.hid h
 clear h
 have hcap := capOf_ge 5 w a.length
 go_enter Tryz.func56, Tryz.ntmps56
 go_wp2
 clear kt
 go_loopw [17] (fun i wr => ∃ k : Nat, k ≤ a.length ∧ i = .int .i64 k ∧ wr.heap[w.heap.size]? = some (.cells (bcells (xorK a b k ++ List.replicate (capOf 5 w a.length - a.length) 0)) 5 (capOf 5 w a.length, capOf 5 w a.length + 1)) ∧ Ext w wr) (fun i _ => a.length - (intOf i).toNat)
 case atStart => exact ⟨0, by omega, rfl, by simp only [heap_drew]; rw [heap_alloc_new]; simp [xorK], ((Ext.refl _).alloc _).drew⟩
 case round =>
  obtain ⟨k, hk, rfl, hblk, hx⟩ := hrel
  by_cases hlt : k < a.length
  ·have hc : wr.cell? ⟨w.heap.size, k, none⟩ = some (.int .u8 (a[k].toNat)) := by
    refine cell_blk hblk ?_
    rw [bcells_left _ _ k (by rw [xorK_length a b h'.out k hk]; exact hlt), xorK_at a b h'.out k hlt]
   have hfz : wr.frozen? ⟨w.heap.size, k, none⟩ = false := frozen_spare hblk (by omega)
   have hkb : (k : Int) < b.length := by have := h'.out; omega
   have HB := Lib.hid hblk; clear hblk
   go_wp2
   go_still_tail 9, (by kernel_rfl)
   go_wp2
   go_roundw
   case measure => simp [intOf]; omega
   case rel =>
    refine ⟨k + 1, by omega, by go_num, ?_, (hx.setCell (Nat.le_refl _) _).drew⟩
    rw [heap_drew, heap_setCell_same _ HB.out, bcells_set_left _ _ _ _ (by rw [xorK_length a b h'.out k hk]; exact hlt), xorK_step a b h'.out k hlt]
  ·obtain rfl : k = a.length := by omega
   have hd : xorK a b a.length = xorL a b := by simp [xorK, List.take_of_length_le (Nat.le_of_eq (xorL_length a b h'.out))]
   rw [hd] at hblk
   have kc := fun c => to_str_blk (c := c) hblk (xorL_length a b h'.out)
   clear hd hblk
   go_wp2
   go_ret2
   exact ⟨rfl, hx⟩
set_option maxHeartbeats 400000 in
theorem Xor_no (a b : List UInt8) (w : World) (h : a.length ≠ b.length) :
  Calls Tryz.prog 56 #[.string (bs a), .string (bs b)] w fun e w' => e = .returned (.tuple #[.string (bs []), .bool false]) ∧ Ext w w' := by
 have hf : ((a.length : Int) != b.length) = true := by simp; omega
 clear h
 go_enter Tryz.func56, Tryz.ntmps56
 go_wp2
 go_ret2
 exact ⟨rfl, Ext.refl _⟩
def Xor (a b : List UInt8) : List UInt8 × Bool := if a.length = b.length then (xorL a b, true) else ([], false)
theorem Xor_any (a b : List UInt8) (w : World) (hl : a.length ≤ 1099511627776) :
  Calls Tryz.prog 56 #[.string (bs a), .string (bs b)] w fun e w' => e = .returned (.tuple #[.string (bs (Xor a b).1), .bool (Xor a b).2]) ∧ Ext w w' := by
 unfold Xor
 by_cases h : a.length = b.length
 ·rw [if_pos h]; exact Xor_yes a b w h hl
 ·rw [if_neg h]; exact Xor_no a b w h
def orL (l : List UInt8) : UInt8 := l.foldl o8 0
theorem orL_snoc (l : List UInt8) (x : UInt8) : orL (l ++ [x]) = o8 (orL l) x := by simp [orL]
theorem o8_zero (x y : UInt8) : o8 x y = 0 ↔ x = 0 ∧ y = 0 := by
 unfold o8
 rw [← UInt8.toNat_inj, UInt8.toNat_or, UInt8.toNat_zero, Nat.or_eq_zero_iff]
 simp [← UInt8.toNat_inj]
theorem orL_zero (l : List UInt8) : orL l = 0 ↔ ∀ x ∈ l, x = 0 := by
 have : ∀ (m : List UInt8) (s : UInt8), m.foldl o8 s = 0 ↔ s = 0 ∧ ∀ x ∈ m, x = 0 := by
  intro m
  induction m with
  | nil => intro s; simp
  | cons y m ih => intro s; rw [List.foldl_cons, ih, o8_zero]; simp [and_assoc]
 rw [orL, this]; simp
theorem x8_zero (x y : UInt8) : x8 x y = 0 ↔ x = y := by
 unfold x8; exact UInt8.xor_eq_zero_iff
theorem xorL_zero : ∀ (a b : List UInt8), a.length = b.length → ((∀ x ∈ xorL a b, x = 0) ↔ a = b)
 | [], [], _ => by simp [xorL]
 | x :: a, y :: b, h => by
  have ih := xorL_zero a b (by simpa using h)
  unfold xorL at ih ⊢
  rw [List.zipWith_cons_cons]
  simp only [List.mem_cons, forall_eq_or_imp, ih, x8_zero, List.cons.injEq]
 | [], _ :: _, h => by simp at h
 | _ :: _, [], h => by simp at h
set_option maxRecDepth 100000 in
set_option maxHeartbeats 400000 in
theorem Equal_any (a b : List UInt8) (w : World) (hl : a.length ≤ 1099511627776) :
  Calls Tryz.prog 87 #[.string (bs a), .string (bs b)] w fun e w' => e = .returned (.bool (decide (a = b))) ∧ Ext w w' := by
 have hxl : (Xor a b).1.length ≤ 1099511627776 := by
  unfold Xor; split
  ·rename_i h; rw [xorL_length a b h]; exact hl
  ·simp
 have hfin : ∀ v : Bool, (Xor a b).2 = v → (if v then decide (orL (Xor a b).1 = 0) else false) = decide (a = b) := by
  intro v hv; subst hv
  unfold Xor
  by_cases h : a.length = b.length
  ·simp only [h, if_true]
   rw [decide_eq_decide, orL_zero, xorL_zero a b h]
  ·have : a ≠ b := fun e => h (by rw [e])
   simp [h, this]
 have HF := Lib.hid hfin; clear hfin
 obtain ⟨xs, hxs⟩ : ∃ xs, (Xor a b).1 = xs := ⟨_, rfl⟩
 obtain ⟨v, hv⟩ : ∃ v, (Xor a b).2 = v := ⟨_, rfl⟩
 have kt := to_bytes xs
 rw [hxs] at hxl
 have hX := fun w => Xor_any a b w hl
 rw [hxs, hv] at hX
 have HV := Lib.hid hv; clear hv
 have HS := Lib.hid hxs; clear hxs
 go_enter Tryz.func87, Tryz.ntmps87
 go_wp2_with (go_at_call 56; refine (hX _).mono ?_; rintro e w1 ⟨rfl, hx⟩)
 clear kt hX
 have hge := capOf_ge 5 w1 xs.length
 go_loopw [7, 19] (fun o i wr => ∃ k : Nat, k ≤ xs.length ∧ i = .int .i64 k ∧ o = .int .u8 (orL (xs.take k)).toNat ∧ wr.heap[w1.heap.size]? = some (.cells (bcells (xs ++ List.replicate (capOf 5 w1 xs.length - xs.length) 0)) 5 (capOf 5 w1 xs.length, capOf 5 w1 xs.length + 1)) ∧ Ext w wr) (fun _ i _ => xs.length - (intOf i).toNat)
 case atStart => exact ⟨0, by omega, rfl, by simp [orL], by simp only [heap_drew]; rw [heap_alloc_new], (hx.alloc _).drew⟩
 case round =>
  obtain ⟨k, hk, rfl, rfl, hblk, hx2⟩ := hrel
  by_cases hlt : k < xs.length
  ·have hc : wr.cell? ⟨w1.heap.size, k, none⟩ = some (.int .u8 (xs[k].toNat)) := cell_blk hblk (bcells_left _ _ k hlt)
   have hs : orL (xs.take (k + 1)) = o8 (orL (xs.take k)) xs[k] := by rw [List.take_succ_eq_append_getElem hlt, orL_snoc]
   have HB := Lib.hid hblk; clear hblk
   have HS2 := Lib.hid hs; clear hs
   go_wp2
   go_roundw
   case measure => simp [intOf]; omega
   case rel => exact ⟨k + 1, by omega, by go_num, by rw [HS2.out], HB.out, hx2⟩
  ·obtain rfl : k = xs.length := by omega
   clear hblk
   cases v
   ·go_wp2
    go_ret
    refine ⟨ret_bool ?_, hx2⟩
    have := HF.out false HV.out
    simpa using this
   ·go_wp2
    go_ret
    refine ⟨ret_bool ?_, hx2⟩
    have := HF.out true HV.out
    rw [HS.out] at this
    simp only [if_true] at this
    rw [← this, Bool.eq_iff_iff]
    simp [← UInt8.toNat_inj]
end Go.Proofs.YtclekllaikcglaaGreat

/- Plain: products of bytes, boxes; no program in sight. -/
namespace Go.Proofs.YtclekllaikcglaaGreat
open Go
def twN (a : Nat) : Nat := Nat.xor (a * 2 % 256) (a / 128 * 27)
def tw (a : UInt8) : UInt8 := b8 (twN a.toNat)
def tmN : Nat → Nat → Nat → Nat
 | 0, _, _ => 0
 | k + 1, a, b => Nat.xor ((b % 2) * a) (tmN k (twN a) (b / 2))
def tmU : Nat → UInt8 → Nat → UInt8
 | 0, _, _ => 0
 | k + 1, a, b => x8 (if b % 2 = 1 then a else 0) (tmU k (tw a) (b / 2))
def gm (a b : UInt8) : UInt8 := tmU 8 a b.toNat
theorem twN_lt : ∀ a : Fin 256, twN a.val < 256 := by decide +kernel
theorem tw_toNat (a : UInt8) : (tw a).toNat = twN a.toNat := b8_toNat _ (twN_lt ⟨a.toNat, a.toNat_lt⟩)
theorem x8_toNat (a b : UInt8) : (x8 a b).toNat = Nat.xor a.toNat b.toNat := UInt8.toNat_xor a b
theorem x8_z (a : UInt8) : x8 0 a = a := by unfold x8; simp
theorem x8_z' (a : UInt8) : x8 a 0 = a := by unfold x8; simp
theorem x8_assoc (a b c : UInt8) : x8 (x8 a b) c = x8 a (x8 b c) := by unfold x8; rw [UInt8.xor_assoc]
theorem x8_comm (a b : UInt8) : x8 a b = x8 b a := by unfold x8; rw [UInt8.xor_comm]
theorem tmU_toNat : ∀ (k : Nat) (a : UInt8) (b : Nat), (tmU k a b).toNat = tmN k a.toNat b
 | 0, _, _ => rfl
 | k + 1, a, b => by
  rw [tmU, x8_toNat, tmU_toNat k, tw_toNat, tmN]
  rcases Nat.mod_two_eq_zero_or_one b with h | h <;> simp [h]
theorem tmU_fuel : ∀ (k : Nat) (a : UInt8) (b : Nat), b < 2 ^ k → tmU (k + 1) a b = tmU k a b
 | 0, a, b, h => by
  obtain rfl : b = 0 := by simpa using h
  simp [tmU, x8_z]
 | k + 1, a, b, h => by
  rw [tmU, tmU_fuel k (tw a) (b / 2) (by rw [Nat.pow_succ] at h; omega)]
  rfl
theorem gm_step (a b : UInt8) : gm a b = x8 (if b.toNat % 2 = 1 then a else 0) (tmU 8 (tw a) (b.toNat / 2)) := by
 have h : b.toNat / 2 < 2 ^ 7 := by have := b.toNat_lt; omega
 rw [gm, tmU_fuel 7 (tw a) _ h]; rfl
theorem gm_zero (a : UInt8) : gm a 0 = 0 := by
 have : ∀ (k : Nat) (a : UInt8), tmU k a 0 = 0 := by
  intro k
  induction k with
  | zero => intro a; rfl
  | succ k ih => intro a; rw [tmU, Nat.zero_div, ih, if_neg (by decide), x8_z]
 exact this 8 a
def bitN (n i : Nat) : Nat := n / 2 ^ i % 2
def rf1 (a b : Nat) : Nat → Nat
 | 0 => 0
 | k + 1 => Nat.xor (rf1 a b k) (bitN b k * (a * 2 ^ k))
def rfs (n k : Nat) : Nat := Nat.xor n (bitN n (14 - k) * (283 * 2 ^ (6 - k)))
def rf2 (n : Nat) : Nat → Nat
 | 0 => n
 | k + 1 => rfs (rf2 n k) k
def rfC (i : Nat) : Bool := (List.range 32).all fun a => (List.range 256).all fun b => Nat.beq (tmN 8 (32 * i + a) b) (rf2 (rf1 (32 * i + a) b 8) 7)
theorem rf_0 : rfC 0 = true := by decide +kernel
theorem rf_1 : rfC 1 = true := by decide +kernel
theorem rf_2 : rfC 2 = true := by decide +kernel
theorem rf_3 : rfC 3 = true := by decide +kernel
theorem rf_4 : rfC 4 = true := by decide +kernel
theorem rf_5 : rfC 5 = true := by decide +kernel
theorem rf_6 : rfC 6 = true := by decide +kernel
theorem rf_7 : rfC 7 = true := by decide +kernel
theorem rf_gm (a b : UInt8) : rf2 (rf1 a.toNat b.toNat 8) 7 = (gm a b).toNat := by
 have hi : ∀ i, i < 8 → rfC i = true := by
  intro i hi
  match i, hi with
  | 0, _ => exact rf_0
  | 1, _ => exact rf_1
  | 2, _ => exact rf_2
  | 3, _ => exact rf_3
  | 4, _ => exact rf_4
  | 5, _ => exact rf_5
  | 6, _ => exact rf_6
  | 7, _ => exact rf_7
 have hal := a.toNat_lt
 have h := List.all_eq_true.1 (hi (a.toNat / 32) (by omega)) (a.toNat % 32) (List.mem_range.2 (Nat.mod_lt _ (by decide)))
 have h := List.all_eq_true.1 h b.toNat (List.mem_range.2 b.toNat_lt)
 rw [show 32 * (a.toNat / 32) + a.toNat % 32 = a.toNat by omega] at h
 rw [gm, tmU_toNat]
 exact (Nat.eq_of_beq_eq_true h).symm
theorem rf1_lt (a b : Nat) (ha : a < 256) : ∀ k, k ≤ 8 → rf1 a b k < 32768 := by
 intro k hk
 induction k with
 | zero => exact Nat.zero_lt_succ _
 | succ k ih =>
  have h2 : a * 2 ^ k < 32768 := by
   have : 2 ^ k ≤ 2 ^ 7 := Nat.pow_le_pow_right (by omega) (by omega)
   calc a * 2 ^ k ≤ 255 * 2 ^ 7 := Nat.mul_le_mul (by omega) this
    _ < 32768 := by decide
  have h3 : bitN b k * (a * 2 ^ k) < 2 ^ 15 := by
   rcases Nat.mod_two_eq_zero_or_one (b / 2 ^ k) with h | h <;> simp [bitN, h]; exact h2
  exact Nat.xor_lt_two_pow (n := 15) (ih (by omega)) h3
theorem rf2_lt (n : Nat) (hn : n < 32768) : ∀ k, k ≤ 7 → rf2 n k < 32768 := by
 intro k hk
 induction k with
 | zero => exact hn
 | succ k ih =>
  have h2 : 283 * 2 ^ (6 - k) < 32768 := by
   have : 2 ^ (6 - k) ≤ 2 ^ 6 := Nat.pow_le_pow_right (by omega) (by omega)
   calc 283 * 2 ^ (6 - k) ≤ 283 * 2 ^ 6 := Nat.mul_le_mul (by omega) this
    _ < 32768 := by decide
  have h3 : bitN (rf2 n k) (14 - k) * (283 * 2 ^ (6 - k)) < 2 ^ 15 := by
   rcases Nat.mod_two_eq_zero_or_one (rf2 n k / 2 ^ (14 - k)) with h | h <;> simp [bitN, h]; exact h2
  exact Nat.xor_lt_two_pow (n := 15) (ih (by omega)) h3
def rot8 (b : UInt8) (n : Nat) : UInt8 := b8 (b.toNat * 2 ^ n % 256 ||| b.toNat / 2 ^ (8 - n))
def boxV (q : UInt8) : UInt8 := x8 (x8 (x8 (x8 (x8 q (rot8 q 1)) (rot8 q 2)) (rot8 q 3)) (rot8 q 4)) 99
def pT : List UInt8 := [1, 3, 5, 15, 17, 51, 85, 255, 26, 46, 114, 150, 161, 248, 19, 53, 95, 225, 56, 72, 216, 115, 149, 164, 247, 2, 6, 10, 30, 34, 102, 170, 229, 52, 92, 228, 55, 89, 235, 38, 106, 190, 217, 112, 144, 171, 230, 49, 83, 245, 4, 12, 20, 60, 68, 204, 79, 209, 104, 184, 211, 110, 178, 205, 76, 212, 103, 169, 224, 59, 77, 215, 98, 166, 241, 8, 24, 40, 120, 136, 131, 158, 185, 208, 107, 189, 220, 127, 129, 152, 179, 206, 73, 219, 118, 154, 181, 196, 87, 249, 16, 48, 80, 240, 11, 29, 39, 105, 187, 214, 97, 163, 254, 25, 43, 125, 135, 146, 173, 236, 47, 113, 147, 174, 233, 32, 96, 160, 251, 22, 58, 78, 210, 109, 183, 194, 93, 231, 50, 86, 250, 21, 63, 65, 195, 94, 226, 61, 71, 201, 64, 192, 91, 237, 44, 116, 156, 191, 218, 117, 159, 186, 213, 100, 172, 239, 42, 126, 130, 157, 188, 223, 122, 142, 137, 128, 155, 182, 193, 88, 232, 35, 101, 175, 234, 37, 111, 177, 200, 67, 197, 84, 252, 31, 33, 99, 165, 244, 7, 9, 27, 45, 119, 153, 176, 203, 70, 202, 69, 207, 74, 222, 121, 139, 134, 145, 168, 227, 62, 66, 198, 81, 243, 14, 18, 54, 90, 238, 41, 123, 141, 140, 143, 138, 133, 148, 167, 242, 13, 23, 57, 75, 221, 124, 132, 151, 162, 253, 28, 36, 108, 180, 199, 82, 246, 1]
def qT : List UInt8 := [1, 246, 82, 199, 180, 108, 36, 28, 253, 162, 151, 132, 124, 221, 75, 57, 23, 13, 242, 167, 148, 133, 138, 143, 140, 141, 123, 41, 238, 90, 54, 18, 14, 243, 81, 198, 66, 62, 227, 168, 145, 134, 139, 121, 222, 74, 207, 69, 202, 70, 203, 176, 153, 119, 45, 27, 9, 7, 244, 165, 99, 33, 31, 252, 84, 197, 67, 200, 177, 111, 37, 234, 175, 101, 35, 232, 88, 193, 182, 155, 128, 137, 142, 122, 223, 188, 157, 130, 126, 42, 239, 172, 100, 213, 186, 159, 117, 218, 191, 156, 116, 44, 237, 91, 192, 64, 201, 71, 61, 226, 94, 195, 65, 63, 21, 250, 86, 50, 231, 93, 194, 183, 109, 210, 78, 58, 22, 251, 160, 96, 32, 233, 174, 147, 113, 47, 236, 173, 146, 135, 125, 43, 25, 254, 163, 97, 214, 187, 105, 39, 29, 11, 240, 80, 48, 16, 249, 87, 196, 181, 154, 118, 219, 73, 206, 179, 152, 129, 127, 220, 189, 107, 208, 185, 158, 131, 136, 120, 40, 24, 8, 241, 166, 98, 215, 77, 59, 224, 169, 103, 212, 76, 205, 178, 110, 211, 184, 104, 209, 79, 204, 68, 60, 20, 12, 4, 245, 83, 49, 230, 171, 144, 112, 217, 190, 106, 38, 235, 89, 55, 228, 92, 52, 229, 170, 102, 34, 30, 10, 6, 2, 247, 164, 149, 115, 216, 72, 56, 225, 95, 53, 19, 248, 161, 150, 114, 46, 26, 255, 85, 51, 17, 15, 5, 3, 1]
def boxT : List UInt8 := [99, 124, 119, 123, 242, 107, 111, 197, 48, 1, 103, 43, 254, 215, 171, 118, 202, 130, 201, 125, 250, 89, 71, 240, 173, 212, 162, 175, 156, 164, 114, 192, 183, 253, 147, 38, 54, 63, 247, 204, 52, 165, 229, 241, 113, 216, 49, 21, 4, 199, 35, 195, 24, 150, 5, 154, 7, 18, 128, 226, 235, 39, 178, 117, 9, 131, 44, 26, 27, 110, 90, 160, 82, 59, 214, 179, 41, 227, 47, 132, 83, 209, 0, 237, 32, 252, 177, 91, 106, 203, 190, 57, 74, 76, 88, 207, 208, 239, 170, 251, 67, 77, 51, 133, 69, 249, 2, 127, 80, 60, 159, 168, 81, 163, 64, 143, 146, 157, 56, 245, 188, 182, 218, 33, 16, 255, 243, 210, 205, 12, 19, 236, 95, 151, 68, 23, 196, 167, 126, 61, 100, 93, 25, 115, 96, 129, 79, 220, 34, 42, 144, 136, 70, 238, 184, 20, 222, 94, 11, 219, 224, 50, 58, 10, 73, 6, 36, 92, 194, 211, 172, 98, 145, 149, 228, 121, 231, 200, 55, 109, 141, 213, 78, 169, 108, 86, 244, 234, 101, 122, 174, 8, 186, 120, 37, 46, 28, 166, 180, 198, 232, 221, 116, 31, 75, 189, 139, 138, 112, 62, 181, 102, 72, 3, 246, 14, 97, 53, 87, 185, 134, 193, 29, 158, 225, 248, 152, 17, 105, 217, 142, 148, 155, 30, 135, 233, 206, 85, 40, 223, 140, 161, 137, 13, 191, 230, 66, 104, 65, 153, 45, 15, 176, 84, 187, 22]
def unT : List UInt8 := [82, 9, 106, 213, 48, 54, 165, 56, 191, 64, 163, 158, 129, 243, 215, 251, 124, 227, 57, 130, 155, 47, 255, 135, 52, 142, 67, 68, 196, 222, 233, 203, 84, 123, 148, 50, 166, 194, 35, 61, 238, 76, 149, 11, 66, 250, 195, 78, 8, 46, 161, 102, 40, 217, 36, 178, 118, 91, 162, 73, 109, 139, 209, 37, 114, 248, 246, 100, 134, 104, 152, 22, 212, 164, 92, 204, 93, 101, 182, 146, 108, 112, 72, 80, 253, 237, 185, 218, 94, 21, 70, 87, 167, 141, 157, 132, 144, 216, 171, 0, 140, 188, 211, 10, 247, 228, 88, 5, 184, 179, 69, 6, 208, 44, 30, 143, 202, 63, 15, 2, 193, 175, 189, 3, 1, 19, 138, 107, 58, 145, 17, 65, 79, 103, 220, 234, 151, 242, 207, 206, 240, 180, 230, 115, 150, 172, 116, 34, 231, 173, 53, 133, 226, 249, 55, 232, 28, 117, 223, 110, 71, 241, 26, 113, 29, 41, 197, 137, 111, 183, 98, 14, 170, 24, 190, 27, 252, 86, 62, 75, 198, 210, 121, 32, 154, 219, 192, 254, 120, 205, 90, 244, 31, 221, 168, 51, 136, 7, 199, 49, 177, 18, 16, 89, 39, 128, 236, 95, 96, 81, 127, 169, 25, 181, 74, 13, 45, 229, 122, 159, 147, 201, 156, 239, 160, 224, 59, 77, 174, 42, 245, 176, 200, 235, 187, 60, 131, 83, 153, 97, 23, 43, 4, 126, 186, 119, 214, 38, 225, 105, 20, 99, 85, 33, 12, 125]
theorem boxT_length : boxT.length = 256 := by decide +kernel
theorem unT_length : unT.length = 256 := by decide +kernel
set_option maxRecDepth 100000 in
theorem pT_step : ∀ k : Fin 255, gm (pT.getD k.val 0) 3 = pT.getD (k.val + 1) 0 := by decide +kernel
set_option maxRecDepth 100000 in
theorem qT_step : ∀ k : Fin 255, gm (qT.getD k.val 0) 246 = qT.getD (k.val + 1) 0 := by decide +kernel
def boxK : Nat → List UInt8
 | 0 => List.replicate 256 0
 | k + 1 => (boxK k).set (pT.getD k 0).toNat (boxV (qT.getD k 0))
theorem boxK_length : ∀ k, (boxK k).length = 256
 | 0 => List.length_replicate
 | k + 1 => by rw [boxK, List.length_set, boxK_length k]
set_option maxRecDepth 100000 in
theorem boxK_all : (boxK 255).set 0 99 = boxT := by decide +kernel
def unK : Nat → List UInt8
 | 0 => List.replicate 256 0
 | k + 1 => (unK k).set (boxT.getD k 0).toNat (b8 k)
theorem unK_length : ∀ k, (unK k).length = 256
 | 0 => List.length_replicate
 | k + 1 => by rw [unK, List.length_set, unK_length k]
set_option maxRecDepth 100000 in
theorem unK_all : unK 256 = unT := by decide +kernel
def boxO (b : UInt8) : UInt8 := boxT.getD b.toNat 0
theorem boxO_at (b : UInt8) : boxT[b.toNat]? = some (boxO b) := by
 unfold boxO
 have : b.toNat < boxT.length := by rw [boxT_length]; exact b.toNat_lt
 simp [List.getD, this]
end Go.Proofs.YtclekllaikcglaaGreat

/- Plain facts on either or of rows of bytes (seat C: beside XGf). -/
namespace Go.Proofs.YtclekllaikcglaaGreat
open Go Go.RowKit
theorem x8_self (x : UInt8) : x8 x x = 0 := by unfold x8; simp
theorem x8_zero_right (x : UInt8) : x8 x 0 = x := by unfold x8; simp
theorem x8_back (x y : UInt8) : x8 (x8 x y) y = x := by rw [x8_assoc, x8_self, x8_zero_right]
theorem xorL_back : ∀ (a b : List UInt8), a.length = b.length → xorL (xorL a b) b = a
 | [], [], _ => rfl
 | x :: a, y :: b, h => by
  have ih := xorL_back a b (by simpa using h)
  unfold xorL at ih ⊢
  rw [List.zipWith_cons_cons, List.zipWith_cons_cons, ih, x8_back]
 | [], _ :: _, h => by simp at h
 | _ :: _, [], h => by simp at h
theorem xorL_comm : ∀ (a b : List UInt8), xorL a b = xorL b a
 | [], [] => rfl
 | x :: a, y :: b => by
  have ih := xorL_comm a b
  unfold xorL at ih ⊢
  rw [List.zipWith_cons_cons, List.zipWith_cons_cons, ih, x8_comm]
 | [], _ :: _ => rfl
 | _ :: _, [] => rfl
theorem xorL_assoc : ∀ (a b c : List UInt8), xorL (xorL a b) c = xorL a (xorL b c)
 | x :: a, y :: b, z :: c => by
  have ih := xorL_assoc a b c
  unfold xorL at ih ⊢
  simp only [List.zipWith_cons_cons, ih, x8_assoc]
 | [], _, _ => by simp [xorL]
 | _ :: _, [], _ => by simp [xorL]
 | _ :: _, _ :: _, [] => by simp [xorL]
end Go.Proofs.YtclekllaikcglaaGreat

/- From a law's walk to its row: slices of acts (layer 13). -/
namespace Go.Proofs.YtclekllaikcglaaGreat
open Go Go.ChangeShapes Go.WideShapes Go.ChangeAt Go.RowKit
structure ActL where
 go : Bool
 ep : Nat
 key : List UInt8
 fit : Bool
instance : Inhabited ActL := ⟨⟨false, 0, [], false⟩⟩
section
variable {H : Type} {enc : TypeId × Value → H}
end
end Go.Proofs.YtclekllaikcglaaGreat
