/- Contracts of the functions of package word and of its reference. -/
import Derived.Test.YtclekllaikcglaaGreatProg
import Derived.Test.YtclekllaikcglaaGreatBase
namespace Go.Proofs.YtclekllaikcglaaGreat
open Go Go.RowKit

theorem info_u8 : (Tryz.prog.info? 5).map (fun i => (i.zero, i.size, i.bytes)) = some (some (.int .u8 0), 1, 1) := by kernel_rfl
theorem und_bytes : Tryz.prog.underlying 27 = some (.slice 5) := by kernel_rfl
theorem und_u8 : Tryz.prog.underlying 5 = some (.int .u8) := by kernel_rfl
theorem und_string : Tryz.prog.underlying 9 = some .string := by kernel_rfl
theorem mk_bytes (c : Nat) (hc : c ≤ 281474976710656) (w : World) :
    (Instr.makeSlice 27 (.int .i64 c) (.int .i64 c)).run Tryz.prog w = .ok (.slice (some ⟨w.heap.size, 0, none⟩) c c) (w.alloc (.cells (bcells (List.replicate c 0)) 5)) :=
  run_make_bytes und_bytes info_u8 c hc w
theorem mk_bytes0 (c : Nat) (hc : c ≤ 281474976710656) (w : World) :
    (Instr.makeSlice 27 (.int .i64 0) (.int .i64 c)).run Tryz.prog w = .ok (.slice (some ⟨w.heap.size, 0, none⟩) 0 c) (w.alloc (.cells (bcells (List.replicate c 0)) 5)) :=
  run_make_bytes0 und_bytes info_u8 c hc w
theorem to_str (w : World) (b off c : Nat) (l : List UInt8) (h : ∀ i (hi : i < l.length), w.cell? ⟨b, off + i, none⟩ = some (.int .u8 (l[i].toNat : Int))) :
    (convert 27 9 (.slice (some ⟨b, off, none⟩) l.length c)).run Tryz.prog w = .ok (.string (bs l)) w :=
  run_bytes_string und_bytes und_u8 und_string w b off c l h
theorem to_str_new (w : World) (n c T : Nat) (l : List UInt8) (hl : l.length = n) :
    (convert 27 9 (.slice (some ⟨w.heap.size, 0, none⟩) n c)).run Tryz.prog (w.alloc (.cells (bcells l) T)) = .ok (.string (bs l)) (w.alloc (.cells (bcells l) T)) := by
  subst hl
  exact to_str _ _ 0 _ l (fun i hi => by rw [Nat.zero_add]; exact cell_blk (heap_alloc_new _ _) (bcells_at l i hi))

theorem to_bytes (l : List UInt8) (w : World) :
    (convert 9 27 (.string (bs l))).run Tryz.prog w = .ok (.slice (some ⟨w.heap.size, 0, none⟩) l.length (capOf 5 w l.length))
      (w.alloc (.cells (bcells (l ++ List.replicate (capOf 5 w l.length - l.length) 0)) 5 (capOf 5 w l.length, capOf 5 w l.length + 1))).drew :=
  run_string_bytes und_string und_bytes und_u8 l w
theorem to_str_blk {w : World} {b n c : Nat} {l r : List UInt8} {T : TypeId} {fz : Nat × Nat} (h : w.heap[b]? = some (.cells (bcells (l ++ r)) T fz)) (hn : l.length = n) :
    (convert 27 9 (.slice (some ⟨b, 0, none⟩) n c)).run Tryz.prog w = .ok (.string (bs l)) w := by
  subst hn
  exact to_str w b 0 c l (fun i hi => by rw [Nat.zero_add]; exact cell_blk h (bcells_left l r i hi))
theorem to_str_of {w : World} {b n c : Nat} {l : List UInt8} {T : TypeId} {fz : Nat × Nat} (h : w.heap[b]? = some (.cells (bcells l) T fz)) (hn : l.length = n) :
    (convert 27 9 (.slice (some ⟨b, 0, none⟩) n c)).run Tryz.prog w = .ok (.string (bs l)) w :=
  to_str_blk (r := []) (by rw [List.append_nil]; exact h) hn
/-- A number's bytes, the highest first. -/
def putB (size n : Nat) : List UInt8 := (List.range size).map fun i => UInt8.ofNat (n / 2 ^ (8 * (size - 1 - i)))
@[simp] theorem putB_length (size n : Nat) : (putB size n).length = size := by simp [putB]
theorem putB_at (size n k : Nat) (h : k < size) : (putB size n)[k]? = some (UInt8.ofNat (n / 2 ^ (8 * (size - 1 - k)))) := by simp [putB, h]
theorem put_step (size n k : Nat) (h : k < size) :
    (bcells ((putB size n).take k ++ List.replicate (size - k) 0)).setIfInBounds k (.int .u8 ((n : Int) / 2 ^ (8 * (size - 1 - k)) % 256)) = bcells ((putB size n).take (k + 1) ++ List.replicate (size - (k + 1)) 0) := by
  have e : ((n : Int) / 2 ^ (8 * (size - 1 - k)) % 256) = ((UInt8.ofNat (n / 2 ^ (8 * (size - 1 - k)))).toNat : Int) := by
    simp
  rw [e, bcells_set]
  have h1 := set_take_rep (putB size n) 0 k (by simpa using h)
  have h2 : (putB size n)[k]'(by simpa using h) = UInt8.ofNat (n / 2 ^ (8 * (size - 1 - k))) := by simp [putB]
  rw [h2] at h1
  simp only [putB_length] at h1
  rw [h1]
set_option maxHeartbeats 400000 in
theorem put64_any (n size : Nat) (w : World) (hs : size ≤ 8) (_hn : U64 n) :
    Calls Tryz.prog 110 #[.int .u64 n, .int .i64 size] w fun e w' => e = .returned (.string (bs (putB size n))) ∧ Ext w w' := by
  have hmk : ∀ w, (Instr.makeSlice 27 (.int .i64 size) (.int .i64 size)).run Tryz.prog w = .ok (.slice (some ⟨w.heap.size, 0, none⟩) size size) (w.alloc (.cells (bcells (List.replicate size 0)) 5)) := fun w => mk_bytes size (by omega) w
  go_enter Tryz.func110, Tryz.ntmps110
  go_wp2
  clear hmk
  go_loopw [10] (fun i wr => ∃ k : Nat, k ≤ size ∧ i = .int .i64 k ∧ wr = w.alloc (.cells (bcells ((putB size n).take k ++ List.replicate (size - k) 0)) 5)) (fun i _ => size - (intOf i).toNat)
  case atStart => exact ⟨0, by omega, rfl, by simp⟩
  case round =>
    obtain ⟨k, hk, rfl, rfl⟩ := hrel
    by_cases hlt : k < size
    · have hc : (bcells ((putB size n).take k ++ List.replicate (size - k) 0))[k]? = some (.int .u8 0) := fill_cell _ _ _ (by simp) hlt
      go_wp2
      rw [put_step size n k hlt]
      go_roundw
      case rel => exact ⟨k + 1, by omega, by go_num, rfl⟩
      case measure => simp [intOf]; omega
    · obtain rfl : k = size := by omega
      have kc := fun (w : World) => to_str_new w k k 5 (putB k n) (by simp)
      rw [fill_done _ 0 k (putB_length k n)]
      go_wp2
      go_ret
      exact ⟨rfl, (Ext.refl _).alloc _⟩
set_option maxHeartbeats 400000 in
theorem put32_any (n size : Nat) (w : World) (hs : size ≤ 4) (_hn : U32 n) :
    Calls Tryz.prog 91 #[.int .u32 n, .int .i64 size] w fun e w' => e = .returned (.string (bs (putB size n))) ∧ Ext w w' := by
  have hmk : ∀ w, (Instr.makeSlice 27 (.int .i64 size) (.int .i64 size)).run Tryz.prog w = .ok (.slice (some ⟨w.heap.size, 0, none⟩) size size) (w.alloc (.cells (bcells (List.replicate size 0)) 5)) := fun w => mk_bytes size (by omega) w
  go_enter Tryz.func91, Tryz.ntmps91
  go_wp2
  clear hmk
  go_loopw [10] (fun i wr => ∃ k : Nat, k ≤ size ∧ i = .int .i64 k ∧ wr = w.alloc (.cells (bcells ((putB size n).take k ++ List.replicate (size - k) 0)) 5)) (fun i _ => size - (intOf i).toNat)
  case atStart => exact ⟨0, by omega, rfl, by simp⟩
  case round =>
    obtain ⟨k, hk, rfl, rfl⟩ := hrel
    by_cases hlt : k < size
    · have hc : (bcells ((putB size n).take k ++ List.replicate (size - k) 0))[k]? = some (.int .u8 0) := fill_cell _ _ _ (by simp) hlt
      go_wp2
      rw [put_step size n k hlt]
      go_roundw
      case rel => exact ⟨k + 1, by omega, by go_num, rfl⟩
      case measure => simp [intOf]; omega
    · obtain rfl : k = size := by omega
      have kc := fun (w : World) => to_str_new w k k 5 (putB k n) (by simp)
      rw [fill_done _ 0 k (putB_length k n)]
      go_wp2
      go_ret
      exact ⟨rfl, (Ext.refl _).alloc _⟩

/-- Bytes as a number, the highest first. -/
def getB (l : List UInt8) : Nat := l.foldl (fun a b => a * 256 + b.toNat) 0
theorem getB_snoc (l : List UInt8) (x : UInt8) : getB (l ++ [x]) = getB l * 256 + x.toNat := by simp [getB]
theorem getB_lt (l : List UInt8) : getB l < 256 ^ l.length := by
  have : ∀ (m : List UInt8), getB m.reverse < 256 ^ m.length := by
    intro m
    induction m with
    | nil => simp [getB]
    | cons x m ih =>
      rw [List.reverse_cons, getB_snoc, List.length_cons, Nat.pow_succ]
      have := x.toNat_lt
      omega
  simpa using this l.reverse
def seg (l : List UInt8) (p n : Nat) : List UInt8 := (l.drop p).take n
theorem seg_snoc (l : List UInt8) (p k : Nat) (h : p + k < l.length) : seg l p (k + 1) = seg l p k ++ [l[p + k]] := by
  unfold seg
  rw [List.take_succ_eq_append_getElem (by simp; omega)]
  simp
theorem seg_length (l : List UInt8) (p k : Nat) (h : p + k ≤ l.length) : (seg l p k).length = k := by
  unfold seg; simp; omega
set_option maxHeartbeats 400000 in
theorem get32_yes (l : List UInt8) (p : Nat) (w : World) (hl : l.length ≤ 1099511627776) (h : p + 4 ≤ l.length) :
    Calls Tryz.prog 90 #[.string (bs l), .int .i64 p, .int .i64 4] w fun e w' => e = .returned (.tuple #[.int .u32 (getB (seg l p 4)), .bool true]) ∧ w = w' := by
  go_enter Tryz.func90, Tryz.ntmps90
  go_wp2
  go_loop [6, 20] (fun v i => ∃ k : Nat, k ≤ 4 ∧ i = .int .i64 k ∧ v = .int .u32 (getB (seg l p k))) (fun _ i => 4 - (intOf i).toNat)
  case atStart => exact ⟨0, by omega, rfl, by simp [seg, getB]⟩
  case round =>
    obtain ⟨k, hk, rfl, rfl⟩ := hrel
    by_cases hlt : k < 4
    · have h1 := getB_lt (seg l p k)
      rw [seg_length l p k (by omega)] at h1
      have h2 : getB (seg l p k) ≤ 16777215 := by
        have : 256 ^ k ≤ 256 ^ 3 := Nat.pow_le_pow_right (by omega) (by omega)
        omega
      clear h1
      go_wp2
      go_round
      case rel => exact ⟨k + 1, by omega, by go_num, by rw [seg_snoc l p k (by omega), getB_snoc, or_byte32 _ _ h2]⟩
      case measure => simp [intOf]; omega
    · obtain rfl : k = 4 := by omega
      go_wp2
      go_ret2
      exact ⟨rfl, rfl⟩
set_option maxHeartbeats 400000 in
theorem get32_no (l : List UInt8) (p : Int) (w : World) (hl : l.length ≤ 1099511627776) (h : p < 0 ∨ (l.length : Int) < p + 4) :
    Calls Tryz.prog 90 #[.string (bs l), .int .i64 p, .int .i64 4] w fun e w' => e = .returned (.tuple #[.int .u32 0, .bool false]) ∧ w = w' := by
  by_cases h0 : p < 0
  · clear h
    go_enter Tryz.func90, Tryz.ntmps90
    go_wp2
    go_ret2
    exact ⟨rfl, rfl⟩
  · have h1 : (l.length : Int) - 4 < p := by omega
    clear h
    go_enter Tryz.func90, Tryz.ntmps90
    go_wp2
    go_ret2
    exact ⟨rfl, rfl⟩
/-- Get32. -/
def Get32 (l : List UInt8) (p : Int) : Nat × Bool := if 0 ≤ p ∧ p + 4 ≤ l.length then (getB (seg l p.toNat 4), true) else (0, false)
set_option maxHeartbeats 400000 in
theorem Get32_any (l : List UInt8) (p : Int) (w : World) (hl : l.length ≤ 1099511627776) :
    Calls Tryz.prog 65 #[.string (bs l), .int .i64 p] w fun e w' => e = .returned (.tuple #[.int .u32 (Get32 l p).1, .bool (Get32 l p).2]) ∧ w = w' := by
  by_cases h : 0 ≤ p ∧ p + 4 ≤ l.length
  · obtain ⟨q, rfl⟩ := Int.eq_ofNat_of_zero_le h.1
    have hv : Get32 l q = (getB (seg l q 4), true) := by rw [Get32, if_pos h]; rfl
    rw [hv]
    go_enter Tryz.func65, Tryz.ntmps65
    go_wp2_with (go_at_call 90; refine (get32_yes l q _ hl (by omega)).mono ?_; rintro e w' ⟨rfl, rfl⟩)
    go_ret2
    exact ⟨rfl, rfl⟩
  · have hv : Get32 l p = (0, false) := by rw [Get32, if_neg h]
    rw [hv]
    go_enter Tryz.func65, Tryz.ntmps65
    go_wp2_with (go_at_call 90; refine (get32_no l p _ hl (by omega)).mono ?_; rintro e w' ⟨rfl, rfl⟩)
    go_ret2
    exact ⟨rfl, rfl⟩
set_option maxHeartbeats 400000 in
theorem Put32_any (n : Nat) (w : World) (hn : U32 n) :
    Calls Tryz.prog 67 #[.int .u32 n] w fun e w' => e = .returned (.string (bs (putB 4 n))) ∧ Ext w w' := by
  go_enter Tryz.func67, Tryz.ntmps67
  go_wp2_with (go_at_call 91; refine (put32_any n 4 _ (by omega) hn).mono ?_; rintro e w' ⟨rfl, hx⟩)
  go_ret
  exact ⟨rfl, hx⟩
/-- Get64. -/
def Get64 (l : List UInt8) (p : Int) : Nat × Bool := if 0 ≤ p ∧ p + 8 ≤ l.length then (getB (seg l p.toNat 8), true) else (0, false)
set_option maxHeartbeats 400000 in
theorem Put64_any (n : Nat) (w : World) (hn : U64 n) :
    Calls Tryz.prog 88 #[.int .u64 n] w fun e w' => e = .returned (.string (bs (putB 8 n))) ∧ Ext w w' := by
  go_enter Tryz.func88, Tryz.ntmps88
  go_wp2_with (go_at_call 110; refine (put64_any n 8 _ (by omega) hn).mono ?_; rintro e w' ⟨rfl, hx⟩)
  go_ret
  exact ⟨rfl, hx⟩

/-! ### Xor, Equal -/
def xorL (a b : List UInt8) : List UInt8 := List.zipWith x8 a b
theorem xorL_length (a b : List UInt8) (h : a.length = b.length) : (xorL a b).length = a.length := by simp [xorL, h]
def xorK (a b : List UInt8) (k : Nat) : List UInt8 := (xorL a b).take k ++ a.drop k
theorem xorK_length (a b : List UInt8) (h : a.length = b.length) (k : Nat) (hk : k ≤ a.length) : (xorK a b k).length = a.length := by
  simp [xorK, xorL_length a b h]; omega
theorem xorK_at (a b : List UInt8) (h : a.length = b.length) (k : Nat) (hk : k < a.length) : (xorK a b k)[k]'(by rw [xorK_length a b h k (by omega)]; exact hk) = a[k] := by
  apply Option.some.inj
  rw [← List.getElem?_eq_getElem]
  unfold xorK
  rw [List.getElem?_append_right (by simp; omega), List.length_take, xorL_length a b h, Nat.min_eq_left (by omega)]
  simp [hk]
theorem xorK_step (a b : List UInt8) (h : a.length = b.length) (k : Nat) (hk : k < a.length) : (xorK a b k).set k (x8 a[k] (b[k]'(by omega))) = xorK a b (k + 1) := by
  unfold xorK
  rw [List.set_append_right _ _ (by simp; omega), List.length_take, xorL_length a b h, Nat.min_eq_left (by omega), Nat.sub_self]
  rw [List.take_succ_eq_append_getElem (by rw [xorL_length a b h]; exact hk)]
  rw [List.drop_eq_getElem_cons hk, List.set_cons_zero]
  simp [xorL]
set_option maxRecDepth 100000 in
set_option maxHeartbeats 400000 in
theorem Xor_yes (a b : List UInt8) (w : World) (h : a.length = b.length) (hl : a.length ≤ 1099511627776) :
    Calls Tryz.prog 56 #[.string (bs a), .string (bs b)] w fun e w' => e = .returned (.tuple #[.string (bs (xorL a b)), .bool true]) ∧ Ext w w' := by
  have hf : ((a.length : Int) != b.length) = false := by simp [h]
  have kt := to_bytes a
  have hb : b.length ≤ 1099511627776 := by omega
  have h' := Lib.hid h
  clear h
  have hcap := capOf_ge 5 w a.length
  go_enter Tryz.func56, Tryz.ntmps56
  go_wp2
  clear kt
  go_loopw [17] (fun i wr => ∃ k : Nat, k ≤ a.length ∧ i = .int .i64 k ∧ wr.heap[w.heap.size]? = some (.cells (bcells (xorK a b k ++ List.replicate (capOf 5 w a.length - a.length) 0)) 5 (capOf 5 w a.length, capOf 5 w a.length + 1)) ∧ Ext w wr) (fun i _ => a.length - (intOf i).toNat)
  case atStart => exact ⟨0, by omega, rfl, by simp only [heap_drew]; rw [heap_alloc_new]; simp [xorK], ((Ext.refl _).alloc _).drew⟩
  case round =>
    obtain ⟨k, hk, rfl, hblk, hx⟩ := hrel
    by_cases hlt : k < a.length
    · have hc : wr.cell? ⟨w.heap.size, k, none⟩ = some (.int .u8 (a[k].toNat)) := by
        refine cell_blk hblk ?_
        rw [bcells_left _ _ k (by rw [xorK_length a b h'.out k hk]; exact hlt), xorK_at a b h'.out k hlt]
      have hfz : wr.frozen? ⟨w.heap.size, k, none⟩ = false := frozen_spare hblk (by omega)
      have hkb : (k : Int) < b.length := by have := h'.out; omega
      have HB := Lib.hid hblk; clear hblk
      go_wp2
      go_still_tail 9, (by kernel_rfl)
      go_wp2
      go_roundw
      case measure => simp [intOf]; omega
      case rel =>
        refine ⟨k + 1, by omega, by go_num, ?_, (hx.setCell (Nat.le_refl _) _).drew⟩
        rw [heap_drew, heap_setCell_same _ HB.out, bcells_set_left _ _ _ _ (by rw [xorK_length a b h'.out k hk]; exact hlt), xorK_step a b h'.out k hlt]
    · obtain rfl : k = a.length := by omega
      have hd : xorK a b a.length = xorL a b := by simp [xorK, List.take_of_length_le (Nat.le_of_eq (xorL_length a b h'.out))]
      rw [hd] at hblk
      have kc := fun c => to_str_blk (c := c) hblk (xorL_length a b h'.out)
      clear hd hblk
      go_wp2
      go_ret2
      exact ⟨rfl, hx⟩
set_option maxHeartbeats 400000 in
theorem Xor_no (a b : List UInt8) (w : World) (h : a.length ≠ b.length) :
    Calls Tryz.prog 56 #[.string (bs a), .string (bs b)] w fun e w' => e = .returned (.tuple #[.string (bs []), .bool false]) ∧ Ext w w' := by
  have hf : ((a.length : Int) != b.length) = true := by simp; omega
  clear h
  go_enter Tryz.func56, Tryz.ntmps56
  go_wp2
  go_ret2
  exact ⟨rfl, Ext.refl _⟩
/-- Xor. -/
def Xor (a b : List UInt8) : List UInt8 × Bool := if a.length = b.length then (xorL a b, true) else ([], false)
theorem Xor_any (a b : List UInt8) (w : World) (hl : a.length ≤ 1099511627776) :
    Calls Tryz.prog 56 #[.string (bs a), .string (bs b)] w fun e w' => e = .returned (.tuple #[.string (bs (Xor a b).1), .bool (Xor a b).2]) ∧ Ext w w' := by
  unfold Xor
  by_cases h : a.length = b.length
  · rw [if_pos h]; exact Xor_yes a b w h hl
  · rw [if_neg h]; exact Xor_no a b w h

/-! ### Equal -/
def orL (l : List UInt8) : UInt8 := l.foldl o8 0
theorem orL_snoc (l : List UInt8) (x : UInt8) : orL (l ++ [x]) = o8 (orL l) x := by simp [orL]
theorem o8_zero (x y : UInt8) : o8 x y = 0 ↔ x = 0 ∧ y = 0 := by
  unfold o8
  rw [← UInt8.toNat_inj, UInt8.toNat_or, UInt8.toNat_zero, Nat.or_eq_zero_iff]
  simp [← UInt8.toNat_inj]
theorem orL_zero (l : List UInt8) : orL l = 0 ↔ ∀ x ∈ l, x = 0 := by
  have : ∀ (m : List UInt8) (s : UInt8), m.foldl o8 s = 0 ↔ s = 0 ∧ ∀ x ∈ m, x = 0 := by
    intro m
    induction m with
    | nil => intro s; simp
    | cons y m ih => intro s; rw [List.foldl_cons, ih, o8_zero]; simp [and_assoc]
  rw [orL, this]; simp
theorem x8_zero (x y : UInt8) : x8 x y = 0 ↔ x = y := by
  unfold x8; exact UInt8.xor_eq_zero_iff
theorem xorL_zero : ∀ (a b : List UInt8), a.length = b.length → ((∀ x ∈ xorL a b, x = 0) ↔ a = b)
  | [], [], _ => by simp [xorL]
  | x :: a, y :: b, h => by
    have ih := xorL_zero a b (by simpa using h)
    unfold xorL at ih ⊢
    rw [List.zipWith_cons_cons]
    simp only [List.mem_cons, forall_eq_or_imp, ih, x8_zero, List.cons.injEq]
  | [], _ :: _, h => by simp at h
  | _ :: _, [], h => by simp at h
set_option maxRecDepth 100000 in
set_option maxHeartbeats 400000 in
theorem Equal_any (a b : List UInt8) (w : World) (hl : a.length ≤ 1099511627776) :
    Calls Tryz.prog 87 #[.string (bs a), .string (bs b)] w fun e w' => e = .returned (.bool (decide (a = b))) ∧ Ext w w' := by
  have hxl : (Xor a b).1.length ≤ 1099511627776 := by
    unfold Xor; split
    · rename_i h; rw [xorL_length a b h]; exact hl
    · simp
  have hfin : ∀ v : Bool, (Xor a b).2 = v → (if v then decide (orL (Xor a b).1 = 0) else false) = decide (a = b) := by
    intro v hv; subst hv
    unfold Xor
    by_cases h : a.length = b.length
    · simp only [h, if_true]
      rw [decide_eq_decide, orL_zero, xorL_zero a b h]
    · have : a ≠ b := fun e => h (by rw [e])
      simp [h, this]
  have HF := Lib.hid hfin; clear hfin
  obtain ⟨xs, hxs⟩ : ∃ xs, (Xor a b).1 = xs := ⟨_, rfl⟩
  obtain ⟨v, hv⟩ : ∃ v, (Xor a b).2 = v := ⟨_, rfl⟩
  have kt := to_bytes xs
  rw [hxs] at hxl
  have hX := fun w => Xor_any a b w hl
  rw [hxs, hv] at hX
  have HV := Lib.hid hv; clear hv
  have HS := Lib.hid hxs; clear hxs
  go_enter Tryz.func87, Tryz.ntmps87
  go_wp2_with (go_at_call 56; refine (hX _).mono ?_; rintro e w1 ⟨rfl, hx⟩)
  clear kt hX
  have hge := capOf_ge 5 w1 xs.length
  go_loopw [7, 19] (fun o i wr => ∃ k : Nat, k ≤ xs.length ∧ i = .int .i64 k ∧ o = .int .u8 (orL (xs.take k)).toNat ∧ wr.heap[w1.heap.size]? = some (.cells (bcells (xs ++ List.replicate (capOf 5 w1 xs.length - xs.length) 0)) 5 (capOf 5 w1 xs.length, capOf 5 w1 xs.length + 1)) ∧ Ext w wr) (fun _ i _ => xs.length - (intOf i).toNat)
  case atStart => exact ⟨0, by omega, rfl, by simp [orL], by simp only [heap_drew]; rw [heap_alloc_new], (hx.alloc _).drew⟩
  case round =>
    obtain ⟨k, hk, rfl, rfl, hblk, hx2⟩ := hrel
    by_cases hlt : k < xs.length
    · have hc : wr.cell? ⟨w1.heap.size, k, none⟩ = some (.int .u8 (xs[k].toNat)) := cell_blk hblk (bcells_left _ _ k hlt)
      have hs : orL (xs.take (k + 1)) = o8 (orL (xs.take k)) xs[k] := by rw [List.take_succ_eq_append_getElem hlt, orL_snoc]
      have HB := Lib.hid hblk; clear hblk
      have HS2 := Lib.hid hs; clear hs
      go_wp2
      go_roundw
      case measure => simp [intOf]; omega
      case rel => exact ⟨k + 1, by omega, by go_num, by rw [HS2.out], HB.out, hx2⟩
    · obtain rfl : k = xs.length := by omega
      clear hblk
      cases v
      · go_wp2
        go_ret
        refine ⟨ret_bool ?_, hx2⟩
        have := HF.out false HV.out
        simpa using this
      · go_wp2
        go_ret
        refine ⟨ret_bool ?_, hx2⟩
        have := HF.out true HV.out
        rw [HS.out] at this
        simp only [if_true] at this
        rw [← this, Bool.eq_iff_iff]
        simp [← UInt8.toNat_inj]
end Go.Proofs.YtclekllaikcglaaGreat
namespace Go.Proofs.YtclekllaikcglaaGreat
open Go Go.RowKit

/-! ### Turn -/
def rotrN (n k : Nat) : Nat := n / 2 ^ k ||| n * 2 ^ (32 - k) % 4294967296
theorem rotrN_lt (n k : Nat) (h : n < 4294967296) : rotrN n k < 4294967296 := by
  have h1 : n / 2 ^ k < 2 ^ 32 := Nat.lt_of_le_of_lt (Nat.div_le_self _ _) h
  have h2 : n * 2 ^ (32 - k) % 4294967296 < 2 ^ 32 := Nat.mod_lt _ (by omega)
  exact Nat.or_lt_two_pow h1 h2
/-- Turn: by places to the right. -/
def rotr (x : UInt32) (b : Int) : UInt32 := UInt32.ofNat (rotrN x.toNat (b % 32).toNat)
theorem and31 (b : Int) : bits .and .i64 b 31 = b % 32 := by
  show IntKind.i64.wrap ((BitVec.ofInt 64 b &&& BitVec.ofInt 64 31).toNat : Int) = _
  have h : (BitVec.ofInt 64 b &&& BitVec.ofInt 64 31).toNat = (b % 18446744073709551616).toNat % 32 := by
    rw [BitVec.toNat_and, BitVec.toNat_ofInt, show (BitVec.ofInt 64 31).toNat = 2 ^ 5 - 1 from rfl, Nat.and_two_pow_sub_one_eq_mod]; rfl
  rw [h, IntKind.wrap_i64]; omega
theorem or32_nat (a b : Nat) (ha : a < 4294967296) (hb : b < 4294967296) : bits .or .u32 (a : Int) (b : Int) = ((a ||| b : Nat) : Int) :=
  (bits_nat .u32 32 (by decide) wraps_u32 a b ha hb).2
theorem rotr_form (x : UInt32) (k : Nat) : bits .or .u32 ((x.toNat : Int) / 2 ^ k) ((x.toNat : Int) * 2 ^ (32 - k) % 4294967296) = ((UInt32.ofNat (rotrN x.toNat k)).toNat : Int) := by
  have hx := x.toNat_lt
  have h1 := or32_nat (x.toNat / 2 ^ k) (x.toNat * 2 ^ (32 - k) % 4294967296) (Nat.lt_of_le_of_lt (Nat.div_le_self _ _) hx) (Nat.mod_lt _ (by omega))
  have h2 := rotrN_lt x.toNat k hx
  rw [UInt32.toNat_ofNat_of_lt' h2]
  rw [show ((x.toNat : Int) / 2 ^ k) = ((x.toNat / 2 ^ k : Nat) : Int) by simp, show ((x.toNat : Int) * 2 ^ (32 - k) % 4294967296) = ((x.toNat * 2 ^ (32 - k) % 4294967296 : Nat) : Int) by simp]
  exact h1
set_option maxHeartbeats 400000 in
theorem Turn_any (x : UInt32) (b : Int) (w : World) :
    Calls Tryz.prog 125 #[.int .u32 x.toNat, .int .i64 b] w fun e w' => e = .returned (.int .u32 (rotr x b).toNat) ∧ Ext w w' := by
  obtain ⟨k, hk⟩ := Int.eq_ofNat_of_zero_le (Int.emod_nonneg b (by omega : (32 : Int) ≠ 0))
  have hk2 : k < 32 := by omega
  have ha : bits .and .i64 b 31 = (k : Int) := by rw [and31]; exact hk
  have hr : rotr x b = UInt32.ofNat (rotrN x.toNat k) := by rw [rotr, hk]; rfl
  rw [hr]
  clear hk hr
  go_enter Tryz.func125, Tryz.ntmps125
  go_wp2
  go_quiet (fail)
  go_wp2
  go_ret
  exact ⟨ret_int (rotr_form x k), (Ext.refl _).drewN _⟩
/-- The reference's loop: bit by bit. -/
def turnK (n k i : Nat) : Nat := (List.range i).foldl (fun m j => if n / 2 ^ j % 2 = 1 then m ||| 2 ^ ((j + 32 - k) % 32) else m) 0
theorem turnK_succ (n k i : Nat) : turnK n k (i + 1) = if n / 2 ^ i % 2 = 1 then turnK n k i ||| 2 ^ ((i + 32 - k) % 32) else turnK n k i := by
  simp [turnK, List.range_succ]
theorem turnK_bits (n k : Nat) (hk : k < 32) : ∀ i, i ≤ 32 → ∀ t, (turnK n k i).testBit t = decide (t < 32 ∧ (t + k) % 32 < i ∧ n.testBit ((t + k) % 32) = true)
  | 0, _, t => by simp [turnK]
  | i + 1, hi, t => by
    have ih := turnK_bits n k hk i (by omega) t
    have hb : (n / 2 ^ i % 2 = 1) ↔ n.testBit i = true := by
      rw [Nat.testBit_eq_decide_div_mod_eq]; simp
    rw [turnK_succ]
    have hij : (i + 32 - k) % 32 = t ↔ t < 32 ∧ (t + k) % 32 = i := by omega
    by_cases h : n.testBit i = true
    · rw [if_pos (hb.2 h), Nat.testBit_or, ih, Nat.testBit_two_pow]
      rw [Bool.eq_iff_iff]
      simp only [Bool.or_eq_true, decide_eq_true_eq, hij]
      constructor
      · rintro (⟨h1, h2, h3⟩ | ⟨h1, h2⟩)
        · exact ⟨h1, by omega, h3⟩
        · exact ⟨h1, by omega, by rw [h2]; exact h⟩
      · rintro ⟨h1, h2, h3⟩
        by_cases h4 : (t + k) % 32 = i
        · exact .inr ⟨h1, h4⟩
        · exact .inl ⟨h1, by omega, h3⟩
    · rw [if_neg (fun e => h (hb.1 e)), ih]
      rw [Bool.eq_iff_iff]
      simp only [decide_eq_true_eq]
      constructor
      · rintro ⟨h1, h2, h3⟩; exact ⟨h1, by omega, h3⟩
      · rintro ⟨h1, h2, h3⟩
        refine ⟨h1, ?_, h3⟩
        by_cases h4 : (t + k) % 32 = i
        · rw [h4] at h3; exact absurd h3 h
        · omega
theorem turnK_eq (n k : Nat) (hk : k < 32) (hn : n < 4294967296) : turnK n k 32 = rotrN n k := by
  apply Nat.eq_of_testBit_eq
  intro t
  rw [turnK_bits n k hk 32 (by omega) t, rotrN, Nat.testBit_or, ← Nat.shiftRight_eq_div_pow, Nat.testBit_shiftRight, ← Nat.shiftLeft_eq, show (4294967296 : Nat) = 2 ^ 32 from rfl, Nat.testBit_mod_two_pow, Nat.testBit_shiftLeft]
  have hbig : ∀ j, 32 ≤ j → n.testBit j = false := fun j hj => Nat.testBit_lt_two_pow (Nat.lt_of_lt_of_le hn (Nat.pow_le_pow_right (by omega) hj : 2 ^ 32 ≤ 2 ^ j))
  rw [Bool.eq_iff_iff]
  simp only [decide_eq_true_eq, Bool.or_eq_true, Bool.and_eq_true]
  constructor
  · rintro ⟨h1, h2, h3⟩
    by_cases h4 : t + k < 32
    · left; rw [Nat.mod_eq_of_lt h4] at h3; rw [Nat.add_comm]; exact h3
    · right
      rw [show (t + k) % 32 = t - (32 - k) by omega] at h3
      exact ⟨h1, by omega, h3⟩
  · rintro (h | ⟨h1, h2, h3⟩)
    · have h4 : k + t < 32 := Nat.lt_of_not_le fun h5 => by rw [hbig _ h5] at h; cases h
      exact ⟨by omega, by omega, by rw [Nat.mod_eq_of_lt (by omega), Nat.add_comm]; exact h⟩
    · exact ⟨h1, by omega, by rw [show (t + k) % 32 = t - (32 - k) by omega]; exact h3⟩

theorem and1_32 (n j : Nat) (hn : n < 4294967296) : bits .and .u32 ((n : Int) / 2 ^ j) 1 = ((n / 2 ^ j % 2 : Nat) : Int) := by
  have h := (bits_nat .u32 32 (by decide) wraps_u32 (n / 2 ^ j) 1 (Nat.lt_of_le_of_lt (Nat.div_le_self _ _) hn) (by omega)).1
  rw [Nat.and_one_is_mod] at h
  rw [← h]; simp
theorem pow_mod (t : Nat) (ht : t < 32) : ((2 : Int) ^ t % 4294967296) = ((2 ^ t : Nat) : Int) := by
  have h1 : (2 : Nat) ^ t < 4294967296 := Nat.lt_of_lt_of_le (Nat.pow_lt_pow_right (by omega) ht) (by omega : 2 ^ 32 ≤ 4294967296)
  have h2 : ((2 : Int) ^ t) = ((2 ^ t : Nat) : Int) := by rw [Int.natCast_pow]; rfl
  rw [h2, show (4294967296 : Int) = ((4294967296 : Nat) : Int) from rfl, ← Int.natCast_emod, Nat.mod_eq_of_lt h1]
theorem turnK_lt (n k i : Nat) (hk : k < 32) (hi : i ≤ 32) : turnK n k i < 4294967296 := by
  refine Nat.lt_pow_two_of_testBit (n := 32) _ (fun t ht => ?_)
  rw [turnK_bits n k hk i hi t]; simp; omega
set_option maxRecDepth 100000 in
set_option maxHeartbeats 400000 in
theorem RefTurn_any (x : UInt32) (b : Int) (w : World) (_h1 : -9223372036854775808 ≤ b) (_h2 : b ≤ 9223372036854775807) :
    Calls Tryz.prog 168 #[.int .u32 x.toNat, .int .i64 b] w fun e w' => e = .returned (.int .u32 (rotr x b).toNat) ∧ w = w' := by
  have hx : x.toNat < 4294967296 := x.toNat_lt
  obtain ⟨k, hk⟩ := Int.eq_ofNat_of_zero_le (Int.emod_nonneg b (by omega : (32 : Int) ≠ 0))
  have hk2 : k < 32 := by omega
  have hr : rotr x b = UInt32.ofNat (rotrN x.toNat k) := by rw [rotr, hk]; rfl
  have hfin : ((rotr x b).toNat : Int) = (turnK x.toNat k 32 : Nat) := by
    rw [hr, UInt32.toNat_ofNat_of_lt' (rotrN_lt _ _ hx), turnK_eq _ _ hk2 hx]
  obtain ⟨q, hq⟩ : ∃ q, b.tmod 32 = q := ⟨_, rfl⟩
  have hq2 : -32 < q ∧ q < 32 ∧ (q + 32) % 32 = (k : Int) := by
    have h3 : q = b % 32 ∨ (q = b % 32 - 32 ∧ b % 32 ≠ 0) := by
      rw [← hq, Int.tmod_eq_emod]
      split
      · simp
      · rename_i hd
        right
        have : ¬ (32 : Int) ∣ b := fun e => hd (.inr e)
        constructor
        · simp
        · omega
    clear hfin hr hq
    omega
  have ht : (q + 32).tmod 32 = (k : Int) := by rw [Int.tmod_eq_emod_of_nonneg (by omega)]; exact hq2.2.2
  clear hk hr
  go_enter Tryz.func168, Tryz.ntmps168
  go_wp2
  clear hq ht
  go_loop [6, 7] (fun m i => ∃ j : Nat, j ≤ 32 ∧ i = .int .i64 j ∧ m = .int .u32 (turnK x.toNat k j)) (fun _ i => 32 - (intOf i).toNat)
  case atStart => exact ⟨0, by omega, rfl, by simp [turnK]⟩
  case round =>
    obtain ⟨j, hj, rfl, rfl⟩ := hrel
    by_cases hlt : j < 32
    · have hpow : ((2 : Int) ^ (((j : Int) - k) % 32).toNat % 4294967296) = ((2 ^ ((j + 32 - k) % 32) : Nat) : Int) := by
        rw [show (((j : Int) - k) % 32).toNat = (j + 32 - k) % 32 by omega]
        exact pow_mod ((j + 32 - k) % 32) (Nat.mod_lt _ (by omega))
      have hsucc := turnK_succ x.toNat k j
      have hbit := and1_32 x.toNat j hx
      have hl1 := turnK_lt x.toNat k j hk2 (by omega)
      have h2p : (2 : Nat) ^ ((j + 32 - k) % 32) < 4294967296 := Nat.lt_of_lt_of_le (Nat.pow_lt_pow_right (by omega) (Nat.mod_lt _ (by omega))) (by omega : 2 ^ 32 ≤ 4294967296)
      have hor := or32_nat (turnK x.toNat k j) (2 ^ ((j + 32 - k) % 32)) hl1 h2p
      have HL := Lib.hid hpow; have HS := Lib.hid hsucc; have HO := Lib.hid hor
      clear hpow hsucc hor h2p hl1
      by_cases hb : x.toNat / 2 ^ j % 2 = 1
      · have hbb : bits .and .u32 ((x.toNat : Int) / 2 ^ j) 1 = 1 := by rw [hbit, hb]; rfl
        have HB := Lib.hid hb
        clear hbit hb hfin hx hq2
        go_wp2
        go_round
        case rel => exact ⟨j + 1, by omega, by go_num, by rw [HS.out, if_pos HB.out, HL.out, HO.out]⟩
        case measure => simp [intOf]; omega
      · have hbb : bits .and .u32 ((x.toNat : Int) / 2 ^ j) 1 = 0 := by rw [hbit, show x.toNat / 2 ^ j % 2 = 0 by omega]; rfl
        have HB := Lib.hid hb
        clear hbit hb hfin hx hq2
        go_wp2
        go_round
        case rel => exact ⟨j + 1, by omega, by go_num, by rw [HS.out, if_neg HB.out]⟩
        case measure => simp [intOf]; omega
    · obtain rfl : j = 32 := by omega
      have HF := Lib.hid hfin
      clear hfin hq2
      go_wp2
      go_ret
      exact ⟨ret_int HF.out.symm, rfl⟩

/-! ### ref Xor, Put, Get -/
theorem or_eq_xor_add_and : ∀ (n x y : Nat), x < n → (x ||| y) = (x ^^^ y) + (x &&& y)
  | 0, x, y, h => by omega
  | n + 1, x, y, h => by
    by_cases hx : x = 0
    · subst hx; simp
    · have ih := or_eq_xor_add_and n (x / 2) (y / 2) (by omega)
      have a1 : (x ||| y) / 2 = x / 2 ||| y / 2 := Nat.or_div_two
      have a2 : (x ^^^ y) / 2 = x / 2 ^^^ y / 2 := Nat.xor_div_two
      have a3 : (x &&& y) / 2 = x / 2 &&& y / 2 := Nat.and_div_two
      have b1 : (x ||| y) % 2 = 1 ↔ x % 2 = 1 ∨ y % 2 = 1 := Nat.or_mod_two_eq_one
      have b2 : (x ^^^ y) % 2 = 1 ↔ ¬ (x % 2 = 1 ↔ y % 2 = 1) := Nat.xor_mod_two_eq_one
      have b3 : (x &&& y) % 2 = 1 ↔ x % 2 = 1 ∧ y % 2 = 1 := Nat.and_mod_two_eq_one
      omega
theorem xor_sub (x y : UInt8) : (((o8 x y).toNat : Int) - ((a8 x y).toNat : Int)) % 256 = ((x8 x y).toNat : Int) := by
  have h1 := or_eq_xor_add_and (x.toNat + 1) x.toNat y.toNat (by omega)
  have h2 : x.toNat ^^^ y.toNat < 2 ^ 8 := Nat.xor_lt_two_pow x.toNat_lt y.toNat_lt
  simp only [o8, a8, x8, UInt8.toNat_or, UInt8.toNat_and, UInt8.toNat_xor]
  omega
set_option maxRecDepth 100000 in
set_option maxHeartbeats 400000 in
theorem RefXor_any (a b : List UInt8) (w : World) (h : a.length = b.length) (hl : a.length ≤ 1099511627776) :
    Calls Tryz.prog 101 #[.string (bs a), .string (bs b)] w fun e w' => e = .returned (.string (bs (xorL a b))) ∧ Ext w w' := by
  have hmk := fun w => mk_bytes a.length (by omega) w
  have hbl : b.length ≤ 1099511627776 := by omega
  have h' := Lib.hid h
  clear h
  go_enter Tryz.func101, Tryz.ntmps101
  go_wp2
  clear hmk
  go_loopw [6] (fun i wr => ∃ k : Nat, k ≤ a.length ∧ i = .int .i64 k ∧ wr.heap[w.heap.size]? = some (.cells (bcells ((xorL a b).take k ++ List.replicate (a.length - k) 0)) 5 (0, 0)) ∧ Ext w wr) (fun i _ => a.length - (intOf i).toNat)
  case atStart => exact ⟨0, by omega, rfl, by rw [heap_alloc_new]; simp, (Ext.refl _).alloc _⟩
  case round =>
    obtain ⟨k, hk, rfl, hblk, hx⟩ := hrel
    have hxl := xorL_length a b h'.out
    by_cases hlt : k < a.length
    · have hc : wr.cell? ⟨w.heap.size, k, none⟩ = some (.int .u8 0) := cell_blk hblk (fill_cell _ _ _ hxl hlt)
      have hfz : wr.frozen? ⟨w.heap.size, k, none⟩ = false := frozen_blk hblk
      have hkb : (k : Int) < b.length := by have := h'.out; omega
      have hst := fill_set (xorL a b) 0 a.length k hxl hlt
      have HB := Lib.hid hblk; have HS := Lib.hid hst; have HX := Lib.hid hxl; clear hblk hst
      rw [show (xorL a b)[k]'(by omega) = x8 a[k] (b[k]'(by omega)) by simp [xorL]] at HS
      clear hxl
      go_wp2
      go_still_tail 18, (by kernel_rfl)
      go_wp2
      go_roundw
      case measure => simp [intOf]; omega
      case rel =>
        refine ⟨k + 1, by omega, by go_num, ?_, (hx.setCell (Nat.le_refl _) _).drew⟩
        rw [xor_sub, heap_drew, heap_setCell_same _ HB.out, bcells_set]
        rw [HS.out]
    · obtain rfl : k = a.length := by omega
      rw [fill_done _ 0 a.length hxl, ← List.append_nil (xorL a b)] at hblk
      have kc := fun c => to_str_blk (c := c) hblk hxl
      clear hxl hblk
      go_wp2
      go_ret
      exact ⟨rfl, hx⟩

theorem wrap_div256 (m : Nat) (h : U64 m) : IntKind.u64.wrap ((m : Int) / 256) = ((m / 256 : Nat) : Int) := by
  unfold U64 at h; rw [IntKind.wrap_u64]; omega
theorem putDown_step (size n m k : Nat) (hk : k < size) (hm : m = n / 2 ^ (8 * (size - 1 - k))) :
    (bcells (List.replicate (k + 1) 0 ++ (putB size n).drop (k + 1))).setIfInBounds k (.int .u8 ((m : Int) % 256)) = bcells (List.replicate k 0 ++ (putB size n).drop k) := by
  have e : ((m : Int) % 256) = ((UInt8.ofNat m).toNat : Int) := by simp
  rw [e, bcells_set, List.replicate_succ', List.append_assoc, List.set_append_right _ _ (by simp)]
  have h1 : k < (putB size n).length := by simpa using hk
  rw [List.drop_eq_getElem_cons h1]
  simp only [List.length_replicate, Nat.sub_self, List.cons_append, List.nil_append, List.set_cons_zero]
  have h2 : (putB size n)[k] = UInt8.ofNat m := by simp [putB, hm]
  rw [h2]
theorem putDown_cell (size n k : Nat) (_hk : k < size) : (bcells (List.replicate (k + 1) 0 ++ (putB size n).drop (k + 1)))[k]? = some (.int .u8 0) := by
  rw [bcells_left _ _ k (by simp)]; simp
set_option maxRecDepth 100000 in
set_option maxHeartbeats 400000 in
theorem RefPut_any (n size : Nat) (w : World) (hs : size ≤ 8) (hs1 : 1 ≤ size) (hn : U64 n) :
    Calls Tryz.prog 108 #[.int .u64 n, .int .i64 size] w fun e w' => e = .returned (.string (bs (putB size n))) ∧ Ext w w' := by
  have hmk := fun w => mk_bytes size (by omega) w
  go_enter Tryz.func108, Tryz.ntmps108
  go_wp2
  clear hmk
  go_loopw [0, 6] (fun m i wr => ∃ k : Nat, k ≤ size ∧ i = .int .i64 ((k : Int) - 1) ∧ m = .int .u64 ((n / 2 ^ (8 * (size - k)) : Nat) : Int) ∧ wr.heap[w.heap.size]? = some (.cells (bcells (List.replicate k 0 ++ (putB size n).drop k)) 5 (0, 0)) ∧ Ext w wr) (fun _ i _ => (intOf i + 1).toNat)
  case atStart => exact ⟨size, by omega, rfl, by simp, by rw [heap_alloc_new, List.drop_of_length_le (by simp), List.append_nil], (Ext.refl _).alloc _⟩
  case round =>
    obtain ⟨k1, hk, rfl, rfl, hblk, hx⟩ := hrel
    rcases k1 with _ | k
    · rw [List.replicate_zero, List.nil_append, List.drop_zero, ← List.append_nil (putB size n)] at hblk
      have kc := fun c => to_str_blk (c := c) hblk (putB_length size n)
      obtain ⟨q, hq⟩ : ∃ q, n / 2 ^ (8 * (size - 0)) = q := ⟨_, rfl⟩
      rw [hq]
      clear hblk hq
      go_wp2
      go_ret
      exact ⟨rfl, hx⟩
    · have hc : wr.cell? ⟨w.heap.size, k, none⟩ = some (.int .u8 0) := cell_blk hblk (putDown_cell size n k hk)
      have hfz : wr.frozen? ⟨w.heap.size, k, none⟩ = false := frozen_blk hblk
      obtain ⟨m, hm⟩ : ∃ m, n / 2 ^ (8 * (size - (k + 1))) = m := ⟨_, rfl⟩
      have hst := putDown_step size n m k hk (by rw [← hm, show size - 1 - k = size - (k + 1) by omega])
      have hd : m / 256 = n / 2 ^ (8 * (size - k)) := by
        rw [← hm, Nat.div_div_eq_div_mul, show 8 * (size - k) = 8 * (size - (k + 1)) + 8 by omega, Nat.pow_add]
      have hmu : U64 m := by rw [← hm]; exact Nat.lt_of_le_of_lt (Nat.div_le_self _ _) hn
      rw [hm]
      have e1 : (((k + 1 : Nat) : Int) - 1) = (k : Int) := by omega
      rw [e1]
      have HB := Lib.hid hblk; have HS := Lib.hid hst; have HD := Lib.hid hd; have HM := Lib.hid hmu; clear hblk hst hd hm e1 hmu
      go_wp2
      go_roundw
      case measure => simp [intOf]
      case rel =>
        refine ⟨k, by omega, rfl, ?_, ?_, hx.setCell (Nat.le_refl _) _⟩
        · rw [← HD.out, wrap_div256 m HM.out]
        · rw [heap_setCell_same _ HB.out, HS.out]
set_option maxHeartbeats 400000 in
theorem RefGet_yes (n : Nat) (l : List UInt8) (p : Nat) (w : World) (hn : n ≤ 8) (hl : l.length ≤ 1099511627776) (h : p + n ≤ l.length) :
    Calls Tryz.prog 99 #[.string (bs l), .int .i64 p, .int .i64 n] w fun e w' => e = .returned (.tuple #[.int .u64 (getB (seg l p n)), .bool true]) ∧ w = w' := by
  go_enter Tryz.func99, Tryz.ntmps99
  go_wp2
  go_loop [8, 9] (fun v i => ∃ k : Nat, k ≤ n ∧ i = .int .i64 k ∧ v = .int .u64 (getB (seg l p k))) (fun _ i => n - (intOf i).toNat)
  case atStart => exact ⟨0, by omega, rfl, by simp [seg, getB]⟩
  case round =>
    obtain ⟨k, hk, rfl, rfl⟩ := hrel
    by_cases hlt : k < n
    · have h1 := getB_lt (seg l p k)
      rw [seg_length l p k (by omega)] at h1
      have h2 : getB (seg l p k) ≤ 72057594037927935 := by
        have : 256 ^ k ≤ 256 ^ 7 := Nat.pow_le_pow_right (by omega) (by omega)
        omega
      have h3 := seg_snoc l p k (by omega)
      have H3 := Lib.hid h3
      clear h1 h3
      go_wp2
      go_round
      case rel =>
        refine ⟨k + 1, by omega, by go_num, ?_⟩
        rw [H3.out, getB_snoc]
        have := (l[p + k]'(by omega)).toNat_lt
        rw [IntKind.wrap_u64]
        congr 1
        omega
      case measure => simp [intOf]; omega
    · obtain rfl : k = n := by omega
      go_wp2
      go_ret2
      exact ⟨rfl, rfl⟩
set_option maxHeartbeats 400000 in
theorem RefGet_no (n : Nat) (l : List UInt8) (p : Int) (w : World) (hn : n ≤ 8) (hl : l.length ≤ 1099511627776) (h : p < 0 ∨ (l.length : Int) < p + n) :
    Calls Tryz.prog 99 #[.string (bs l), .int .i64 p, .int .i64 n] w fun e w' => e = .returned (.tuple #[.int .u64 0, .bool false]) ∧ w = w' := by
  by_cases h0 : p < 0
  · clear h
    go_enter Tryz.func99, Tryz.ntmps99
    go_wp2
    go_ret2
    exact ⟨rfl, rfl⟩
  · have h1 : (l.length : Int) - n < p := by omega
    clear h
    go_enter Tryz.func99, Tryz.ntmps99
    go_wp2
    go_ret2
    exact ⟨rfl, rfl⟩
theorem RefGet_any (n : Nat) (l : List UInt8) (p : Int) (w : World) (hn : n ≤ 8) (hl : l.length ≤ 1099511627776) :
    Calls Tryz.prog 99 #[.string (bs l), .int .i64 p, .int .i64 n] w fun e w' => e = .returned (.tuple #[.int .u64 (if 0 ≤ p ∧ p + n ≤ l.length then getB (seg l p.toNat n) else 0 : Nat), .bool (decide (0 ≤ p ∧ p + n ≤ l.length))]) ∧ w = w' := by
  by_cases h : 0 ≤ p ∧ p + n ≤ l.length
  · obtain ⟨q, rfl⟩ := Int.eq_ofNat_of_zero_le h.1
    rw [if_pos h, decide_eq_true h]
    exact RefGet_yes n l q w hn hl (by omega)
  · rw [if_neg h, decide_eq_false h]
    exact RefGet_no n l p w hn hl (by omega)
theorem RefGet4_any (l : List UInt8) (p : Int) (w : World) (hl : l.length ≤ 1099511627776) :
    Calls Tryz.prog 99 #[.string (bs l), .int .i64 p, .int .i64 4] w fun e w' => e = .returned (.tuple #[.int .u64 (Get32 l p).1, .bool (Get32 l p).2]) ∧ w = w' := by
  unfold Get32
  by_cases h : 0 ≤ p ∧ p + 4 ≤ l.length
  · obtain ⟨q, rfl⟩ := Int.eq_ofNat_of_zero_le h.1
    rw [if_pos h]
    exact RefGet_yes 4 l q w (by omega) hl (by omega)
  · rw [if_neg h]
    exact RefGet_no 4 l p w (by omega) hl (by omega)
theorem RefPut4_any (n : Nat) (w : World) (hn : U64 n) :
    Calls Tryz.prog 108 #[.int .u64 n, .int .i64 4] w fun e w' => e = .returned (.string (bs (putB 4 n))) ∧ Ext w w' :=
  RefPut_any n 4 w (by omega) (by omega) hn
theorem RefGet8_any (l : List UInt8) (p : Int) (w : World) (hl : l.length ≤ 1099511627776) :
    Calls Tryz.prog 99 #[.string (bs l), .int .i64 p, .int .i64 8] w fun e w' => e = .returned (.tuple #[.int .u64 (Get64 l p).1, .bool (Get64 l p).2]) ∧ w = w' := by
  unfold Get64
  by_cases h : 0 ≤ p ∧ p + 8 ≤ l.length
  · obtain ⟨q, rfl⟩ := Int.eq_ofNat_of_zero_le h.1
    rw [if_pos h]
    exact RefGet_yes 8 l q w (by omega) hl (by omega)
  · rw [if_neg h]
    exact RefGet_no 8 l p w (by omega) hl (by omega)
theorem RefPut8_any (n : Nat) (w : World) (hn : U64 n) :
    Calls Tryz.prog 108 #[.int .u64 n, .int .i64 8] w fun e w' => e = .returned (.string (bs (putB 8 n))) ∧ Ext w w' :=
  RefPut_any n 8 w (by omega) (by omega) hn
theorem Get32_lt (l : List UInt8) (p : Int) : (Get32 l p).1 ≤ 4294967295 := by
  unfold Get32
  split
  · have h := getB_lt (seg l p.toNat 4)
    have h2 : (seg l p.toNat 4).length ≤ 4 := by unfold seg; simp; omega
    have h3 : 256 ^ (seg l p.toNat 4).length ≤ 256 ^ 4 := Nat.pow_le_pow_right (by omega) h2
    show getB (seg l p.toNat 4) ≤ _
    omega
  · show 0 ≤ 4294967295; omega
end Go.Proofs.YtclekllaikcglaaGreat
namespace Go.Proofs.YtclekllaikcglaaGreat
open Go Go.ChangeShapes Go.WideShapes Go.ChangeAt Go.RowKit

/-- An act, as a statement of layer 13 has it. -/
structure ActL where
  go : Bool
  ep : Nat
  key : List UInt8
  fit : Bool
instance : Inhabited ActL := ⟨⟨false, 0, [], false⟩⟩
/-- The cells of an act, from place o on. -/
def ActAt (w : World) (b o : Nat) (x : ActL) : Prop :=
  w.cell? ⟨b, o, none⟩ = some (.bool x.go) ∧ w.cell? ⟨b, o + 1, none⟩ = some (.int .u32 (x.ep : Int)) ∧ w.cell? ⟨b, o + 2, none⟩ = some (.string (bs x.key)) ∧ w.cell? ⟨b, o + 3, none⟩ = some (.bool x.fit)
def SlA (w : World) (ad : Option Addr) (l : List ActL) : Prop :=
  ∀ i (hi : i < l.length), ∃ b o, ad = some ⟨b, o, none⟩ ∧ b < w.heap.size ∧ ActAt w b (o + i * 4) l[i]
theorem ActAt.ext {w w' : World} {b o : Nat} {x : ActL} (h : ActAt w b o x) (hx : Ext w w') : ActAt w' b o x :=
  ⟨hx.cell_of h.1, hx.cell_of h.2.1, hx.cell_of h.2.2.1, hx.cell_of h.2.2.2⟩
theorem SlA.ext {w w' : World} {ad : Option Addr} {l : List ActL} (h : SlA w ad l) (hx : Ext w w') : SlA w' ad l := fun i hi => by
  obtain ⟨b, o, h1, h2, h3⟩ := h i hi
  exact ⟨b, o, h1, Nat.lt_of_lt_of_le h2 hx.size, h3.ext hx⟩
def structFs (P : Program) (t : TypeId) : Array Field := match P.underlying t with | some (.struct fs) => fs | _ => #[]
section
variable {H : Type} {enc : TypeId × Value → H}
end
end Go.Proofs.YtclekllaikcglaaGreat
