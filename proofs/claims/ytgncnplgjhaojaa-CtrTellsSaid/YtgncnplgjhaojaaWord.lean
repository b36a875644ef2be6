/- Contracts of the functions of package word and of its reference. -/
import Derived.Test.YtgncnplgjhaojaaProg
import Derived.Test.YtgncnplgjhaojaaBase
namespace Go.Proofs.Ytgncnplgjhaojaa
open Go Go.RowKit

theorem info_u8 : (Try.prog.info? 5).map (fun i => (i.zero, i.size, i.bytes)) = some (some (.int .u8 0), 1, 1) := by kernel_rfl
theorem und_bytes : Try.prog.underlying 34 = some (.slice 5) := by kernel_rfl
theorem und_u8 : Try.prog.underlying 5 = some (.int .u8) := by kernel_rfl
theorem und_string : Try.prog.underlying 9 = some .string := by kernel_rfl
theorem mk_bytes (c : Nat) (hc : c ≤ 281474976710656) (w : World) :
    (Instr.makeSlice 34 (.int .i64 c) (.int .i64 c)).run Try.prog w = .ok (.slice (some ⟨w.heap.size, 0, none⟩) c c) (w.alloc (.cells (bcells (List.replicate c 0)) 5)) :=
  run_make_bytes und_bytes info_u8 c hc w
theorem mk_bytes0 (c : Nat) (hc : c ≤ 281474976710656) (w : World) :
    (Instr.makeSlice 34 (.int .i64 0) (.int .i64 c)).run Try.prog w = .ok (.slice (some ⟨w.heap.size, 0, none⟩) 0 c) (w.alloc (.cells (bcells (List.replicate c 0)) 5)) :=
  run_make_bytes0 und_bytes info_u8 c hc w
theorem to_str (w : World) (b off c : Nat) (l : List UInt8) (h : ∀ i (hi : i < l.length), w.cell? ⟨b, off + i, none⟩ = some (.int .u8 (l[i].toNat : Int))) :
    (convert 34 9 (.slice (some ⟨b, off, none⟩) l.length c)).run Try.prog w = .ok (.string (bs l)) w :=
  run_bytes_string und_bytes und_u8 und_string w b off c l h
theorem to_str_new (w : World) (n c T : Nat) (l : List UInt8) (hl : l.length = n) :
    (convert 34 9 (.slice (some ⟨w.heap.size, 0, none⟩) n c)).run Try.prog (w.alloc (.cells (bcells l) T)) = .ok (.string (bs l)) (w.alloc (.cells (bcells l) T)) := by
  subst hl
  exact to_str _ _ 0 _ l (fun i hi => by rw [Nat.zero_add]; exact cell_blk (heap_alloc_new _ _) (bcells_at l i hi))

theorem to_bytes (l : List UInt8) (w : World) :
    (convert 9 34 (.string (bs l))).run Try.prog w = .ok (.slice (some ⟨w.heap.size, 0, none⟩) l.length (capOf 5 w l.length))
      (w.alloc (.cells (bcells (l ++ List.replicate (capOf 5 w l.length - l.length) 0)) 5 (capOf 5 w l.length, capOf 5 w l.length + 1))).drew :=
  run_string_bytes und_string und_bytes und_u8 l w
theorem to_str_blk {w : World} {b n c : Nat} {l r : List UInt8} {T : TypeId} {fz : Nat × Nat} (h : w.heap[b]? = some (.cells (bcells (l ++ r)) T fz)) (hn : l.length = n) :
    (convert 34 9 (.slice (some ⟨b, 0, none⟩) n c)).run Try.prog w = .ok (.string (bs l)) w := by
  subst hn
  exact to_str w b 0 c l (fun i hi => by rw [Nat.zero_add]; exact cell_blk h (bcells_left l r i hi))
theorem to_str_of {w : World} {b n c : Nat} {l : List UInt8} {T : TypeId} {fz : Nat × Nat} (h : w.heap[b]? = some (.cells (bcells l) T fz)) (hn : l.length = n) :
    (convert 34 9 (.slice (some ⟨b, 0, none⟩) n c)).run Try.prog w = .ok (.string (bs l)) w :=
  to_str_blk (r := []) (by rw [List.append_nil]; exact h) hn
/-- A number's bytes, the highest first. -/
def putB (size n : Nat) : List UInt8 := (List.range size).map fun i => UInt8.ofNat (n / 2 ^ (8 * (size - 1 - i)))
@[simp] theorem putB_length (size n : Nat) : (putB size n).length = size := by simp [putB]
theorem putB_at (size n k : Nat) (h : k < size) : (putB size n)[k]? = some (UInt8.ofNat (n / 2 ^ (8 * (size - 1 - k)))) := by simp [putB, h]
theorem put_step (size n k : Nat) (h : k < size) :
    (bcells ((putB size n).take k ++ List.replicate (size - k) 0)).setIfInBounds k (.int .u8 ((n : Int) / 2 ^ (8 * (size - 1 - k)) % 256)) = bcells ((putB size n).take (k + 1) ++ List.replicate (size - (k + 1)) 0) := by
  have e : ((n : Int) / 2 ^ (8 * (size - 1 - k)) % 256) = ((UInt8.ofNat (n / 2 ^ (8 * (size - 1 - k)))).toNat : Int) := by
    simp
  rw [e, bcells_set]
  have h1 := set_take_rep (putB size n) 0 k (by simpa using h)
  have h2 : (putB size n)[k]'(by simpa using h) = UInt8.ofNat (n / 2 ^ (8 * (size - 1 - k))) := by simp [putB]
  rw [h2] at h1
  simp only [putB_length] at h1
  rw [h1]
set_option maxHeartbeats 400000 in
theorem put32_any (n size : Nat) (w : World) (hs : size ≤ 4) (_hn : U32 n) :
    Calls Try.prog 51 #[.int .u32 n, .int .i64 size] w fun e w' => e = .returned (.string (bs (putB size n))) ∧ Ext w w' := by
  have hmk : ∀ w, (Instr.makeSlice 34 (.int .i64 size) (.int .i64 size)).run Try.prog w = .ok (.slice (some ⟨w.heap.size, 0, none⟩) size size) (w.alloc (.cells (bcells (List.replicate size 0)) 5)) := fun w => mk_bytes size (by omega) w
  go_enter Try.func51, Try.ntmps51
  go_wp2
  clear hmk
  go_loopw [10] (fun i wr => ∃ k : Nat, k ≤ size ∧ i = .int .i64 k ∧ wr = w.alloc (.cells (bcells ((putB size n).take k ++ List.replicate (size - k) 0)) 5)) (fun i _ => size - (intOf i).toNat)
  case atStart => exact ⟨0, by omega, rfl, by simp⟩
  case round =>
    obtain ⟨k, hk, rfl, rfl⟩ := hrel
    by_cases hlt : k < size
    · have hc : (bcells ((putB size n).take k ++ List.replicate (size - k) 0))[k]? = some (.int .u8 0) := fill_cell _ _ _ (by simp) hlt
      go_wp2
      rw [put_step size n k hlt]
      go_roundw
      case rel => exact ⟨k + 1, by omega, by go_num, rfl⟩
      case measure => simp [intOf]; omega
    · obtain rfl : k = size := by omega
      have kc := fun (w : World) => to_str_new w k k 5 (putB k n) (by simp)
      rw [fill_done _ 0 k (putB_length k n)]
      go_wp2
      go_ret
      exact ⟨rfl, (Ext.refl _).alloc _⟩

/-- Bytes as a number, the highest first. -/
def getB (l : List UInt8) : Nat := l.foldl (fun a b => a * 256 + b.toNat) 0
theorem getB_snoc (l : List UInt8) (x : UInt8) : getB (l ++ [x]) = getB l * 256 + x.toNat := by simp [getB]
theorem getB_lt (l : List UInt8) : getB l < 256 ^ l.length := by
  have : ∀ (m : List UInt8), getB m.reverse < 256 ^ m.length := by
    intro m
    induction m with
    | nil => simp [getB]
    | cons x m ih =>
      rw [List.reverse_cons, getB_snoc, List.length_cons, Nat.pow_succ]
      have := x.toNat_lt
      omega
  simpa using this l.reverse
def seg (l : List UInt8) (p n : Nat) : List UInt8 := (l.drop p).take n
theorem seg_snoc (l : List UInt8) (p k : Nat) (h : p + k < l.length) : seg l p (k + 1) = seg l p k ++ [l[p + k]] := by
  unfold seg
  rw [List.take_succ_eq_append_getElem (by simp; omega)]
  simp
theorem seg_length (l : List UInt8) (p k : Nat) (h : p + k ≤ l.length) : (seg l p k).length = k := by
  unfold seg; simp; omega
set_option maxHeartbeats 400000 in
theorem get32_yes (l : List UInt8) (p : Nat) (w : World) (hl : l.length ≤ 1099511627776) (h : p + 4 ≤ l.length) :
    Calls Try.prog 50 #[.string (bs l), .int .i64 p, .int .i64 4] w fun e w' => e = .returned (.tuple #[.int .u32 (getB (seg l p 4)), .bool true]) ∧ w = w' := by
  go_enter Try.func50, Try.ntmps50
  go_wp2
  go_loop [6, 20] (fun v i => ∃ k : Nat, k ≤ 4 ∧ i = .int .i64 k ∧ v = .int .u32 (getB (seg l p k))) (fun _ i => 4 - (intOf i).toNat)
  case atStart => exact ⟨0, by omega, rfl, by simp [seg, getB]⟩
  case round =>
    obtain ⟨k, hk, rfl, rfl⟩ := hrel
    by_cases hlt : k < 4
    · have h1 := getB_lt (seg l p k)
      rw [seg_length l p k (by omega)] at h1
      have h2 : getB (seg l p k) ≤ 16777215 := by
        have : 256 ^ k ≤ 256 ^ 3 := Nat.pow_le_pow_right (by omega) (by omega)
        omega
      clear h1
      go_wp2
      go_round
      case rel => exact ⟨k + 1, by omega, by go_num, by rw [seg_snoc l p k (by omega), getB_snoc, or_byte32 _ _ h2]⟩
      case measure => simp [intOf]; omega
    · obtain rfl : k = 4 := by omega
      go_wp2
      go_ret2
      exact ⟨rfl, rfl⟩
set_option maxHeartbeats 400000 in
theorem get32_no (l : List UInt8) (p : Int) (w : World) (hl : l.length ≤ 1099511627776) (h : p < 0 ∨ (l.length : Int) < p + 4) :
    Calls Try.prog 50 #[.string (bs l), .int .i64 p, .int .i64 4] w fun e w' => e = .returned (.tuple #[.int .u32 0, .bool false]) ∧ w = w' := by
  by_cases h0 : p < 0
  · clear h
    go_enter Try.func50, Try.ntmps50
    go_wp2
    go_ret2
    exact ⟨rfl, rfl⟩
  · have h1 : (l.length : Int) - 4 < p := by omega
    clear h
    go_enter Try.func50, Try.ntmps50
    go_wp2
    go_ret2
    exact ⟨rfl, rfl⟩
/-- Get32. -/
def Get32 (l : List UInt8) (p : Int) : Nat × Bool := if 0 ≤ p ∧ p + 4 ≤ l.length then (getB (seg l p.toNat 4), true) else (0, false)
set_option maxHeartbeats 400000 in
theorem Get32_any (l : List UInt8) (p : Int) (w : World) (hl : l.length ≤ 1099511627776) :
    Calls Try.prog 37 #[.string (bs l), .int .i64 p] w fun e w' => e = .returned (.tuple #[.int .u32 (Get32 l p).1, .bool (Get32 l p).2]) ∧ w = w' := by
  by_cases h : 0 ≤ p ∧ p + 4 ≤ l.length
  · obtain ⟨q, rfl⟩ := Int.eq_ofNat_of_zero_le h.1
    have hv : Get32 l q = (getB (seg l q 4), true) := by rw [Get32, if_pos h]; rfl
    rw [hv]
    go_enter Try.func37, Try.ntmps37
    go_wp2_with (go_at_call 50; refine (get32_yes l q _ hl (by omega)).mono ?_; rintro e w' ⟨rfl, rfl⟩)
    go_ret2
    exact ⟨rfl, rfl⟩
  · have hv : Get32 l p = (0, false) := by rw [Get32, if_neg h]
    rw [hv]
    go_enter Try.func37, Try.ntmps37
    go_wp2_with (go_at_call 50; refine (get32_no l p _ hl (by omega)).mono ?_; rintro e w' ⟨rfl, rfl⟩)
    go_ret2
    exact ⟨rfl, rfl⟩
set_option maxHeartbeats 400000 in
theorem Put32_any (n : Nat) (w : World) (hn : U32 n) :
    Calls Try.prog 40 #[.int .u32 n] w fun e w' => e = .returned (.string (bs (putB 4 n))) ∧ Ext w w' := by
  go_enter Try.func40, Try.ntmps40
  go_wp2_with (go_at_call 51; refine (put32_any n 4 _ (by omega) hn).mono ?_; rintro e w' ⟨rfl, hx⟩)
  go_ret
  exact ⟨rfl, hx⟩
/-- Get64. -/
def Get64 (l : List UInt8) (p : Int) : Nat × Bool := if 0 ≤ p ∧ p + 8 ≤ l.length then (getB (seg l p.toNat 8), true) else (0, false)
/-! ### Xor, Equal -/
def xorL (a b : List UInt8) : List UInt8 := List.zipWith x8 a b
theorem xorL_length (a b : List UInt8) (h : a.length = b.length) : (xorL a b).length = a.length := by simp [xorL, h]
def xorK (a b : List UInt8) (k : Nat) : List UInt8 := (xorL a b).take k ++ a.drop k
theorem xorK_length (a b : List UInt8) (h : a.length = b.length) (k : Nat) (hk : k ≤ a.length) : (xorK a b k).length = a.length := by
  simp [xorK, xorL_length a b h]; omega
theorem xorK_at (a b : List UInt8) (h : a.length = b.length) (k : Nat) (hk : k < a.length) : (xorK a b k)[k]'(by rw [xorK_length a b h k (by omega)]; exact hk) = a[k] := by
  apply Option.some.inj
  rw [← List.getElem?_eq_getElem]
  unfold xorK
  rw [List.getElem?_append_right (by simp; omega), List.length_take, xorL_length a b h, Nat.min_eq_left (by omega)]
  simp [hk]
theorem xorK_step (a b : List UInt8) (h : a.length = b.length) (k : Nat) (hk : k < a.length) : (xorK a b k).set k (x8 a[k] (b[k]'(by omega))) = xorK a b (k + 1) := by
  unfold xorK
  rw [List.set_append_right _ _ (by simp; omega), List.length_take, xorL_length a b h, Nat.min_eq_left (by omega), Nat.sub_self]
  rw [List.take_succ_eq_append_getElem (by rw [xorL_length a b h]; exact hk)]
  rw [List.drop_eq_getElem_cons hk, List.set_cons_zero]
  simp [xorL]
set_option maxRecDepth 100000 in
set_option maxHeartbeats 400000 in
theorem Xor_yes (a b : List UInt8) (w : World) (h : a.length = b.length) (hl : a.length ≤ 1099511627776) :
    Calls Try.prog 46 #[.string (bs a), .string (bs b)] w fun e w' => e = .returned (.tuple #[.string (bs (xorL a b)), .bool true]) ∧ Ext w w' := by
  have hf : ((a.length : Int) != b.length) = false := by simp [h]
  have kt := to_bytes a
  have hb : b.length ≤ 1099511627776 := by omega
  have h' := Lib.hid h
  clear h
  have hcap := capOf_ge 5 w a.length
  go_enter Try.func46, Try.ntmps46
  go_wp2
  clear kt
  go_loopw [17] (fun i wr => ∃ k : Nat, k ≤ a.length ∧ i = .int .i64 k ∧ wr.heap[w.heap.size]? = some (.cells (bcells (xorK a b k ++ List.replicate (capOf 5 w a.length - a.length) 0)) 5 (capOf 5 w a.length, capOf 5 w a.length + 1)) ∧ Ext w wr) (fun i _ => a.length - (intOf i).toNat)
  case atStart => exact ⟨0, by omega, rfl, by simp only [heap_drew]; rw [heap_alloc_new]; simp [xorK], ((Ext.refl _).alloc _).drew⟩
  case round =>
    obtain ⟨k, hk, rfl, hblk, hx⟩ := hrel
    by_cases hlt : k < a.length
    · have hc : wr.cell? ⟨w.heap.size, k, none⟩ = some (.int .u8 (a[k].toNat)) := by
        refine cell_blk hblk ?_
        rw [bcells_left _ _ k (by rw [xorK_length a b h'.out k hk]; exact hlt), xorK_at a b h'.out k hlt]
      have hfz : wr.frozen? ⟨w.heap.size, k, none⟩ = false := frozen_spare hblk (by omega)
      have hkb : (k : Int) < b.length := by have := h'.out; omega
      have HB := Lib.hid hblk; clear hblk
      go_wp2
      go_still_tail 9, (by kernel_rfl)
      go_wp2
      go_roundw
      case measure => simp [intOf]; omega
      case rel =>
        refine ⟨k + 1, by omega, by go_num, ?_, (hx.setCell (Nat.le_refl _) _).drew⟩
        rw [heap_drew, heap_setCell_same _ HB.out, bcells_set_left _ _ _ _ (by rw [xorK_length a b h'.out k hk]; exact hlt), xorK_step a b h'.out k hlt]
    · obtain rfl : k = a.length := by omega
      have hd : xorK a b a.length = xorL a b := by simp [xorK, List.take_of_length_le (Nat.le_of_eq (xorL_length a b h'.out))]
      rw [hd] at hblk
      have kc := fun c => to_str_blk (c := c) hblk (xorL_length a b h'.out)
      clear hd hblk
      go_wp2
      go_ret2
      exact ⟨rfl, hx⟩
set_option maxHeartbeats 400000 in
theorem Xor_no (a b : List UInt8) (w : World) (h : a.length ≠ b.length) :
    Calls Try.prog 46 #[.string (bs a), .string (bs b)] w fun e w' => e = .returned (.tuple #[.string (bs []), .bool false]) ∧ Ext w w' := by
  have hf : ((a.length : Int) != b.length) = true := by simp; omega
  clear h
  go_enter Try.func46, Try.ntmps46
  go_wp2
  go_ret2
  exact ⟨rfl, Ext.refl _⟩
/-- Xor. -/
def Xor (a b : List UInt8) : List UInt8 × Bool := if a.length = b.length then (xorL a b, true) else ([], false)
theorem Xor_any (a b : List UInt8) (w : World) (hl : a.length ≤ 1099511627776) :
    Calls Try.prog 46 #[.string (bs a), .string (bs b)] w fun e w' => e = .returned (.tuple #[.string (bs (Xor a b).1), .bool (Xor a b).2]) ∧ Ext w w' := by
  unfold Xor
  by_cases h : a.length = b.length
  · rw [if_pos h]; exact Xor_yes a b w h hl
  · rw [if_neg h]; exact Xor_no a b w h

/-! ### Equal -/
def orL (l : List UInt8) : UInt8 := l.foldl o8 0
theorem orL_snoc (l : List UInt8) (x : UInt8) : orL (l ++ [x]) = o8 (orL l) x := by simp [orL]
theorem o8_zero (x y : UInt8) : o8 x y = 0 ↔ x = 0 ∧ y = 0 := by
  unfold o8
  rw [← UInt8.toNat_inj, UInt8.toNat_or, UInt8.toNat_zero, Nat.or_eq_zero_iff]
  simp [← UInt8.toNat_inj]
theorem orL_zero (l : List UInt8) : orL l = 0 ↔ ∀ x ∈ l, x = 0 := by
  have : ∀ (m : List UInt8) (s : UInt8), m.foldl o8 s = 0 ↔ s = 0 ∧ ∀ x ∈ m, x = 0 := by
    intro m
    induction m with
    | nil => intro s; simp
    | cons y m ih => intro s; rw [List.foldl_cons, ih, o8_zero]; simp [and_assoc]
  rw [orL, this]; simp
theorem x8_zero (x y : UInt8) : x8 x y = 0 ↔ x = y := by
  unfold x8; exact UInt8.xor_eq_zero_iff
theorem xorL_zero : ∀ (a b : List UInt8), a.length = b.length → ((∀ x ∈ xorL a b, x = 0) ↔ a = b)
  | [], [], _ => by simp [xorL]
  | x :: a, y :: b, h => by
    have ih := xorL_zero a b (by simpa using h)
    unfold xorL at ih ⊢
    rw [List.zipWith_cons_cons]
    simp only [List.mem_cons, forall_eq_or_imp, ih, x8_zero, List.cons.injEq]
  | [], _ :: _, h => by simp at h
  | _ :: _, [], h => by simp at h
end Go.Proofs.Ytgncnplgjhaojaa
