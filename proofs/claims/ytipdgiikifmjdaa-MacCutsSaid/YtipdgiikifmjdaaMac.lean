/- Contracts: layer 3, the program's tags. -/
import Derived.Test.YtipdgiikifmjdaaLaw02c
namespace Go.Proofs.Ytipdgiikifmjdaa
open Go Go.RowKit

/-- A key of at most 64 bytes, that stands for any key. -/
def kb (key : List UInt8) : List UInt8 := if 64 < key.length then shaS key else key
def padL (key : List UInt8) (b : UInt8) : List UInt8 := (padTo 64 (kb key)).map fun x => x8 x b
@[simp] theorem padL_length (key : List UInt8) (b : UInt8) : (padL key b).length = 64 := by simp [padL]
def macL (key t : List UInt8) : List UInt8 := shaS (padL key 0x5c ++ shaS (padL key 0x36 ++ t))
theorem shaS_length (t : List UInt8) : (shaS t).length = 32 := by unfold shaS sumS; rw [digest_length]; rfl
theorem macL_length (key t : List UInt8) : (macL key t).length = 32 := shaS_length _
/-- A list whose first k elements are turned. -/
def mapK (b : UInt8) (l : List UInt8) (k : Nat) : List UInt8 := (l.take k).map (fun x => x8 x b) ++ l.drop k
theorem mapK_at (b : UInt8) (l : List UInt8) (k : Nat) (h : k < l.length) : (mapK b l k)[k]? = some l[k] := by
  unfold mapK
  rw [List.getElem?_append_right (by simp; omega)]
  simp [Nat.min_eq_left (Nat.le_of_lt h), h]
theorem mapK_length (b : UInt8) (l : List UInt8) (k : Nat) : (mapK b l k).length = l.length := by simp [mapK]; omega
theorem mapK_set (b : UInt8) (l : List UInt8) (k : Nat) (h : k < l.length) : (mapK b l k).set k (x8 l[k] b) = mapK b l (k + 1) := by
  unfold mapK
  rw [List.set_append_right _ _ (by simp; omega), List.length_map, List.length_take, Nat.min_eq_left (by omega), Nat.sub_self]
  rw [List.take_succ_eq_append_getElem h, List.drop_eq_getElem_cons h, List.set_cons_zero]
  simp only [List.map_append, List.map_cons, List.map_nil, List.append_assoc, List.cons_append, List.nil_append]
theorem info_str : (Try.prog.info? 9).map (fun i => (i.zero, i.size, i.bytes)) = some (some (.string { data := #[] }), 1, 16) := by kernel_rfl
theorem und_strs : Try.prog.underlying 22 = some (.slice 9) := by kernel_rfl
theorem und_arr : Try.prog.underlying 84 = some (.array 64 5) := by kernel_rfl
theorem heap_new64 (w : World) : (w.alloc (.cells #[.int .u8 0, .int .u8 0, .int .u8 0, .int .u8 0, .int .u8 0, .int .u8 0, .int .u8 0, .int .u8 0, .int .u8 0, .int .u8 0, .int .u8 0, .int .u8 0, .int .u8 0, .int .u8 0, .int .u8 0, .int .u8 0, .int .u8 0, .int .u8 0, .int .u8 0, .int .u8 0, .int .u8 0, .int .u8 0, .int .u8 0, .int .u8 0, .int .u8 0, .int .u8 0, .int .u8 0, .int .u8 0, .int .u8 0, .int .u8 0, .int .u8 0, .int .u8 0, .int .u8 0, .int .u8 0, .int .u8 0, .int .u8 0, .int .u8 0, .int .u8 0, .int .u8 0, .int .u8 0, .int .u8 0, .int .u8 0, .int .u8 0, .int .u8 0, .int .u8 0, .int .u8 0, .int .u8 0, .int .u8 0, .int .u8 0, .int .u8 0, .int .u8 0, .int .u8 0, .int .u8 0, .int .u8 0, .int .u8 0, .int .u8 0, .int .u8 0, .int .u8 0, .int .u8 0, .int .u8 0, .int .u8 0, .int .u8 0, .int .u8 0, .int .u8 0] 84)).heap[w.heap.size]? = some (.cells (bcells (List.replicate 64 0)) 84) := heap_alloc_new w _
theorem padTo_get (n : Nat) (l : List UInt8) (k : Nat) (h : k < n) : ∃ h', (padTo n l)[k]'h' = (padTo n l)[k]'(by simp; exact h) := ⟨by simp; exact h, rfl⟩
set_option maxRecDepth 100000 in
set_option maxHeartbeats 1000000 in
theorem padded_any (key : List UInt8) (b : UInt8) (w : World) (hk : key.length ≤ 1099511627776) :
    Calls Try.prog 39 #[.string (bs key), .int .u8 (b.toNat : Int)] w fun e w' => e = .returned (.string (bs (padL key b))) ∧ Ext w w' := by
  by_cases h : 64 < key.length
  · obtain ⟨X, hX⟩ : ∃ X, shaS key = X := ⟨_, rfl⟩
    have hPad : ((padTo 64 X).map fun x => x8 x b) = padL key b := by rw [padL, kb, if_pos h, hX]
    have GO := Lib.hid (fun (b : Nat) (W : World) (h : W.heap[b]? = some (.cells #[.string (bs key)] 9)) => hX ▸ Of_one key b W hk h)
    have hcp : splice (List.replicate 64 0) 0 (X.take 64) = padTo 64 X := splice_zeros 64 X
    clear hX
    go_enter Try.func39, Try.ntmps39
    go_wp2_with (first
      | (go_at_call 12; with_reducible refine (GO.out _ _ (heap_alloc_new _ _)).mono ?_; rintro e w1 ⟨rfl, hx1⟩; have hx1' : Ext w w1 := Ext.trans ((Ext.refl w).alloc _) hx1)
      | (refine wpl_copy_str rfl rfl und_bytes info_u8 rfl rfl (L := List.replicate 64 0) (heap_new64 w1) (by simp) ?_; intro w2 hb2 ho2 hbel; rw [hcp] at hb2; have hx2 : Ext w w2 := (hx1'.alloc _).trans_below hbel hx1'.size; clear ho2 hbel))
    have hlen : (padTo 64 X).length = 64 := padTo_length _ _
    generalize hL : padTo 64 X = L at hPad hlen hb2
    clear hL hcp
    go_loopw [16] (fun i wr => ∃ k : Nat, k ≤ 64 ∧ i = .int .i64 k ∧ wr.heap[w1.heap.size]? = some (.cells (bcells (mapK b L k)) 84) ∧ Ext w wr) (fun i _ => 64 - (intOf i).toNat)
    case atStart => exact ⟨0, by omega, rfl, by simpa [mapK] using hb2, hx2⟩
    case round =>
      obtain ⟨k, hk1, rfl, hblk, hxr⟩ := hrel
      by_cases hlt : k < 64
      · have hc : wr.cell? ⟨w1.heap.size, k, none⟩ = some (.int .u8 ((L[k]'(by omega)).toNat)) := by
          refine cell_blk hblk ?_
          rw [bcells_get?, mapK_at b L k (by omega)]; rfl
        have hfz : wr.frozen? ⟨w1.heap.size, k, none⟩ = false := frozen_blk hblk
        have HB := Lib.hid hblk; clear hblk
        go_wp2
        go_roundw
        case measure => simp [intOf]; omega
        case rel =>
          refine ⟨k + 1, by omega, by go_num, ?_, hxr.setCell hx1'.size _⟩
          rw [heap_setCell_same _ HB.out, bcells_set, mapK_set b L k (by omega)]
      · obtain rfl : k = 64 := by omega
        have hd : mapK b L 64 = L.map fun x => x8 x b := by simp [mapK, List.take_of_length_le (Nat.le_of_eq hlen), List.drop_of_length_le (Nat.le_of_eq hlen)]
        rw [hd] at hblk
        have kc := fun c => to_str_of (c := c) (n := 64) hblk (by simp [hlen])
        clear hd hblk
        go_wp2
        go_returns
        exact ⟨rfl, hxr⟩
  · obtain ⟨X, hX⟩ : ∃ X, X = key := ⟨_, rfl⟩
    have hPad : ((padTo 64 X).map fun x => x8 x b) = padL X b := by rw [padL, kb, if_neg (by rw [hX]; exact h)]
    have hcp : splice (List.replicate 64 0) 0 (X.take 64) = padTo 64 X := splice_zeros 64 X
    subst hX
    go_enter Try.func39, Try.ntmps39
    go_wp2_with (first
      | (refine wpl_copy_str rfl rfl und_bytes info_u8 rfl rfl (L := List.replicate 64 0) (heap_new64 w) (by simp) ?_; intro w2 hb2 ho2 hbel; rw [hcp] at hb2; have hx2 : Ext w w2 := ((Ext.refl w).alloc _).trans_below hbel; clear ho2 hbel))
    have hlen : (padTo 64 X).length = 64 := padTo_length _ _
    generalize hL : padTo 64 X = L at hPad hlen hb2
    clear hL hcp
    go_loopw [16] (fun i wr => ∃ k : Nat, k ≤ 64 ∧ i = .int .i64 k ∧ wr.heap[w.heap.size]? = some (.cells (bcells (mapK b L k)) 84) ∧ Ext w wr) (fun i _ => 64 - (intOf i).toNat)
    case atStart => exact ⟨0, by omega, rfl, by simpa [mapK] using hb2, hx2⟩
    case round =>
      obtain ⟨k, hk1, rfl, hblk, hxr⟩ := hrel
      by_cases hlt : k < 64
      · have hc : wr.cell? ⟨w.heap.size, k, none⟩ = some (.int .u8 ((L[k]'(by omega)).toNat)) := by
          refine cell_blk hblk ?_
          rw [bcells_get?, mapK_at b L k (by omega)]; rfl
        have hfz : wr.frozen? ⟨w.heap.size, k, none⟩ = false := frozen_blk hblk
        have HB := Lib.hid hblk; clear hblk
        go_wp2
        go_roundw
        case measure => simp [intOf]; omega
        case rel =>
          refine ⟨k + 1, by omega, by go_num, ?_, hxr.setCell (Nat.le_refl _) _⟩
          rw [heap_setCell_same _ HB.out, bcells_set, mapK_set b L k (by omega)]
      · obtain rfl : k = 64 := by omega
        have hd : mapK b L 64 = L.map fun x => x8 x b := by simp [mapK, List.take_of_length_le (Nat.le_of_eq hlen), List.drop_of_length_le (Nat.le_of_eq hlen)]
        rw [hd] at hblk
        have kc := fun c => to_str_of (c := c) (n := 64) hblk (by simp [hlen])
        clear hd hblk
        go_wp2
        go_returns
        exact ⟨rfl, hxr⟩

/-! ### Of -/
theorem run_append_none {P : Program} (w : World) (t ty e : TypeId) (ht : P.underlying t = some (.slice e)) {x : Option TypeInfo} (hi : P.info? e = x) (hx : x.isSome = true) (base ad : Option Addr) (n c c' : Nat) (hle : n ≤ c) :
    (Builtin.append_ #[t, t] ty #[.slice base n c, .slice ad 0 c']).run P w = .ok (.slice base n c) w := by
  obtain ⟨i, rfl⟩ := Option.isSome_iff_exists.1 hx
  cases base <;> cases ad <;> simp [Builtin.append_, run_underlying ht, sizeOf, typeInfo, hi, hle, Builtin.lenOf, Builtin.firstCells, storeCells, loadCells, loadCellsFrom]
theorem wpl_append_none {P : Program} {ops : Array Oper} {rest : List Oper} {o : Oper} {a : Act} {Q : Exit → Act → World → Prop} {w : World} (hgd : o.guard = none) (s x : Operand) (t : TypeId)
    (ho : o.op = .call { callee := .builtin .append, args := #[s, x], argTypes := #[t, t] }) {e : TypeId}
    (ht : P.underlying t = some (.slice e)) (hi : (P.info? e).isSome = true) (base ad : Option Addr) (n c c' : Nat) (hle : n ≤ c) (hs : a.eval s = .slice base n c) (hx : a.eval x = .slice ad 0 c')
    (h : wpList P ops Q rest (a.put o.dst (.slice base n c)) w) : wpList P ops Q (o :: rest) a w := by
  refine wpList_plain hgd fun K hK => ?_
  have hr := run_append_none (P := P) w t o.type e ht rfl hi base ad n c c' hle
  unfold Oper.wp execOp
  simp only [ho, resolve, invoke, builtin, Sem.run_bind, Sem.run_pure, Result.andThen_ok, List.map_toArray, List.map_cons, List.map_nil, hs, hx, hr]
  exact hK _ _ h
theorem wpl_append_sl {P : Program} {ops : Array Oper} {rest : List Oper} {o : Oper} {a : Act} {Q : Exit → Act → World → Prop} {w : World} (hgd : o.guard = none) (s x : Operand) (t : TypeId)
    (ho : o.op = .call { callee := .builtin .append, args := #[s, x], argTypes := #[t, t] }) {e bytes : Nat} {z : Value}
    (ht : P.underlying t = some (.slice e)) (hinfo : (P.info? e).map (fun i => (i.zero, i.size, i.bytes)) = some (some z, 1, bytes)) (hz : z.cells.size = 1) (hby : 0 < bytes)
    (B : Nat) (hB : B ≤ w.heap.size) (v : Value) (xs : List Value) (hs : a.eval s = v) (hown : Row w B e v xs)
    (ad : Option Addr) (m c : Nat) (news : List Value) (hx : a.eval x = .slice ad m c) (hsl : Sl w (.slice ad m c) news) (h1 : ∀ u ∈ news, u.oneCell' = true)
    (hlen : (xs.length + m) * bytes ≤ 140737488355328)
    (h : ∀ v' w', Row w' B e v' (xs ++ news) → Below B w w' → wpList P ops Q rest (a.put o.dst v') w') : wpList P ops Q (o :: rest) a w := by
  have hm := hsl.len
  by_cases h0 : news = []
  · subst h0
    have hm : m = 0 := by simpa using hm
    subst hm
    obtain ⟨i0, hi, _⟩ := info_parts hinfo
    have hn := h v w (by rw [List.append_nil]; exact hown) (Below.refl _ _)
    rcases hown.look with ⟨rfl, _⟩ | ⟨g, cap, cur, rfl, _, _, hle, _⟩
    · exact wpl_append_none hgd s x t ho ht (by rw [hi]; rfl) none ad 0 0 c (Nat.le_refl _) hs hx hn
    · exact wpl_append_none hgd s x t ho ht (by rw [hi]; rfl) _ ad _ _ c hle hs hx hn
  · have hpos : 0 < news.length := List.length_pos_iff.2 h0
    obtain ⟨b, off, had, _, _⟩ := hsl.at_ 0 hpos
    subst had
    refine wpl_append hgd s x t ho ht hinfo hz hby B hB v xs hs hown ⟨b, off, none⟩ m c news hx hm.symm (fun j u hj => ?_) h1 hlen (fun v' w' h2 h3 _ => h v' w' h2 h3)
    have hjl : j < news.length := (List.getElem?_eq_some_iff.1 hj).1
    obtain ⟨b', off', had', _, hc⟩ := hsl.at_ j hjl
    cases had'
    rw [List.getElem?_eq_getElem hjl] at hj
    cases hj
    rw [show ((⟨b, off, none⟩ : Addr).add j) = ⟨b, off + j, none⟩ by simp [Addr.add]]
    exact hc
theorem row_one (w : World) (t : TypeId) (u : Value) : Row (w.alloc (.cells #[u] t)) w.heap.size t (.slice (some ⟨w.heap.size, 0, none⟩) 1 1) [u] :=
  ⟨rfl, .inr ⟨w.heap.size, 1, #[u], rfl, Nat.le_refl _, heap_alloc_new _ _, Nat.le_refl _, by decide, rfl, rfl⟩⟩
set_option maxRecDepth 100000 in
set_option maxHeartbeats 1000000 in
theorem macOf_any (key : List UInt8) (l : List (List UInt8)) (ad : Option Addr) (cap : Nat) (w : World) (hk : key.length ≤ 1099511627776) (hl : l.length ≤ 1048575) (hs : l.flatten.length ≤ 1099511627000) (hv : Sl w (.slice ad l.length cap) (l.map strV)) :
    Calls Try.prog 21 #[.string (bs key), .slice ad l.length cap] w fun e w' => e = .returned (.string (bs (macL key l.flatten))) ∧ Ext w w' := by
  have GP1 : Hid (∀ W : World, Calls Try.prog 39 #[.string (bs key), .int .u8 54] W fun e w' => e = .returned (.string (bs (padL key 0x36))) ∧ Ext W w') := Lib.hid (fun W => padded_any key 0x36 W hk)
  have GP2 : Hid (∀ W : World, Calls Try.prog 39 #[.string (bs key), .int .u8 92] W fun e w' => e = .returned (.string (bs (padL key 0x5c))) ∧ Ext W w') := Lib.hid (fun W => padded_any key 0x5c W hk)
  have GF := Lib.hid (fun (W : World) (v : Value) (B : Nat) (h : Row W B 9 v ((padL key 0x36 :: l).map strV)) => show ∃ ad c, v = .slice ad (l.length + 1) c ∧ Calls Try.prog 12 #[.slice ad (l.length + 1) c] W fun e w' => e = .returned (.string (bs (shaS (padL key 0x36 ++ l.flatten)))) ∧ Ext W w' by
    obtain ⟨ad, c, rfl⟩ := h.sl.look
    refine ⟨ad, c, by simp, ?_⟩
    have := Of_any W (padL key 0x36 :: l) ad c (by simp; omega) (by rw [List.flatten_cons, List.length_append, padL_length]; omega) (by simpa using h.sl)
    simpa using this)
  have GZ := Lib.hid (fun (W : World) (b : Nat) (h : W.heap[b]? = some (.cells #[.string (bs (padL key 0x5c)), .string (bs (shaS (padL key 0x36 ++ l.flatten)))] 9)) => show Calls Try.prog 12 #[.slice (some ⟨b, 0, none⟩) 2 2] W fun e w' => e = .returned (.string (bs (macL key l.flatten))) ∧ Ext W w' by
    have hsl : Sl W (.slice (some ⟨b, 0, none⟩) [padL key 0x5c, shaS (padL key 0x36 ++ l.flatten)].length 2) ([padL key 0x5c, shaS (padL key 0x36 ++ l.flatten)].map strV) :=
      ⟨_, _, rfl, fun i hi => ⟨b, 0, rfl, blk_lt h, by
        match i, hi with
        | 0, _ => exact cell_blk h rfl
        | 1, _ => exact cell_blk h rfl⟩⟩
    have := Of_any W [padL key 0x5c, shaS (padL key 0x36 ++ l.flatten)] _ _ (by simp) (by simp [shaS_length]) hsl
    simpa [macL] using this)
  have V := Lib.hid hv
  clear hv
  go_enter Try.func21, Try.ntmps21
  go_wp2_with (first
    | (go_at_call 39; with_reducible refine (GP1.out w).mono ?_; rintro e w1 ⟨rfl, hx1⟩)
    | (at_builtin; refine wpl_append_sl rfl _ _ 22 rfl und_strs info_str rfl (by omega) w1.heap.size (by simp) _ [strV (padL key 0x36)] rfl (row_one _ _ _) ad l.length cap (l.map strV) rfl ((V.out.ext hx1).ext ((Ext.refl _).alloc _)) (oneCells _ (fun _ => rfl)) (by simp; omega) ?_; intro v' w2 hrow2 hb2; obtain ⟨ad2, c2, rfl, hcall2⟩ := GF.out w2 v' w1.heap.size hrow2; have hx2 : Ext w w2 := (hx1.alloc _).trans_below hb2 hx1.size)
    | (go_at_call 12; refine hcall2.mono ?_; rintro e w3 ⟨rfl, hx3⟩; clear hcall2)
    | (go_at_call 39; with_reducible refine (GP2.out w3).mono ?_; rintro e w4 ⟨rfl, hx4⟩)
    | (go_at_call 12; with_reducible refine (GZ.out _ _ (heap_alloc_new w4 _)).mono ?_; rintro e w5 ⟨rfl, hx5⟩))
  go_returns
  exact ⟨rfl, Ext.trans ((hx2.trans (hx3.trans hx4)).alloc _) hx5⟩
end Go.Proofs.Ytipdgiikifmjdaa
