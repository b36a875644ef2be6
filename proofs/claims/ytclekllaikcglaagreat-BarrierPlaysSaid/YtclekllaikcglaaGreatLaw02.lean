import Derived.Test.YtclekllaikcglaaGreatShaU
import Derived.Test.YtclekllaikcglaaGreatUnhex
import Derived.Test.YtclekllaikcglaaGreatBase
import Derived.Test.YtclekllaikcglaaGreatLoud
import Derived.RangeFuncNested
import Derived.RangeFuncBound
import Derived.RangeFuncCalls
import Derived.RangeFuncLeaves
import Derived.Shelf.Abstract
import Derived.Shelf.RegionOpen
import Derived.OwnWalkIn
import Derived.TacticsInMore
import Derived.LoopNIn
import Derived.LoopIn

/- The statements of layer 2: walks of the laws. -/
namespace Go.Proofs.YtclekllaikcglaaGreat
open Go Go.RowKit
end Go.Proofs.YtclekllaikcglaaGreat

/- The statements of layer 2: the walk of ShaNear. -/
namespace Go.Proofs.YtclekllaikcglaaGreat
open Go Go.RowKit
theorem Of_one (q : List UInt8) (b : Nat) (w : World) (hq : q.length ≤ 1099511627776) {T : TypeId} (h : w.heap[b]? = some (.cells #[.string (bs q)] T)) :
  Calls Tryz.prog 92 #[.slice (some ⟨b, 0, none⟩) 1 1] w fun e w' => e = .returned (.string (bs (shaS q))) ∧ Ext w w' := by
 have hsl : Sl w (.slice (some ⟨b, 0, none⟩) [q].length 1) ([q].map strV) :=
  ⟨_, _, rfl, fun i hi => ⟨b, 0, rfl, blk_lt h, by
   obtain rfl : i = 0 := by simpa using hi
   exact cell_blk h rfl⟩⟩
 have h := Of_any w [q] _ _ (by simp) (by simpa using hq) hsl
 rw [show [q].flatten = q by simp] at h
 exact h
end Go.Proofs.YtclekllaikcglaaGreat

/- Contracts: layer 3, the program's tags. -/
namespace Go.Proofs.YtclekllaikcglaaGreat
open Go Go.RowKit
def kb (key : List UInt8) : List UInt8 := if 64 < key.length then shaS key else key
def padL (key : List UInt8) (b : UInt8) : List UInt8 := (padTo 64 (kb key)).map fun x => x8 x b
@[simp] theorem padL_length (key : List UInt8) (b : UInt8) : (padL key b).length = 64 := by simp [padL]
def macL (key t : List UInt8) : List UInt8 := shaS (padL key 0x5c ++ shaS (padL key 0x36 ++ t))
theorem shaS_length (t : List UInt8) : (shaS t).length = 32 := by unfold shaS sumS; rw [digest_length]; rfl
theorem macL_length (key t : List UInt8) : (macL key t).length = 32 := shaS_length _
def mapK (b : UInt8) (l : List UInt8) (k : Nat) : List UInt8 := (l.take k).map (fun x => x8 x b) ++ l.drop k
theorem mapK_at (b : UInt8) (l : List UInt8) (k : Nat) (h : k < l.length) : (mapK b l k)[k]? = some l[k] := by
 unfold mapK
 rw [List.getElem?_append_right (by simp; omega)]
 simp [Nat.min_eq_left (Nat.le_of_lt h), h]
theorem mapK_set (b : UInt8) (l : List UInt8) (k : Nat) (h : k < l.length) : (mapK b l k).set k (x8 l[k] b) = mapK b l (k + 1) := by
 unfold mapK
 rw [List.set_append_right _ _ (by simp; omega), List.length_map, List.length_take, Nat.min_eq_left (by omega), Nat.sub_self]
 rw [List.take_succ_eq_append_getElem h, List.drop_eq_getElem_cons h, List.set_cons_zero]
 simp only [List.map_append, List.map_cons, List.map_nil, List.append_assoc, List.cons_append, List.nil_append]
theorem info_str : (Tryz.prog.info? 9).map (fun i => (i.zero, i.size, i.bytes)) = some (some (.string { data := #[] }), 1, 16) := by kernel_rfl
theorem und_strs : Tryz.prog.underlying 25 = some (.slice 9) := by kernel_rfl
theorem heap_new64 (w : World) : (w.alloc (.cells #[.int .u8 0, .int .u8 0, .int .u8 0, .int .u8 0, .int .u8 0, .int .u8 0, .int .u8 0, .int .u8 0, .int .u8 0, .int .u8 0, .int .u8 0, .int .u8 0, .int .u8 0, .int .u8 0, .int .u8 0, .int .u8 0, .int .u8 0, .int .u8 0, .int .u8 0, .int .u8 0, .int .u8 0, .int .u8 0, .int .u8 0, .int .u8 0, .int .u8 0, .int .u8 0, .int .u8 0, .int .u8 0, .int .u8 0, .int .u8 0, .int .u8 0, .int .u8 0, .int .u8 0, .int .u8 0, .int .u8 0, .int .u8 0, .int .u8 0, .int .u8 0, .int .u8 0, .int .u8 0, .int .u8 0, .int .u8 0, .int .u8 0, .int .u8 0, .int .u8 0, .int .u8 0, .int .u8 0, .int .u8 0, .int .u8 0, .int .u8 0, .int .u8 0, .int .u8 0, .int .u8 0, .int .u8 0, .int .u8 0, .int .u8 0, .int .u8 0, .int .u8 0, .int .u8 0, .int .u8 0, .int .u8 0, .int .u8 0, .int .u8 0, .int .u8 0] 156)).heap[w.heap.size]? = some (.cells (bcells (List.replicate 64 0)) 156) := heap_alloc_new w _
set_option maxRecDepth 100000 in
set_option maxHeartbeats 1000000 in
theorem padded_any (key : List UInt8) (b : UInt8) (w : World) (hk : key.length ≤ 1099511627776) :
  Calls Tryz.prog 93 #[.string (bs key), .int .u8 (b.toNat : Int)] w fun e w' => e = .returned (.string (bs (padL key b))) ∧ Ext w w' := by
 by_cases h : 64 < key.length
 ·obtain ⟨X, hX⟩ : ∃ X, shaS key = X := ⟨_, rfl⟩
  have hPad : ((padTo 64 X).map fun x => x8 x b) = padL key b := by rw [padL, kb, if_pos h, hX]
  have GO := Lib.hid (fun (b : Nat) (W : World) (h : W.heap[b]? = some (.cells #[.string (bs key)] 9)) => hX ▸ Of_one key b W hk h)
  have hcp : splice (List.replicate 64 0) 0 (X.take 64) = padTo 64 X := splice_zeros 64 X
  clear hX
  go_enter Tryz.func93, Tryz.ntmps93
  go_wp2_with (first
   | (go_at_call 92; with_reducible refine (GO.out _ _ (heap_alloc_new _ _)).mono ?_; rintro e w1 ⟨rfl, hx1⟩; have hx1' : Ext w w1 := Ext.trans ((Ext.refl w).alloc _) hx1)
   | (refine wpl_copy_str rfl rfl und_bytes info_u8 rfl rfl (L := List.replicate 64 0) (heap_new64 w1) (by simp) ?_; intro w2 hb2 ho2 hbel; rw [hcp] at hb2; have hx2 : Ext w w2 := (hx1'.alloc _).trans_below hbel hx1'.size; clear ho2 hbel))
  have hlen : (padTo 64 X).length = 64 := padTo_length _ _
  generalize hL : padTo 64 X = L at hPad hlen hb2
  clear hL hcp
  go_loopw [16] (fun i wr => ∃ k : Nat, k ≤ 64 ∧ i = .int .i64 k ∧ wr.heap[w1.heap.size]? = some (.cells (bcells (mapK b L k)) 156) ∧ Ext w wr) (fun i _ => 64 - (intOf i).toNat)
  case atStart => exact ⟨0, by omega, rfl, by simpa [mapK] using hb2, hx2⟩
  case round =>
   obtain ⟨k, hk1, rfl, hblk, hxr⟩ := hrel
   by_cases hlt : k < 64
   ·have hc : wr.cell? ⟨w1.heap.size, k, none⟩ = some (.int .u8 ((L[k]'(by omega)).toNat)) := by
     refine cell_blk hblk ?_
     rw [bcells_get?, mapK_at b L k (by omega)]; rfl
    have hfz : wr.frozen? ⟨w1.heap.size, k, none⟩ = false := frozen_blk hblk
    have HB := Lib.hid hblk; clear hblk
    go_wp2
    go_roundw
    case measure => simp [intOf]; omega
    case rel =>
     refine ⟨k + 1, by omega, by go_num, ?_, hxr.setCell hx1'.size _⟩
     rw [heap_setCell_same _ HB.out, bcells_set, mapK_set b L k (by omega)]
   ·obtain rfl : k = 64 := by omega
    have hd : mapK b L 64 = L.map fun x => x8 x b := by simp [mapK, List.take_of_length_le (Nat.le_of_eq hlen), List.drop_of_length_le (Nat.le_of_eq hlen)]
    rw [hd] at hblk
    have kc := fun c => to_str_of (c := c) (n := 64) hblk (by simp [hlen])
    clear hd hblk
    go_wp2
    go_returns
    exact ⟨rfl, hxr⟩
 ·obtain ⟨X, hX⟩ : ∃ X, X = key := ⟨_, rfl⟩
  have hPad : ((padTo 64 X).map fun x => x8 x b) = padL X b := by rw [padL, kb, if_neg (by rw [hX]; exact h)]
  have hcp : splice (List.replicate 64 0) 0 (X.take 64) = padTo 64 X := splice_zeros 64 X
  subst hX
  go_enter Tryz.func93, Tryz.ntmps93
  go_wp2_with (first
   | (refine wpl_copy_str rfl rfl und_bytes info_u8 rfl rfl (L := List.replicate 64 0) (heap_new64 w) (by simp) ?_; intro w2 hb2 ho2 hbel; rw [hcp] at hb2; have hx2 : Ext w w2 := ((Ext.refl w).alloc _).trans_below hbel; clear ho2 hbel))
  have hlen : (padTo 64 X).length = 64 := padTo_length _ _
  generalize hL : padTo 64 X = L at hPad hlen hb2
  clear hL hcp
  go_loopw [16] (fun i wr => ∃ k : Nat, k ≤ 64 ∧ i = .int .i64 k ∧ wr.heap[w.heap.size]? = some (.cells (bcells (mapK b L k)) 156) ∧ Ext w wr) (fun i _ => 64 - (intOf i).toNat)
  case atStart => exact ⟨0, by omega, rfl, by simpa [mapK] using hb2, hx2⟩
  case round =>
   obtain ⟨k, hk1, rfl, hblk, hxr⟩ := hrel
   by_cases hlt : k < 64
   ·have hc : wr.cell? ⟨w.heap.size, k, none⟩ = some (.int .u8 ((L[k]'(by omega)).toNat)) := by
     refine cell_blk hblk ?_
     rw [bcells_get?, mapK_at b L k (by omega)]; rfl
    have hfz : wr.frozen? ⟨w.heap.size, k, none⟩ = false := frozen_blk hblk
    have HB := Lib.hid hblk; clear hblk
    go_wp2
    go_roundw
    case measure => simp [intOf]; omega
    case rel =>
     refine ⟨k + 1, by omega, by go_num, ?_, hxr.setCell (Nat.le_refl _) _⟩
     rw [heap_setCell_same _ HB.out, bcells_set, mapK_set b L k (by omega)]
   ·obtain rfl : k = 64 := by omega
    have hd : mapK b L 64 = L.map fun x => x8 x b := by simp [mapK, List.take_of_length_le (Nat.le_of_eq hlen), List.drop_of_length_le (Nat.le_of_eq hlen)]
    rw [hd] at hblk
    have kc := fun c => to_str_of (c := c) (n := 64) hblk (by simp [hlen])
    clear hd hblk
    go_wp2
    go_returns
    exact ⟨rfl, hxr⟩
theorem run_append_none {P : Program} (w : World) (t ty e : TypeId) (ht : P.underlying t = some (.slice e)) {x : Option TypeInfo} (hi : P.info? e = x) (hx : x.isSome = true) (base ad : Option Addr) (n c c' : Nat) (hle : n ≤ c) :
  (Builtin.append_ #[t, t] ty #[.slice base n c, .slice ad 0 c']).run P w = .ok (.slice base n c) w := by
 obtain ⟨i, rfl⟩ := Option.isSome_iff_exists.1 hx
 cases base <;> cases ad <;> simp [Builtin.append_, run_underlying ht, sizeOf, typeInfo, hi, hle, Builtin.lenOf, Builtin.firstCells, storeCells, loadCells, loadCellsFrom]
theorem wpl_append_none {P : Program} {ops : Array Oper} {rest : List Oper} {o : Oper} {a : Act} {Q : Exit → Act → World → Prop} {w : World} (hgd : o.guard = none) (s x : Operand) (t : TypeId)
  (ho : o.op = .call { callee := .builtin .append, args := #[s, x], argTypes := #[t, t] }) {e : TypeId}
  (ht : P.underlying t = some (.slice e)) (hi : (P.info? e).isSome = true) (base ad : Option Addr) (n c c' : Nat) (hle : n ≤ c) (hs : a.eval s = .slice base n c) (hx : a.eval x = .slice ad 0 c')
  (h : wpList P ops Q rest (a.put o.dst (.slice base n c)) w) : wpList P ops Q (o :: rest) a w := by
 refine wpList_plain hgd fun K hK => ?_
 have hr := run_append_none (P := P) w t o.type e ht rfl hi base ad n c c' hle
 unfold Oper.wp execOp
 simp only [ho, resolve, invoke, builtin, Sem.run_bind, Sem.run_pure, Result.andThen_ok, List.map_toArray, List.map_cons, List.map_nil, hs, hx, hr]
 exact hK _ _ h
theorem wpl_append_sl {P : Program} {ops : Array Oper} {rest : List Oper} {o : Oper} {a : Act} {Q : Exit → Act → World → Prop} {w : World} (hgd : o.guard = none) (s x : Operand) (t : TypeId)
  (ho : o.op = .call { callee := .builtin .append, args := #[s, x], argTypes := #[t, t] }) {e bytes : Nat} {z : Value}
  (ht : P.underlying t = some (.slice e)) (hinfo : (P.info? e).map (fun i => (i.zero, i.size, i.bytes)) = some (some z, 1, bytes)) (hz : z.cells.size = 1) (hby : 0 < bytes)
  (B : Nat) (hB : B ≤ w.heap.size) (v : Value) (xs : List Value) (hs : a.eval s = v) (hown : Row w B e v xs)
  (ad : Option Addr) (m c : Nat) (news : List Value) (hx : a.eval x = .slice ad m c) (hsl : Sl w (.slice ad m c) news) (h1 : ∀ u ∈ news, u.oneCell' = true)
  (hlen : (xs.length + m) * bytes ≤ 140737488355328)
  (h : ∀ v' w', Row w' B e v' (xs ++ news) → Below B w w' → wpList P ops Q rest (a.put o.dst v') w') : wpList P ops Q (o :: rest) a w := by
 have hm := hsl.len
 by_cases h0 : news = []
 ·subst h0
  have hm : m = 0 := by simpa using hm
  subst hm
  obtain ⟨i0, hi, _⟩ := info_parts hinfo
  have hn := h v w (by rw [List.append_nil]; exact hown) (Below.refl _ _)
  rcases hown.look with ⟨rfl, _⟩ | ⟨g, cap, cur, rfl, _, _, hle, _⟩
  ·exact wpl_append_none hgd s x t ho ht (by rw [hi]; rfl) none ad 0 0 c (Nat.le_refl _) hs hx hn
  ·exact wpl_append_none hgd s x t ho ht (by rw [hi]; rfl) _ ad _ _ c hle hs hx hn
 ·have hpos : 0 < news.length := List.length_pos_iff.2 h0
  obtain ⟨b, off, had, _, _⟩ := hsl.at_ 0 hpos
  subst had
  refine wpl_append hgd s x t ho ht hinfo hz hby B hB v xs hs hown ⟨b, off, none⟩ m c news hx hm.symm (fun j u hj => ?_) h1 hlen (fun v' w' h2 h3 _ => h v' w' h2 h3)
  have hjl : j < news.length := (List.getElem?_eq_some_iff.1 hj).1
  obtain ⟨b', off', had', _, hc⟩ := hsl.at_ j hjl
  cases had'
  rw [List.getElem?_eq_getElem hjl] at hj
  cases hj
  rw [show ((⟨b, off, none⟩ : Addr).add j) = ⟨b, off + j, none⟩ by simp [Addr.add]]
  exact hc
theorem row_one (w : World) (t : TypeId) (u : Value) : Row (w.alloc (.cells #[u] t)) w.heap.size t (.slice (some ⟨w.heap.size, 0, none⟩) 1 1) [u] :=
 ⟨rfl, .inr ⟨w.heap.size, 1, #[u], rfl, Nat.le_refl _, heap_alloc_new _ _, Nat.le_refl _, by decide, rfl, rfl⟩⟩
set_option maxRecDepth 100000 in
set_option maxHeartbeats 1000000 in
theorem macOf_any (key : List UInt8) (l : List (List UInt8)) (ad : Option Addr) (cap : Nat) (w : World) (hk : key.length ≤ 1099511627776) (hl : l.length ≤ 1048575) (hs : l.flatten.length ≤ 1099511627000) (hv : Sl w (.slice ad l.length cap) (l.map strV)) :
  Calls Tryz.prog 68 #[.string (bs key), .slice ad l.length cap] w fun e w' => e = .returned (.string (bs (macL key l.flatten))) ∧ Ext w w' := by
 have GP1 : Hid (∀ W : World, Calls Tryz.prog 93 #[.string (bs key), .int .u8 54] W fun e w' => e = .returned (.string (bs (padL key 0x36))) ∧ Ext W w') := Lib.hid (fun W => padded_any key 0x36 W hk)
 have GP2 : Hid (∀ W : World, Calls Tryz.prog 93 #[.string (bs key), .int .u8 92] W fun e w' => e = .returned (.string (bs (padL key 0x5c))) ∧ Ext W w') := Lib.hid (fun W => padded_any key 0x5c W hk)
 have GF := Lib.hid (fun (W : World) (v : Value) (B : Nat) (h : Row W B 9 v ((padL key 0x36 :: l).map strV)) => show ∃ ad c, v = .slice ad (l.length + 1) c ∧ Calls Tryz.prog 92 #[.slice ad (l.length + 1) c] W fun e w' => e = .returned (.string (bs (shaS (padL key 0x36 ++ l.flatten)))) ∧ Ext W w' by
  obtain ⟨ad, c, rfl⟩ := h.sl.look
  refine ⟨ad, c, by simp, ?_⟩
  have := Of_any W (padL key 0x36 :: l) ad c (by simp; omega) (by rw [List.flatten_cons, List.length_append, padL_length]; omega) (by simpa using h.sl)
  simpa using this)
 have GZ := Lib.hid (fun (W : World) (b : Nat) (h : W.heap[b]? = some (.cells #[.string (bs (padL key 0x5c)), .string (bs (shaS (padL key 0x36 ++ l.flatten)))] 9)) => show Calls Tryz.prog 92 #[.slice (some ⟨b, 0, none⟩) 2 2] W fun e w' => e = .returned (.string (bs (macL key l.flatten))) ∧ Ext W w' by
  have hsl : Sl W (.slice (some ⟨b, 0, none⟩) [padL key 0x5c, shaS (padL key 0x36 ++ l.flatten)].length 2) ([padL key 0x5c, shaS (padL key 0x36 ++ l.flatten)].map strV) :=
   ⟨_, _, rfl, fun i hi => ⟨b, 0, rfl, blk_lt h, by
    match i, hi with
    | 0, _ => exact cell_blk h rfl
    | 1, _ => exact cell_blk h rfl⟩⟩
  have := Of_any W [padL key 0x5c, shaS (padL key 0x36 ++ l.flatten)] _ _ (by simp) (by simp [shaS_length]) hsl
  simpa [macL] using this)
 have V := Lib.hid hv
 clear hv
 go_enter Tryz.func68, Tryz.ntmps68
 go_wp2_with (first
  | (go_at_call 93; with_reducible refine (GP1.out w).mono ?_; rintro e w1 ⟨rfl, hx1⟩)
  | (at_builtin; refine wpl_append_sl rfl _ _ 25 rfl und_strs info_str rfl (by omega) w1.heap.size (by simp) _ [strV (padL key 0x36)] rfl (row_one _ _ _) ad l.length cap (l.map strV) rfl ((V.out.ext hx1).ext ((Ext.refl _).alloc _)) (oneCells _ (fun _ => rfl)) (by simp; omega) ?_; intro v' w2 hrow2 hb2; obtain ⟨ad2, c2, rfl, hcall2⟩ := GF.out w2 v' w1.heap.size hrow2; have hx2 : Ext w w2 := (hx1.alloc _).trans_below hb2 hx1.size)
  | (go_at_call 92; refine hcall2.mono ?_; rintro e w3 ⟨rfl, hx3⟩; clear hcall2)
  | (go_at_call 93; with_reducible refine (GP2.out w3).mono ?_; rintro e w4 ⟨rfl, hx4⟩)
  | (go_at_call 92; with_reducible refine (GZ.out _ _ (heap_alloc_new w4 _)).mono ?_; rintro e w5 ⟨rfl, hx5⟩))
 go_returns
 exact ⟨rfl, Ext.trans ((hx2.trans (hx3.trans hx4)).alloc _) hx5⟩
end Go.Proofs.YtclekllaikcglaaGreat

/- Contracts: layer 3, the document's tags, and which tags are right. -/
namespace Go.Proofs.YtclekllaikcglaaGreat
open Go Go.RowKit
theorem xor_rep (b : UInt8) : ∀ (l : List UInt8), xorL l (List.replicate l.length b) = l.map fun x => x8 x b
 | [] => rfl
 | x :: l => by
  have := xor_rep b l
  unfold xorL at this ⊢
  rw [List.length_cons, List.replicate_succ, List.zipWith_cons_cons, List.map_cons, this]
set_option maxRecDepth 100000 in
set_option maxHeartbeats 2000000 in
theorem refBlock_any (key : List UInt8) (b : UInt8) (w : World) (hk : key.length ≤ 1099511627776) :
  Calls Tryz.prog 142 #[.string (bs key), .int .u8 (b.toNat : Int)] w fun e w' => e = .returned (.string (bs (padL key b))) ∧ Ext w w' := by
 have hmk : ∀ w : World, (Instr.makeSlice 27 (.int .i64 64) (.int .i64 64)).run Tryz.prog w = .ok (.slice (some ⟨w.heap.size, 0, none⟩) 64 64) (w.alloc (.cells (bcells (List.replicate 64 0)) 5)) := fun w => mk_bytes 64 (by omega) w
 by_cases h : 64 < key.length
 ·obtain ⟨X, hX⟩ : ∃ X, shaS key = X := ⟨_, rfl⟩
  have hPad : ((padTo 64 X).map fun x => x8 x b) = padL key b := by rw [padL, kb, if_pos h, hX]
  have GO := Lib.hid (fun (W : World) => hX ▸ RefOf_any key W hk)
  have hX32 : X.length = 32 := by rw [← hX]; exact shaS_length _
  clear hX
  go_enter Tryz.func142, Tryz.ntmps142
  go_wp2_with (go_at_call 141; with_reducible refine (GO.out _).mono ?_; rintro e w1 ⟨rfl, hx1⟩)
  have hXl : X.length ≤ 64 := by omega
  have hlen : (padTo 64 X).length = 64 := padTo_length _ _
  have hgetA : ∀ (k : Nat) (h : k < X.length), (padTo 64 X)[k]? = some X[k] := by
   intro k h
   unfold padTo
   rw [List.getElem?_append_left (by rw [List.length_take]; omega), List.getElem?_take_of_lt (by omega), List.getElem?_eq_getElem h]
  have hgetB : ∀ (k : Nat), X.length ≤ k → k < 64 → (padTo 64 X)[k]? = some 0 := by
   intro k h h2
   unfold padTo
   rw [List.getElem?_append_right (by rw [List.length_take]; omega), List.getElem?_replicate, if_pos (by rw [List.length_take]; omega)]
  obtain ⟨R, hR⟩ : ∃ R, R = List.replicate 64 b := ⟨_, rfl⟩
  have hRl : R.length = 64 := by rw [hR]; simp
  have hRk : ∀ k (h : k < 64), R[k]'(by omega) = b := by intro k h; subst hR; exact List.getElem_replicate _
  have GX := Lib.hid (fun W => RefXor_any (padTo 64 X) R W (by rw [hlen, hRl]) (by rw [hlen]; omega))
  rw [show xorL (padTo 64 X) R = padL key b by rw [hR, show List.replicate 64 b = List.replicate (padTo 64 X).length b by rw [hlen], xor_rep, hPad]] at GX
  have HRK := Lib.hid hRk; have HRL := Lib.hid hRl
  clear hR hRk
  generalize hL : padTo 64 X = L at hgetA hgetB hlen GX
  clear hL hPad
  have HGA := Lib.hid hgetA; have HGB := Lib.hid hgetB; clear hgetA hgetB
  go_loopw [6] (fun i wr => ∃ k : Nat, k ≤ 64 ∧ i = .int .i64 k ∧ wr.heap[w1.heap.size]? = some (.cells (bcells (L.take k ++ List.replicate (64 - k) 0)) 5 (0, 0)) ∧ Ext w wr) (fun i _ => 64 - (intOf i).toNat)
  case atStart => exact ⟨0, by omega, rfl, by rw [heap_alloc_new]; simp, hx1.alloc _⟩
  case round =>
   obtain ⟨k, hk1, rfl, hblk, hxr⟩ := hrel
   by_cases hlt : k < 64
   ·have hc : wr.cell? ⟨w1.heap.size, k, none⟩ = some (.int .u8 0) := cell_blk hblk (fill_cell _ _ _ hlen hlt)
    have hfz : wr.frozen? ⟨w1.heap.size, k, none⟩ = false := frozen_blk hblk
    have hst := fill_set L 0 64 k hlen hlt
    have HB := Lib.hid hblk; have HS := Lib.hid hst; clear hblk hst
    by_cases hkx : k < X.length
    ·have hg : L[k]'(by omega) = X[k] := by
      have := HGA.out k hkx
      rw [List.getElem?_eq_getElem (by omega)] at this
      exact Option.some.inj this
     have HG := Lib.hid hg; clear hg
     go_wp2
     go_roundw
     case measure => simp [intOf]; omega
     case rel =>
      refine ⟨k + 1, by omega, by go_num, ?_, hxr.setCell hx1.size _⟩
      have hs' := HS.out
      rw [HG.out] at hs'
      rw [heap_setCell_same _ HB.out, bcells_set, hs']
    ·have hg : L[k]'(by omega) = 0 := by
      have := HGB.out k (by omega) hlt
      rw [List.getElem?_eq_getElem (by omega)] at this
      exact Option.some.inj this
     have HG := Lib.hid hg; clear hg
     go_wp2
     go_roundw
     case measure => simp [intOf]; omega
     case rel =>
      refine ⟨k + 1, by omega, by go_num, ?_, hxr.setCell hx1.size _⟩
      have hs' := HS.out
      rw [HG.out] at hs'
      rw [heap_setCell_same _ HB.out, show (Value.int .u8 0) = Value.int .u8 ((0 : UInt8).toNat : Int) from rfl, bcells_set, hs']
   ·obtain rfl : k = 64 := by omega
    rw [fill_done _ 0 64 hlen] at hblk
    have HB := Lib.hid hblk
    clear hblk
    go_wp2
    obtain ⟨wo, rfl⟩ : ∃ x, x = wr := ⟨_, rfl⟩
    go_loopw [9] (fun i wr => ∃ k : Nat, k ≤ 64 ∧ i = .int .i64 k ∧ wr.heap[wo.heap.size]? = some (.cells (bcells (R.take k ++ List.replicate (64 - k) 0)) 5 (0, 0)) ∧ Ext wo wr) (fun i _ => 64 - (intOf i).toNat)
    case atStart => exact ⟨0, by omega, rfl, by rw [heap_alloc_new]; simp, (Ext.refl _).alloc _⟩
    case round =>
     obtain ⟨k, hk1, rfl, hblk, hx2⟩ := hrel
     by_cases hlt : k < 64
     ·have hc : wr.cell? ⟨wo.heap.size, k, none⟩ = some (.int .u8 0) := cell_blk hblk (fill_cell _ _ _ HRL.out hlt)
      have hfz : wr.frozen? ⟨wo.heap.size, k, none⟩ = false := frozen_blk hblk
      have hst := fill_set R 0 64 k HRL.out hlt
      rw [HRK.out k hlt] at hst
      have HB2 := Lib.hid hblk; have HS := Lib.hid hst; clear hblk hst
      go_wp2
      go_roundw
      case measure => simp [intOf]; omega
      case rel =>
       refine ⟨k + 1, by omega, by go_num, ?_, hx2.setCell (Nat.le_refl _) _⟩
       rw [heap_setCell_same _ HB2.out, bcells_set, HS.out]
     ·obtain rfl : k = 64 := by omega
      rw [fill_done _ 0 64 HRL.out] at hblk
      have kc1 := fun c => to_str_of (c := c) (n := 64) (hx2.keep HB.out) hlen
      have kc2 := fun c => to_str_of (c := c) (n := 64) hblk HRL.out
      clear hblk
      go_wp2_with (go_at_call 101; with_reducible refine (GX.out wr).mono ?_; rintro e w3 ⟨rfl, hx3⟩)
      go_returns
      exact ⟨rfl, hxr.trans (hx2.trans hx3)⟩
 ·obtain ⟨X, hX⟩ : ∃ X, X = key := ⟨_, rfl⟩
  have hPad : ((padTo 64 X).map fun x => x8 x b) = padL key b := by rw [padL, kb, if_neg h, hX]
  have hXk : key.length ≤ 64 := by omega
  subst hX
  go_enter Tryz.func142, Tryz.ntmps142
  go_wp2
  have hXl : X.length ≤ 64 := hXk
  have hlen : (padTo 64 X).length = 64 := padTo_length _ _
  have hgetA : ∀ (k : Nat) (h : k < X.length), (padTo 64 X)[k]? = some X[k] := by
   intro k h
   unfold padTo
   rw [List.getElem?_append_left (by rw [List.length_take]; omega), List.getElem?_take_of_lt (by omega), List.getElem?_eq_getElem h]
  have hgetB : ∀ (k : Nat), X.length ≤ k → k < 64 → (padTo 64 X)[k]? = some 0 := by
   intro k h h2
   unfold padTo
   rw [List.getElem?_append_right (by rw [List.length_take]; omega), List.getElem?_replicate, if_pos (by rw [List.length_take]; omega)]
  obtain ⟨R, hR⟩ : ∃ R, R = List.replicate 64 b := ⟨_, rfl⟩
  have hRl : R.length = 64 := by rw [hR]; simp
  have hRk : ∀ k (h : k < 64), R[k]'(by omega) = b := by intro k h; subst hR; exact List.getElem_replicate _
  have GX := Lib.hid (fun W => RefXor_any (padTo 64 X) R W (by rw [hlen, hRl]) (by rw [hlen]; omega))
  rw [show xorL (padTo 64 X) R = padL X b by rw [hR, show List.replicate 64 b = List.replicate (padTo 64 X).length b by rw [hlen], xor_rep, hPad]] at GX
  have HRK := Lib.hid hRk; have HRL := Lib.hid hRl
  clear hR hRk
  generalize hL : padTo 64 X = L at hgetA hgetB hlen GX
  clear hL hPad
  have HGA := Lib.hid hgetA; have HGB := Lib.hid hgetB; clear hgetA hgetB
  go_loopw [6] (fun i wr => ∃ k : Nat, k ≤ 64 ∧ i = .int .i64 k ∧ wr.heap[w.heap.size]? = some (.cells (bcells (L.take k ++ List.replicate (64 - k) 0)) 5 (0, 0)) ∧ Ext w wr) (fun i _ => 64 - (intOf i).toNat)
  case atStart => exact ⟨0, by omega, rfl, by rw [heap_alloc_new]; simp, (Ext.refl _).alloc _⟩
  case round =>
   obtain ⟨k, hk1, rfl, hblk, hxr⟩ := hrel
   by_cases hlt : k < 64
   ·have hc : wr.cell? ⟨w.heap.size, k, none⟩ = some (.int .u8 0) := cell_blk hblk (fill_cell _ _ _ hlen hlt)
    have hfz : wr.frozen? ⟨w.heap.size, k, none⟩ = false := frozen_blk hblk
    have hst := fill_set L 0 64 k hlen hlt
    have HB := Lib.hid hblk; have HS := Lib.hid hst; clear hblk hst
    by_cases hkx : k < X.length
    ·have hg : L[k]'(by omega) = X[k] := by
      have := HGA.out k hkx
      rw [List.getElem?_eq_getElem (by omega)] at this
      exact Option.some.inj this
     have HG := Lib.hid hg; clear hg
     go_wp2
     go_roundw
     case measure => simp [intOf]; omega
     case rel =>
      refine ⟨k + 1, by omega, by go_num, ?_, hxr.setCell (Nat.le_refl _) _⟩
      have hs' := HS.out
      rw [HG.out] at hs'
      rw [heap_setCell_same _ HB.out, bcells_set, hs']
    ·have hg : L[k]'(by omega) = 0 := by
      have := HGB.out k (by omega) hlt
      rw [List.getElem?_eq_getElem (by omega)] at this
      exact Option.some.inj this
     have HG := Lib.hid hg; clear hg
     go_wp2
     go_roundw
     case measure => simp [intOf]; omega
     case rel =>
      refine ⟨k + 1, by omega, by go_num, ?_, hxr.setCell (Nat.le_refl _) _⟩
      have hs' := HS.out
      rw [HG.out] at hs'
      rw [heap_setCell_same _ HB.out, show (Value.int .u8 0) = Value.int .u8 ((0 : UInt8).toNat : Int) from rfl, bcells_set, hs']
   ·obtain rfl : k = 64 := by omega
    rw [fill_done _ 0 64 hlen] at hblk
    have HB := Lib.hid hblk
    clear hblk
    go_wp2
    obtain ⟨wo, rfl⟩ : ∃ x, x = wr := ⟨_, rfl⟩
    go_loopw [9] (fun i wr => ∃ k : Nat, k ≤ 64 ∧ i = .int .i64 k ∧ wr.heap[wo.heap.size]? = some (.cells (bcells (R.take k ++ List.replicate (64 - k) 0)) 5 (0, 0)) ∧ Ext wo wr) (fun i _ => 64 - (intOf i).toNat)
    case atStart => exact ⟨0, by omega, rfl, by rw [heap_alloc_new]; simp, (Ext.refl _).alloc _⟩
    case round =>
     obtain ⟨k, hk1, rfl, hblk, hx2⟩ := hrel
     by_cases hlt : k < 64
     ·have hc : wr.cell? ⟨wo.heap.size, k, none⟩ = some (.int .u8 0) := cell_blk hblk (fill_cell _ _ _ HRL.out hlt)
      have hfz : wr.frozen? ⟨wo.heap.size, k, none⟩ = false := frozen_blk hblk
      have hst := fill_set R 0 64 k HRL.out hlt
      rw [HRK.out k hlt] at hst
      have HB2 := Lib.hid hblk; have HS := Lib.hid hst; clear hblk hst
      go_wp2
      go_roundw
      case measure => simp [intOf]; omega
      case rel =>
       refine ⟨k + 1, by omega, by go_num, ?_, hx2.setCell (Nat.le_refl _) _⟩
       rw [heap_setCell_same _ HB2.out, bcells_set, HS.out]
     ·obtain rfl : k = 64 := by omega
      rw [fill_done _ 0 64 HRL.out] at hblk
      have kc1 := fun c => to_str_of (c := c) (n := 64) (hx2.keep HB.out) hlen
      have kc2 := fun c => to_str_of (c := c) (n := 64) hblk HRL.out
      clear hblk
      go_wp2_with (go_at_call 101; with_reducible refine (GX.out wr).mono ?_; rintro e w3 ⟨rfl, hx3⟩)
      go_returns
      exact ⟨rfl, hxr.trans (hx2.trans hx3)⟩
set_option maxRecDepth 100000 in
set_option maxHeartbeats 1000000 in
theorem refMac_any (key t : List UInt8) (w : World) (hk : key.length ≤ 1099511627776) (ht : t.length ≤ 1099511627000) :
  Calls Tryz.prog 120 #[.string (bs key), .string (bs t)] w fun e w' => e = .returned (.string (bs (macL key t))) ∧ Ext w w' := by
 have GB1 : Hid (∀ W : World, Calls Tryz.prog 142 #[.string (bs key), .int .u8 54] W fun e w' => e = .returned (.string (bs (padL key 0x36))) ∧ Ext W w') := Lib.hid (fun W => refBlock_any key 0x36 W hk)
 have GB2 : Hid (∀ W : World, Calls Tryz.prog 142 #[.string (bs key), .int .u8 92] W fun e w' => e = .returned (.string (bs (padL key 0x5c))) ∧ Ext W w') := Lib.hid (fun W => refBlock_any key 0x5c W hk)
 have G1 := Lib.hid (fun (W : World) => RefOf_any (padL key 0x36 ++ t) W (by simp; omega))
 have G2 := Lib.hid (fun (W : World) => RefOf_any (padL key 0x5c ++ shaS (padL key 0x36 ++ t)) W (by simp [shaS_length]))
 have hb1 : ¬ 9223372036854775807 < (padL key 0x36).length + t.length := by simp; omega
 have hb2 : ¬ 9223372036854775807 < (padL key 0x5c).length + (shaS (padL key 0x36 ++ t)).length := by simp [shaS_length]
 have HM : Hid (shaS (padL key 0x5c ++ shaS (padL key 0x36 ++ t)) = macL key t) := Lib.hid rfl
 generalize padL key 0x36 = p1 at *
 generalize padL key 0x5c = p2 at *
 generalize hz : shaS (p1 ++ t) = z at *
 clear hz
 go_enter Tryz.func120, Tryz.ntmps120
 go_wp2_with (first
  | (go_at_call 142; with_reducible refine (GB2.out w).mono ?_; rintro e w1 ⟨rfl, hx1⟩)
  | (go_at_call 142; with_reducible refine (GB1.out w1).mono ?_; rintro e w2 ⟨rfl, hx2⟩)
  | (go_at_call 141; with_reducible refine (G1.out w2).mono ?_; rintro e w3 ⟨rfl, hx3⟩)
  | (go_at_call 141; with_reducible refine (G2.out w3).mono ?_; rintro e w4 ⟨rfl, hx4⟩))
 go_returns
 exact ⟨ret_str HM.out, hx1.trans (hx2.trans (hx3.trans hx4))⟩
set_option maxRecDepth 100000 in
set_option maxHeartbeats 1000000 in
theorem macCut_yes (key : List UInt8) (l : List (List UInt8)) (ad : Option Addr) (cap n : Nat) (w : World) (hk : key.length ≤ 1099511627776) (hl : l.length ≤ 1048575) (hs : l.flatten.length ≤ 1099511627000) (hv : Sl w (.slice ad l.length cap) (l.map strV)) (h1 : 1 ≤ n) (h2 : n ≤ 32) :
  Calls Tryz.prog 86 #[.string (bs key), .int .i64 (n : Int), .slice ad l.length cap] w fun e w' => e = .returned (.tuple #[.string (bs ((macL key l.flatten).take n)), .bool true]) ∧ Ext w w' := by
 have GM := Lib.hid (fun (W : World) (h : Sl W (.slice ad l.length cap) (l.map strV)) => macOf_any key l ad cap W hk hl hs h)
 have V := Lib.hid hv
 have hzl : (macL key l.flatten).length = 32 := macL_length _ _
 clear hv
 generalize macL key l.flatten = z at *
 go_enter Tryz.func86, Tryz.ntmps86
 go_wp2_with (go_at_call 68; with_reducible refine (GM.out w V.out).mono ?_; rintro e w1 ⟨rfl, hx1⟩)
 go_returns
 exact ⟨rfl, hx1⟩
set_option maxRecDepth 100000 in
theorem macCut_no (key : List UInt8) (v : Value) (n : Int) (w : World) (h : n < 1 ∨ 32 < n) :
  Calls Tryz.prog 86 #[.string (bs key), .int .i64 n, v] w fun e w' => e = .returned (.tuple #[.string (bs []), .bool false]) ∧ w = w' := by
 by_cases h1 : n < 1
 ·clear h
  go_enter Tryz.func86, Tryz.ntmps86
  go_wp2
  go_returns
  exact ⟨rfl, rfl⟩
 ·have h2 : 32 < n := by omega
  clear h
  go_enter Tryz.func86, Tryz.ntmps86
  go_wp2
  go_returns
  exact ⟨rfl, rfl⟩
def rightL (z tag : List UInt8) : Bool := decide (16 ≤ tag.length ∧ tag.length ≤ 32 ∧ z.take tag.length = tag)
set_option maxRecDepth 100000 in
set_option maxHeartbeats 1000000 in
theorem macCheck_any (key tag : List UInt8) (l : List (List UInt8)) (ad : Option Addr) (cap : Nat) (w : World) (hk : key.length ≤ 1099511627776) (ht : tag.length ≤ 1099511627776) (hl : l.length ≤ 1048575) (hs : l.flatten.length ≤ 1099511627000) (hv : Sl w (.slice ad l.length cap) (l.map strV)) :
  Calls Tryz.prog 61 #[.string (bs key), .string (bs tag), .slice ad l.length cap] w fun e w' => e = .returned (.bool (rightL (macL key l.flatten) tag)) ∧ Ext w w' := by
 by_cases h1 : tag.length < 16
 ·have hr : rightL (macL key l.flatten) tag = false := by unfold rightL; rw [decide_eq_false]; omega
  rw [hr]
  clear hv hr
  go_enter Tryz.func61, Tryz.ntmps61
  go_wp2
  go_returns
  exact ⟨rfl, Ext.refl _⟩
 ·by_cases h2 : 32 < tag.length
  ·have hr : rightL (macL key l.flatten) tag = false := by unfold rightL; rw [decide_eq_false]; omega
   rw [hr]
   have GC := Lib.hid (fun W => macCut_no key (.slice ad l.length cap) (tag.length : Int) W (.inr (by omega)))
   clear hv hr
   go_enter Tryz.func61, Tryz.ntmps61
   go_wp2_with (go_at_call 86; with_reducible refine (GC.out w).mono ?_; rintro e w' ⟨rfl, rfl⟩)
   go_returns
   exact ⟨rfl, Ext.refl _⟩
  ·have GC := Lib.hid (fun (W : World) (h : Sl W (.slice ad l.length cap) (l.map strV)) => macCut_yes key l ad cap tag.length W hk hl hs h (by omega) (by omega))
   have hr : rightL (macL key l.flatten) tag = decide ((macL key l.flatten).take tag.length = tag) := by unfold rightL; rw [decide_eq_decide]; constructor; exact fun h => h.2.2; exact fun h => ⟨by omega, by omega, h⟩
   have GE := Lib.hid (fun (W : World) => Equal_any ((macL key l.flatten).take tag.length) tag W (by rw [List.length_take]; omega))
   rw [hr]
   have V := Lib.hid hv
   clear hv hr
   generalize (macL key l.flatten).take tag.length = z at *
   generalize decide (z = tag) = d at *
   go_enter Tryz.func61, Tryz.ntmps61
   go_wp2_with (first
    | (go_at_call 86; with_reducible refine (GC.out w V.out).mono ?_; rintro e w1 ⟨rfl, hx1⟩)
    | (go_at_call 87; with_reducible refine (GE.out w1).mono ?_; rintro e w2 ⟨rfl, hx2⟩))
   go_returns
   exact ⟨rfl, hx1.trans hx2⟩
end Go.Proofs.YtclekllaikcglaaGreat

/- Contracts: layer 3, what is derived of a key. -/
namespace Go.Proofs.YtclekllaikcglaaGreat
open Go Go.RowKit
def tL (key label : List UInt8) : Nat → List UInt8
 | 0 => []
 | k + 1 => macL key (tL key label k ++ (label ++ [b8 (k + 1)]))
def derN (key label : List UInt8) : Nat → List UInt8
 | 0 => []
 | k + 1 => derN key label k ++ tL key label (k + 1)
theorem tL_length (key label : List UInt8) : ∀ k, (tL key label k).length ≤ 32
 | 0 => by simp [tL]
 | k + 1 => by rw [tL, macL_length]; exact Nat.le_refl _
theorem derN_length (key label : List UInt8) : ∀ k, (derN key label k).length = 32 * k
 | 0 => rfl
 | k + 1 => by rw [derN, List.length_append, derN_length key label k, tL, macL_length]; omega
theorem derN_take (key label : List UInt8) (n k : Nat) (h : n ≤ 32 * k) : ∀ j, (derN key label (k + j)).take n = (derN key label k).take n
 | 0 => rfl
 | j + 1 => by
  rw [show k + (j + 1) = (k + j) + 1 by omega, derN, List.take_append_of_le_length (by rw [derN_length]; omega)]
  exact derN_take key label n k h j
def derL (key label : List UInt8) (n : Nat) : List UInt8 := (derN key label 255).take n
theorem derL_of (key label : List UInt8) (n k : Nat) (h : n ≤ 32 * k) (hk : k ≤ 255) : (derN key label k).take n = derL key label n := by
 have := derN_take key label n k h (255 - k)
 rw [show k + (255 - k) = 255 by omega] at this
 exact this.symm
theorem derL_length (key label : List UInt8) (n : Nat) (h : n ≤ 8160) : (derL key label n).length = n := by
 rw [derL, List.length_take, derN_length]; omega
set_option maxRecDepth 100000 in
theorem one_str (x : UInt8) (w : World) (c : Nat) : (convert 27 9 (.slice (some ⟨w.heap.size, 0, none⟩) 1 c)).run Tryz.prog (w.alloc (.cells #[.int .u8 (x.toNat : Int)] 5)) = .ok (.string (bs [x])) (w.alloc (.cells #[.int .u8 (x.toNat : Int)] 5)) :=
 to_str_of (l := [x]) (heap_alloc_new w _) rfl
set_option maxRecDepth 100000 in
set_option maxHeartbeats 2000000 in
theorem refDerive_yes (key label : List UInt8) (n : Nat) (w : World) (hk : key.length ≤ 1099511627776) (hl : label.length ≤ 1099511620000) (h1 : 1 ≤ n) (h2 : n ≤ 8160) :
  Calls Tryz.prog 119 #[.string (bs key), .string (bs label), .int .i64 (n : Int)] w fun e w' => e = .returned (.string (bs (derL key label n))) ∧ Ext w w' := by
 go_enter Tryz.func119, Tryz.ntmps119
 go_wp2
 go_loopw [7, 8, 9] (fun all t i wr => ∃ k : Nat, k ≤ 255 ∧ (k = 0 ∨ 32 * (k - 1) < n) ∧ all = .string (bs (derN key label k)) ∧ t = .string (bs (tL key label k)) ∧ i = .int .i64 ((k : Int) + 1) ∧ Ext w wr) (fun _ _ i _ => 256 - (intOf i).toNat)
 case atStart => exact ⟨0, by omega, Or.inl rfl, rfl, rfl, rfl, Ext.refl _⟩
 case round =>
  obtain ⟨k, hk1, hk2, rfl, rfl, rfl, hx⟩ := hrel
  have hdl := derN_length key label k
  have htl := tL_length key label k
  by_cases hlt : 32 * k < n
  ·have hk3 : k < 255 := by omega
   have hnext : derN key label (k + 1) = derN key label k ++ macL key (tL key label k ++ (label ++ [b8 (k + 1)])) := rfl
   have hnt : tL key label (k + 1) = macL key (tL key label k ++ (label ++ [b8 (k + 1)])) := rfl
   have hl2 : (macL key (tL key label k ++ (label ++ [b8 (k + 1)]))).length = 32 := macL_length _ _
   have GM := Lib.hid (fun W => refMac_any key (tL key label k ++ (label ++ [b8 (k + 1)])) W hk (by simp; omega))
   have hw8 : IntKind.u8.wrap ((k : Int) + 1) = ((b8 (k + 1)).toNat : Int) := by rw [b8_toNat _ (by omega), IntKind.wrap_u8]; omega
   have HN := Lib.hid hnext; have HT := Lib.hid hnt
   have ks := one_str (b8 (k + 1))
   clear hnext hnt
   generalize derN key label k = d at *
   generalize tL key label k = t at *
   generalize hb : b8 (k + 1) = b at *
   clear hb
   go_wp2_with (go_at_call 120; refine (GM.out _).mono ?_; rintro e w1 ⟨rfl, hx1⟩)
   have hxn : Ext w w1 := (hx.alloc _).trans hx1
   go_roundw
   case measure => simp [intOf]; omega
   case rel => exact ⟨k + 1, by omega, Or.inr (by simpa using hlt), by rw [HN.out], by rw [HT.out], by go_num, hxn⟩
  ·have hres := derL_of key label n k (by omega) hk1
   have HR := Lib.hid hres; clear hres
   generalize derN key label k = d at *
   generalize tL key label k = t at *
   go_wp2
   go_returns
   exact ⟨ret_str HR.out, hx⟩
end Go.Proofs.YtclekllaikcglaaGreat

/- Contracts: layer 3, the program's Derive: a range over a function. -/
namespace Go.Proofs.YtclekllaikcglaaGreat
open Go Go.RowKit Go.Shelf
attribute [local go_sem] Oper.semAt_some
abbrev T32 := { x : List UInt8 // x.length = 32 }
def flat32 (l : List T32) : List UInt8 := (l.map (·.1)).flatten
theorem flat32_snoc (l : List T32) (x : T32) : flat32 (l ++ [x]) = flat32 l ++ x.1 := by simp [flat32]
theorem flat32_length : ∀ l : List T32, (flat32 l).length = 32 * l.length
 | [] => rfl
 | x :: l => by
  have := flat32_length l
  have hx := x.2
  unfold flat32 at this ⊢
  rw [List.map_cons, List.flatten_cons, List.length_append, this, hx, List.length_cons]; omega
def t32 (key label : List UInt8) (i : Nat) : T32 := ⟨tL key label (i + 1), macL_length _ _⟩
def upto32 (key label : List UInt8) (k : Nat) : List T32 := (List.range k).map (t32 key label)
theorem upto32_succ (key label : List UInt8) (k : Nat) : upto32 key label (k + 1) = upto32 key label k ++ [t32 key label k] := by simp [upto32, List.range_succ]
theorem upto32_length (key label : List UInt8) (k : Nat) : (upto32 key label k).length = k := by simp [upto32]
theorem flat_upto (key label : List UInt8) : ∀ k, flat32 (upto32 key label k) = derN key label k
 | 0 => rfl
 | k + 1 => by rw [upto32_succ, flat32_snoc, flat_upto key label k]; rfl
theorem mac_three (key a b c : List UInt8) (B : Nat) (w : World) (hk : key.length ≤ 1099511627776) (hs : a.length + (b.length + c.length) ≤ 1099511627000) (h : w.heap[B]? = some (.cells #[.string (bs a), .string (bs b), .string (bs c)] 9)) :
  Calls Tryz.prog 68 #[.string (bs key), .slice (some ⟨B, 0, none⟩) 3 3] w fun e w' => e = .returned (.string (bs (macL key (a ++ (b ++ c))))) ∧ Ext w w' := by
 have hsl : Sl w (.slice (some ⟨B, 0, none⟩) [a, b, c].length 3) ([a, b, c].map strV) :=
  ⟨_, _, rfl, fun i hi => ⟨B, 0, rfl, blk_lt h, by
   match i, hi with
   | 0, _ => exact cell_blk h rfl
   | 1, _ => exact cell_blk h rfl
   | 2, _ => exact cell_blk h rfl⟩⟩
 have h := macOf_any key [a, b, c] _ _ w hk (by simp) (by simpa using hs) hsl
 rw [show [a, b, c].flatten = a ++ (b ++ c) by simp] at h
 exact h
theorem Ext.grown {w w' : World} (h : Ext w w') : w.grownBy w' none := ⟨h.os, h.tape, h.output, h.size, fun _ hk _ => Ext.block h hk⟩
theorem heap_alloc2 (w : World) (o1 o2 : Obj) : ((w.alloc o1).alloc o2).heap[w.heap.size + 1]? = some o2 := by
 have := heap_alloc_new (w.alloc o1) o2
 rwa [World.size_alloc] at this
def KeepsTwo (B1 B2 : Nat) (A B : World) : Prop := (∀ v, A.cell? ⟨B1, 0, none⟩ = some v → B.cell? ⟨B1, 0, none⟩ = some v) ∧ (∀ v, A.cell? ⟨B2, 0, none⟩ = some v → B.cell? ⟨B2, 0, none⟩ = some v)
theorem KeepsTwo.t {B1 B2 : Nat} {A B C : World} (h : KeepsTwo B1 B2 A B) (k : KeepsTwo B1 B2 B C) : KeepsTwo B1 B2 A C := ⟨fun v hv => k.1 v (h.1 v hv), fun v hv => k.2 v (h.2 v hv)⟩
set_option maxRecDepth 100000 in
set_option maxHeartbeats 2000000 in
theorem rows1_in (n : Nat) (hn : 1 ≤ n) (l B1 B2 : Nat) (key label : List UInt8) (hk : key.length ≤ 1099511627776) (hl : label.length ≤ 1099511620000) (J Jx : List T32 → World → Prop) (W : World) (hJ : AbidesFrom W.heap.size J)
  (hY : ∀ pre x W1, J pre W1 → pre.length < 255 → YieldAt Fence.wide (n - 1) Tryz.prog l #[.string (bs x.1)] W1 fun e W' =>
   (e = .returned (.bool true) ∧ J (pre ++ [x]) W' ∧ KeepsTwo B1 B2 W1 W') ∨ (e = .returned (.bool false) ∧ Jx (pre ++ [x]) W'))
  (h1 : W.cell? ⟨B1, 0, none⟩ = some (.string (bs key))) (h2 : W.cell? ⟨B2, 0, none⟩ = some (.string (bs label))) (h0 : J [] W) :
  CallsIn Fence.wide n Tryz.prog 122 #[.func (.yield l) #[] #[], .pointer (some ⟨B1, 0, none⟩), .pointer (some ⟨B2, 0, none⟩)] W fun e W' => (∃ v, e = .returned v) ∧
   ((∃ xs, xs = upto32 key label 255 ∧ J xs W') ∨ (∃ pre, (∃ k, k ≤ 255 ∧ pre = upto32 key label k) ∧ Jx pre W')) := by
 refine callsIn_of_wp Tryz.func122 rfl trivial ?_ rfl
 simp only [Tryz.ntmps122, List.size_toArray, List.length_cons, List.length_nil, Nat.reduceAdd, Nat.reduceSub, Array.replicate_succ, Array.replicate_zero, List.push_toArray, List.append_toArray, List.nil_append, List.cons_append]
 gi_wp2
 gi_loopw [4, 6] (fun t i wr => ∃ k : Nat, k ≤ 255 ∧ t = .string (bs (tL key label k)) ∧ i = .int .i64 k ∧ J (upto32 key label k) wr ∧ wr.cell? ⟨B1, 0, none⟩ = some (.string (bs key)) ∧ wr.cell? ⟨B2, 0, none⟩ = some (.string (bs label))) (fun _ i _ => 255 - (intOf i).toNat)
 case atStart => exact ⟨0, by omega, rfl, rfl, h0, h1, h2⟩
 case round =>
  obtain ⟨k, hk1, rfl, rfl, hJs, hc1, hc2⟩ := hrel
  by_cases hlt : k < 255
  ·have htl := tL_length key label k
   have GM := Lib.hid (fun (B : Nat) (W : World) (h : W.heap[B]? = some (.cells #[.string (bs (tL key label k)), .string (bs label), .string (bs [b8 (k + 1)])] 9)) => mac_three key (tL key label k) label [b8 (k + 1)] B W hk (by simp; omega) h)
   have hw8 : IntKind.u8.wrap ((k : Int) + 1) = ((b8 (k + 1)).toNat : Int) := by rw [b8_toNat _ (by omega), IntKind.wrap_u8]; omega
   have ks := one_str (b8 (k + 1))
   have HT : Hid (tL key label (k + 1) = macL key (tL key label k ++ (label ++ [b8 (k + 1)]))) := Lib.hid rfl
   have HJ := Lib.hid hJs
   have HY := Lib.hid (hY (upto32 key label k) (t32 key label k))
   rw [show (t32 key label k).1 = macL key (tL key label k ++ (label ++ [b8 (k + 1)])) from rfl] at HY
   clear hJs hY
   generalize tL key label k = t at *
   generalize b8 (k + 1) = b at *
   gi_wp2_with (refine ⟨trivial, ?_⟩; gi_at_call 68; refine (callsIn_wide.2 (GM.out _ _ (heap_alloc2 _ _ _))).mono ?_; rintro e w1 ⟨rfl, hx1⟩; have hx : Ext wr w1 := (((Ext.refl wr).alloc _).alloc _).trans hx1; have hJ1 := hJ _ _ _ none HJ.out hx.grown (fun r h => by cases h); obtain ⟨fn, tmps, assign, body, hy, hR⟩ := HY.out w1 hJ1 (by rw [upto32_length]; exact hlt); have HR := Lib.hid hR; clear hR hJ1; have hd1 := hx.cell_of hc1; have hd2 := hx.cell_of hc2)
   refine HR.out.mono ?_
   rintro e W3 (⟨rfl, hJ3, hk3⟩ | ⟨rfl, hJx3⟩)
   ·have HJ3 := Lib.hid hJ3
    clear hJ3
    gi_wp2
    go_roundw
    case measure => simp [intOf]; omega
    case rel => exact ⟨k + 1, by omega, by rw [HT.out], by go_num, by rw [upto32_succ]; exact HJ3.out, hk3.1 _ hd1, hk3.2 _ hd2⟩
   ·have HJ3 := Lib.hid hJx3
    clear hJx3
    gi_wp2
    refine bodyPost_ret (results_none rfl _ _ _) rfl ?_
    exact ⟨⟨_, rfl⟩, .inr ⟨_, ⟨k + 1, by omega, (upto32_succ _ _ _).symm⟩, HJ3.out⟩⟩
  ·obtain rfl : k = 255 := by omega
   gi_wp2
   go_end0
   exact ⟨⟨_, rfl⟩, .inl ⟨_, rfl, hJs⟩⟩
theorem rows_stops (n : Nat) (hn : 1 ≤ n) (B1 B2 : Nat) (key label : List UInt8) (hk : key.length ≤ 1099511627776) (hl : label.length ≤ 1099511620000) (w : World) (hB1 : B1 < w.heap.size) (hB2 : B2 < w.heap.size)
  (h1 : w.cell? ⟨B1, 0, none⟩ = some (.string (bs key))) (h2 : w.cell? ⟨B2, 0, none⟩ = some (.string (bs label))) :
  SeqStopsK Fence.wide n Tryz.prog 122 #[.pointer (some ⟨B1, 0, none⟩), .pointer (some ⟨B2, 0, none⟩)] (fun x : T32 => #[Value.string (bs x.1)]) (KeepsTwo B1 B2) (fun xs => xs = upto32 key label 255) (fun pre => ∃ k, k ≤ 255 ∧ pre = upto32 key label k) 255 w := fun l J Jx W hW hJ _ hY h0 =>
 rows1_in n hn l B1 B2 key label hk hl J Jx W hJ hY ((hW.cell (p := ⟨B1, 0, none⟩) hB1).trans h1) ((hW.cell (p := ⟨B2, 0, none⟩) hB2).trans h2) h0
set_option maxRecDepth 100000 in
theorem rows_any (key label : List UInt8) (w : World) :
  Calls Tryz.prog 109 #[.string (bs key), .string (bs label)] w fun e w' => e = .returned (.func (.func 122) #[] #[.pointer (some ⟨w.heap.size, 0, none⟩), .pointer (some ⟨w.heap.size + 1, 0, none⟩)]) ∧ w' = (w.alloc (.cells #[.string (bs key)] 9)).alloc (.cells #[.string (bs label)] 9) := by
 go_enter Tryz.func109, Tryz.ntmps109
 go_wp2
 go_returns
 exact ⟨rfl, rfl⟩
theorem derive_end (key label : List UInt8) (n : Nat) (w W : World) (D : Nat) (d : List UInt8) (hr : d.take n = derL key label n) (tmps : Array Value) (h6 : tmps.getD 6 undef = .pointer (some ⟨w.heap.size + 1, 0, none⟩)) (h7 : tmps.getD 7 undef = .bool true)
  (hf : (W.setCell ⟨w.heap.size + 1, 0, none⟩ (.string (bs (d.take n)))).heap[w.heap.size + 1]? = some (.cells (#[Value.string (bs d)].setIfInBounds 0 (.string (bs (d.take n)))) 9 (0, 0))) (hb : Below w.heap.size w (W.setCell ⟨w.heap.size + 1, 0, none⟩ (.string (bs (d.take n))))) (hD : w.heap.size + 1 < D) (_hDl : D < (W.setCell ⟨w.heap.size + 1, 0, none⟩ (.string (bs (d.take n)))).heap.size)
  (hK : (W.setCell ⟨w.heap.size + 1, 0, none⟩ (.string (bs (d.take n)))).heap[D]? = some (.deferred (some []))) :
  LeavesInM Fence.wide 3 Tryz.prog Tryz.f85 tmps (fun e w' => e = Ending.returned (Value.tuple #[Value.string (bs (derL key label n)), Value.bool true]) ∧ Ext w w') [] FrameMode.returning ((W.setCell ⟨w.heap.size + 1, 0, none⟩ (.string (bs (d.take n)))).putObj D (Obj.deferred none)) := by
 have hc : ((W.setCell ⟨w.heap.size + 1, 0, none⟩ (.string (bs (d.take n)))).putObj D (Obj.deferred none)).cell? ⟨w.heap.size + 1, 0, none⟩ = some (.string (bs (d.take n))) :=
  (World.cell?_of_block (World.putObj_heap_other (by show w.heap.size + 1 ≠ D; omega))).trans (cell_blk hf rfl)
 refine ⟨.tuple #[.string (bs (d.take n)), .bool true], ?_, by rw [hr], hb.trans (belowK_b (w := w) (Nat.le_refl _) _ D _ _ (by omega) hK rfl rfl)⟩
 rw [results_cell_tmp rfl, h6, h7]
 simp [go_sem, hc]
set_option maxRecDepth 100000 in
set_option maxHeartbeats 2000000 in
theorem derive_yes (key label : List UInt8) (n : Nat) (w : World) (hk : key.length ≤ 1099511627776) (hl : label.length ≤ 1099511620000) (hn1 : 1 ≤ n) (hn2 : n ≤ 8160) :
  Calls Tryz.prog 85 #[.string (bs key), .string (bs label), .int .i64 (n : Int)] w fun e w' => e = .returned (.tuple #[.string (bs (derL key label n)), .bool true]) ∧ Ext w w' := by
 refine (callsIn_wide (n := 3)).1 ?_
 refine callsIn_of_wp_marks Tryz.func85 rfl trivial ?_ rfl
 simp only [Tryz.ntmps85, List.size_toArray, List.length_cons, List.length_nil, Nat.reduceAdd, Nat.reduceSub, Array.replicate_succ, Array.replicate_zero, List.push_toArray, List.append_toArray, List.nil_append, List.cons_append]
 gi_wp2_with (refine ⟨trivial, ?_⟩; gi_at_call 109; refine (callsIn_wide.2 (rows_any key label _)).mono ?_; rintro e w1 ⟨rfl, rfl⟩)
 obtain ⟨W0, hW0⟩ : ∃ W0, (((w.alloc (.cells #[.int .i64 (n : Int)] 3)).alloc (.cells #[.string { data := #[] }] 9)).alloc (.cells #[.string (bs key)] 9)).alloc (.cells #[.string (bs label)] 9) = W0 := ⟨_, rfl⟩
 have hsz : W0.heap.size = w.heap.size + 4 := by rw [← hW0]; simp
 have k0 : W0.heap[w.heap.size]? = some (.cells #[.int .i64 (n : Int)] 3) := by rw [← hW0]; exact heap_alloc_old _ _ (heap_alloc_old _ _ (heap_alloc_old _ _ (heap_alloc_new _ _)))
 have k1 : W0.heap[w.heap.size + 1]? = some (.cells #[.string (bs [])] 9) := by rw [← hW0]; exact heap_alloc_old _ _ (heap_alloc_old _ _ (heap_alloc2 _ _ _))
 have k2 : W0.cell? ⟨w.heap.size + 2, 0, none⟩ = some (.string (bs key)) := by
  rw [← hW0]
  have := heap_alloc_old _ (.cells #[.string (bs label)] 9) (heap_alloc_new ((w.alloc (.cells #[.int .i64 (n : Int)] 3)).alloc (.cells #[.string { data := #[] }] 9)) (.cells #[.string (bs key)] 9))
  rw [World.size_alloc, World.size_alloc] at this
  exact cell_blk this rfl
 have k3 : W0.cell? ⟨w.heap.size + 3, 0, none⟩ = some (.string (bs label)) := by
  rw [← hW0]
  have := heap_alloc_new (((w.alloc (.cells #[.int .i64 (n : Int)] 3)).alloc (.cells #[.string { data := #[] }] 9)).alloc (.cells #[.string (bs key)] 9)) (.cells #[.string (bs label)] 9)
  rw [World.size_alloc, World.size_alloc, World.size_alloc] at this
  exact cell_blk this rfl
 have kx : Ext w W0 := by rw [← hW0]; exact ((((Ext.refl w).alloc _).alloc _).alloc _).alloc _
 rw [hW0]
 clear hW0
 have own : ∀ (A B : World) (row : Option Nat) (b : Nat) (o : Obj), A.heap[b]? = some o → b < W0.heap.size → A.grownBy B row → (∀ r, row = some r → W0.heap.size ≤ r) → B.heap[b]? = some o := fun A B row b o h hb hg hr =>
  (hg.block b (blk_lt h) (fun e => by have := hr b e.symm; omega)).trans h
 refine wpIn_rangeFunc_ownF (α := T32) (a₁ := ?a1) rfl (by omega) (gf := 122) (lb := #[.pointer (some ⟨w.heap.size + 2, 0, none⟩), .pointer (some ⟨w.heap.size + 3, 0, none⟩)]) rfl trivial (enters_of Tryz.func122 (by kernel_rfl) rfl)
  (rows_stops _ (by omega) (w.heap.size + 2) (w.heap.size + 3) key label hk hl W0 (by omega) (by omega) k2 k3) KeepsTwo.t ?kb (Below.refl _ _) (fun _ => rfl)
  (fun pre W => W.heap[w.heap.size]? = some (.cells #[.int .i64 (n : Int)] 3) ∧ W.heap[w.heap.size + 1]? = some (.cells #[.string (bs (flat32 pre))] 9) ∧ Below w.heap.size w W)
  (fun c pre W => c = .exit 0 ∧ n ≤ 32 * pre.length ∧ W.heap[w.heap.size]? = some (.cells #[.int .i64 (n : Int)] 3) ∧ W.heap[w.heap.size + 1]? = some (.cells #[.string (bs (flat32 pre))] 9) ∧ Below w.heap.size w W)
  ?hI ?hIx ⟨k0, k1, kx⟩ ?assign ?body ?done ?stop
 case kb =>
  intro W l o o' hl _ _ _
  have : ∀ b, b < l → (W.putObj l o').cell? ⟨b, 0, none⟩ = W.cell? ⟨b, 0, none⟩ := fun b hb => World.cell?_of_block (World.putObj_heap_other (by show b ≠ l; omega))
  exact ⟨fun v hv => (this _ (by omega)).trans hv, fun v hv => (this _ (by omega)).trans hv⟩
 case hI =>
  rintro s A B row ⟨h1, h2, h3⟩ hg hr
  exact ⟨own A B row _ _ h1 (by omega) hg (fun r e => (hr r e).1), own A B row _ _ h2 (by omega) hg (fun r e => (hr r e).1), h3.grown hg (Nat.le_of_lt (blk_lt h1)) (fun r e => by have := (hr r e).1; omega)⟩
 case hIx =>
  rintro c s A B row ⟨h0, h00, h1, h2, h3⟩ hg hr
  exact ⟨h0, h00, own A B row _ _ h1 (by omega) hg (fun r e => (hr r e).1), own A B row _ _ h2 (by omega) hg (fun r e => (hr r e).1), h3.grown hg (Nat.le_of_lt (blk_lt h1)) (fun r e => by have := (hr r e).1; omega)⟩
 case assign =>
  intro l x W K hK
  gi_wp2
  exact hK
 case body =>
  rintro l pre x W ⟨hc, hf, hb⟩ hlen
  have hfl := flat32_length pre
  obtain ⟨y, hy⟩ := x
  have c0 : W.cell? ⟨w.heap.size, 0, none⟩ = some (.int .i64 (n : Int)) := cell_blk hc rfl
  have c1 : W.cell? ⟨w.heap.size + 1, 0, none⟩ = some (.string (bs (flat32 pre))) := cell_blk hf rfl
  have f1 : W.frozen? ⟨w.heap.size + 1, 0, none⟩ = false := frozen_blk hf
  have HF := Lib.hid (fun v => heap_setCell_same (i := 0) v hf)
  have HC := Lib.hid (fun v => (heap_setCell_other W ⟨w.heap.size + 1, 0, none⟩ v (k := w.heap.size) (by show w.heap.size ≠ w.heap.size + 1; omega)).trans hc)
  have HB := Lib.hid (fun v => hb.setCell (p := ⟨w.heap.size + 1, 0, none⟩) (by show w.heap.size ≤ w.heap.size + 1; omega) v)
  have HK : Hid (∀ v, KeepsTwo (w.heap.size + 2) (w.heap.size + 3) W (W.setCell ⟨w.heap.size + 1, 0, none⟩ v)) := Lib.hid fun v => ⟨fun u hu => (World.cell?_of_block (heap_setCell_other _ _ _ (by show w.heap.size + 2 ≠ w.heap.size + 1; omega))).trans hu, fun u hu => (World.cell?_of_block (heap_setCell_other _ _ _ (by show w.heap.size + 3 ≠ w.heap.size + 1; omega))).trans hu⟩
  have HS : Hid (flat32 (pre ++ [⟨y, hy⟩]) = flat32 pre ++ y) := Lib.hid (flat32_snoc _ _)
  clear hc hf hb
  have hlen' : pre.length < 255 := hlen
  clear hlen
  by_cases hbr : n ≤ 32 * (pre.length + 1)
  ·generalize flat32 pre = t at *
   gi_wp2
   exact ⟨KeepsOthers.setCell _ _ _, rfl, by rw [List.length_append]; exact hbr, HC.out _, by rw [HS.out]; exact HF.out _, HB.out _⟩
  ·generalize flat32 pre = t at *
   gi_wp2
   exact ⟨KeepsOthers.setCell _ _ _, HK.out _, HC.out _, by rw [HS.out]; exact HF.out _, HB.out _⟩
 case done =>
  rintro D xs W hD rfl ⟨hc, hf, hb⟩ hK
  rw [flat_upto] at hf
  have hdl := derN_length key label 255
  have hres := derL_of key label n 255 (by omega) (by omega)
  have HR := Lib.hid hres
  clear hres
  generalize derN key label 255 = d at *
  have c0 : W.cell? ⟨w.heap.size, 0, none⟩ = some (.int .i64 (n : Int)) := cell_blk hc rfl
  have c1 : W.cell? ⟨w.heap.size + 1, 0, none⟩ = some (.string (bs d)) := cell_blk hf rfl
  have f1 : W.frozen? ⟨w.heap.size + 1, 0, none⟩ = false := frozen_blk hf
  have HK := Lib.hid ((heap_setCell_other W ⟨w.heap.size + 1, 0, none⟩ (.string (bs (d.take n))) (k := D) (by show D ≠ w.heap.size + 1; omega)).trans hK)
  have HF := Lib.hid (heap_setCell_same (i := 0) (.string (bs (d.take n))) hf)
  have HB := Lib.hid (hb.setCell (p := ⟨w.heap.size + 1, 0, none⟩) (by show w.heap.size ≤ w.heap.size + 1; omega) (.string (bs (d.take n))))
  clear hK hf hb hc
  gi_wp2
  refine ⟨by simp, .inl ⟨_, _, rfl, run_takeDeferred HK.out, ?_⟩⟩
  exact derive_end key label n w W D _ HR.out _ rfl rfl HF.out HB.out (by omega) (blk_lt HK.out) HK.out
 case stop =>
  rintro D c pre W hD ⟨k, hk255, rfl⟩ ⟨rfl, hle, hc, hf, hb⟩ hK
  rw [upto32_length] at hle
  rw [flat_upto] at hf
  have hdl := derN_length key label k
  have hres := derL_of key label n k hle hk255
  have HR := Lib.hid hres
  clear hres
  generalize derN key label k = d at *
  have c0 : W.cell? ⟨w.heap.size, 0, none⟩ = some (.int .i64 (n : Int)) := cell_blk hc rfl
  have c1 : W.cell? ⟨w.heap.size + 1, 0, none⟩ = some (.string (bs d)) := cell_blk hf rfl
  have f1 : W.frozen? ⟨w.heap.size + 1, 0, none⟩ = false := frozen_blk hf
  have HK := Lib.hid ((heap_setCell_other W ⟨w.heap.size + 1, 0, none⟩ (.string (bs (d.take n))) (k := D) (by show D ≠ w.heap.size + 1; omega)).trans hK)
  have HF := Lib.hid (heap_setCell_same (i := 0) (.string (bs (d.take n))) hf)
  have HB := Lib.hid (hb.setCell (p := ⟨w.heap.size + 1, 0, none⟩) (by show w.heap.size ≤ w.heap.size + 1; omega) (.string (bs (d.take n))))
  clear hK hf hb hc
  gi_wp2
  refine ⟨by simp, .inl ⟨_, _, rfl, run_takeDeferred HK.out, ?_⟩⟩
  exact derive_end key label n w W D _ HR.out _ rfl rfl HF.out HB.out (by omega) (blk_lt HK.out) HK.out
end Go.Proofs.YtclekllaikcglaaGreat
