import Derived.Test.YtclekllaikcglaaGreatGatherE
import Derived.Test.YtclekllaikcglaaGreatRefRingB
import Derived.Test.YtclekllaikcglaaGreatRefRingC
import Derived.Test.YtclekllaikcglaaGreatSeal
import Derived.Test.YtclekllaikcglaaGreatBarB

/- Layer 15: the document's barrier as it lies in memory; what it is asked when it is open or not. -/
namespace Go.Proofs.YtclekllaikcglaaGreat
open Go Go.RowKit
def refTy : Obj → Bool
 | .cells _ T _ => T == 63 || T == 91 || T == 93 || T == 119
 | _ => false
def KeepsN (ty : Obj → Bool) (W W' : World) : Prop := ∀ (k : Nat) (o : Obj), W.heap[k]? = some o → ty o = false → W'.heap[k]? = some o
theorem keepsN_ext {ty : Obj → Bool} {W W' : World} (h : Ext W W') : KeepsN ty W W' := fun _ _ hk _ => h.keep hk
theorem KeepsN.trans {ty : Obj → Bool} {a b c : World} (h : KeepsN ty a b) (k : KeepsN ty b c) : KeepsN ty a c := fun i o hi ho => k i o (h i o hi ho) ho
theorem keepsN_set {ty : Obj → Bool} {W : World} {r i : Nat} {o : Obj} {v : Value} (h : W.heap[r]? = some o) (ht : ty o = true) : KeepsN ty W (W.setCell ⟨r, i, none⟩ v) := fun k o' hk ho => by
 rw [heap_setCell_other]
 ·exact hk
 ·rintro (rfl : k = r)
  rw [h] at hk; injection hk with hk; subst hk; rw [ht] at ho; cases ho
structure Fr (B : Nat) (W W' : World) : Prop where
 below : Below B W W'
 keeps : KeepsN refTy W W'
theorem Fr.refl (B : Nat) (W : World) : Fr B W W := ⟨Below.refl _ _, fun _ _ h _ => h⟩
theorem Fr.of {B : Nat} {W W' : World} (h : Ext W W') (hB : B ≤ W.heap.size) : Fr B W W' := ⟨h.mono hB, keepsN_ext h⟩
theorem Fr.trans {B : Nat} {a b c : World} (h : Fr B a b) (k : Fr B b c) : Fr B a c := ⟨Below.trans h.below k.below, h.keeps.trans k.keeps⟩
theorem Fr.set {B : Nat} {W : World} {r i : Nat} {o : Obj} {v : Value} (hB : B ≤ r) (h : W.heap[r]? = some o) (ht : refTy o = true) : Fr B W (W.setCell ⟨r, i, none⟩ v) := ⟨Below.setCell (Below.refl _ _) hB _, keepsN_set h ht⟩
theorem Fr.doc {B d : Nat} {W W' : World} {E : Eps} (h : DocAt W B d E) (hb : Below B W W') (hk : KeepsD d W W') : Fr B W W' := by
 refine ⟨hb, fun k o hk1 ho => hk k o hk1 ?_ ?_⟩
 ·rintro rfl
  obtain ⟨v, hd, _⟩ := h
  rw [hd] at hk1; injection hk1 with hk1; subst hk1; simp [refTy] at ho
 ·rintro cs fz rfl
  simp [refTy] at ho
theorem Fr.gath {B r : Nat} {W W' : World} {o : Obj} (h : W.heap[r]? = some o) (ht : refTy o = true) (hb : Below B W W') (hk : KeepsG r W W') : Fr B W W' := by
 refine ⟨hb, fun k o' hk1 ho => hk k o' hk1 ?_ ?_⟩
 ·rintro rfl
  rw [h] at hk1; injection hk1 with hk1; subst hk1; rw [ht] at ho; cases ho
 ·rintro cs fz rfl
  simp [refTy] at ho
def rbo (st : Nat) (hd root : List UInt8) (rp : Option Addr) (gv : Value) : Obj := .cells #[.int .u8 (st : Int), .string (bs hd), .string (bs root), .pointer rp, gv] 63
theorem rbo_ty (st : Nat) (hd root : List UInt8) (rp : Option Addr) (gv : Value) : refTy (rbo st hd root rp gv) = true := by simp [refTy, rbo]
structure RO (B r d : Nat) (gv : Value) (hd root : List UInt8) (E : Eps) (gs : GS) (W : World) : Prop where
 blk : W.heap[r]? = some (rbo 2 hd root (some ⟨d, 0, none⟩) gv)
 lo : B ≤ r
 doc : DocAt W B d E
 own : W.ownsRow B 119 3 gv gs.length (gvals gs)
structure RC (B r st : Nat) (gv : Value) (hd : List UInt8) (gs : GS) (W : World) : Prop where
 blk : W.heap[r]? = some (rbo st hd [] none gv)
 lo : B ≤ r
 own : W.ownsRow B 119 3 gv gs.length (gvals gs)
section
variable {W W' : World} {B r d st : Nat} {gv : Value} {hd root : List UInt8} {E : Eps} {gs : GS}
theorem RO.ext (h : RO B r d gv hd root E gs W) (hx : Ext W W') : RO B r d gv hd root E gs W' := ⟨hx.keep h.blk, h.lo, h.doc.ext hx, ownsRow_ext h.own hx⟩
theorem RC.ext (h : RC B r st gv hd gs W) (hx : Ext W W') : RC B r st gv hd gs W' := ⟨hx.keep h.blk, h.lo, ownsRow_ext h.own hx⟩
theorem RO.size (h : RO B r d gv hd root E gs W) : B ≤ W.heap.size := by have := blk_lt h.blk; have := h.lo; omega
theorem RC.size (h : RC B r st gv hd gs W) : B ≤ W.heap.size := by have := blk_lt h.blk; have := h.lo; omega
theorem rb_c {rp : Option Addr} (h : W.heap[r]? = some (rbo st hd root rp gv)) : W.cell? ⟨r, 0, none⟩ = some (.int .u8 (st : Int)) ∧ W.cell? ⟨r, 1, none⟩ = some (.string (bs hd)) ∧ W.cell? ⟨r, 2, none⟩ = some (.string (bs root)) ∧ W.cell? ⟨r, 3, none⟩ = some (.pointer rp) ∧ W.cell? ⟨r, 4, none⟩ = some gv ∧ ∀ i, W.frozen? ⟨r, i, none⟩ = false :=
 ⟨cell_blk h rfl, cell_blk h rfl, cell_blk h rfl, cell_blk h rfl, cell_blk h rfl, fun _ => frozen_blk h⟩
theorem rb0 {rp : Option Addr} (h : W.heap[r]? = some (rbo st hd root rp gv)) (st' : Nat) : (W.setCell ⟨r, 0, none⟩ (.int .u8 (st' : Int))).heap[r]? = some (rbo st' hd root rp gv) := heap_setCell_same (i := 0) _ h
theorem rb1 {rp : Option Addr} (h : W.heap[r]? = some (rbo st hd root rp gv)) (hd' : List UInt8) : (W.setCell ⟨r, 1, none⟩ (.string (bs hd'))).heap[r]? = some (rbo st hd' root rp gv) := heap_setCell_same (i := 1) _ h
theorem rb2 {rp : Option Addr} (h : W.heap[r]? = some (rbo st hd root rp gv)) (root' : List UInt8) : (W.setCell ⟨r, 2, none⟩ (.string (bs root'))).heap[r]? = some (rbo st hd root' rp gv) := heap_setCell_same (i := 2) _ h
theorem rb3 {rp : Option Addr} (h : W.heap[r]? = some (rbo st hd root rp gv)) (rp' : Option Addr) : (W.setCell ⟨r, 3, none⟩ (.pointer rp')).heap[r]? = some (rbo st hd root rp' gv) := heap_setCell_same (i := 3) _ h
theorem rb4 {rp : Option Addr} (h : W.heap[r]? = some (rbo st hd root rp gv)) (gv' : Value) : (W.setCell ⟨r, 4, none⟩ gv').heap[r]? = some (rbo st hd root rp gv') := heap_setCell_same (i := 4) _ h
theorem own_cell {rp : Option Addr} {i : Nat} {v : Value} (h : W.heap[r]? = some (rbo st hd root rp gv)) {u : Value} {n size : Nat} {xs : List Value} {e : TypeId} (ho : W.ownsRow B e size u n xs) (hT : e ≠ 63) : (W.setCell ⟨r, i, none⟩ v).ownsRow B e size u n xs :=
 own_keep ho (fun k hk => heap_setCell_other _ _ _ (fun e => own_other ho h hT (by rw [hk, e])))
theorem doc_cell {rp : Option Addr} {i : Nat} {v : Value} (h : W.heap[r]? = some (rbo st hd root rp gv)) (hd2 : DocAt W B d E) : DocAt (W.setCell ⟨r, i, none⟩ v) B d E := by
 obtain ⟨u, h1, h2, h3⟩ := hd2
 refine ⟨u, (heap_setCell_other _ _ _ ?_).trans h1, h2, own_cell h h3 (by decide)⟩
 rintro (rfl : d = r)
 rw [h] at h1
 cases h1
theorem RO.ring {E' : Eps} (h : RO B r d gv hd root E gs W) (hk : KeepsD d W W') (hd2 : DocAt W' B d E') : RO B r d gv hd root E' gs W' := by
 refine ⟨hk r _ h.blk ?_ ?_, h.lo, hd2, ?_⟩
 ·rintro rfl
  obtain ⟨v, h1, _⟩ := h.doc
  rw [h.blk] at h1; cases h1
 ·intro cs fz e; cases e
 ·refine own_keep h.own (fun k hk2 => ?_)
  rcases h.own.2 with ⟨hv, _⟩ | ⟨g, _, cur, hv, _, hh, _⟩
  ·rw [hv] at hk2; simp [Value.ownBlock] at hk2
  ·rw [hv] at hk2
   simp only [Value.ownBlock, Option.some.injEq] at hk2
   subst hk2
   rw [hh]
   refine hk _ _ hh ?_ ?_
   ·rintro rfl
    obtain ⟨v, h1, _⟩ := h.doc
    rw [hh] at h1; cases h1
   ·intro cs fz e; cases e
end
theorem seal_any (E : Eps) (n : Nat) (hI : RI E n) : ∃ E0 k0, E = E0 ++ [(n, k0)] ∧ E0.length ≤ 63 ∧ lookE E n = some k0 ∧ k0.length = 32 := by
 obtain ⟨E0, k0, rfl⟩ := hI.last
 have hl := hI.len
 rw [List.length_append] at hl
 obtain ⟨s, h1, h2⟩ := hI.look
 refine ⟨E0, k0, rfl, by simp at hl; omega, ?_, hI.key (n, k0) (by simp)⟩
 have := hI.asc
 have hn : lookE E0 n = none := lookE_not (fun p hp => by
  unfold AscE at this
  rw [List.pairwise_append] at this
  have := this.2.2 p hp (n, k0) (by simp)
  dsimp only at this; omega)
 rw [lookE_right hn]
 simp [lookE]
set_option maxRecDepth 100000 in
theorem ref_may {W : World} {r st : Nat} {hd root : List UInt8} {rp : Option Addr} {gv : Value} (h : W.heap[r]? = some (rbo st hd root rp gv)) :
  Calls Tryz.prog 80 #[.pointer (some ⟨r, 0, none⟩)] W fun e w' => e = .returned (.int .i64 (if st = 0 then 151 else if st = 1 then 150 else 0)) ∧ W = w' := by
 obtain ⟨c0, _, _, _, _, _⟩ := rb_c h
 clear h
 by_cases h0 : st = 0
 ·rw [if_pos h0]
  have hne : ((st : Int) == 0) = true := by simp; omega
  clear h0
  go_enter Tryz.func80, Tryz.ntmps80
  go_wp2
  go_returns
  exact ⟨rfl, rfl⟩
 ·rw [if_neg h0]
  have hne : ((st : Int) == 0) = false := by simp; omega
  by_cases h1 : st = 1
  ·rw [if_pos h1]
   have hn1 : ((st : Int) == 1) = true := by simp; omega
   clear h0 h1
   go_enter Tryz.func80, Tryz.ntmps80
   go_wp2
   go_returns
   exact ⟨rfl, rfl⟩
  ·rw [if_neg h1]
   have hn1 : ((st : Int) == 1) = false := by simp; omega
   clear h0 h1
   go_enter Tryz.func80, Tryz.ntmps80
   go_wp2
   go_returns
   exact ⟨rfl, rfl⟩
set_option maxRecDepth 100000 in
set_option maxHeartbeats 4000000 in
theorem ref_header (W : World) (B d nb : Nat) (E : Eps) (n : Nat) (root nonce : List UInt8) (h : DocAt W B d E) (hI : RI E n) (hn : n < 4294967296) (hr : root.length = 32) (hno : nonce.length = 12) (hnb : nb < 256) :
  Calls Tryz.prog 82 #[.int .i64 (nb : Int), .string (bs root), .string (bs nonce), .pointer (some ⟨d, 0, none⟩)] W fun e w' => e = .returned (.string (bs (hdL root nb nonce E))) ∧ Ext W w' := by
 obtain ⟨y, rfl⟩ : ∃ y : UInt8, nb = y.toNat := ⟨b8 nb, (b8_toNat nb hnb).symm⟩
 have hy : b8 y.toNat = y := by unfold b8; simp
 have GN := Lib.hid (fun W => ref_ring_New root W)
 have GB := Lib.hid (fun W' (hx : Ext W W') => ref_ring_Bytes B d E n W' (h.ext hx) hI hn)
 have hbl : (bytesE E).length ≤ 1048576 := by rw [bytesE_length E hI.key]; have := hI.len; omega
 have HH : Hid (hdL root y.toNat nonce E = b8 y.toNat :: (envL root 1 nonce (bytesE E) ++ tagL root lblB y.toNat (envL root 1 nonce (bytesE E)))) := Lib.hid rfl
 have GC : Hid (∀ (B e : Nat) W, DocAt W B e [(1, root)] → Calls Tryz.prog 84 #[.pointer (some ⟨e, 0, none⟩), .string { data := #[98, 97, 114, 114, 105, 101, 114] }, .int .u64 (y.toNat : Int), .string (bs nonce), .string (bs (bytesE E))] W fun e w' => e = .returned (.tuple #[.string (bs (envL root 1 nonce (bytesE E) ++ tagL root lblB y.toNat (envL root 1 nonce (bytesE E)))), .int .i64 0]) ∧ Ext W w') :=
  Lib.hid (fun B e W h => refClose_yes B e [] 1 root lblB nonce (bytesE E) y.toNat W h (by simp) (by omega) (by simp [lookE]) (by omega) (by have := y.toNat_lt; unfold U64; omega) hno (by decide) hbl)
 have hsl : (envL root 1 nonce (bytesE E) ++ tagL root lblB y.toNat (envL root 1 nonce (bytesE E))).length ≤ 2000000 := by
  rw [List.length_append, envL_length _ _ _ _ hno, tagL_length]; omega
 generalize envL root 1 nonce (bytesE E) ++ tagL root lblB y.toNat (envL root 1 nonce (bytesE E)) = S at *
 generalize hdL root y.toNat nonce E = hd' at *
 generalize bytesE E = BY at *
 have hw64 : IntKind.u64.wrap (y.toNat : Int) = (y.toNat : Int) := by have := y.toNat_lt; rw [IntKind.wrap_u64]; omega
 have hw8 : IntKind.u8.wrap (y.toNat : Int) = (y.toNat : Int) := by have := y.toNat_lt; rw [IntKind.wrap_u8]; omega
 rw [hy] at HH
 have ks := one_str y
 have hsl2 : ¬ 9223372036854775807 < 1 + S.length := by omega
 clear h hI hn hr hno hbl hnb hy hsl
 go_enter Tryz.func82, Tryz.ntmps82
 go_wp2_with (first
  | (go_at_call 78; (with_reducible refine (GN.out _).mono ?_); rintro e w1 ⟨e1, rfl, h1, hx1⟩; have HD := Lib.hid h1; have HX := Lib.hid hx1; clear h1 hx1)
  | (go_at_call 106; (with_reducible refine (GB.out _ HX.out).mono ?_); rintro e w2 ⟨rfl, hx2⟩; have h1 := HD.out.ext hx2; have h2 := HX.out.trans hx2; clear HD HX hx2; have HD := Lib.hid h1; have HX := Lib.hid h2; clear h1 h2)
  | (go_at_call 84; (with_reducible refine (GC.out _ _ _ HD.out).mono ?_); rintro e w3 ⟨rfl, hx2⟩; have h2 := HX.out.trans hx2; clear HX hx2; have HX := Lib.hid h2; clear h2))
 go_returns
 rw [HH.out]
 exact ⟨rfl, HX.out.alloc _⟩
end Go.Proofs.YtclekllaikcglaaGreat

/- Layer 15: the document's barrier: Seal, Put, Get, Load, Rotate, Retire. -/
namespace Go.Proofs.YtclekllaikcglaaGreat
open Go Go.RowKit
set_option maxRecDepth 100000 in
theorem ref_Seal (W : World) (B r d : Nat) (gv : Value) (hd root : List UInt8) (E : Eps) (gs : GS) (h : RO B r d gv hd root E gs W) :
  Calls Tryz.prog 50 #[.pointer (some ⟨r, 0, none⟩)] W fun e w' => e = .returned (.int .i64 0) ∧ RC B r 1 gv hd gs w' ∧ Fr B W w' := by
 obtain ⟨c0, c1, c2, c3, c4, hf⟩ := rb_c h.blk
 have H := Lib.hid h
 have hf0 := hf 0
 have hf2 := hf 2
 have hf3 := hf 3
 clear h hf
 go_enter Tryz.func50, Tryz.ntmps50
 go_wp2
 go_returns
 have h1 := rb0 H.out.blk 1
 have h2 := rb2 h1 []
 have h3 := rb3 h2 none
 refine ⟨rfl, ⟨h3, H.out.lo, own_cell h2 (own_cell h1 (own_cell H.out.blk H.out.own (by decide)) (by decide)) (by decide)⟩, ((Fr.set H.out.lo H.out.blk (rbo_ty _ _ _ _ _)).trans (Fr.set H.out.lo h1 (rbo_ty _ _ _ _ _))).trans (Fr.set H.out.lo h2 (rbo_ty _ _ _ _ _))⟩
set_option maxRecDepth 100000 in
theorem ref_Seal_st {W : World} {r st : Nat} {hd root : List UInt8} {rp : Option Addr} {gv : Value} (h : W.heap[r]? = some (rbo st hd root rp gv)) (hst : st ≠ 2) :
  Calls Tryz.prog 50 #[.pointer (some ⟨r, 0, none⟩)] W fun e w' => e = .returned (.int .i64 151) ∧ W = w' := by
 obtain ⟨c0, _, _, _, _, _⟩ := rb_c h
 have hne : ((st : Int) != 2) = true := by simp; omega
 clear h hst
 go_enter Tryz.func50, Tryz.ntmps50
 go_wp2
 go_returns
 exact ⟨rfl, rfl⟩
set_option maxRecDepth 100000 in
theorem ref_Rotate_st {W : World} {r st : Nat} {hd root : List UInt8} {rp : Option Addr} {gv : Value} (key nonce : List UInt8) (h : W.heap[r]? = some (rbo st hd root rp gv)) (hst : st = 0 ∨ st = 1) :
  Calls Tryz.prog 52 #[.pointer (some ⟨r, 0, none⟩), .string (bs key), .string (bs nonce)] W fun e w' => e = .returned (.tuple #[.int .u32 0, .int .i64 (if st = 1 then 150 else 151)]) ∧ W = w' := by
 have g := ref_may h
 obtain ⟨v, hv, hv0⟩ : ∃ v : Int, (if st = 0 then (151 : Int) else if st = 1 then 150 else 0) = v ∧ v ≠ 0 ∧ (if st = 1 then (150 : Int) else 151) = v := ⟨_, rfl, by rcases hst with rfl | rfl <;> simp, by rcases hst with rfl | rfl <;> simp⟩
 rw [hv] at g
 rw [hv0.2]
 have GM := Lib.hid g
 have hv1 : (v != 0) = true := by simpa using hv0.1
 clear h g hv hv0 hst
 go_enter Tryz.func52, Tryz.ntmps52
 go_wp2_with (go_at_call 80; (with_reducible refine GM.out.mono ?_); rintro e w' ⟨rfl, rfl⟩)
 go_returns
 exact ⟨rfl, rfl⟩
set_option maxRecDepth 100000 in
theorem ref_Retire_st {W : World} {r st : Nat} {hd root : List UInt8} {rp : Option Addr} {gv : Value} (ep : Nat) (nonce : List UInt8) (h : W.heap[r]? = some (rbo st hd root rp gv)) (hst : st = 0 ∨ st = 1) :
  Calls Tryz.prog 53 #[.pointer (some ⟨r, 0, none⟩), .int .u32 (ep : Int), .string (bs nonce)] W fun e w' => e = .returned (.int .i64 (if st = 1 then 150 else 151)) ∧ W = w' := by
 have g := ref_may h
 obtain ⟨v, hv, hv0⟩ : ∃ v : Int, (if st = 0 then (151 : Int) else if st = 1 then 150 else 0) = v ∧ v ≠ 0 ∧ (if st = 1 then (150 : Int) else 151) = v := ⟨_, rfl, by rcases hst with rfl | rfl <;> simp, by rcases hst with rfl | rfl <;> simp⟩
 rw [hv] at g
 rw [hv0.2]
 have GM := Lib.hid g
 have hv1 : (v != 0) = true := by simpa using hv0.1
 clear h g hv hv0 hst
 go_enter Tryz.func53, Tryz.ntmps53
 go_wp2_with (go_at_call 80; (with_reducible refine GM.out.mono ?_); rintro e w' ⟨rfl, rfl⟩)
 go_returns
 exact ⟨rfl, rfl⟩
set_option maxRecDepth 100000 in
theorem ref_Put_st {W : World} {r st : Nat} {hd root : List UInt8} {rp : Option Addr} {gv : Value} (path nonce text : List UInt8) (ver : Nat) (h : W.heap[r]? = some (rbo st hd root rp gv)) (hst : st = 0 ∨ st = 1) :
  Calls Tryz.prog 54 #[.pointer (some ⟨r, 0, none⟩), .string (bs path), .int .u64 (ver : Int), .string (bs nonce), .string (bs text)] W fun e w' => e = .returned (.tuple #[.string { data := #[] }, .int .i64 (if st = 1 then 150 else 151)]) ∧ W = w' := by
 have g := ref_may h
 obtain ⟨v, hv, hv0⟩ : ∃ v : Int, (if st = 0 then (151 : Int) else if st = 1 then 150 else 0) = v ∧ v ≠ 0 ∧ (if st = 1 then (150 : Int) else 151) = v := ⟨_, rfl, by rcases hst with rfl | rfl <;> simp, by rcases hst with rfl | rfl <;> simp⟩
 rw [hv] at g
 rw [hv0.2]
 have GM := Lib.hid g
 have hv1 : (v != 0) = true := by simpa using hv0.1
 clear h g hv hv0 hst
 go_enter Tryz.func54, Tryz.ntmps54
 go_wp2_with (go_at_call 80; (with_reducible refine GM.out.mono ?_); rintro e w' ⟨rfl, rfl⟩)
 go_returns
 exact ⟨rfl, rfl⟩
set_option maxRecDepth 100000 in
theorem ref_Get_st {W : World} {r st : Nat} {hd root : List UInt8} {rp : Option Addr} {gv : Value} (path s : List UInt8) (ver : Nat) (h : W.heap[r]? = some (rbo st hd root rp gv)) (hst : st = 0 ∨ st = 1) :
  Calls Tryz.prog 55 #[.pointer (some ⟨r, 0, none⟩), .string (bs path), .int .u64 (ver : Int), .string (bs s)] W fun e w' => e = .returned (.tuple #[.string { data := #[] }, .int .i64 (if st = 1 then 150 else 151)]) ∧ W = w' := by
 have g := ref_may h
 obtain ⟨v, hv, hv0⟩ : ∃ v : Int, (if st = 0 then (151 : Int) else if st = 1 then 150 else 0) = v ∧ v ≠ 0 ∧ (if st = 1 then (150 : Int) else 151) = v := ⟨_, rfl, by rcases hst with rfl | rfl <;> simp, by rcases hst with rfl | rfl <;> simp⟩
 rw [hv] at g
 rw [hv0.2]
 have GM := Lib.hid g
 have hv1 : (v != 0) = true := by simpa using hv0.1
 clear h g hv hv0 hst
 go_enter Tryz.func55, Tryz.ntmps55
 go_wp2_with (go_at_call 80; (with_reducible refine GM.out.mono ?_); rintro e w' ⟨rfl, rfl⟩)
 go_returns
 exact ⟨rfl, rfl⟩
set_option maxRecDepth 100000 in
theorem ref_Get (W : World) (B r d : Nat) (gv : Value) (hd root : List UInt8) (E : Eps) (gs : GS) (path s : List UInt8) (ver : Nat) (h : RO B r d gv hd root E gs W) (hE : E ≠ []) (hel : E.length ≤ 1000) (hk : ∀ p ∈ E, p.2.length = 32) (hv : U64 ver) (hp : path.length ≤ 1048576) (hl : s.length ≤ 1099511627776) :
  Calls Tryz.prog 55 #[.pointer (some ⟨r, 0, none⟩), .string (bs path), .int .u64 (ver : Int), .string (bs s)] W fun e w' => e = .returned (.tuple #[.string (bs (openAny E path ver s).1), .int .i64 (openAny E path ver s).2]) ∧ Ext W w' := by
 have gm := ref_may h.blk
 rw [if_neg (by omega), if_neg (by omega)] at gm
 have GM := Lib.hid gm
 have GC := Lib.hid (refOpen_any B d E path s ver W h.doc hE hel hl hk hv hp)
 generalize openAny E path ver s = R at *
 obtain ⟨_, _, _, c3, _, _⟩ := rb_c h.blk
 clear h hE hel hk hv hp hl gm
 go_enter Tryz.func55, Tryz.ntmps55
 go_wp2_with (first
  | (go_at_call 80; (with_reducible refine GM.out.mono ?_); rintro e w' ⟨rfl, rfl⟩)
  | (go_at_call 77; (with_reducible refine GC.out.mono ?_); rintro e w1 ⟨rfl, hx1⟩))
 go_returns
 exact ⟨rfl, hx1⟩
set_option maxRecDepth 100000 in
theorem ref_Put_nonce (W : World) (B r d : Nat) (gv : Value) (hd root : List UInt8) (E : Eps) (gs : GS) (path nonce text : List UInt8) (ver : Nat) (h : RO B r d gv hd root E gs W) (hno : nonce.length ≠ 12) :
  Calls Tryz.prog 54 #[.pointer (some ⟨r, 0, none⟩), .string (bs path), .int .u64 (ver : Int), .string (bs nonce), .string (bs text)] W fun e w' => e = .returned (.tuple #[.string (bs []), .int .i64 2]) ∧ W = w' := by
 have gm := ref_may h.blk
 rw [if_neg (by omega), if_neg (by omega)] at gm
 have GM := Lib.hid gm
 have GC := Lib.hid (refClose_arg d path nonce text ver W hno)
 obtain ⟨_, _, _, c3, _, _⟩ := rb_c h.blk
 clear h hno gm
 go_enter Tryz.func54, Tryz.ntmps54
 go_wp2_with (first
  | (go_at_call 80; (with_reducible refine GM.out.mono ?_); rintro e w' ⟨rfl, rfl⟩)
  | (go_at_call 84; (with_reducible refine GC.out.mono ?_); rintro e w' ⟨rfl, rfl⟩))
 go_returns
 exact ⟨rfl, rfl⟩
set_option maxRecDepth 100000 in
theorem ref_Put (W : World) (B r d : Nat) (gv : Value) (hd root : List UInt8) (E : Eps) (gs : GS) (n : Nat) (key path nonce text : List UInt8) (ver : Nat) (h : RO B r d gv hd root E gs W) (hI : RI E n) (hn : n < 4294967296) (hs : lookE E n = some key) (hv : U64 ver) (hno : nonce.length = 12) (hp : path.length ≤ 1048576) (ht : text.length ≤ 1048576) :
  Calls Tryz.prog 54 #[.pointer (some ⟨r, 0, none⟩), .string (bs path), .int .u64 (ver : Int), .string (bs nonce), .string (bs text)] W fun e w' => e = .returned (.tuple #[.string (bs (envL key n nonce text ++ tagL key path ver (envL key n nonce text))), .int .i64 0]) ∧ Ext W w' := by
 have gm := ref_may h.blk
 rw [if_neg (by omega), if_neg (by omega)] at gm
 have GM := Lib.hid gm
 obtain ⟨E0, k0, hE, hl, hlk, hk32⟩ := seal_any E n hI
 obtain rfl : k0 = key := by rw [hs] at hlk; injection hlk with e; exact e.symm
 have GC := Lib.hid (refClose_yes B d E0 n k0 path nonce text ver W (hE ▸ h.doc) (by omega) hn (hE ▸ hs) (by omega) hv hno hp ht)
 generalize envL k0 n nonce text ++ tagL k0 path ver (envL k0 n nonce text) = S at *
 obtain ⟨_, _, _, c3, _, _⟩ := rb_c h.blk
 clear h hI hn hs hv hno hp ht gm hE hl hlk hk32
 go_enter Tryz.func54, Tryz.ntmps54
 go_wp2_with (first
  | (go_at_call 80; (with_reducible refine GM.out.mono ?_); rintro e w' ⟨rfl, rfl⟩)
  | (go_at_call 84; (with_reducible refine GC.out.mono ?_); rintro e w1 ⟨rfl, hx1⟩))
 go_returns
 exact ⟨rfl, hx1⟩
set_option maxRecDepth 100000 in
theorem ref_Load_st {W : World} {r st : Nat} {hd root : List UInt8} {rp : Option Addr} {gv : Value} (s : List UInt8) (h : W.heap[r]? = some (rbo st hd root rp gv)) (hst : st ≠ 0) :
  Calls Tryz.prog 47 #[.pointer (some ⟨r, 0, none⟩), .string (bs s)] W fun e w' => e = .returned (.int .i64 151) ∧ W = w' := by
 obtain ⟨c0, _, _, _, _, _⟩ := rb_c h
 have hne : ((st : Int) != 0) = true := by simp; omega
 clear h hst
 go_enter Tryz.func47, Tryz.ntmps47
 go_wp2
 go_returns
 exact ⟨rfl, rfl⟩
set_option maxRecDepth 100000 in
theorem ref_Load_none {W : World} {r : Nat} {hd root : List UInt8} {rp : Option Addr} {gv : Value} (h : W.heap[r]? = some (rbo 0 hd root rp gv)) :
  Calls Tryz.prog 47 #[.pointer (some ⟨r, 0, none⟩), .string (bs [])] W fun e w' => e = .returned (.int .i64 7) ∧ W = w' := by
 obtain ⟨c0, _, _, _, _, _⟩ := rb_c h
 clear h
 go_enter Tryz.func47, Tryz.ntmps47
 go_wp2
 go_returns
 exact ⟨rfl, rfl⟩
set_option maxRecDepth 100000 in
theorem ref_Load_form {W : World} {r : Nat} {hd root : List UInt8} {rp : Option Addr} {gv : Value} (x : UInt8) (t : List UInt8) (h : W.heap[r]? = some (rbo 0 hd root rp gv)) (hx : x.toNat < 1 ∨ 16 < x.toNat) (ht : t.length ≤ 1000000) :
  Calls Tryz.prog 47 #[.pointer (some ⟨r, 0, none⟩), .string (bs (x :: t))] W fun e w' => e = .returned (.int .i64 7) ∧ W = w' := by
 obtain ⟨c0, _, _, _, _, _⟩ := rb_c h
 have iS : ∀ W, (Instr.index 9 (.string (bs (x :: t))) (.int .i64 0)).run Tryz.prog W = .ok (.int .u8 (x.toNat : Int)) W := fun W => run_index_str (x :: t) 0 (by simp) W
 have ha : (x :: t).length = t.length + 1 := rfl
 have ht0 : ((t.length : Int) + 1 == 0) = false := by simp; omega
 by_cases hx1 : x.toNat < 1
 ·have hx1d : decide ((x.toNat : Int) < 1) = true := by simp; omega
  obtain ⟨hd, hhd⟩ : ∃ hd, x :: t = hd := ⟨_, rfl⟩
  rw [hhd] at iS ha ⊢
  clear h hx hhd hx1
  go_enter Tryz.func47, Tryz.ntmps47
  go_wp2
  go_returns
  exact ⟨rfl, rfl⟩
 ·have hx1d : decide ((x.toNat : Int) < 1) = false := by simp; omega
  have hx2d : decide ((16 : Int) < (x.toNat : Int)) = true := by simp; omega
  obtain ⟨hd, hhd⟩ : ∃ hd, x :: t = hd := ⟨_, rfl⟩
  rw [hhd] at iS ha ⊢
  clear h hx hhd hx1
  go_enter Tryz.func47, Tryz.ntmps47
  go_wp2
  go_returns
  exact ⟨rfl, rfl⟩
set_option maxRecDepth 100000 in
theorem ref_Load_ep {W : World} {r : Nat} {hd root : List UInt8} {rp : Option Addr} {gv : Value} (x : UInt8) (t : List UInt8) (h : W.heap[r]? = some (rbo 0 hd root rp gv)) (h1 : 1 ≤ x.toNat) (h16 : x.toNat ≤ 16) (he : epR t = (0, 7)) (ht : t.length ≤ 1000000) :
  Calls Tryz.prog 47 #[.pointer (some ⟨r, 0, none⟩), .string (bs (x :: t))] W fun e w' => e = .returned (.int .i64 7) ∧ Ext W w' := by
 obtain ⟨c0, _, _, _, _, _⟩ := rb_c h
 have ge := fun W => refEpoch_any t W (by omega)
 rw [he] at ge
 have GE := Lib.hid ge
 have iS : ∀ W, (Instr.index 9 (.string (bs (x :: t))) (.int .i64 0)).run Tryz.prog W = .ok (.int .u8 (x.toNat : Int)) W := fun W => run_index_str (x :: t) 0 (by simp) W
 have hex : (bs (x :: t)).extract 1 (t.length + 1) = bs t := by rw [bs_extract]; simp
 have ha : (x :: t).length = t.length + 1 := rfl
 have ht1 : (1 : Int) ≤ (t.length : Int) + 1 := by omega
 have ht0 : ((t.length : Int) + 1 == 0) = false := by simp; omega
 have hx1 : decide ((x.toNat : Int) < 1) = false := by simp; omega
 have hx2 : decide ((16 : Int) < (x.toNat : Int)) = false := by simp; omega
 obtain ⟨hd, hhd⟩ : ∃ hd, x :: t = hd := ⟨_, rfl⟩
 rw [hhd] at iS hex ha ⊢
 clear ge h h1 h16 he hhd
 go_enter Tryz.func47, Tryz.ntmps47
 go_wp2_with (go_at_call 74; (with_reducible refine (GE.out _).mono ?_); rintro e w1 ⟨rfl, hx1⟩)
 go_returns
 exact ⟨rfl, hx1⟩
set_option maxRecDepth 100000 in
theorem ref_Load (W : World) (B r : Nat) (gv : Value) (gs : GS) (x : UInt8) (t : List UInt8) (ep : Nat) (h : RC B r 0 gv [] gs W) (h1 : 1 ≤ x.toNat) (h16 : x.toNat ≤ 16) (he : epR t = (ep, 0)) (ht : t.length ≤ 1000000) :
  Calls Tryz.prog 47 #[.pointer (some ⟨r, 0, none⟩), .string (bs (x :: t))] W fun e w' => e = .returned (.int .i64 0) ∧ RC B r 1 gv (x :: t) gs w' ∧ Fr B W w' := by
 obtain ⟨c0, c1, _, _, _, hf⟩ := rb_c h.blk
 have ge := fun W => refEpoch_any t W (by omega)
 rw [he] at ge
 have GE := Lib.hid ge
 have iS : ∀ W, (Instr.index 9 (.string (bs (x :: t))) (.int .i64 0)).run Tryz.prog W = .ok (.int .u8 (x.toNat : Int)) W := fun W => run_index_str (x :: t) 0 (by simp) W
 have hex : (bs (x :: t)).extract 1 (t.length + 1) = bs t := by rw [bs_extract]; simp
 have ha : (x :: t).length = t.length + 1 := rfl
 have ht1 : (1 : Int) ≤ (t.length : Int) + 1 := by omega
 have ht0 : ((t.length : Int) + 1 == 0) = false := by simp; omega
 have hx1 : decide ((x.toNat : Int) < 1) = false := by simp; omega
 have hx2 : decide ((16 : Int) < (x.toNat : Int)) = false := by simp; omega
 have H := Lib.hid h
 obtain ⟨hd, hhd⟩ : ∃ hd, x :: t = hd := ⟨_, rfl⟩
 rw [hhd] at iS hex ha ⊢
 clear ge h h1 h16 he hhd hf
 go_enter Tryz.func47, Tryz.ntmps47
 go_upto_region 6 with (go_at_call 74; (with_reducible refine (GE.out _).mono ?_); rintro e w1 ⟨rfl, hx1⟩; have HX := Lib.hid hx1; have H1 := Lib.hid (H.out.ext hx1); clear hx1)
 obtain ⟨d0, d1, _, _, _, hf⟩ := rb_c H1.out.blk
 have hf0 := hf 0
 have hf1 := hf 1
 clear hf c0 c1
 go_wp2
 go_returns
 have h1 := rb0 H1.out.blk 1
 have h2 := rb1 h1 hd
 exact ⟨rfl, ⟨h2, H1.out.lo, own_cell h1 (own_cell H1.out.blk H1.out.own (by decide)) (by decide)⟩, ((Fr.of HX.out H.out.size).trans (Fr.set H.out.lo H1.out.blk (rbo_ty _ _ _ _ _))).trans (Fr.set H.out.lo h1 (rbo_ty _ _ _ _ _))⟩
set_option maxRecDepth 100000 in
theorem ref_Rotate_nonce {W : World} {r : Nat} {hd root : List UInt8} {rp : Option Addr} {gv : Value} (key nonce : List UInt8) (h : W.heap[r]? = some (rbo 2 hd root rp gv)) (hno : nonce.length ≠ 12) :
  Calls Tryz.prog 52 #[.pointer (some ⟨r, 0, none⟩), .string (bs key), .string (bs nonce)] W fun e w' => e = .returned (.tuple #[.int .u32 0, .int .i64 2]) ∧ W = w' := by
 have gm := ref_may h
 rw [if_neg (by omega), if_neg (by omega)] at gm
 have GM := Lib.hid gm
 have hne : ((nonce.length : Int) != 12) = true := by simp; omega
 clear h hno gm
 go_enter Tryz.func52, Tryz.ntmps52
 go_wp2_with (go_at_call 80; (with_reducible refine GM.out.mono ?_); rintro e w' ⟨rfl, rfl⟩)
 go_returns
 exact ⟨rfl, rfl⟩
set_option maxRecDepth 100000 in
theorem ref_Retire_nonce {W : World} {r : Nat} {hd root : List UInt8} {rp : Option Addr} {gv : Value} (ep : Nat) (nonce : List UInt8) (h : W.heap[r]? = some (rbo 2 hd root rp gv)) (hno : nonce.length ≠ 12) :
  Calls Tryz.prog 53 #[.pointer (some ⟨r, 0, none⟩), .int .u32 (ep : Int), .string (bs nonce)] W fun e w' => e = .returned (.int .i64 2) ∧ W = w' := by
 have gm := ref_may h
 rw [if_neg (by omega), if_neg (by omega)] at gm
 have GM := Lib.hid gm
 have hne : ((nonce.length : Int) != 12) = true := by simp; omega
 clear h hno gm
 go_enter Tryz.func53, Tryz.ntmps53
 go_wp2_with (go_at_call 80; (with_reducible refine GM.out.mono ?_); rintro e w' ⟨rfl, rfl⟩)
 go_returns
 exact ⟨rfl, rfl⟩
set_option maxRecDepth 100000 in
theorem ref_ring_Rotate_max (B d : Nat) (E0 : Eps) (k0 key : List UInt8) (w : World) (h : DocAt w B d (E0 ++ [(4294967295, k0)])) (hk : key.length = 32) (hE : E0.length + 1 < 64) :
  Calls Tryz.prog 81 #[.pointer (some ⟨d, 0, none⟩), .string (bs key)] w fun e w' => e = .returned (.tuple #[.int .u32 0, .int .i64 4]) ∧ Ext w w' := by
 have GN := Lib.hid (ref_ring_Newest B d E0 4294967295 k0 w h (by omega))
 obtain ⟨g, cap, hd, hB, hBg, hgl, hgd, hown, hc⟩ := h.look (by simp)
 have hc0 : w.cell? ⟨d, 0, none⟩ = some (.slice (some ⟨g, 0, none⟩) (E0 ++ [(4294967295, k0)]).length cap) := cell_blk (i := 0) hd rfl
 have hlen : (E0 ++ [(4294967295, k0)]).length = E0.length + 1 := by simp
 rw [hlen] at hc0
 have hne : ((key.length : Int) != 32) = false := by simp; omega
 have hlt : decide ((64 : Int) ≤ (E0.length : Int) + 1) = false := by simp; omega
 clear hd hB hBg hgl hgd hown hc hlen hk h
 go_enter Tryz.func81, Tryz.ntmps81
 go_wp2_with (go_at_call 105; (with_reducible refine GN.out.mono ?_); rintro e w1 ⟨rfl, hx1⟩; have hc1 := hx1.cell_of hc0)
 go_returns
 exact ⟨rfl, hx1⟩
end Go.Proofs.YtclekllaikcglaaGreat

/- Layer 15: the document's barrier: Rotate, Retire. -/
namespace Go.Proofs.YtclekllaikcglaaGreat
open Go Go.RowKit
set_option maxRecDepth 100000 in
set_option maxHeartbeats 4000000 in
theorem ref_Rotate (W : World) (B r d : Nat) (gv : Value) (x : UInt8) (t root : List UInt8) (E : Eps) (gs : GS) (n : Nat) (key nonce : List UInt8) (h : RO B r d gv (x :: t) root E gs W) (hI : RI E n) (hn : n < 4294967296) (hr : root.length = 32) (hno : nonce.length = 12) (hk : key.length = 32) (hEl : E.length < 64) (hn2 : n < 4294967295) :
  Calls Tryz.prog 52 #[.pointer (some ⟨r, 0, none⟩), .string (bs key), .string (bs nonce)] W fun e w' => e = .returned (.tuple #[.int .u32 ((n + 1 : Nat) : Int), .int .i64 0]) ∧ RO B r d gv (hdL root x.toNat nonce (E ++ [(n + 1, key)])) root (E ++ [(n + 1, key)]) gs w' ∧ Fr B W w' := by
 have gm := ref_may h.blk
 rw [if_neg (by omega), if_neg (by omega)] at gm
 have GM := Lib.hid gm
 obtain ⟨E0, k0, hE, hl, _, _⟩ := seal_any E n hI
 have hI2 := hI.rot (key := key) hEl hk
 have gr := ref_ring_Rotate B d E0 n k0 key W (hE ▸ h.doc) h.size hk (by rw [hE, List.length_append] at hEl; simpa using hEl) hn2
 rw [← hE] at gr
 have GR := Lib.hid gr
 clear gr
 have hn3 : n + 1 < 4294967296 := by omega
 have GHh := Lib.hid (fun W2 (h2 : DocAt W2 B d (E ++ [(n + 1, key)])) => ref_header W2 B d x.toNat (E ++ [(n + 1, key)]) (n + 1) root nonce h2 hI2 (by omega) hr hno x.toNat_lt)
 have iS : ∀ W, (Instr.index 9 (.string (bs (x :: t))) (.int .i64 0)).run Tryz.prog W = .ok (.int .u8 (x.toNat : Int)) W := fun W => run_index_str (x :: t) 0 (by simp) W
 have hne : ((nonce.length : Int) != 12) = false := by simp; omega
 have hw : IntKind.i64.wrap (x.toNat : Int) = (x.toNat : Int) := by have := x.toNat_lt; rw [IntKind.wrap_i64]; omega
 have H := Lib.hid h
 obtain ⟨_, _, _, c3, _, _⟩ := rb_c h.blk
 generalize hdL root x.toNat nonce (E ++ [(n + 1, key)]) = hd' at *
 obtain ⟨hd, hhd⟩ : ∃ hd, x :: t = hd := ⟨_, rfl⟩
 rw [hhd] at iS H
 clear h hI hn hr hno hE hl gm hI2 hhd hn3 hk hEl hn2
 go_enter Tryz.func52, Tryz.ntmps52
 go_upto_region 8 with (first
  | (go_at_call 80; (with_reducible refine GM.out.mono ?_); rintro e w' ⟨rfl, rfl⟩)
  | (go_at_call 81; (with_reducible refine GR.out.mono ?_); rintro e w1 ⟨rfl, h1, hb, hk⟩; have HF1 := Lib.hid (Fr.doc H.out.doc hb hk); have H1 := Lib.hid (H.out.ring hk h1); clear h1 hb hk))
 obtain ⟨_, d1, d2, d3, _, _⟩ := rb_c H1.out.blk
 have GH := Lib.hid (fun W2 (hx : Ext w1 W2) => GHh.out W2 (H1.out.doc.ext hx))
 refine Loud.wp_region_loud (fun i => decide (i = 16)) 17 (fun w' => Ext w1 w') (by kernel_rfl) (by kernel_rfl) ((Ext.refl w1).drew) ?_
 simp only [List.take_succ_cons, List.take_zero]
 iterate 4 (refine Loud.lex_qe rfl rfl ?_; apply Exists.intro; refine ⟨fun wq hq => ?_, Loud.norm fun K hK => ?_⟩; (go_simp; try rfl); go_simp; refine hK _ ?_; clear hK K)
 refine Loud.lex_qe rfl rfl ?_; apply Exists.intro; refine ⟨fun wq hq => ?_, Loud.norm fun K hK => ?_⟩; (have hqc := hq.cell_of d1; go_simp; try rfl); go_simp; refine hK _ ?_; clear hK K
 iterate 5 (refine Loud.lex_qe rfl rfl ?_; apply Exists.intro; refine ⟨fun wq hq => ?_, Loud.norm fun K hK => ?_⟩; (go_simp; try rfl); go_simp; refine hK _ ?_; clear hK K)
 refine Loud.lex_qe rfl rfl ?_; apply Exists.intro; refine ⟨fun wq hq => ?_, Loud.norm fun K hK => ?_⟩; (have hqc := hq.cell_of d2; go_simp; try rfl); go_simp; refine hK _ ?_; clear hK K
 iterate 4 (refine Loud.lex_qe rfl rfl ?_; apply Exists.intro; refine ⟨fun wq hq => ?_, Loud.norm fun K hK => ?_⟩; (go_simp; try rfl); go_simp; refine hK _ ?_; clear hK K)
 refine Loud.lex_qe rfl rfl ?_; apply Exists.intro; refine ⟨fun wq hq => ?_, Loud.norm fun K hK => ?_⟩; (have hqc := hq.cell_of d3; go_simp; try rfl); go_simp; refine hK _ ?_; clear hK K
 refine Loud.lex_l rfl rfl (fun K hK => ?_); go_simp; refine (GH.out _ (Ext.refl w1).drew).mono ?_; rintro e w2 ⟨rfl, hx2⟩; refine ⟨_, rfl, ?_⟩; go_simp; refine hK _ _ (((Ext.refl w1).drew).trans hx2) ?_; clear hK K
 refine Loud.lex_nil ?_
 simp only [List.drop_succ_cons, List.drop_zero]
 have HX2 : Hid (Ext w1 w2) := Lib.hid ((Ext.refl w1).drew.trans hx2)
 have H2 := Lib.hid (H1.out.ext HX2.out)
 obtain ⟨_, e1, _, _, _, hf⟩ := rb_c H2.out.blk
 have hf1 := hf 1
 clear hf hx2 d1 d2 d3 c3
 go_wp2_with fail
 go_returns
 exact ⟨rfl, ⟨rb1 H2.out.blk hd', H.out.lo, doc_cell H2.out.blk H2.out.doc, own_cell H2.out.blk H2.out.own (by decide)⟩, (HF1.out.trans (Fr.of HX2.out H1.out.size)).trans (Fr.set H.out.lo H2.out.blk (rbo_ty _ _ _ _ _))⟩
set_option maxRecDepth 100000 in
set_option maxHeartbeats 4000000 in
theorem ref_Retire (W : World) (B r d : Nat) (gv : Value) (x : UInt8) (t root : List UInt8) (E : Eps) (gs : GS) (n : Nat) (ep : Nat) (nonce s : List UInt8) (h : RO B r d gv (x :: t) root E gs W) (hI : RI E n) (hn : n < 4294967296) (hr : root.length = 32) (hno : nonce.length = 12) (he : ep ≠ n) (hs : lookE E ep = some s) :
  Calls Tryz.prog 53 #[.pointer (some ⟨r, 0, none⟩), .int .u32 (ep : Int), .string (bs nonce)] W fun e w' => e = .returned (.int .i64 0) ∧ RO B r d gv (hdL root x.toNat nonce (goneE E ep)) root (goneE E ep) gs w' ∧ Fr B W w' := by
 have gm := ref_may h.blk
 rw [if_neg (by omega), if_neg (by omega)] at gm
 have GM := Lib.hid gm
 obtain ⟨E0, k0, hE, hl, _, _⟩ := seal_any E n hI
 have hI2 := hI.gone he
 have gr := ref_ring_Retire B d E0 n ep k0 W (hE ▸ h.doc) h.size (by omega) he (hE ▸ hI.asc) (hE ▸ hs)
 rw [← hE] at gr
 have GR := Lib.hid gr
 clear gr
 have GHh := Lib.hid (fun W2 (h2 : DocAt W2 B d (goneE E ep)) => ref_header W2 B d x.toNat (goneE E ep) (n) root nonce h2 hI2 (by omega) hr hno x.toNat_lt)
 have iS : ∀ W, (Instr.index 9 (.string (bs (x :: t))) (.int .i64 0)).run Tryz.prog W = .ok (.int .u8 (x.toNat : Int)) W := fun W => run_index_str (x :: t) 0 (by simp) W
 have hne : ((nonce.length : Int) != 12) = false := by simp; omega
 have hw : IntKind.i64.wrap (x.toNat : Int) = (x.toNat : Int) := by have := x.toNat_lt; rw [IntKind.wrap_i64]; omega
 have H := Lib.hid h
 obtain ⟨_, _, _, c3, _, _⟩ := rb_c h.blk
 generalize hdL root x.toNat nonce (goneE E ep) = hd' at *
 obtain ⟨hd, hhd⟩ : ∃ hd, x :: t = hd := ⟨_, rfl⟩
 rw [hhd] at iS H
 clear h hI hn hr hno hE hl gm hI2 hhd hs he
 go_enter Tryz.func53, Tryz.ntmps53
 go_upto_region 8 with (first
  | (go_at_call 80; (with_reducible refine GM.out.mono ?_); rintro e w' ⟨rfl, rfl⟩)
  | (go_at_call 83; (with_reducible refine GR.out.mono ?_); rintro e w1 ⟨rfl, h1, hb, hk⟩; have HF1 := Lib.hid (Fr.doc H.out.doc hb hk); have H1 := Lib.hid (H.out.ring hk h1); clear h1 hb hk))
 obtain ⟨_, d1, d2, d3, _, _⟩ := rb_c H1.out.blk
 have GH := Lib.hid (fun W2 (hx : Ext w1 W2) => GHh.out W2 (H1.out.doc.ext hx))
 refine Loud.wp_region_loud (fun i => decide (i = 16)) 17 (fun w' => Ext w1 w') (by kernel_rfl) (by kernel_rfl) ((Ext.refl w1).drew) ?_
 simp only [List.take_succ_cons, List.take_zero]
 iterate 4 (refine Loud.lex_qe rfl rfl ?_; apply Exists.intro; refine ⟨fun wq hq => ?_, Loud.norm fun K hK => ?_⟩; (go_simp; try rfl); go_simp; refine hK _ ?_; clear hK K)
 refine Loud.lex_qe rfl rfl ?_; apply Exists.intro; refine ⟨fun wq hq => ?_, Loud.norm fun K hK => ?_⟩; (have hqc := hq.cell_of d1; go_simp; try rfl); go_simp; refine hK _ ?_; clear hK K
 iterate 5 (refine Loud.lex_qe rfl rfl ?_; apply Exists.intro; refine ⟨fun wq hq => ?_, Loud.norm fun K hK => ?_⟩; (go_simp; try rfl); go_simp; refine hK _ ?_; clear hK K)
 refine Loud.lex_qe rfl rfl ?_; apply Exists.intro; refine ⟨fun wq hq => ?_, Loud.norm fun K hK => ?_⟩; (have hqc := hq.cell_of d2; go_simp; try rfl); go_simp; refine hK _ ?_; clear hK K
 iterate 4 (refine Loud.lex_qe rfl rfl ?_; apply Exists.intro; refine ⟨fun wq hq => ?_, Loud.norm fun K hK => ?_⟩; (go_simp; try rfl); go_simp; refine hK _ ?_; clear hK K)
 refine Loud.lex_qe rfl rfl ?_; apply Exists.intro; refine ⟨fun wq hq => ?_, Loud.norm fun K hK => ?_⟩; (have hqc := hq.cell_of d3; go_simp; try rfl); go_simp; refine hK _ ?_; clear hK K
 refine Loud.lex_l rfl rfl (fun K hK => ?_); go_simp; refine (GH.out _ (Ext.refl w1).drew).mono ?_; rintro e w2 ⟨rfl, hx2⟩; refine ⟨_, rfl, ?_⟩; go_simp; refine hK _ _ (((Ext.refl w1).drew).trans hx2) ?_; clear hK K
 refine Loud.lex_nil ?_
 simp only [List.drop_succ_cons, List.drop_zero]
 have HX2 : Hid (Ext w1 w2) := Lib.hid ((Ext.refl w1).drew.trans hx2)
 have H2 := Lib.hid (H1.out.ext HX2.out)
 obtain ⟨_, e1, _, _, _, hf⟩ := rb_c H2.out.blk
 have hf1 := hf 1
 clear hf hx2 d1 d2 d3 c3
 go_wp2_with fail
 go_returns
 exact ⟨rfl, ⟨rb1 H2.out.blk hd', H.out.lo, doc_cell H2.out.blk H2.out.doc, own_cell H2.out.blk H2.out.own (by decide)⟩, (HF1.out.trans (Fr.of HX2.out H1.out.size)).trans (Fr.set H.out.lo H2.out.blk (rbo_ty _ _ _ _ _))⟩
set_option maxRecDepth 100000 in
theorem ref_Rotate_no (W : World) (B r d : Nat) (gv : Value) (hd root : List UInt8) (E : Eps) (gs : GS) (n : Nat) (key nonce : List UInt8) (h : RO B r d gv hd root E gs W) (hI : RI E n) (hno : nonce.length = 12) (hkl : key.length ≤ 140737488351232) (hk : key.length ≠ 32 ∨ (64 ≤ E.length ∨ n = 4294967295)) :
  Calls Tryz.prog 52 #[.pointer (some ⟨r, 0, none⟩), .string (bs key), .string (bs nonce)] W fun e w' => e = .returned (.tuple #[.int .u32 0, .int .i64 (if key.length ≠ 32 then 2 else 4)]) ∧ Ext W w' := by
 have gm := ref_may h.blk
 rw [if_neg (by omega), if_neg (by omega)] at gm
 have GM := Lib.hid gm
 obtain ⟨E0, k0, hE, hl, _, _⟩ := seal_any E n hI
 have gr : Calls Tryz.prog 81 #[.pointer (some ⟨d, 0, none⟩), .string (bs key)] W fun e w' => e = .returned (.tuple #[.int .u32 0, .int .i64 (if key.length ≠ 32 then 2 else 4)]) ∧ Ext W w' := by
  by_cases h32 : key.length = 32
  ·rw [if_neg (by simp [h32])]
   have hlen : E.length = E0.length + 1 := by rw [hE]; simp
   by_cases h64 : 64 ≤ E.length
   ·exact ref_ring_Rotate_full B d E0 n k0 key W (hE ▸ h.doc) h32 (by omega) (by omega)
   ·have hmax := (hk.resolve_left (by simp [h32])).resolve_left h64
    subst hmax
    exact ref_ring_Rotate_max B d E0 k0 key W (hE ▸ h.doc) h32 (by omega)
  ·rw [if_pos h32]
   refine (ref_ring_Rotate_arg d key W h32 hkl).mono ?_
   rintro e w' ⟨rfl, rfl⟩
   exact ⟨rfl, Ext.refl _⟩
 obtain ⟨v, hv, hv0⟩ : ∃ v : Int, (if key.length ≠ 32 then (2 : Int) else 4) = v ∧ v ≠ 0 := ⟨_, rfl, by split <;> omega⟩
 rw [hv] at gr ⊢
 have GR := Lib.hid gr
 have hv1 : (v == 0) = false := by simpa using hv0
 have hne : ((nonce.length : Int) != 12) = false := by simp; omega
 obtain ⟨_, _, _, c3, _, _⟩ := rb_c h.blk
 clear h hI hno hkl hk gm gr hE hl hv hv0
 go_enter Tryz.func52, Tryz.ntmps52
 go_wp2_with (first
  | (go_at_call 80; (with_reducible refine GM.out.mono ?_); rintro e w' ⟨rfl, rfl⟩)
  | (go_at_call 81; (with_reducible refine GR.out.mono ?_); rintro e w1 ⟨rfl, hx1⟩))
 go_returns
 exact ⟨rfl, hx1⟩
set_option maxRecDepth 100000 in
theorem ref_Retire_no (W : World) (B r d : Nat) (gv : Value) (hd root : List UInt8) (E : Eps) (gs : GS) (n ep : Nat) (nonce : List UInt8) (h : RO B r d gv hd root E gs W) (hI : RI E n) (hno : nonce.length = 12) (he : ep = n ∨ lookE E ep = none) :
  Calls Tryz.prog 53 #[.pointer (some ⟨r, 0, none⟩), .int .u32 (ep : Int), .string (bs nonce)] W fun e w' => e = .returned (.int .i64 (if ep = n then 2 else 3)) ∧ Ext W w' := by
 have gm := ref_may h.blk
 rw [if_neg (by omega), if_neg (by omega)] at gm
 have GM := Lib.hid gm
 obtain ⟨E0, k0, hE, hl, _, _⟩ := seal_any E n hI
 have gr : Calls Tryz.prog 83 #[.pointer (some ⟨d, 0, none⟩), .int .u32 (ep : Int)] W fun e w' => e = .returned (.int .i64 (if ep = n then 2 else 3)) ∧ Ext W w' := by
  by_cases hc : ep = n
  ·subst hc; rw [if_pos rfl]; exact ref_ring_Retire_new B d E0 ep k0 W (hE ▸ h.doc) (by omega)
  ·rw [if_neg hc]; exact ref_ring_Retire_none B d E0 n ep k0 W (hE ▸ h.doc) (by omega) hc (hE ▸ (he.resolve_left hc))
 obtain ⟨v, hv, hv0⟩ : ∃ v : Int, (if ep = n then (2 : Int) else 3) = v ∧ v ≠ 0 := ⟨_, rfl, by split <;> omega⟩
 rw [hv] at gr ⊢
 have GR := Lib.hid gr
 have hv1 : (v == 0) = false := by simpa using hv0
 have hne : ((nonce.length : Int) != 12) = false := by simp; omega
 obtain ⟨_, _, _, c3, _, _⟩ := rb_c h.blk
 clear h hI hno gm gr hE hl hv hv0 he
 go_enter Tryz.func53, Tryz.ntmps53
 go_wp2_with (first
  | (go_at_call 80; (with_reducible refine GM.out.mono ?_); rintro e w' ⟨rfl, rfl⟩)
  | (go_at_call 83; (with_reducible refine GR.out.mono ?_); rintro e w1 ⟨rfl, hx1⟩))
 go_returns
 exact ⟨rfl, hx1⟩
end Go.Proofs.YtclekllaikcglaaGreat

/- Layer 15: the document's barrier: Begin, Unseal. -/
namespace Go.Proofs.YtclekllaikcglaaGreat
open Go Go.RowKit
set_option maxRecDepth 100000 in
theorem ref_Begin_st {W : World} {r st : Nat} {hd root0 : List UInt8} {rp : Option Addr} {gv : Value} (root key nonce : List UInt8) (v : Value) (h : W.heap[r]? = some (rbo st hd root0 rp gv)) (hst : st ≠ 0) :
  Calls Tryz.prog 73 #[.pointer (some ⟨r, 0, none⟩), .string (bs root), .string (bs key), .string (bs nonce), v] W fun e w' => e = .returned (.tuple #[.slice none 0 0, .int .i64 151]) ∧ W = w' := by
 obtain ⟨c0, _, _, _, _, _⟩ := rb_c h
 have hne : ((st : Int) != 0) = true := by simp; omega
 clear h hst
 go_enter Tryz.func73, Tryz.ntmps73
 go_wp2
 go_returns
 exact ⟨rfl, rfl⟩
set_option maxRecDepth 100000 in
theorem ref_Begin_arg {W : World} {r : Nat} {hd root0 : List UInt8} {rp : Option Addr} {gv : Value} (root key nonce : List UInt8) (v : Value) (h : W.heap[r]? = some (rbo 0 hd root0 rp gv)) (hno : ¬ (root.length = 32 ∧ key.length = 32 ∧ nonce.length = 12)) :
  Calls Tryz.prog 73 #[.pointer (some ⟨r, 0, none⟩), .string (bs root), .string (bs key), .string (bs nonce), v] W fun e w' => e = .returned (.tuple #[.slice none 0 0, .int .i64 2]) ∧ W = w' := by
 obtain ⟨c0, _, _, _, _, _⟩ := rb_c h
 by_cases h1 : root.length = 32
 ·have hn1 : ((root.length : Int) != 32) = false := by simp; omega
  by_cases h2 : key.length = 32
  ·have hn2 : ((key.length : Int) != 32) = false := by simp; omega
   have hn3 : ((nonce.length : Int) != 12) = true := by
    have : nonce.length ≠ 12 := fun h3 => hno ⟨h1, h2, h3⟩
    simp; omega
   clear h hno h1 h2
   go_enter Tryz.func73, Tryz.ntmps73
   go_wp2
   go_returns
   exact ⟨rfl, rfl⟩
  ·have hn2 : ((key.length : Int) != 32) = true := by simp; omega
   clear h hno h1 h2
   go_enter Tryz.func73, Tryz.ntmps73
   go_wp2
   go_returns
   exact ⟨rfl, rfl⟩
 ·have hn1 : ((root.length : Int) != 32) = true := by simp; omega
  clear h hno h1
  go_enter Tryz.func73, Tryz.ntmps73
  go_wp2
  go_returns
  exact ⟨rfl, rfl⟩
set_option maxRecDepth 100000 in
set_option maxHeartbeats 4000000 in
theorem ref_Begin (W : World) (B r : Nat) (gv : Value) (gs : GS) (root key nonce : List UInt8) (l : List (List UInt8)) (ad : Option Addr) (cap : Nat) (h : RC B r 0 gv [] gs W) (hr : root.length = 32) (hk : key.length = 32) (hno : nonce.length = 12)
  (hv : Sl W (.slice ad l.length cap) (l.map strV)) (h3 : l.length < 16) (hl : ∀ s ∈ l, s.length = 32) :
  Calls Tryz.prog 73 #[.pointer (some ⟨r, 0, none⟩), .string (bs root), .string (bs key), .string (bs nonce), .slice ad l.length cap] W fun e w' =>
   ∃ g cap d, e = .returned (.tuple #[.slice (some ⟨g, 0, none⟩) (l.length + 1) cap, .int .i64 0]) ∧ RO B r d gv (hdL root (l.length + 1) nonce [(1, key)]) root [(1, key)] gs w' ∧ Fr B W w' ∧ ∀ i (hi : i < (shsL root l).length), w'.cell? ⟨g, i, none⟩ = some (strV (shsL root l)[i]) := by
 obtain ⟨c0, c1, c2, c3, c4, hf⟩ := rb_c h.blk
 have GS := Lib.hid (split_shs root l hr h3 hl ▸ RefSplit_fit root l ad cap W (by omega) (by omega) h3 hv)
 have GN := Lib.hid (fun W => ref_ring_New key W)
 have GHh := Lib.hid (fun W2 B d (h2 : DocAt W2 B d [(1, key)]) => ref_header W2 B d (l.length + 1) [(1, key)] 1 root nonce h2 (ri_one key hk) (by omega) hr hno (by omega))
 have hn1 : ((root.length : Int) != 32) = false := by simp; omega
 have hn2 : ((key.length : Int) != 32) = false := by simp; omega
 have hn3 : ((nonce.length : Int) != 12) = false := by simp; omega
 have H := Lib.hid h
 have HSL := Lib.hid (shsL_length root l)
 generalize hdL root (l.length + 1) nonce [(1, key)] = hd' at *
 generalize shsL root l = SH at *
 obtain ⟨N, hN⟩ : ∃ N, l.length + 1 = N := ⟨_, rfl⟩
 have hN16 : N ≤ 16 := by omega
 rw [hN] at GHh HSL ⊢
 have HN := Lib.hid hN
 clear hN h hk hno hv hl hr h3 hf c1 c2 c3 c4
 go_enter Tryz.func73, Tryz.ntmps73
 go_upto_region 8 with (go_at_call 97; (with_reducible refine GS.out.mono ?_); rintro e w1 ⟨v, rfl, hrow, hx1⟩; have HR := Lib.hid hrow; have HX1 := Lib.hid hx1; clear hrow hx1)
 obtain ⟨g, cap', cur, rfl, hBg, hh, htk⟩ : ∃ g cap' cur, v = .slice (some ⟨g, 0, none⟩) N cap' ∧ W.heap.size ≤ g ∧ w1.heap[g]? = some (.cells cur 9 (0, 0)) ∧ cur.toList.take N = SH.map strV := by
  rcases HR.out.look with ⟨_, h0⟩ | ⟨g, cap', cur, hv, hBg, hh, _, _, htk⟩
  ·have := congrArg List.length h0; rw [List.length_map, HSL.out, ← HN.out] at this; simp at this
  ·rw [List.length_map, HSL.out] at hv htk; exact ⟨g, cap', cur, hv, hBg, hh, htk⟩
 have HTK := Lib.hid htk
 have HH := Lib.hid hh
 have H1 := Lib.hid (H.out.ext HX1.out)
 obtain ⟨d0, d1, d2, d3, d4, hf⟩ := rb_c H1.out.blk
 have hf0 := hf 0
 have hf2 := hf 2
 clear hf htk hh hBg c0 HR
 go_upto_region 10 with fail
 have h2 := rb2 (rb0 H1.out.blk 2) root
 have HF2 : Hid (Fr B w1 ((w1.setCell ⟨r, 0, none⟩ (.int .u8 2)).setCell ⟨r, 2, none⟩ (.string (bs root)))) := Lib.hid ((Fr.set H1.out.lo H1.out.blk (rbo_ty _ _ _ _ _)).trans (Fr.set H1.out.lo (rb0 H1.out.blk 2) (rbo_ty _ _ _ _ _)))
 have HO2 : Hid (((w1.setCell ⟨r, 0, none⟩ (.int .u8 2)).setCell ⟨r, 2, none⟩ (.string (bs root))).ownsRow B 119 3 gv gs.length (gvals gs)) := Lib.hid (own_cell (rb0 H1.out.blk 2) (own_cell H1.out.blk H1.out.own (by decide)) (by decide))
 have HBK : Hid (((w1.setCell ⟨r, 0, none⟩ (.int .u8 2)).setCell ⟨r, 2, none⟩ (.string (bs root))).heap[r]? = some (rbo 2 [] root none gv)) := Lib.hid h2
 obtain ⟨w2, hw2⟩ : ∃ w2, (w1.setCell ⟨r, 0, none⟩ (.int .u8 2)).setCell ⟨r, 2, none⟩ (.string (bs root)) = w2 := ⟨_, rfl⟩
 rw [hw2] at HF2 HO2 HBK
 try rw [hw2]
 clear hw2 h2 d0 d1 d2 d3 d4 hf0 hf2
 go_upto_region 11 with (go_at_call 78; (with_reducible refine (GN.out _).mono ?_); rintro e w3 ⟨d, rfl, h3, hx3⟩; have HD := Lib.hid h3; have HX3 := Lib.hid hx3; have e3 : w3.frozen? ⟨r, 3, none⟩ = false := frozen_blk (hx3.keep HBK.out); have e3c : w3.cell? ⟨r, 3, none⟩ = some (.pointer none) := cell_blk (hx3.keep HBK.out) rfl; clear h3 hx3)
 have HB3 : Hid (w3.heap[r]? = some (rbo 2 [] root none gv)) := Lib.hid (HX3.out.keep HBK.out)
 have HSZ2 : Hid (B ≤ w2.heap.size) := Lib.hid (by have := blk_lt HBK.out; have := H.out.lo; omega)
 have HB4 := Lib.hid (rb3 HB3.out (some ⟨d, 0, none⟩))
 have HD4 : Hid (DocAt (w3.setCell ⟨r, 3, none⟩ (.pointer (some ⟨d, 0, none⟩))) B d [(1, key)]) := Lib.hid (doc_cell HB3.out (by
  obtain ⟨v, k1, k2, k3⟩ := HD.out
  have hs2 := HSZ2.out
  refine ⟨v, k1, by omega, k3.1, ?_⟩
  rcases k3.2 with k | ⟨g2, c2, cur2, q1, q2, q3⟩
  ·exact .inl k
  ·exact .inr ⟨g2, c2, cur2, q1, by omega, q3⟩))
 have HO4 : Hid ((w3.setCell ⟨r, 3, none⟩ (.pointer (some ⟨d, 0, none⟩))).ownsRow B 119 3 gv gs.length (gvals gs)) := Lib.hid (own_cell HB3.out (ownsRow_ext HO2.out HX3.out) (by decide))
 have HF4 : Hid (Fr B w1 (w3.setCell ⟨r, 3, none⟩ (.pointer (some ⟨d, 0, none⟩)))) := Lib.hid ((HF2.out.trans (Fr.of HX3.out HSZ2.out)).trans (Fr.set H.out.lo HB3.out (rbo_ty _ _ _ _ _)))
 obtain ⟨w4, hw4⟩ : ∃ w4, w3.setCell ⟨r, 3, none⟩ (.pointer (some ⟨d, 0, none⟩)) = w4 := ⟨_, rfl⟩
 rw [hw4] at HB4 HD4 HO4 HF4
 try rw [hw4]
 clear hw4 HX3 HD e3 e3c HF2 HO2 HBK HB3
 obtain ⟨_, _, _, g3, _, _⟩ := rb_c HB4.out
 go_wp2_with (go_at_call 82; (with_reducible refine (GHh.out _ _ _ HD4.out).mono ?_); rintro e w5 ⟨rfl, hx5⟩; have HX5 := Lib.hid hx5; have e5 : w5.frozen? ⟨r, 1, none⟩ = false := frozen_blk (hx5.keep HB4.out); have e5c : w5.cell? ⟨r, 1, none⟩ = some (.string (bs [])) := cell_blk (hx5.keep HB4.out) rfl; clear hx5)
 go_returns
 have h5 := HX5.out.keep HB4.out
 have hf5 := (HF4.out.trans (Fr.of HX5.out (by have := blk_lt HB4.out; have := H.out.lo; omega))).trans (Fr.set (i := 1) (v := .string (bs hd')) H.out.lo h5 (rbo_ty _ _ _ _ _))
 refine ⟨g, cap', d, rfl, ⟨rb1 h5 hd', H.out.lo, doc_cell h5 (HD4.out.ext HX5.out), own_cell h5 (ownsRow_ext HO4.out HX5.out) (by decide)⟩, (Fr.of HX1.out H.out.size).trans hf5, fun i hi => ?_⟩
 refine cell_blk (hf5.keeps g _ HH.out (by simp [refTy])) ?_
 have hi2 : i < N := by rw [HSL.out] at hi; exact hi
 have := congrArg (fun z => z[i]?) HTK.out
 simp only [List.getElem?_take, if_pos hi2, List.getElem?_map, List.getElem?_eq_getElem hi, Option.map_some] at this
 simpa using this
end Go.Proofs.YtclekllaikcglaaGreat
