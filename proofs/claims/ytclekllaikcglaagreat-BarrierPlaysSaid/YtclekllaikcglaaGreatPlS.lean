import Derived.Test.YtclekllaikcglaaGreatPl
import Derived.Test.YtclekllaikcglaaGreatRefBar
import Derived.Test.YtclekllaikcglaaGreatRefBarE

/- Layer 15: each call, of the program's barrier and of the document's, does what the plain data say. -/
namespace Go.Proofs.YtclekllaikcglaaGreat
open Go Go.RowKit
def progTy : Obj → Bool
 | .cells _ T _ => T == 73 || T == 96 || T == 99
 | _ => true
def ProgB (w0 : World) (b : Nat) (s : BS) (W : World) : Prop :=
 (s.st = 2 ∧ ∃ a : BA, a.b = b ∧ BarO w0 [] a s.hd s.gs s.E s.n s.root W) ∨ (s.st ≠ 2 ∧ ∃ bg bm c, BarC w0 [] b bg bm c s.st s.hd s.gs W)
def RefS (B r : Nat) (s : BS) (W : World) : Prop :=
 (s.st = 2 ∧ ∃ d gv, RO B r d gv s.hd s.root s.E s.gs W) ∨ (s.st ≠ 2 ∧ ∃ gv, RC B r s.st gv s.hd s.gs W)
def othersF (W : World) : List (Nat × Obj) := (List.range W.heap.size).filterMap fun k => match W.heap[k]? with
 | some o => if progTy o then none else some (k, o)
 | none => none
theorem othersF_mem {W : World} {x : Nat × Obj} : x ∈ othersF W ↔ W.heap[x.1]? = some x.2 ∧ progTy x.2 = false := by
 unfold othersF
 rw [List.mem_filterMap]
 constructor
 ·rintro ⟨k, hk, h⟩
  split at h
  ·rename_i o ho
   split at h
   ·cases h
   ·rename_i ht
    injection h with h; subst h
    exact ⟨ho, by simpa using ht⟩
  ·cases h
 ·rintro ⟨h1, h2⟩
  refine ⟨x.1, List.mem_range.2 (blk_lt h1), ?_⟩
  rw [h1]
  simp [h2]
theorem pg_ty {W : World} {bg bm c : Nat} {gs : GS} (h : PG W bg bm c gs) : (∃ o, W.heap[bg]? = some o ∧ progTy o = true ∧ refTy o = false) ∧ ∃ o, W.heap[bm]? = some o ∧ progTy o = true ∧ refTy o = false := by
 obtain ⟨_, n, size, _, _, k3, k4, _⟩ := h
 exact ⟨⟨_, k3, by simp [progTy], by simp [refTy]⟩, ⟨_, k4, by simp [progTy, mobj], by simp [refTy, mobj]⟩⟩
theorem ring_ty {W : World} {r m n : Nat} {E : Eps} (h : RingAt W r m E n) : (∃ o, W.heap[r]? = some o ∧ progTy o = true ∧ refTy o = false) ∧ ∃ o, W.heap[m]? = some o ∧ progTy o = true ∧ refTy o = false := by
 obtain ⟨L, clk, _, _, k3, k4⟩ := h
 exact ⟨⟨_, k3, by simp [progTy], by simp [refTy]⟩, ⟨_, k4, by simp [progTy, mobj], by simp [refTy, mobj]⟩⟩
theorem bc_ty {W : World} {b st bg : Nat} {p q : Option Addr} {hd : List UInt8} (h : BCell W b p st hd q bg) : ∃ o, W.heap[b]? = some o ∧ progTy o = true ∧ refTy o = false := ⟨_, h, by simp [progTy], by simp [refTy]⟩
theorem BarO.ty {w0 W : World} {F : List (Nat × Obj)} {a : BA} {hd root : List UInt8} {gs : GS} {E : Eps} {n : Nat} (h : BarO w0 F a hd gs E n root W) : ∀ x ∈ a.all, ∃ o, W.heap[x]? = some o ∧ progTy o = true ∧ refTy o = false := by
 intro x hx
 simp only [BA.all, List.mem_cons, List.not_mem_nil, or_false] at hx
 rcases hx with rfl | rfl | rfl | rfl | rfl | rfl | rfl
 ·exact bc_ty h.cell
 ·exact (pg_ty h.got).1
 ·exact (pg_ty h.got).2
 ·exact (ring_ty h.ring).1
 ·exact (ring_ty h.ring).2
 ·exact (ring_ty h.top).1
 ·exact (ring_ty h.top).2
theorem BarC.ty {w0 W : World} {F : List (Nat × Obj)} {b bg bm c st : Nat} {hd : List UInt8} {gs : GS} (h : BarC w0 F b bg bm c st hd gs W) : ∀ x ∈ [b, bg, bm], ∃ o, W.heap[x]? = some o ∧ progTy o = true ∧ refTy o = false := by
 intro x hx
 simp only [List.mem_cons, List.not_mem_nil, or_false] at hx
 rcases hx with rfl | rfl | rfl
 ·exact bc_ty h.cell
 ·exact (pg_ty h.got).1
 ·exact (pg_ty h.got).2
theorem BarO.wide {w0 W : World} {a : BA} {hd root : List UInt8} {gs : GS} {E : Eps} {n : Nat} (h : BarO w0 [] a hd gs E n root W) : BarO w0 (othersF W) a hd gs E n root W :=
 h.turn [] (But.refl _ _) (by simp) (by simp) (fun x hx => (othersF_mem.1 hx).1) (fun x hx hm => by
  obtain ⟨o, h1, h2, _⟩ := h.ty x.1 hm
  obtain ⟨h3, h4⟩ := othersF_mem.1 hx
  rw [h1] at h3; injection h3 with h3; subst h3; rw [h2] at h4; cases h4)
theorem BarC.wide {w0 W : World} {b bg bm c st : Nat} {hd : List UInt8} {gs : GS} (h : BarC w0 [] b bg bm c st hd gs W) : BarC w0 (othersF W) b bg bm c st hd gs W :=
 h.turn [] (But.refl _ _) (by simp) (by simp) (fun x hx => (othersF_mem.1 hx).1) (fun x hx hm => by
  obtain ⟨o, h1, h2, _⟩ := h.ty x.1 hm
  obtain ⟨h3, h4⟩ := othersF_mem.1 hx
  rw [h1] at h3; injection h3 with h3; subst h3; rw [h2] at h4; cases h4)
theorem BarO.less {w0 W W' : World} {a : BA} {hd root : List UInt8} {gs : GS} {E : Eps} {n : Nat} (h : BarO w0 (othersF W) a hd gs E n root W') : BarO w0 [] a hd gs E n root W' ∧ KeepsN progTy W W' :=
 ⟨h.turn [] (But.refl _ _) (by simp) (by simp) (by simp) (by simp), fun k o hk ho => h.keep (k, o) (othersF_mem.2 ⟨hk, ho⟩)⟩
theorem BarC.less {w0 W W' : World} {b bg bm c st : Nat} {hd : List UInt8} {gs : GS} (h : BarC w0 (othersF W) b bg bm c st hd gs W') : BarC w0 [] b bg bm c st hd gs W' ∧ KeepsN progTy W W' :=
 ⟨h.turn [] (But.refl _ _) (by simp) (by simp) (by simp) (by simp), fun k o hk ho => h.keep (k, o) (othersF_mem.2 ⟨hk, ho⟩)⟩
section
variable {w0 W W' : World} {b r B : Nat} {s s' : BS}
theorem ProgB.ext (h : ProgB w0 b s W) : Ext w0 W := by
 rcases h with ⟨_, a, _, h⟩ | ⟨_, bg, bm, c, h⟩
 ·exact h.ext
 ·exact h.ext
theorem ProgB.next (h : ProgB w0 b s W) (hx : Ext W W') : ProgB w0 b s W' := by
 rcases h with ⟨h0, a, h1, h⟩ | ⟨h0, bg, bm, c, h⟩
 ·exact .inl ⟨h0, a, h1, h.next hx⟩
 ·exact .inr ⟨h0, bg, bm, c, h.next hx⟩
theorem RefS.next (h : RefS B r s W) (hx : Ext W W') : RefS B r s W' := by
 rcases h with ⟨h0, d, gv, h⟩ | ⟨h0, gv, h⟩
 ·exact .inl ⟨h0, d, gv, h.ext hx⟩
 ·exact .inr ⟨h0, gv, h.ext hx⟩
theorem RefS.size (h : RefS B r s W) : B ≤ W.heap.size := by
 rcases h with ⟨h0, d, gv, h⟩ | ⟨h0, gv, h⟩
 ·exact h.size
 ·exact h.size
theorem ProgB.keepsY (h : ProgB w0 b s W) (hk : ∀ (k : Nat) (o : Obj), W.heap[k]? = some o → progTy o = true → refTy o = false → W'.heap[k]? = some o) (hx : Ext w0 W') : ProgB w0 b s W' := by
 rcases h with ⟨h0, a, h1, h⟩ | ⟨h0, bg, bm, c, h⟩
 ·have k : ∀ x ∈ a.all, W'.heap[x]? = W.heap[x]? := fun x hm => by
   obtain ⟨o, q1, q2, q3⟩ := h.ty x hm
   rw [q1]; exact hk x o q1 q2 q3
  refine .inl ⟨h0, a, h1, hx, (k _ (by simp [BA.all])).trans h.cell, h.ring.keep (k _ (by simp [BA.all])) (k _ (by simp [BA.all])), h.top.keep (k _ (by simp [BA.all])) (k _ (by simp [BA.all])), ?_, h.lo, h.nd, by simp, by simp⟩
  obtain ⟨hn, n, size, k1, k2, k3, k4, k5⟩ := h.got
  exact ⟨hn, n, size, k1, k2, (k _ (by simp [BA.all])).trans k3, (k _ (by simp [BA.all])).trans k4, k5⟩
 ·have k : ∀ x ∈ [b, bg, bm], W'.heap[x]? = W.heap[x]? := fun x hm => by
   obtain ⟨o, q1, q2, q3⟩ := h.ty x hm
   rw [q1]; exact hk x o q1 q2 q3
  refine .inr ⟨h0, bg, bm, c, hx, (k _ (by simp)).trans h.cell, ?_, h.lo, h.nd, by simp, by simp⟩
  obtain ⟨hn, n, size, k1, k2, k3, k4, k5⟩ := h.got
  exact ⟨hn, n, size, k1, k2, (k _ (by simp)).trans k3, (k _ (by simp)).trans k4, k5⟩
theorem ProgB.keeps (h : ProgB w0 b s W) (hk : KeepsN refTy W W') (hx : Ext w0 W') : ProgB w0 b s W' := h.keepsY (fun k o h1 _ h3 => hk k o h1 h3) hx
theorem own_ref {v : Value} {n size : Nat} {e : TypeId} {xs : List Value} (h : W.ownsRow B e size v n xs) (hk : ∀ (k : Nat) (o : Obj), W.heap[k]? = some o → refTy o = true → progTy o = false → W'.heap[k]? = some o)
  (he : e ≠ 73 ∧ e ≠ 96 ∧ e ≠ 99) (he2 : e = 93 ∨ e = 119) : W'.ownsRow B e size v n xs := by
 refine ⟨h.1, ?_⟩
 rcases h.2 with h0 | ⟨g, cap, cur, hv, hg, hh, r⟩
 ·exact .inl h0
 ·exact .inr ⟨g, cap, cur, hv, hg, hk g _ hh (by rcases he2 with rfl | rfl <;> simp [refTy]) (by simp [progTy, he]), r⟩
theorem RefS.keepsY (h : RefS B r s W) (hk : ∀ (k : Nat) (o : Obj), W.heap[k]? = some o → refTy o = true → progTy o = false → W'.heap[k]? = some o) : RefS B r s W' := by
 rcases h with ⟨h0, d, gv, h⟩ | ⟨h0, gv, h⟩
 ·obtain ⟨v, q1, q2, q3⟩ := h.doc
  exact .inl ⟨h0, d, gv, hk r _ h.blk (rbo_ty _ _ _ _ _) (by simp [progTy, rbo]), h.lo, ⟨v, hk d _ q1 (by simp [refTy]) (by simp [progTy]), q2, own_ref q3 hk (by decide) (.inl rfl)⟩, own_ref h.own hk (by decide) (.inr rfl)⟩
 ·exact .inr ⟨h0, gv, hk r _ h.blk (rbo_ty _ _ _ _ _) (by simp [progTy, rbo]), h.lo, own_ref h.own hk (by decide) (.inr rfl)⟩
theorem RefS.keeps (h : RefS B r s W) (hk : KeepsN progTy W W') : RefS B r s W' := h.keepsY (fun k o h1 _ h3 => hk k o h1 h3)
theorem ProgB.cell (h : ProgB w0 b s W) : ∃ p q bg, BCell W b p s.st s.hd q bg := by
 rcases h with ⟨h0, a, rfl, h⟩ | ⟨h0, bg, bm, c, h⟩
 ·exact ⟨_, _, _, by rw [h0]; exact h.cell⟩
 ·exact ⟨_, _, _, h.cell⟩
theorem ProgB.open (h : ProgB w0 b s W) (h2 : s.st = 2) : ∃ a : BA, a.b = b ∧ BarO w0 [] a s.hd s.gs s.E s.n s.root W := by
 rcases h with ⟨_, h⟩ | ⟨h0, _⟩
 ·exact h
 ·exact absurd h2 h0
theorem ProgB.shut (h : ProgB w0 b s W) (h2 : s.st ≠ 2) : ∃ bg bm c, BarC w0 [] b bg bm c s.st s.hd s.gs W := by
 rcases h with ⟨h0, _⟩ | ⟨_, h⟩
 ·exact absurd h0 h2
 ·exact h
theorem RefS.open (h : RefS B r s W) (h2 : s.st = 2) : ∃ d gv, RO B r d gv s.hd s.root s.E s.gs W := by
 rcases h with ⟨_, h⟩ | ⟨h0, _⟩
 ·exact h
 ·exact absurd h2 h0
theorem RefS.shut (h : RefS B r s W) (h2 : s.st ≠ 2) : ∃ gv, RC B r s.st gv s.hd s.gs W := by
 rcases h with ⟨h0, _⟩ | ⟨_, h⟩
 ·exact absurd h0 h2
 ·exact h
theorem RefS.blk (h : RefS B r s W) (ok : s.Ok) : ∃ rp gv, W.heap[r]? = some (rbo s.st s.hd s.root rp gv) := by
 rcases h with ⟨h0, d, gv, h⟩ | ⟨h0, gv, h⟩
 ·exact ⟨_, _, by rw [h0]; exact h.blk⟩
 ·have hr : s.root = [] := by
   have := ok.le
   by_cases h1 : s.st = 0
   ·rw [ok.non h1]; rfl
   ·rw [ok.shu (by omega)]; rfl
  exact ⟨_, _, by rw [hr]; exact h.blk⟩
end
def StP (w0 : World) (b : Nat) (s' : BS) (R : Value) (W : World) (e : Ending) (w' : World) : Prop := e = .returned R ∧ ProgB w0 b s' w' ∧ KeepsN progTy W w'
def StR (B r : Nat) (s' : BS) (R : Value) (W : World) (e : Ending) (w' : World) : Prop := e = .returned R ∧ RefS B r s' w' ∧ Fr B W w'
theorem stP_same {w0 W : World} {b : Nat} {s : BS} {R : Value} {f : FuncId} {args : Array Value} (h : ProgB w0 b s W) (hc : Calls Tryz.prog f args W fun e w' => e = .returned R ∧ W = w') : Calls Tryz.prog f args W (StP w0 b s R W) :=
 hc.mono (by rintro e w' ⟨rfl, rfl⟩; exact ⟨rfl, h, fun _ _ h _ => h⟩)
theorem stP_ext {w0 W : World} {b : Nat} {s : BS} {R : Value} {f : FuncId} {args : Array Value} (h : ProgB w0 b s W) (hc : Calls Tryz.prog f args W fun e w' => e = .returned R ∧ Ext W w') : Calls Tryz.prog f args W (StP w0 b s R W) :=
 hc.mono (by rintro e w' ⟨rfl, hx⟩; exact ⟨rfl, h.next hx, keepsN_ext hx⟩)
theorem stR_same {W : World} {B r : Nat} {s : BS} {R : Value} {f : FuncId} {args : Array Value} (h : RefS B r s W) (hc : Calls Tryz.prog f args W fun e w' => e = .returned R ∧ W = w') : Calls Tryz.prog f args W (StR B r s R W) :=
 hc.mono (by rintro e w' ⟨rfl, rfl⟩; exact ⟨rfl, h, Fr.refl _ _⟩)
theorem stR_ext {W : World} {B r : Nat} {s : BS} {R : Value} {f : FuncId} {args : Array Value} (h : RefS B r s W) (hc : Calls Tryz.prog f args W fun e w' => e = .returned R ∧ Ext W w') : Calls Tryz.prog f args W (StR B r s R W) :=
 hc.mono (by rintro e w' ⟨rfl, hx⟩; exact ⟨rfl, h.next hx, Fr.of hx h.size⟩)
section
variable {w0 W : World} {b r B : Nat} {s s' : BS}
theorem readS_len {u : List UInt8} {r : Nat × Nat × List UInt8} (h : readS u = some r) : u.length ≤ 1000 := by
 refine Decidable.byContradiction fun hl => ?_
 rw [readS_short u (.inr (by omega))] at h
 cases h
theorem UnR.prog {u : List UInt8} {bo : Bool} {er : Int} (h : UnR s u bo er s') (ok : s.Ok) (hB : ProgB w0 b s W) (hu : u.length ≤ 1000000) :
  Calls Tryz.prog 13 #[.pointer (some ⟨b, 0, none⟩), .string (bs u)] W (StP w0 b s' (.tuple #[.bool bo, .int .i64 er]) W) := by
 have hfew := ok.few
 cases h with
 | st h =>
  obtain ⟨p, q, bg, hc⟩ := hB.cell
  exact stP_same hB (bar_Unseal_st u hc h)
 | form h hr =>
  obtain ⟨bg, bm, c, hC⟩ := hB.shut (by omega)
  obtain ⟨x, t, hd, _⟩ := ok.hd (by omega)
  rw [h, hd] at hC
  refine (bar_Unseal_form w0 W _ b bg bm c x t s.gs u hC.wide (by omega) (by omega) hr).mono ?_
  rintro e w' ⟨rfl, h1⟩
  obtain ⟨h2, h3⟩ := h1.less
  exact ⟨rfl, .inr ⟨by omega, bg, bm, c, by rw [h, hd]; exact h2⟩, h3⟩
 | other h x t hd hg i n y hr hno =>
  obtain ⟨bg, bm, c, hC⟩ := hB.shut (by omega)
  rw [h, hd, hg] at hC
  refine (bar_Unseal_other w0 W _ b bg bm c x t u i n y hC.wide (by omega) hr hno).mono ?_
  rintro e w' ⟨rfl, h1⟩
  obtain ⟨h2, h3⟩ := h1.less
  exact ⟨rfl, .inr ⟨by omega, bg, bm, c, by rw [h, hd, hg]; exact h2⟩, h3⟩
 | add h hg i n y hr er ha her =>
  obtain ⟨bg, bm, c, hC⟩ := hB.shut (by omega)
  obtain ⟨x, t, hd, _⟩ := ok.hd (by omega)
  rw [h, hd] at hC
  refine (bar_Unseal_add w0 W _ b bg bm c x t s.gs u i n y er hC.wide (by omega) (by omega) hr hg ha her).mono ?_
  rintro e w' ⟨rfl, h1⟩
  obtain ⟨h2, h3⟩ := h1.less
  exact ⟨rfl, .inr ⟨by omega, bg, bm, c, by rw [h, hd]; exact h2⟩, h3⟩
 | more h x t hd i y gs' hf hsec =>
  obtain ⟨bg, bm, c, hC⟩ := hB.shut (by omega)
  rw [h, hd] at hC
  refine (bar_Unseal_more w0 W _ b bg bm c x t s.gs gs' u i y hC.wide (readS_len hf.read) hf hsec).mono ?_
  rintro e w' ⟨rfl, h1⟩
  obtain ⟨h2, h3⟩ := h1.less
  exact ⟨rfl, .inr ⟨by simp [BS.shut], bg, bm, c, by rw [hd]; exact h2⟩, h3⟩
 | tag h x t hd i y gs' hf root text er hsec hrl ho hre htl hxl =>
  obtain ⟨bg, bm, c, hC⟩ := hB.shut (by omega)
  rw [h, hd] at hC
  refine (bar_Unseal_tag w0 W _ b bg bm c x t s.gs gs' u i y root text er hC.wide (readS_len hf.read) hf hsec hrl ho hre htl hxl).mono ?_
  rintro e w' ⟨rfl, c', h1⟩
  obtain ⟨h2, h3⟩ := h1.less
  exact ⟨rfl, .inr ⟨by simp [BS.shut], bg, bm, c', by rw [hd]; exact h2⟩, h3⟩
 | opn h x t hd i y gs' hf root text E hsec hrl ho hre htl hxl =>
  obtain ⟨bg, bm, c, hC⟩ := hB.shut (by omega)
  rw [h, hd] at hC
  refine (bar_Unseal_open w0 W _ b bg bm c x t s.gs gs' u i y root text E hC.wide (readS_len hf.read) hf hsec hrl ho hre htl hxl).mono ?_
  rintro e w' ⟨rfl, a, h1, _, _, h4⟩
  obtain ⟨h2, h3⟩ := h4.less
  exact ⟨rfl, .inl ⟨rfl, a, h1, by rw [hd]; exact h2⟩, h3⟩
theorem UnR.ref {u : List UInt8} {bo : Bool} {er : Int} (h : UnR s u bo er s') (ok : s.Ok) (hR : RefS B r s W) (hu : u.length ≤ 1000000) :
  Calls Tryz.prog 49 #[.pointer (some ⟨r, 0, none⟩), .string (bs u)] W (StR B r s' (.tuple #[.bool bo, .int .i64 er]) W) := by
 have hfew := ok.few
 have h64 : ∀ {x : UInt8} {gs : GS}, (∀ z ∈ gs, z.2.1 = x.toNat ∧ z.2.2.length = 32) → ∀ z ∈ gs, z.2.2.length ≤ 64 := fun h z hz => by rw [(h z hz).2]; omega
 cases h with
 | st h =>
  obtain ⟨rp, gv, hb⟩ := hR.blk ok
  exact stR_same hR (ref_Unseal_st u hb h)
 | form h hr =>
  obtain ⟨gv, hC⟩ := hR.shut (by omega)
  obtain ⟨x, t, hd, _, _, hall⟩ := ok.hd (by omega)
  rw [h] at hC
  refine (ref_Unseal_no W B r gv s.hd s.gs u 7 hC (by omega) (by omega) (h64 hall) (by unfold addS; rw [hr]) (by omega)).mono ?_
  rintro e w' ⟨rfl, ⟨gv', h1⟩, h2⟩
  exact ⟨rfl, .inr ⟨by omega, gv', by rw [h]; exact h1⟩, h2⟩
 | other h x t hd hg i n y hr hno =>
  obtain ⟨gv, hC⟩ := hR.shut (by omega)
  rw [h, hd, hg] at hC
  refine (ref_Unseal_other W B r gv x t u i n y hC (by omega) (by unfold addS; rw [hr]; rfl) hno).mono ?_
  rintro e w' ⟨rfl, ⟨gv', h1⟩, h2⟩
  exact ⟨rfl, .inr ⟨by omega, gv', by rw [h, hd, hg]; exact h1⟩, h2⟩
 | add h hg i n y hr er ha her =>
  obtain ⟨gv, hC⟩ := hR.shut (by omega)
  obtain ⟨x, t, hd, _, _, hall⟩ := ok.hd (by omega)
  rw [h] at hC
  refine (ref_Unseal_no W B r gv s.hd s.gs u er hC (by omega) (by omega) (h64 hall) ha her).mono ?_
  rintro e w' ⟨rfl, ⟨gv', h1⟩, h2⟩
  exact ⟨rfl, .inr ⟨by omega, gv', by rw [h]; exact h1⟩, h2⟩
 | more h x t hd i y gs' hf hsec =>
  obtain ⟨gv, hC⟩ := hR.shut (by omega)
  obtain ⟨x', t', hd', _, _, hall⟩ := ok.hd (by omega)
  rw [hd] at hd'; injection hd' with e1 _; subst e1
  rw [h, hd] at hC
  refine (ref_Unseal_more W B r gv x t s.gs gs' u i y hC (by omega) hf hall hsec).mono ?_
  rintro e w' ⟨rfl, ⟨gv', h1⟩, h2⟩
  exact ⟨rfl, .inr ⟨by simp [BS.shut], gv', by rw [hd]; exact h1⟩, h2⟩
 | tag h x t hd i y gs' hf root text er hsec hrl ho hre htl hxl =>
  obtain ⟨gv, hC⟩ := hR.shut (by omega)
  obtain ⟨x', t', hd', _, _, hall⟩ := ok.hd (by omega)
  rw [hd] at hd'; injection hd' with e1 _; subst e1
  rw [h, hd] at hC
  refine (ref_Unseal_tag W B r gv x t s.gs gs' u i y root text er hC (by omega) hf hall hsec hrl htl hxl ho hre).mono ?_
  rintro e w' ⟨rfl, ⟨gv', h1⟩, h2⟩
  exact ⟨rfl, .inr ⟨by simp [BS.shut], gv', by rw [hd]; exact h1⟩, h2⟩
 | opn h x t hd i y gs' hf root text E hsec hrl ho hre htl hxl =>
  obtain ⟨gv, hC⟩ := hR.shut (by omega)
  obtain ⟨x', t', hd', _, _, hall⟩ := ok.hd (by omega)
  rw [hd] at hd'; injection hd' with e1 _; subst e1
  rw [h, hd] at hC
  refine (ref_Unseal_open W B r gv x t s.gs gs' u i y root text E hC (by omega) hf hall hsec hrl htl hxl ho hre).mono ?_
  rintro e w' ⟨rfl, ⟨d, gv', h1⟩, h2⟩
  exact ⟨rfl, .inl ⟨rfl, d, gv', by rw [hd]; exact h1⟩, h2⟩
theorem SealR.prog {er : Int} (h : SealR s er s') (hB : ProgB w0 b s W) :
  Calls Tryz.prog 12 #[.pointer (some ⟨b, 0, none⟩)] W (StP w0 b s' (.int .i64 er) W) := by
 cases h with
 | ok h =>
  obtain ⟨a, rfl, hO⟩ := hB.open h
  refine (bar_Seal w0 W _ a s.hd s.gs s.E s.n s.root hO.wide).mono ?_
  rintro e w' ⟨rfl, h1⟩
  obtain ⟨h2, h3⟩ := h1.less
  exact ⟨rfl, .inr ⟨by simp [BS.shut], _, _, _, h2⟩, h3⟩
 | no h =>
  obtain ⟨p, q, bg, hc⟩ := hB.cell
  exact stP_same hB (bar_Seal_st hc h)
theorem SealR.ref {er : Int} (h : SealR s er s') (ok : s.Ok) (hR : RefS B r s W) :
  Calls Tryz.prog 50 #[.pointer (some ⟨r, 0, none⟩)] W (StR B r s' (.int .i64 er) W) := by
 cases h with
 | ok h =>
  obtain ⟨d, gv, hO⟩ := hR.open h
  refine (ref_Seal W B r d gv s.hd s.root s.E s.gs hO).mono ?_
  rintro e w' ⟨rfl, h1, h2⟩
  exact ⟨rfl, .inr ⟨by simp [BS.shut], gv, h1⟩, h2⟩
 | no h =>
  obtain ⟨rp, gv, hb⟩ := hR.blk ok
  exact stR_same hR (ref_Seal_st hb h)
end
end Go.Proofs.YtclekllaikcglaaGreat

/- Layer 15: Put, Get, Rotate, Retire, Load, Begin of both barriers. -/
namespace Go.Proofs.YtclekllaikcglaaGreat
open Go Go.RowKit
section
variable {w0 W : World} {b r B : Nat} {s s' : BS}
theorem PutR.prog {path nonce text v : List UInt8} {ver : Nat} {er : Int} (h : PutR s path nonce text ver v er) (ok : s.Ok) (hB : ProgB w0 b s W) (hv : U64 ver) (hp : path.length ≤ 1048576) (ht : text.length ≤ 1048576) :
  Calls Tryz.prog 16 #[.pointer (some ⟨b, 0, none⟩), .string (bs path), .int .u64 (ver : Int), .string (bs nonce), .string (bs text)] W (StP w0 b s (.tuple #[.string (bs v), .int .i64 er]) W) := by
 obtain ⟨p, q, bg, hc⟩ := hB.cell
 cases h with
 | zero h =>
  have := bar_Put_st path nonce text ver hc (by omega)
  rw [if_neg (by omega)] at this
  exact stP_same hB this
 | shut h =>
  have := bar_Put_st path nonce text ver hc (by omega)
  rw [if_pos h] at this
  exact stP_same hB this
 | nonce h hno =>
  obtain ⟨a, rfl, hO⟩ := hB.open h
  exact stP_same hB (bar_Put_nonce w0 W [] a s.hd s.gs s.E s.n s.root path nonce text ver hO hno)
 | ok h hno key hk =>
  obtain ⟨a, rfl, hO⟩ := hB.open h
  obtain ⟨hI, _, hn, _, _⟩ := ok.opn h
  exact stP_ext hB (bar_Put_x w0 W [] a s.hd s.gs s.E s.n s.root key path nonce text ver hO hI hn hk hv hno hp ht)
theorem PutR.ref {path nonce text v : List UInt8} {ver : Nat} {er : Int} (h : PutR s path nonce text ver v er) (ok : s.Ok) (hR : RefS B r s W) (hv : U64 ver) (hp : path.length ≤ 1048576) (ht : text.length ≤ 1048576) :
  Calls Tryz.prog 54 #[.pointer (some ⟨r, 0, none⟩), .string (bs path), .int .u64 (ver : Int), .string (bs nonce), .string (bs text)] W (StR B r s (.tuple #[.string (bs v), .int .i64 er]) W) := by
 obtain ⟨rp, gv, hb⟩ := hR.blk ok
 cases h with
 | zero h =>
  have := ref_Put_st path nonce text ver hb (.inl h)
  rw [if_neg (by omega)] at this
  exact stR_same hR this
 | shut h =>
  have := ref_Put_st path nonce text ver hb (.inr h)
  rw [if_pos h] at this
  exact stR_same hR this
 | nonce h hno =>
  obtain ⟨d, gv, hO⟩ := hR.open h
  exact stR_same hR (ref_Put_nonce W B r d gv s.hd s.root s.E s.gs path nonce text ver hO hno)
 | ok h hno key hk =>
  obtain ⟨d, gv, hO⟩ := hR.open h
  obtain ⟨hI, _, hn, _, _⟩ := ok.opn h
  exact stR_ext hR (ref_Put W B r d gv s.hd s.root s.E s.gs s.n key path nonce text ver hO hI hn hk hv hno hp ht)
theorem GetR.prog {path t v : List UInt8} {ver : Nat} {er : Int} (h : GetR s path ver t v er) (ok : s.Ok) (hB : ProgB w0 b s W) (hv : U64 ver) (hp : path.length ≤ 1048576) (ht : t.length ≤ 1000000) :
  Calls Tryz.prog 21 #[.pointer (some ⟨b, 0, none⟩), .string (bs path), .int .u64 (ver : Int), .string (bs t)] W (StP w0 b s (.tuple #[.string (bs v), .int .i64 er]) W) := by
 obtain ⟨p, q, bg, hc⟩ := hB.cell
 cases h with
 | zero h =>
  have := bar_Get_st path t ver hc (by omega)
  rw [if_neg (by omega)] at this
  exact stP_same hB this
 | shut h =>
  have := bar_Get_st path t ver hc (by omega)
  rw [if_pos h] at this
  exact stP_same hB this
 | ok h =>
  obtain ⟨a, rfl, hO⟩ := hB.open h
  exact stP_ext hB (bar_Get_x w0 W [] a s.hd s.gs s.E s.n s.root path t ver hO (ok.opn h).1 hv hp (by omega))
theorem GetR.ref {path t v : List UInt8} {ver : Nat} {er : Int} (h : GetR s path ver t v er) (ok : s.Ok) (hR : RefS B r s W) (hv : U64 ver) (hp : path.length ≤ 1048576) (ht : t.length ≤ 1000000) :
  Calls Tryz.prog 55 #[.pointer (some ⟨r, 0, none⟩), .string (bs path), .int .u64 (ver : Int), .string (bs t)] W (StR B r s (.tuple #[.string (bs v), .int .i64 er]) W) := by
 obtain ⟨rp, gv, hb⟩ := hR.blk ok
 cases h with
 | zero h =>
  have := ref_Get_st path t ver hb (.inl h)
  rw [if_neg (by omega)] at this
  exact stR_same hR this
 | shut h =>
  have := ref_Get_st path t ver hb (.inr h)
  rw [if_pos h] at this
  exact stR_same hR this
 | ok h =>
  obtain ⟨d, gv, hO⟩ := hR.open h
  obtain ⟨hI, _, _, _, _⟩ := ok.opn h
  have := hI.len
  exact stR_ext hR (ref_Get W B r d gv s.hd s.root s.E s.gs path t ver hO hI.ne (by omega) hI.key hv hp (by omega))
theorem RotR.prog {key nonce : List UInt8} {n : Nat} {er : Int} (h : RotR s key nonce n er s') (ok : s.Ok) (hB : ProgB w0 b s W) (hkl : key.length ≤ 1000000) :
  Calls Tryz.prog 20 #[.pointer (some ⟨b, 0, none⟩), .string (bs key), .string (bs nonce)] W (StP w0 b s' (.tuple #[.int .u32 (n : Int), .int .i64 er]) W) := by
 obtain ⟨p, q, bg, hc⟩ := hB.cell
 cases h with
 | zero h =>
  have := bar_Rotate_st key nonce hc (by omega)
  rw [if_neg (by omega)] at this
  exact stP_same hB this
 | shut h =>
  have := bar_Rotate_st key nonce hc (by omega)
  rw [if_pos h] at this
  exact stP_same hB this
 | nonce h hno => exact stP_same hB (bar_Rotate_nonce key nonce (h ▸ hc) hno)
 | no h hno hk =>
  obtain ⟨a, rfl, hO⟩ := hB.open h
  exact stP_same hB (bar_Rotate_no w0 W [] a s.hd s.gs s.E s.n s.root key nonce hO (ok.opn h).1.pos hno (by omega) hk)
 | ok h hno x t hd hk hl hn =>
  obtain ⟨a, rfl, hO⟩ := hB.open h
  obtain ⟨hI, _, _, hr, _⟩ := ok.opn h
  rw [hd] at hO
  refine (bar_Rotate w0 W _ a x t s.gs s.E s.n s.root key nonce hO.wide hI hl hn hr hk hno).mono ?_
  rintro e w' ⟨rfl, h1⟩
  obtain ⟨h2, h3⟩ := h1.less
  exact ⟨rfl, .inl ⟨rfl, a, rfl, h2⟩, h3⟩
theorem RotR.ref {key nonce : List UInt8} {n : Nat} {er : Int} (h : RotR s key nonce n er s') (ok : s.Ok) (hR : RefS B r s W) (hkl : key.length ≤ 1000000) :
  Calls Tryz.prog 52 #[.pointer (some ⟨r, 0, none⟩), .string (bs key), .string (bs nonce)] W (StR B r s' (.tuple #[.int .u32 (n : Int), .int .i64 er]) W) := by
 obtain ⟨rp, gv, hb⟩ := hR.blk ok
 cases h with
 | zero h =>
  have := ref_Rotate_st key nonce hb (.inl h)
  rw [if_neg (by omega)] at this
  exact stR_same hR this
 | shut h =>
  have := ref_Rotate_st key nonce hb (.inr h)
  rw [if_pos h] at this
  exact stR_same hR this
 | nonce h hno => exact stR_same hR (ref_Rotate_nonce key nonce (h ▸ hb) hno)
 | no h hno hk =>
  obtain ⟨d, gv, hO⟩ := hR.open h
  exact stR_ext hR (ref_Rotate_no W B r d gv s.hd s.root s.E s.gs s.n key nonce hO (ok.opn h).1 hno (by omega) hk)
 | ok h hno x t hd hk hl hn =>
  obtain ⟨d, gv, hO⟩ := hR.open h
  obtain ⟨hI, _, hn2, hr, _⟩ := ok.opn h
  rw [hd] at hO
  refine (ref_Rotate W B r d gv x t s.root s.E s.gs s.n key nonce hO hI hn2 hr hno hk hl hn).mono ?_
  rintro e w' ⟨rfl, h1, h2⟩
  exact ⟨rfl, .inl ⟨rfl, d, gv, h1⟩, h2⟩
theorem RetR.prog {nonce : List UInt8} {ep : Nat} {er : Int} (h : RetR s ep nonce er s') (ok : s.Ok) (hB : ProgB w0 b s W) :
  Calls Tryz.prog 22 #[.pointer (some ⟨b, 0, none⟩), .int .u32 (ep : Int), .string (bs nonce)] W (StP w0 b s' (.int .i64 er) W) := by
 obtain ⟨p, q, bg, hc⟩ := hB.cell
 cases h with
 | zero h =>
  have := bar_Retire_st ep nonce hc (by omega)
  rw [if_neg (by omega)] at this
  exact stP_same hB this
 | shut h =>
  have := bar_Retire_st ep nonce hc (by omega)
  rw [if_pos h] at this
  exact stP_same hB this
 | nonce h hno => exact stP_same hB (bar_Retire_nonce ep nonce (h ▸ hc) hno)
 | no h hno he =>
  obtain ⟨a, rfl, hO⟩ := hB.open h
  exact stP_same hB (bar_Retire_no w0 W [] a s.hd s.gs s.E s.n ep s.root nonce hO (ok.opn h).1 hno he)
 | ok h hno x t hd he u hs =>
  obtain ⟨a, rfl, hO⟩ := hB.open h
  obtain ⟨hI, _, hn, hr, _⟩ := ok.opn h
  rw [hd] at hO
  refine (bar_Retire w0 W _ a x t s.gs s.E s.n ep s.root nonce hO.wide hI hn hr hno he hs).mono ?_
  rintro e w' ⟨rfl, h1⟩
  obtain ⟨h2, h3⟩ := h1.less
  exact ⟨rfl, .inl ⟨rfl, a, rfl, h2⟩, h3⟩
theorem RetR.ref {nonce : List UInt8} {ep : Nat} {er : Int} (h : RetR s ep nonce er s') (ok : s.Ok) (hR : RefS B r s W) :
  Calls Tryz.prog 53 #[.pointer (some ⟨r, 0, none⟩), .int .u32 (ep : Int), .string (bs nonce)] W (StR B r s' (.int .i64 er) W) := by
 obtain ⟨rp, gv, hb⟩ := hR.blk ok
 cases h with
 | zero h =>
  have := ref_Retire_st ep nonce hb (.inl h)
  rw [if_neg (by omega)] at this
  exact stR_same hR this
 | shut h =>
  have := ref_Retire_st ep nonce hb (.inr h)
  rw [if_pos h] at this
  exact stR_same hR this
 | nonce h hno => exact stR_same hR (ref_Retire_nonce ep nonce (h ▸ hb) hno)
 | no h hno he =>
  obtain ⟨d, gv, hO⟩ := hR.open h
  exact stR_ext hR (ref_Retire_no W B r d gv s.hd s.root s.E s.gs s.n ep nonce hO (ok.opn h).1 hno he)
 | ok h hno x t hd he u hs =>
  obtain ⟨d, gv, hO⟩ := hR.open h
  obtain ⟨hI, _, hn, hr, _⟩ := ok.opn h
  rw [hd] at hO
  refine (ref_Retire W B r d gv x t s.root s.E s.gs s.n ep nonce u hO hI hn hr hno he hs).mono ?_
  rintro e w' ⟨rfl, h1, h2⟩
  exact ⟨rfl, .inl ⟨rfl, d, gv, h1⟩, h2⟩
theorem LoadR.prog {t : List UInt8} {er : Int} (h : LoadR s t er s') (ok : s.Ok) (hB : ProgB w0 b s W) :
  Calls Tryz.prog 17 #[.pointer (some ⟨b, 0, none⟩), .string (bs t)] W (StP w0 b s' (.int .i64 er) W) := by
 obtain ⟨p, q, bg, hc⟩ := hB.cell
 cases h with
 | st hs => exact stP_same hB (bar_Load_st t hc hs)
 | nil hs he => subst he; rw [hs] at hc; exact stP_same hB (bar_Load_none hc)
 | form hs x t he hx ht => subst he; rw [hs] at hc; exact stP_same hB (bar_Load_form x t hc hx ht)
 | ep hs x t he h1 h16 hep ht => subst he; rw [hs] at hc; exact stP_ext hB (bar_Load_ep x t hc h1 h16 hep ht)
 | ok hs x t he h1 h16 ep hep ht =>
  subst he
  obtain ⟨bg, bm, c, hC⟩ := hB.shut (by omega)
  rw [ok.non hs] at hC
  refine (bar_Load w0 W _ b bg bm c x t [] ep hC.wide h1 h16 hep ht).mono ?_
  rintro e w' ⟨rfl, h1⟩
  obtain ⟨h2, h3⟩ := h1.less
  exact ⟨rfl, .inr ⟨by simp [BS.shut], bg, bm, c, h2⟩, h3⟩
theorem LoadR.ref {t : List UInt8} {er : Int} (h : LoadR s t er s') (ok : s.Ok) (hR : RefS B r s W) :
  Calls Tryz.prog 47 #[.pointer (some ⟨r, 0, none⟩), .string (bs t)] W (StR B r s' (.int .i64 er) W) := by
 obtain ⟨rp, gv, hb⟩ := hR.blk ok
 cases h with
 | st hs => exact stR_same hR (ref_Load_st t hb hs)
 | nil hs he => subst he; rw [hs] at hb; exact stR_same hR (ref_Load_none hb)
 | form hs x t he hx ht => subst he; rw [hs] at hb; exact stR_same hR (ref_Load_form x t hb hx ht)
 | ep hs x t he h1 h16 hep ht => subst he; rw [hs] at hb; exact stR_ext hR (ref_Load_ep x t hb h1 h16 hep ht)
 | ok hs x t he h1 h16 ep hep ht =>
  subst he
  obtain ⟨gv, hC⟩ := hR.shut (by omega)
  rw [ok.non hs] at hC
  refine (ref_Load W B r gv [] x t ep hC h1 h16 hep ht).mono ?_
  rintro e w' ⟨rfl, h1, h2⟩
  exact ⟨rfl, .inr ⟨by simp [BS.shut], gv, h1⟩, h2⟩
def ShV (W : World) (v : Value) (sh : List (List UInt8)) : Prop :=
 (v = .slice none 0 0 ∧ sh = []) ∨ ∃ (g cap : Nat) (cur : Array Value), v = .slice (some ⟨g, 0, none⟩) sh.length cap ∧ W.heap[g]? = some (.cells cur 9 (0, 0)) ∧ ∀ i (hi : i < sh.length), cur[i]? = some (strV sh[i])
theorem ShV.keepP {W W' : World} {v : Value} {sh : List (List UInt8)} (h : ShV W v sh) (hk : KeepsN progTy W W') : ShV W' v sh := by
 rcases h with h | ⟨g, cap, cur, h1, h2, h3⟩
 ·exact .inl h
 ·exact .inr ⟨g, cap, cur, h1, hk g _ h2 (by simp [progTy]), h3⟩
theorem ShV.keepR {W W' : World} {v : Value} {sh : List (List UInt8)} (h : ShV W v sh) (hk : KeepsN refTy W W') : ShV W' v sh := by
 rcases h with h | ⟨g, cap, cur, h1, h2, h3⟩
 ·exact .inl h
 ·exact .inr ⟨g, cap, cur, h1, hk g _ h2 (by simp [refTy]), h3⟩
theorem ShV.ext {W W' : World} {v : Value} {sh : List (List UInt8)} (h : ShV W v sh) (hx : Ext W W') : ShV W' v sh := by
 rcases h with h | ⟨g, cap, cur, h1, h2, h3⟩
 ·exact .inl h
 ·exact .inr ⟨g, cap, cur, h1, hx.keep h2, h3⟩
def BgP (w0 : World) (b : Nat) (s' : BS) (r : Option (List (List UInt8))) (er : Int) (W : World) (e : Ending) (w' : World) : Prop :=
 ∃ v, e = .returned (.tuple #[v, .int .i64 er]) ∧ ShV w' v (r.getD []) ∧ ProgB w0 b s' w' ∧ KeepsN progTy W w'
def BgR (B r : Nat) (s' : BS) (o : Option (List (List UInt8))) (er : Int) (W : World) (e : Ending) (w' : World) : Prop :=
 ∃ v, e = .returned (.tuple #[v, .int .i64 er]) ∧ (∃ ad cap, v = .slice ad (o.getD []).length cap ∧ ∀ i (hi : i < (o.getD []).length), ∃ g, ad = some ⟨g, 0, none⟩ ∧ w'.cell? ⟨g, i, none⟩ = some (strV (o.getD [])[i])) ∧ RefS B r s' w' ∧ Fr B W w'
theorem BegR.prog {root key nonce : List UInt8} {l : List (List UInt8)} {o : Option (List (List UInt8))} {er : Int} (h : BegR s root key nonce l o er s') (ok : s.Ok) (hB : ProgB w0 b s W) (hr : root.length ≤ 1000000) (hk : key.length ≤ 1000000) (ad : Option Addr) (cap : Nat) (hv : Sl W (.slice ad l.length cap) (l.map strV)) :
  Calls Tryz.prog 10 #[.pointer (some ⟨b, 0, none⟩), .string (bs root), .string (bs key), .string (bs nonce), .slice ad l.length cap] W (BgP w0 b s' o er W) := by
 obtain ⟨p, q, bg, hc⟩ := hB.cell
 cases h with
 | st h =>
  refine (bar_Begin_st root key nonce _ hc h).mono ?_
  rintro e w' ⟨rfl, rfl⟩
  exact ⟨_, rfl, .inl ⟨rfl, rfl⟩, hB, fun _ _ h _ => h⟩
 | arg h hno =>
  rw [h] at hc
  refine (bar_Begin_arg root key nonce _ hc (by omega) (by omega) hno).mono ?_
  rintro e w' ⟨rfl, hx⟩
  exact ⟨_, rfl, .inl ⟨rfl, rfl⟩, hB.next hx, keepsN_ext hx⟩
 | ok h hr hk hno h3 hl =>
  obtain ⟨bg, bm, c, hC⟩ := hB.shut (by omega)
  rw [ok.non h] at hC
  refine (bar_Begin_t w0 W _ b bg bm c root key nonce l ad cap hC.wide hr hk hno hv h3 hl).mono ?_
  rintro e w' ⟨a, g, cp, cur, h1, _, _, rfl, h4, h5⟩
  have h6 : BarO w0 (othersF W) a (hdL root (l.length + 1) nonce [(1, key)]) [] [(1, key)] 1 root w' := h4.turn [] (But.refl _ _) (by simp) (by simp) (fun x hx => h4.keep x (by simp [hx])) (fun x hx => h4.off x (by simp [hx]))
  obtain ⟨h7, h8⟩ := h6.less
  refine ⟨_, rfl, .inr ⟨g, cp, cur, ?_, h4.keep _ (List.mem_cons_self ..), h5⟩, .inl ⟨rfl, a, h1, h7⟩, h8⟩
  show _ = Value.slice _ (shsL root l).length _
  rw [shsL_length]
theorem BegR.ref {root key nonce : List UInt8} {l : List (List UInt8)} {o : Option (List (List UInt8))} {er : Int} (h : BegR s root key nonce l o er s') (ok : s.Ok) (hR : RefS B r s W) (ad : Option Addr) (cap : Nat) (hv : Sl W (.slice ad l.length cap) (l.map strV)) :
  Calls Tryz.prog 73 #[.pointer (some ⟨r, 0, none⟩), .string (bs root), .string (bs key), .string (bs nonce), .slice ad l.length cap] W (BgR B r s' o er W) := by
 obtain ⟨rp, gv, hb⟩ := hR.blk ok
 cases h with
 | st h =>
  refine (ref_Begin_st root key nonce _ hb h).mono ?_
  rintro e w' ⟨rfl, rfl⟩
  exact ⟨_, rfl, ⟨none, 0, rfl, fun i hi => by simp at hi⟩, hR, Fr.refl _ _⟩
 | arg h hno =>
  rw [h] at hb
  refine (ref_Begin_arg root key nonce _ hb hno).mono ?_
  rintro e w' ⟨rfl, rfl⟩
  exact ⟨_, rfl, ⟨none, 0, rfl, fun i hi => by simp at hi⟩, hR, Fr.refl _ _⟩
 | ok h hr hk hno h3 hl =>
  obtain ⟨gv, hC⟩ := hR.shut (by omega)
  rw [ok.non h] at hC
  refine (ref_Begin W B r gv [] root key nonce l ad cap hC hr hk hno hv h3 hl).mono ?_
  rintro e w' ⟨g, cp, d, rfl, h1, h2, h4⟩
  refine ⟨_, rfl, ⟨some ⟨g, 0, none⟩, cp, ?_, fun i hi => ⟨g, rfl, h4 i hi⟩⟩, .inl ⟨rfl, d, gv, h1⟩, h2⟩
  show _ = Value.slice _ (shsL root l).length _
  rw [shsL_length]
end
end Go.Proofs.YtclekllaikcglaaGreat
