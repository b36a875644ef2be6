import Derived.Test.YtclekllaikcglaaGreatBarB

/- Layer 15: what a barrier refuses; Have. -/
namespace Go.Proofs.YtclekllaikcglaaGreat
open Go Go.RowKit
set_option maxRecDepth 100000 in
theorem bar_Begin_st {w : World} {b : Nat} {p q : Option Addr} {st : Nat} {hd : List UInt8} {bg : Nat} (root key nonce : List UInt8) (v : Value) (h : BCell w b p st hd q bg) (hst : st ≠ 0) :
  Calls Tryz.prog 10 #[.pointer (some ⟨b, 0, none⟩), .string (bs root), .string (bs key), .string (bs nonce), v] w fun e w' => e = .returned (.tuple #[.slice none 0 0, .int .i64 151]) ∧ w = w' := by
 have g := bar_is0 h
 rw [if_neg hst] at g
 have G := Lib.hid g
 clear h g hst
 go_enter Tryz.func10, Tryz.ntmps10
 go_wp2_with (go_at_call 27; (with_reducible refine (G.out).mono ?_); rintro e w' ⟨rfl, rfl⟩)
 go_returns
 exact ⟨rfl, rfl⟩
set_option maxRecDepth 100000 in
theorem bar_Load_st {w : World} {b : Nat} {p q : Option Addr} {st : Nat} {hd : List UInt8} {bg : Nat} (s : List UInt8) (h : BCell w b p st hd q bg) (hst : st ≠ 0) :
  Calls Tryz.prog 17 #[.pointer (some ⟨b, 0, none⟩), .string (bs s)] w fun e w' => e = .returned (.int .i64 151) ∧ w = w' := by
 have g := bar_is0 h
 rw [if_neg hst] at g
 have G := Lib.hid g
 clear h g hst
 go_enter Tryz.func17, Tryz.ntmps17
 go_wp2_with (go_at_call 27; (with_reducible refine (G.out).mono ?_); rintro e w' ⟨rfl, rfl⟩)
 go_returns
 exact ⟨rfl, rfl⟩
set_option maxRecDepth 100000 in
theorem bar_Unseal_st {w : World} {b : Nat} {p q : Option Addr} {st : Nat} {hd : List UInt8} {bg : Nat} (s : List UInt8) (h : BCell w b p st hd q bg) (hst : st ≠ 1) :
  Calls Tryz.prog 13 #[.pointer (some ⟨b, 0, none⟩), .string (bs s)] w fun e w' => e = .returned (.tuple #[.bool false, .int .i64 151]) ∧ w = w' := by
 have g := bar_is1 h
 rw [if_neg hst] at g
 have G := Lib.hid g
 clear h g hst
 go_enter Tryz.func13, Tryz.ntmps13
 go_wp2_with (go_at_call 27; (with_reducible refine (G.out).mono ?_); rintro e w' ⟨rfl, rfl⟩)
 go_returns
 exact ⟨rfl, rfl⟩
set_option maxRecDepth 100000 in
theorem bar_Seal_st {w : World} {b : Nat} {p q : Option Addr} {st : Nat} {hd : List UInt8} {bg : Nat} (h : BCell w b p st hd q bg) (hst : st ≠ 2) :
  Calls Tryz.prog 12 #[.pointer (some ⟨b, 0, none⟩)] w fun e w' => e = .returned (.int .i64 151) ∧ w = w' := by
 have g := bar_is2 h
 rw [if_neg hst] at g
 have G := Lib.hid g
 clear h g hst
 go_enter Tryz.func12, Tryz.ntmps12
 go_wp2_with (go_at_call 27; (with_reducible refine (G.out).mono ?_); rintro e w' ⟨rfl, rfl⟩)
 go_returns
 exact ⟨rfl, rfl⟩
set_option maxRecDepth 100000 in
theorem bar_Rotate_st {w : World} {b : Nat} {p q : Option Addr} {st : Nat} {hd : List UInt8} {bg : Nat} (key nonce : List UInt8) (h : BCell w b p st hd q bg) (hst : st ≠ 2) :
  Calls Tryz.prog 20 #[.pointer (some ⟨b, 0, none⟩), .string (bs key), .string (bs nonce)] w fun e w' => e = .returned (.tuple #[.int .u32 0, .int .i64 (if st = 1 then 150 else 151)]) ∧ w = w' := by
 have g := bar_open h
 rw [if_neg hst] at g
 obtain ⟨v, hv, hv0⟩ : ∃ v : Int, (if st = 1 then (150 : Int) else 151) = v ∧ v ≠ 0 := ⟨_, rfl, by split <;> omega⟩
 rw [hv] at g ⊢
 have G := Lib.hid g
 have hv1 : (v != 0) = true := by simpa using hv0
 clear h g hv hv0 hst
 go_enter Tryz.func20, Tryz.ntmps20
 go_wp2_with (go_at_call 40; (with_reducible refine (G.out).mono ?_); rintro e w' ⟨rfl, rfl⟩)
 go_returns
 exact ⟨rfl, rfl⟩
set_option maxRecDepth 100000 in
theorem bar_Retire_st {w : World} {b : Nat} {p q : Option Addr} {st : Nat} {hd : List UInt8} {bg : Nat} (ep : Nat) (nonce : List UInt8) (h : BCell w b p st hd q bg) (hst : st ≠ 2) :
  Calls Tryz.prog 22 #[.pointer (some ⟨b, 0, none⟩), .int .u32 (ep : Int), .string (bs nonce)] w fun e w' => e = .returned (.int .i64 (if st = 1 then 150 else 151)) ∧ w = w' := by
 have g := bar_open h
 rw [if_neg hst] at g
 obtain ⟨v, hv, hv0⟩ : ∃ v : Int, (if st = 1 then (150 : Int) else 151) = v ∧ v ≠ 0 := ⟨_, rfl, by split <;> omega⟩
 rw [hv] at g ⊢
 have G := Lib.hid g
 have hv1 : (v != 0) = true := by simpa using hv0
 clear h g hv hv0 hst
 go_enter Tryz.func22, Tryz.ntmps22
 go_wp2_with (go_at_call 40; (with_reducible refine (G.out).mono ?_); rintro e w' ⟨rfl, rfl⟩)
 go_returns
 exact ⟨rfl, rfl⟩
set_option maxRecDepth 100000 in
theorem bar_Epochs_st {w : World} {b : Nat} {p q : Option Addr} {st : Nat} {hd : List UInt8} {bg : Nat} (h : BCell w b p st hd q bg) (hst : st ≠ 2) :
  Calls Tryz.prog 19 #[.pointer (some ⟨b, 0, none⟩)] w fun e w' => e = .returned (.slice none 0 0) ∧ w = w' := by
 have g := bar_open h
 rw [if_neg hst] at g
 obtain ⟨v, hv, hv0⟩ : ∃ v : Int, (if st = 1 then (150 : Int) else 151) = v ∧ v ≠ 0 := ⟨_, rfl, by split <;> omega⟩
 rw [hv] at g
 have G := Lib.hid g
 have hv1 : (v != 0) = true := by simpa using hv0
 clear h g hv hv0 hst
 go_enter Tryz.func19, Tryz.ntmps19
 go_wp2_with (go_at_call 40; (with_reducible refine (G.out).mono ?_); rintro e w' ⟨rfl, rfl⟩)
 go_returns
 exact ⟨rfl, rfl⟩
set_option maxRecDepth 100000 in
theorem bar_Put_st {w : World} {b : Nat} {p q : Option Addr} {st : Nat} {hd : List UInt8} {bg : Nat} (path nonce text : List UInt8) (ver : Nat) (h : BCell w b p st hd q bg) (hst : st ≠ 2) :
  Calls Tryz.prog 16 #[.pointer (some ⟨b, 0, none⟩), .string (bs path), .int .u64 (ver : Int), .string (bs nonce), .string (bs text)] w fun e w' => e = .returned (.tuple #[.string { data := #[] }, .int .i64 (if st = 1 then 150 else 151)]) ∧ w = w' := by
 have g := bar_open h
 rw [if_neg hst] at g
 obtain ⟨v, hv, hv0⟩ : ∃ v : Int, (if st = 1 then (150 : Int) else 151) = v ∧ v ≠ 0 := ⟨_, rfl, by split <;> omega⟩
 rw [hv] at g ⊢
 have G := Lib.hid g
 have hv1 : (v != 0) = true := by simpa using hv0
 clear h g hv hv0 hst
 go_enter Tryz.func16, Tryz.ntmps16
 go_wp2_with (go_at_call 40; (with_reducible refine (G.out).mono ?_); rintro e w' ⟨rfl, rfl⟩)
 go_returns
 exact ⟨rfl, rfl⟩
set_option maxRecDepth 100000 in
theorem bar_Get_st {w : World} {b : Nat} {p q : Option Addr} {st : Nat} {hd : List UInt8} {bg : Nat} (path s : List UInt8) (ver : Nat) (h : BCell w b p st hd q bg) (hst : st ≠ 2) :
  Calls Tryz.prog 21 #[.pointer (some ⟨b, 0, none⟩), .string (bs path), .int .u64 (ver : Int), .string (bs s)] w fun e w' => e = .returned (.tuple #[.string { data := #[] }, .int .i64 (if st = 1 then 150 else 151)]) ∧ w = w' := by
 have g := bar_open h
 rw [if_neg hst] at g
 obtain ⟨v, hv, hv0⟩ : ∃ v : Int, (if st = 1 then (150 : Int) else 151) = v ∧ v ≠ 0 := ⟨_, rfl, by split <;> omega⟩
 rw [hv] at g ⊢
 have G := Lib.hid g
 have hv1 : (v != 0) = true := by simpa using hv0
 clear h g hv hv0 hst
 go_enter Tryz.func21, Tryz.ntmps21
 go_wp2_with (go_at_call 40; (with_reducible refine (G.out).mono ?_); rintro e w' ⟨rfl, rfl⟩)
 go_returns
 exact ⟨rfl, rfl⟩
set_option maxRecDepth 100000 in
theorem bar_Rotate_nonce {w : World} {b : Nat} {p q : Option Addr} {hd : List UInt8} {bg : Nat} (key nonce : List UInt8) (h : BCell w b p 2 hd q bg) (hno : nonce.length ≠ 12) :
  Calls Tryz.prog 20 #[.pointer (some ⟨b, 0, none⟩), .string (bs key), .string (bs nonce)] w fun e w' => e = .returned (.tuple #[.int .u32 0, .int .i64 2]) ∧ w = w' := by
 have G := Lib.hid (bar_open h)
 have hne : ((nonce.length : Int) != 12) = true := by simp; omega
 clear h hno
 go_enter Tryz.func20, Tryz.ntmps20
 go_wp2_with (go_at_call 40; (with_reducible refine (G.out).mono ?_); rintro e w' ⟨rfl, rfl⟩)
 go_returns
 exact ⟨rfl, rfl⟩
set_option maxRecDepth 100000 in
theorem bar_Retire_nonce {w : World} {b : Nat} {p q : Option Addr} {hd : List UInt8} {bg : Nat} (ep : Nat) (nonce : List UInt8) (h : BCell w b p 2 hd q bg) (hno : nonce.length ≠ 12) :
  Calls Tryz.prog 22 #[.pointer (some ⟨b, 0, none⟩), .int .u32 (ep : Int), .string (bs nonce)] w fun e w' => e = .returned (.int .i64 2) ∧ w = w' := by
 have G := Lib.hid (bar_open h)
 have hne : ((nonce.length : Int) != 12) = true := by simp; omega
 clear h hno
 go_enter Tryz.func22, Tryz.ntmps22
 go_wp2_with (go_at_call 40; (with_reducible refine (G.out).mono ?_); rintro e w' ⟨rfl, rfl⟩)
 go_returns
 exact ⟨rfl, rfl⟩
set_option maxRecDepth 100000 in
theorem bar_Put_nonce (w0 w : World) (F : List (Nat × Obj)) (a : BA) (hd : List UInt8) (gs : GS) (E : Eps) (n : Nat) (root path nonce text : List UInt8) (ver : Nat) (h : BarO w0 F a hd gs E n root w) (hno : nonce.length ≠ 12) :
  Calls Tryz.prog 16 #[.pointer (some ⟨a.b, 0, none⟩), .string (bs path), .int .u64 (ver : Int), .string (bs nonce), .string (bs text)] w fun e w' => e = .returned (.tuple #[.string (bs []), .int .i64 2]) ∧ w = w' := by
 have G := Lib.hid (bar_open h.cell)
 have GC := Lib.hid (Close_arg a.r path nonce text ver w hno)
 have c0 := h.cell.c0
 clear h hno
 go_enter Tryz.func16, Tryz.ntmps16
 go_wp2_with (first
  | (go_at_call 40; (with_reducible refine (G.out).mono ?_); rintro e w' ⟨rfl, rfl⟩)
  | (go_at_call 41; (with_reducible refine (GC.out).mono ?_); rintro e w' ⟨rfl, rfl⟩))
 go_returns
 exact ⟨rfl, rfl⟩
set_option maxRecDepth 100000 in
theorem bar_Rotate_no (w0 w : World) (F : List (Nat × Obj)) (a : BA) (hd : List UInt8) (gs : GS) (E : Eps) (n : Nat) (root key nonce : List UInt8) (h : BarO w0 F a hd gs E n root w) (hn : 0 < n) (hno : nonce.length = 12) (hkl : key.length ≤ 140737488351232) (hk : key.length ≠ 32 ∨ (64 ≤ E.length ∨ n = 4294967295)) :
  Calls Tryz.prog 20 #[.pointer (some ⟨a.b, 0, none⟩), .string (bs key), .string (bs nonce)] w fun e w' => e = .returned (.tuple #[.int .u32 0, .int .i64 (if key.length ≠ 32 then 2 else 4)]) ∧ w = w' := by
 have G := Lib.hid (bar_open h.cell)
 have gr : Calls Tryz.prog 44 #[.pointer (some ⟨a.r, 0, none⟩), .string (bs key)] w fun e w' => e = .returned (.tuple #[.int .u32 0, .int .i64 (if key.length ≠ 32 then 2 else 4)]) ∧ w = w' := by
  by_cases h32 : key.length = 32
  ·rw [if_neg (by simp [h32])]; exact ring_Rotate_full a.r a.m E n key w h.ring hn h32 (hk.resolve_left (by simp [h32]))
  ·rw [if_pos h32]; exact ring_Rotate_arg a.r a.m E n key w h.ring hn h32 hkl
 obtain ⟨v, hv, hv0⟩ : ∃ v : Int, (if key.length ≠ 32 then (2 : Int) else 4) = v ∧ v ≠ 0 := ⟨_, rfl, by split <;> omega⟩
 rw [hv] at gr ⊢
 have GR := Lib.hid gr
 have hv1 : (v != 0) = true := by simpa using hv0
 have hne : ((nonce.length : Int) != 12) = false := by simp; omega
 have c0 := h.cell.c0
 clear h hn hno hk gr hv hv0 hkl
 go_enter Tryz.func20, Tryz.ntmps20
 go_wp2_with (first
  | (go_at_call 40; (with_reducible refine (G.out).mono ?_); rintro e w' ⟨rfl, rfl⟩)
  | (go_at_call 44; (with_reducible refine (GR.out).mono ?_); rintro e w' ⟨rfl, rfl⟩))
 go_returns
 exact ⟨rfl, rfl⟩
set_option maxRecDepth 100000 in
theorem bar_Load_none {w : World} {b : Nat} {p q : Option Addr} {hd : List UInt8} {bg : Nat} (h : BCell w b p 0 hd q bg) :
  Calls Tryz.prog 17 #[.pointer (some ⟨b, 0, none⟩), .string (bs [])] w fun e w' => e = .returned (.int .i64 7) ∧ w = w' := by
 have G := Lib.hid (bar_is0 h)
 clear h
 go_enter Tryz.func17, Tryz.ntmps17
 go_wp2_with (go_at_call 27; (with_reducible refine (G.out).mono ?_); rintro e w' ⟨rfl, rfl⟩)
 go_returns
 exact ⟨rfl, rfl⟩
set_option maxRecDepth 100000 in
theorem bar_Load_form {w : World} {b : Nat} {p q : Option Addr} {hd : List UInt8} {bg : Nat} (x : UInt8) (t : List UInt8) (h : BCell w b p 0 hd q bg) (hx : x.toNat < 1 ∨ 16 < x.toNat) (ht : t.length ≤ 1000000) :
  Calls Tryz.prog 17 #[.pointer (some ⟨b, 0, none⟩), .string (bs (x :: t))] w fun e w' => e = .returned (.int .i64 7) ∧ w = w' := by
 have G := Lib.hid (bar_is0 h)
 have iS : ∀ W, (Instr.index 9 (.string (bs (x :: t))) (.int .i64 0)).run Tryz.prog W = .ok (.int .u8 (x.toNat : Int)) W := fun W => run_index_str (x :: t) 0 (by simp) W
 have ha : (x :: t).length = t.length + 1 := rfl
 have ht0 : decide ((t.length : Int) + 1 < 1) = false := by simp; omega
 by_cases hx1 : x.toNat < 1
 ·have hx1d : decide ((x.toNat : Int) < 1) = true := by simp; omega
  obtain ⟨hd, hhd⟩ : ∃ hd, x :: t = hd := ⟨_, rfl⟩
  rw [hhd] at iS ha ⊢
  clear h hx hhd hx1
  go_enter Tryz.func17, Tryz.ntmps17
  go_wp2_with (go_at_call 27; (with_reducible refine (G.out).mono ?_); rintro e w' ⟨rfl, rfl⟩)
  go_returns
  exact ⟨rfl, rfl⟩
 ·have hx1d : decide ((x.toNat : Int) < 1) = false := by simp; omega
  have hx2d : decide ((16 : Int) < (x.toNat : Int)) = true := by simp; omega
  obtain ⟨hd, hhd⟩ : ∃ hd, x :: t = hd := ⟨_, rfl⟩
  rw [hhd] at iS ha ⊢
  clear h hx hhd hx1
  go_enter Tryz.func17, Tryz.ntmps17
  go_wp2_with (go_at_call 27; (with_reducible refine (G.out).mono ?_); rintro e w' ⟨rfl, rfl⟩)
  go_returns
  exact ⟨rfl, rfl⟩
set_option maxRecDepth 100000 in
theorem bar_Load_ep {w : World} {b : Nat} {p q : Option Addr} {hd : List UInt8} {bg : Nat} (x : UInt8) (t : List UInt8) (h : BCell w b p 0 hd q bg) (h1 : 1 ≤ x.toNat) (h16 : x.toNat ≤ 16) (he : epR t = (0, 7)) (ht : t.length ≤ 1000000) :
  Calls Tryz.prog 17 #[.pointer (some ⟨b, 0, none⟩), .string (bs (x :: t))] w fun e w' => e = .returned (.int .i64 7) ∧ Ext w w' := by
 have G := Lib.hid (bar_is0 h)
 have ge := fun W => Epoch_any t W (by omega)
 rw [he] at ge
 have GE := Lib.hid ge
 have iS : ∀ W, (Instr.index 9 (.string (bs (x :: t))) (.int .i64 0)).run Tryz.prog W = .ok (.int .u8 (x.toNat : Int)) W := fun W => run_index_str (x :: t) 0 (by simp) W
 have hex : (bs (x :: t)).extract 1 (t.length + 1) = bs t := by rw [bs_extract]; simp
 have ha : (x :: t).length = t.length + 1 := rfl
 have ht1 : (1 : Int) ≤ (t.length : Int) + 1 := by omega
 have ht0 : decide ((t.length : Int) + 1 < 1) = false := by simp; omega
 have hx1 : decide ((x.toNat : Int) < 1) = false := by simp; omega
 have hx2 : decide ((16 : Int) < (x.toNat : Int)) = false := by simp; omega
 obtain ⟨hd, hhd⟩ : ∃ hd, x :: t = hd := ⟨_, rfl⟩
 rw [hhd] at iS hex ha ⊢
 clear ge h h1 h16 he hhd
 go_enter Tryz.func17, Tryz.ntmps17
 go_wp2_with (first
  | (go_at_call 27; (with_reducible refine (G.out).mono ?_); rintro e w' ⟨rfl, rfl⟩)
  | (go_at_call 42; (with_reducible refine (GE.out _).mono ?_); rintro e w1 ⟨rfl, hx1⟩))
 go_returns
 exact ⟨rfl, hx1⟩
theorem ring_New_x (key : List UInt8) (w : World) (hl : key.length ≤ 140737488351232) : Calls Tryz.prog 28 #[.string (bs key)] w fun e w' => ∃ v, e = .returned (.tuple #[v, .int .i64 (if key.length = 32 then 0 else 2)]) ∧ Ext w w' := by
 by_cases h : key.length = 32
 ·rw [if_pos h]
  refine (ring_New key w h).mono ?_
  rintro e w' ⟨r, m, rfl, _, _, _, _, hx⟩
  exact ⟨_, rfl, hx⟩
 ·rw [if_neg h]
  refine (ring_New_no key w h hl).mono ?_
  rintro e w' ⟨rfl, rfl⟩
  exact ⟨_, rfl, Ext.refl _⟩
set_option maxRecDepth 100000 in
theorem bar_Begin_arg1 {w : World} {b : Nat} {p q : Option Addr} {hd : List UInt8} {bg : Nat} (root key nonce : List UInt8) (v : Value) (h : BCell w b p 0 hd q bg) (hrl : root.length ≤ 140737488351232) (hkl : key.length ≤ 140737488351232) (hr : root.length ≠ 32) :
  Calls Tryz.prog 10 #[.pointer (some ⟨b, 0, none⟩), .string (bs root), .string (bs key), .string (bs nonce), v] w fun e w' => e = .returned (.tuple #[.slice none 0 0, .int .i64 2]) ∧ Ext w w' := by
 have G := Lib.hid (bar_is0 h)
 have gr := fun W => ring_New_x root W hrl
 rw [if_neg hr] at gr
 have GR := Lib.hid gr
 have gk := fun W => ring_New_x key W hkl
 generalize (if key.length = 32 then (0 : Int) else 2) = ke at gk
 have GK := Lib.hid gk
 clear gr gk h hr hrl hkl
 go_enter Tryz.func10, Tryz.ntmps10
 go_wp2_with (first
  | (go_at_call 27; (with_reducible refine (G.out).mono ?_); rintro e w' ⟨rfl, rfl⟩)
  | (go_at_call 28; (with_reducible refine (GR.out _).mono ?_); rintro e w1 ⟨v1, rfl, hx1⟩; have HX := Lib.hid hx1; clear hx1)
  | (go_at_call 28; (with_reducible refine (GK.out _).mono ?_); rintro e w2 ⟨v2, rfl, hx2⟩; have h3 := HX.out.trans hx2; clear HX hx2; have HX := Lib.hid h3; clear h3))
 go_returns
 exact ⟨rfl, HX.out⟩
set_option maxRecDepth 100000 in
theorem bar_Begin_arg2 {w : World} {b : Nat} {p q : Option Addr} {hd : List UInt8} {bg : Nat} (root key nonce : List UInt8) (v : Value) (h : BCell w b p 0 hd q bg) (hrl : root.length ≤ 140737488351232) (hkl : key.length ≤ 140737488351232) (hr : root.length = 32) (hk : key.length ≠ 32) :
  Calls Tryz.prog 10 #[.pointer (some ⟨b, 0, none⟩), .string (bs root), .string (bs key), .string (bs nonce), v] w fun e w' => e = .returned (.tuple #[.slice none 0 0, .int .i64 2]) ∧ Ext w w' := by
 have G := Lib.hid (bar_is0 h)
 have gr := fun W => ring_New_x root W hrl
 rw [if_pos hr] at gr
 have GR := Lib.hid gr
 have gk := fun W => ring_New_x key W hkl
 rw [if_neg hk] at gk
 have GK := Lib.hid gk
 clear gr gk h hr hk hrl hkl
 go_enter Tryz.func10, Tryz.ntmps10
 go_wp2_with (first
  | (go_at_call 27; (with_reducible refine (G.out).mono ?_); rintro e w' ⟨rfl, rfl⟩)
  | (go_at_call 28; (with_reducible refine (GR.out _).mono ?_); rintro e w1 ⟨v1, rfl, hx1⟩; have HX := Lib.hid hx1; clear hx1)
  | (go_at_call 28; (with_reducible refine (GK.out _).mono ?_); rintro e w2 ⟨v2, rfl, hx2⟩; have h3 := HX.out.trans hx2; clear HX hx2; have HX := Lib.hid h3; clear h3))
 go_returns
 exact ⟨rfl, HX.out⟩
set_option maxRecDepth 100000 in
theorem bar_Begin_arg3 {w : World} {b : Nat} {p q : Option Addr} {hd : List UInt8} {bg : Nat} (root key nonce : List UInt8) (v : Value) (h : BCell w b p 0 hd q bg) (hrl : root.length ≤ 140737488351232) (hkl : key.length ≤ 140737488351232) (hr : root.length = 32) (hk : key.length = 32) (hno : nonce.length ≠ 12) :
  Calls Tryz.prog 10 #[.pointer (some ⟨b, 0, none⟩), .string (bs root), .string (bs key), .string (bs nonce), v] w fun e w' => e = .returned (.tuple #[.slice none 0 0, .int .i64 2]) ∧ Ext w w' := by
 have G := Lib.hid (bar_is0 h)
 have gr := fun W => ring_New_x root W hrl
 rw [if_pos hr] at gr
 have GR := Lib.hid gr
 have gk := fun W => ring_New_x key W hkl
 rw [if_pos hk] at gk
 have GK := Lib.hid gk
 have hne : ((nonce.length : Int) != 12) = true := by simp; omega
 clear gr gk h hr hk hno hrl hkl
 go_enter Tryz.func10, Tryz.ntmps10
 go_wp2_with (first
  | (go_at_call 27; (with_reducible refine (G.out).mono ?_); rintro e w' ⟨rfl, rfl⟩)
  | (go_at_call 28; (with_reducible refine (GR.out _).mono ?_); rintro e w1 ⟨v1, rfl, hx1⟩; have HX := Lib.hid hx1; clear hx1)
  | (go_at_call 28; (with_reducible refine (GK.out _).mono ?_); rintro e w2 ⟨v2, rfl, hx2⟩; have h3 := HX.out.trans hx2; clear HX hx2; have HX := Lib.hid h3; clear h3))
 go_returns
 exact ⟨rfl, HX.out⟩
theorem bar_Begin_arg {w : World} {b : Nat} {p q : Option Addr} {hd : List UInt8} {bg : Nat} (root key nonce : List UInt8) (v : Value) (h : BCell w b p 0 hd q bg) (hrl : root.length ≤ 140737488351232) (hkl : key.length ≤ 140737488351232) (hno : ¬ (root.length = 32 ∧ key.length = 32 ∧ nonce.length = 12)) :
  Calls Tryz.prog 10 #[.pointer (some ⟨b, 0, none⟩), .string (bs root), .string (bs key), .string (bs nonce), v] w fun e w' => e = .returned (.tuple #[.slice none 0 0, .int .i64 2]) ∧ Ext w w' := by
 by_cases h1 : root.length = 32
 ·by_cases h2 : key.length = 32
  ·exact bar_Begin_arg3 root key nonce v h hrl hkl h1 h2 (fun h3 => hno ⟨h1, h2, h3⟩)
  ·exact bar_Begin_arg2 root key nonce v h hrl hkl h1 h2
 ·exact bar_Begin_arg1 root key nonce v h hrl hkl h1
set_option maxRecDepth 100000 in
theorem bar_Have0 {w : World} {b : Nat} {p q : Option Addr} {hd : List UInt8} {bg : Nat} (h : BCell w b p 0 hd q bg) :
  Calls Tryz.prog 14 #[.pointer (some ⟨b, 0, none⟩)] w fun e w' => e = .returned (.tuple #[.int .i64 0, .int .i64 0]) ∧ w = w' := by
 have G := Lib.hid (bar_made h)
 have c1 := h.c1
 clear h
 go_enter Tryz.func14, Tryz.ntmps14
 go_wp2_with (go_at_call 39; (with_reducible refine (G.out).mono ?_); rintro e w' ⟨rfl, rfl⟩)
 go_returns
 exact ⟨rfl, rfl⟩
set_option maxRecDepth 100000 in
theorem bar_HaveX {w : World} {b : Nat} {p q : Option Addr} {st : Nat} {x : UInt8} {t : List UInt8} {bg bm c : Nat} {gs : GS} (h : BCell w b p st (x :: t) q bg) (hst : st ≠ 0) (hp : PG w bg bm c gs) (hl : gs.length ≤ 1000) :
  Calls Tryz.prog 14 #[.pointer (some ⟨b, 0, none⟩)] w fun e w' => e = .returned (.tuple #[.int .i64 (haveS gs).1, .int .i64 (x.toNat : Int)]) ∧ Ext w w' := by
 have G := Lib.hid (bar_made h)
 have GH := Lib.hid (fun W (hx : Ext w W) => Have_any W bg bm c gs (by omega) (hp.ext hx))
 have c1 := h.c1
 have c2 := h.c2
 have c4 := h.c4
 have hne : ((st : Int) == 0) = false := by simp; omega
 have iS : ∀ W, (Instr.index 9 (.string (bs (x :: t))) (.int .i64 0)).run Tryz.prog W = .ok (.int .u8 (x.toNat : Int)) W := fun W => run_index_str (x :: t) 0 (by simp) W
 have hw : IntKind.i64.wrap (x.toNat : Int) = (x.toNat : Int) := by have := x.toNat_lt; rw [IntKind.wrap_i64]; omega
 generalize (haveS gs).1 = h1 at *
 generalize (haveS gs).2 = h2 at *
 obtain ⟨hd, hhd⟩ : ∃ hd, x :: t = hd := ⟨_, rfl⟩
 rw [hhd] at iS c2
 clear h hst hp hl hhd
 go_enter Tryz.func14, Tryz.ntmps14
 go_upto_region 4 with (first
  | (go_at_call 39; (with_reducible refine (G.out).mono ?_); rintro e w' ⟨rfl, rfl⟩)
  | (go_at_call 32; (with_reducible refine (GH.out _ (Ext.refl _)).mono ?_); rintro e w1 ⟨rfl, hx1⟩))
 have c2b := hx1.cell_of c2
 go_quiet (have hq2 : w1.cell? ⟨b, 2, none⟩ = some (.string (bs hd)) := c2b)
 go_wp2_with fail
 go_returns
 exact ⟨rfl, hx1.drewN _⟩
end Go.Proofs.YtclekllaikcglaaGreat

/- Layer 15: Unseal: what it refuses. -/
namespace Go.Proofs.YtclekllaikcglaaGreat
open Go Go.RowKit
set_option maxRecDepth 100000 in
theorem bar_fits_no {w : World} {b : Nat} {p q : Option Addr} {st : Nat} {x : UInt8} {t : List UInt8} {bg : Nat} (h : BCell w b p st (x :: t) q bg) (n : Nat) (by_ : List UInt8) (hno : ¬ (n = x.toNat ∧ by_.length = 32)) :
  Calls Tryz.prog 33 #[.pointer (some ⟨b, 0, none⟩), .int .i64 (n : Int), .string (bs by_)] w fun e w' => e = .returned (.bool false) ∧ w = w' := by
 have c2 := h.c2
 have iS : ∀ W, (Instr.index 9 (.string (bs (x :: t))) (.int .i64 0)).run Tryz.prog W = .ok (.int .u8 (x.toNat : Int)) W := fun W => run_index_str (x :: t) 0 (by simp) W
 have hw : IntKind.i64.wrap (x.toNat : Int) = (x.toNat : Int) := by have := x.toNat_lt; rw [IntKind.wrap_i64]; omega
 obtain ⟨hd, hhd⟩ : ∃ hd, x :: t = hd := ⟨_, rfl⟩
 rw [hhd] at iS c2
 by_cases hn : n = x.toNat
 ·have hne : ((n : Int) == (x.toNat : Int)) = true := by simp; omega
  have hl : ((by_.length : Int) == 32) = false := by
   have : by_.length ≠ 32 := fun e => hno ⟨hn, e⟩
   simp; omega
  clear h hno hhd hn
  go_enter Tryz.func33, Tryz.ntmps33
  go_wp2
  go_returns
  exact ⟨rfl, rfl⟩
 ·have hne : ((n : Int) == (x.toNat : Int)) = false := by simp; omega
  clear h hno hhd hn
  go_enter Tryz.func33, Tryz.ntmps33
  go_wp2
  go_returns
  exact ⟨rfl, rfl⟩
set_option maxRecDepth 100000 in
theorem bar_Unseal_form (w0 w : World) (F : List (Nat × Obj)) (b bg bm c : Nat) (x : UInt8) (t : List UInt8) (gs : GS) (s : List UInt8) (h : BarC w0 F b bg bm c 1 (x :: t) gs w) (hs : s.length ≤ 1000000) (hgl : gs.length ≤ 100) (hr : readS s = none) :
  Calls Tryz.prog 13 #[.pointer (some ⟨b, 0, none⟩), .string (bs s)] w fun e w' => e = .returned (.tuple #[.bool false, .int .i64 7]) ∧ BarC w0 F b bg bm c 1 (x :: t) gs w' := by
 have G := Lib.hid (bar_is1 h.cell)
 have hrv : readV s = .tuple #[.int .i64 0, .int .i64 0, .string { data := #[] }, .int .i64 7] := by unfold readV; rw [hr]
 have GR := Lib.hid (fun W => hrv ▸ Read_any s W (by omega))
 have GHV := Lib.hid (fun W (h : BarC w0 F b bg bm c 1 (x :: t) gs W) => Have_any W bg bm c gs (by omega) h.got)
 have hadd : addS gs s = (7, gs) := by unfold addS; rw [hr]
 have GA : Hid (∀ W, BarC w0 F b bg bm c 1 (x :: t) gs W → Calls Tryz.prog 34 #[.pointer (some ⟨bg, 0, none⟩), .string (bs s)] W fun e w' => e = .returned (.int .i64 7) ∧ BarC w0 F b bg bm c 1 (x :: t) gs w') := Lib.hid (fun W h => (Add_any W bg bm c gs s (by omega) (by omega) h.got).mono (by
  rintro e w' ⟨he, hp, hb⟩
  rw [hadd] at he hp
  exact ⟨he, h.gput hp hb⟩))
 generalize (haveS gs).1 = hv1 at *
 generalize (haveS gs).2 = hv2 at *
 have H := Lib.hid h
 have c4 := h.cell.c4
 clear h hs hgl hr hrv hadd
 go_enter Tryz.func13, Tryz.ntmps13
 go_wp2_with (first
  | (go_at_call 27; (with_reducible refine G.out.mono ?_); rintro e w' ⟨rfl, rfl⟩)
  | (go_at_call 31; (with_reducible refine (GR.out _).mono ?_); rintro e w1 ⟨rfl, hx1⟩; have H1 := Lib.hid (H.out.next hx1); have c4a := H1.out.cell.c4; clear hx1)
  | (go_at_call 32; (with_reducible refine (GHV.out _ H1.out).mono ?_); rintro e w2 ⟨rfl, hx2⟩; have H2 := Lib.hid (H1.out.next hx2); have c4b := H2.out.cell.c4; clear hx2)
  | (go_at_call 34; (with_reducible refine (GA.out _ H2.out).mono ?_); rintro e w3 ⟨rfl, h3⟩; have H3 := Lib.hid h3; have c4c := H3.out.cell.c4; clear h3))
 go_returns
 exact ⟨rfl, H3.out⟩
set_option maxRecDepth 100000 in
theorem bar_Unseal_add (w0 w : World) (F : List (Nat × Obj)) (b bg bm c : Nat) (x : UInt8) (t : List UInt8) (gs : GS) (s : List UInt8) (i n : Nat) (y : List UInt8) (er : Int) (h : BarC w0 F b bg bm c 1 (x :: t) gs w) (hs : s.length ≤ 1000000) (hgl : gs.length ≤ 100) (hr : readS s = some (i, n, y)) (hne : gs ≠ []) (hadd : addS gs s = (er, gs)) (her : er ≠ 0) :
  Calls Tryz.prog 13 #[.pointer (some ⟨b, 0, none⟩), .string (bs s)] w fun e w' => e = .returned (.tuple #[.bool false, .int .i64 er]) ∧ BarC w0 F b bg bm c 1 (x :: t) gs w' := by
 have G := Lib.hid (bar_is1 h.cell)
 have hrv : readV s = .tuple #[.int .i64 (i : Int), .int .i64 (n : Int), .string (bs y), .int .i64 0] := by unfold readV; rw [hr]
 have GR := Lib.hid (fun W => hrv ▸ Read_any s W (by omega))
 have GHV := Lib.hid (fun W (h : BarC w0 F b bg bm c 1 (x :: t) gs W) => Have_any W bg bm c gs (by omega) h.got)
 have GA : Hid (∀ W, BarC w0 F b bg bm c 1 (x :: t) gs W → Calls Tryz.prog 34 #[.pointer (some ⟨bg, 0, none⟩), .string (bs s)] W fun e w' => e = .returned (.int .i64 er) ∧ BarC w0 F b bg bm c 1 (x :: t) gs w') := Lib.hid (fun W h => (Add_any W bg bm c gs s (by omega) (by omega) h.got).mono (by
  rintro e w' ⟨he, hp, hb⟩
  rw [hadd] at he hp
  exact ⟨he, h.gput hp hb⟩))
 have hz1 : (((haveS gs).1 : Int) == 0) = false := by
  have : (haveS gs).1 ≠ 0 := by cases gs with
   | nil => exact absurd rfl hne
   | cons a l => simp [haveS]
  simp; omega
 have her1 : (er != 0) = true := by simpa using her
 generalize (haveS gs).1 = hv1 at *
 generalize (haveS gs).2 = hv2 at *
 have H := Lib.hid h
 have c4 := h.cell.c4
 clear h hs hgl hr hrv hadd her hne
 go_enter Tryz.func13, Tryz.ntmps13
 go_wp2_with (first
  | (go_at_call 27; (with_reducible refine G.out.mono ?_); rintro e w' ⟨rfl, rfl⟩)
  | (go_at_call 31; (with_reducible refine (GR.out _).mono ?_); rintro e w1 ⟨rfl, hx1⟩; have H1 := Lib.hid (H.out.next hx1); have c4a := H1.out.cell.c4; clear hx1)
  | (go_at_call 32; (with_reducible refine (GHV.out _ H1.out).mono ?_); rintro e w2 ⟨rfl, hx2⟩; have H2 := Lib.hid (H1.out.next hx2); have c4b := H2.out.cell.c4; clear hx2)
  | (go_at_call 34; (with_reducible refine (GA.out _ H2.out).mono ?_); rintro e w3 ⟨rfl, h3⟩; have H3 := Lib.hid h3; have c4c := H3.out.cell.c4; clear h3))
 go_returns
 exact ⟨rfl, H3.out⟩
set_option maxRecDepth 100000 in
theorem bar_Unseal_other (w0 w : World) (F : List (Nat × Obj)) (b bg bm c : Nat) (x : UInt8) (t : List UInt8) (s : List UInt8) (i n : Nat) (y : List UInt8) (h : BarC w0 F b bg bm c 1 (x :: t) [] w) (hs : s.length ≤ 1000000) (hr : readS s = some (i, n, y)) (hno : ¬ (n = x.toNat ∧ y.length = 32)) :
  Calls Tryz.prog 13 #[.pointer (some ⟨b, 0, none⟩), .string (bs s)] w fun e w' => e = .returned (.tuple #[.bool false, .int .i64 60]) ∧ BarC w0 F b bg bm c 1 (x :: t) [] w' := by
 have G := Lib.hid (bar_is1 h.cell)
 have hrv : readV s = .tuple #[.int .i64 (i : Int), .int .i64 (n : Int), .string (bs y), .int .i64 0] := by unfold readV; rw [hr]
 have GR := Lib.hid (fun W => hrv ▸ Read_any s W (by omega))
 have GHV : Hid (∀ W, BarC w0 F b bg bm c 1 (x :: t) [] W → Calls Tryz.prog 32 #[.pointer (some ⟨bg, 0, none⟩)] W fun e w' => e = .returned (.tuple #[.int .i64 0, .int .i64 0]) ∧ Ext W w') := Lib.hid (fun W h => Have_any W bg bm c [] (by simp) h.got)
 have GF := Lib.hid (fun W (h : BarC w0 F b bg bm c 1 (x :: t) [] W) => bar_fits_no h.cell n y hno)
 have H := Lib.hid h
 have c4 := h.cell.c4
 clear h hs hr hrv hno
 go_enter Tryz.func13, Tryz.ntmps13
 go_wp2_with (first
  | (go_at_call 27; (with_reducible refine G.out.mono ?_); rintro e w' ⟨rfl, rfl⟩)
  | (go_at_call 31; (with_reducible refine (GR.out _).mono ?_); rintro e w1 ⟨rfl, hx1⟩; have H1 := Lib.hid (H.out.next hx1); have c4a := H1.out.cell.c4; clear hx1)
  | (go_at_call 32; (with_reducible refine (GHV.out _ H1.out).mono ?_); rintro e w2 ⟨rfl, hx2⟩; have H2 := Lib.hid (H1.out.next hx2); have c4b := H2.out.cell.c4; clear hx2)
  | (go_at_call 33; (with_reducible refine (GF.out _ H2.out).mono ?_); rintro e w' ⟨rfl, rfl⟩))
 go_returns
 exact ⟨rfl, H2.out⟩
set_option maxRecDepth 100000 in
set_option maxHeartbeats 8000000 in
theorem bar_Unseal_tag (w0 w : World) (F : List (Nat × Obj)) (b bg bm c : Nat) (x : UInt8) (t : List UInt8) (gs gs' : GS) (s : List UInt8) (i : Nat) (y root text : List UInt8) (er : Int) (h : BarC w0 F b bg bm c 1 (x :: t) gs w) (hs : s.length ≤ 1000) (hf : Fit x gs gs' s i y) (hn : secretS gs' = some root)
  (hrl : root.length = 32) (ho : openAny [(1, root)] lblB x.toNat t = (text, er)) (hre : readE text = none) (htl : t.length ≤ 1000000) (hxl : text.length ≤ 1000000) :
  Calls Tryz.prog 13 #[.pointer (some ⟨b, 0, none⟩), .string (bs s)] w fun e w' => e = .returned (.tuple #[.bool false, .int .i64 141]) ∧ ∃ c', BarC w0 F b bg bm c' 1 (x :: t) [] w' := by
 have G := Lib.hid (bar_is1 h.cell)
 have hrv : readV s = .tuple #[.int .i64 (i : Int), .int .i64 (x.toNat : Int), .string (bs y), .int .i64 0] := by unfold readV; rw [hf.read]
 have GR := Lib.hid (fun W => hrv ▸ Read_any s W (by omega))
 have GHV := Lib.hid (fun W (h : BarC w0 F b bg bm c 1 (x :: t) gs W) => Have_any W bg bm c gs (by have := hf.small.1; omega) h.got)
 have GF := Lib.hid (fun W (h : BarC w0 F b bg bm c 1 (x :: t) gs W) => bar_fits h.cell y hf.len)
 have GA : Hid (∀ W, BarC w0 F b bg bm c 1 (x :: t) gs W → Calls Tryz.prog 34 #[.pointer (some ⟨bg, 0, none⟩), .string (bs s)] W fun e w' => e = .returned (.int .i64 0) ∧ BarC w0 F b bg bm c 1 (x :: t) gs' w') := Lib.hid (fun W h => (Add_any W bg bm c gs s (by omega) (by have := hf.small.1; omega) h.got).mono (by
  rintro e w' ⟨he, hp, hb⟩
  rw [hf.add] at he hp
  exact ⟨he, h.gput hp hb⟩))
 have GS := Lib.hid (fun W (h : BarC w0 F b bg bm c 1 (x :: t) gs' W) => secretV_some root ▸ hn ▸ Secret_any W bg bm c gs' (by have := hf.small.2; omega) h.got)
 have GD : Hid (∀ W, BarC w0 F b bg bm c 1 (x :: t) gs' W → Calls Tryz.prog 36 #[.pointer (some ⟨bg, 0, none⟩)] W fun e w' => e = .returned (.tuple #[]) ∧ BarC w0 F b bg bm (c + gs'.length) 1 (x :: t) [] w') := Lib.hid (fun W h => (Drop_any W bg bm c gs' h.got).mono (by
  rintro e w' ⟨he, hp, hb⟩
  exact ⟨he, h.gput hp hb⟩))
 have GN := Lib.hid (fun W => ring_New root W hrl)
 have GO : Hid (∀ rr mr W, RingAt W rr mr [(1, root)] 1 → Calls Tryz.prog 37 #[.pointer (some ⟨rr, 0, none⟩), .string { data := #[98, 97, 114, 114, 105, 101, 114] }, .int .u64 (x.toNat : Int), .string (bs t)] W fun e w' => e = .returned (.tuple #[.string (bs text), .int .i64 er]) ∧ Ext W w') :=
  Lib.hid (fun rr mr W hr => by
   have := Open_any rr mr [(1, root)] 1 lblB t x.toNat W hr (by omega) (by omega) (by simp [hrl]) (by have := x.toNat_lt; unfold U64; omega) (by decide)
   rw [ho] at this
   exact this)
 have GRD : Hid (∀ W, Calls Tryz.prog 38 #[.string (bs text)] W fun e w' => e = .returned (.tuple #[.pointer none, .int .i64 7]) ∧ Ext W w') := Lib.hid (fun W => (ring_Read text W hxl).mono (by
  rintro e w' (⟨_, rfl, hx⟩ | ⟨E1, r, m, h1, _⟩)
  ·exact ⟨rfl, hx⟩
  ·rw [hre] at h1; cases h1))
 have iS : ∀ W, (Instr.index 9 (.string (bs (x :: t))) (.int .i64 0)).run Tryz.prog W = .ok (.int .u8 (x.toNat : Int)) W := fun W => run_index_str (x :: t) 0 (by simp) W
 have hw64 : IntKind.u64.wrap (x.toNat : Int) = (x.toNat : Int) := by have := x.toNat_lt; rw [IntKind.wrap_u64]; omega
 have hex : (bs (x :: t)).extract 1 (t.length + 1) = bs t := by rw [bs_extract]; simp
 generalize (haveS gs).1 = hv1 at *
 generalize (haveS gs).2 = hv2 at *
 have H := Lib.hid h
 have c4 := h.cell.c4
 have ha : (x :: t).length = t.length + 1 := rfl
 have ht1 : (1 : Int) ≤ (t.length : Int) + 1 := by omega
 obtain ⟨hd, hhd⟩ : ∃ hd, x :: t = hd := ⟨_, rfl⟩
 rw [hhd] at GHV GA GS GD H iS hex ha ⊢
 have GF2 : Hid (∀ W, BarC w0 F b bg bm c 1 hd gs W → Calls Tryz.prog 33 #[.pointer (some ⟨b, 0, none⟩), .int .i64 (x.toNat : Int), .string (bs y)] W fun e w' => e = .returned (.bool true) ∧ W = w') := hhd ▸ GF
 obtain ⟨c2n, hc2n⟩ : ∃ k, c + gs'.length = k := ⟨_, rfl⟩
 rw [hc2n] at GD
 clear h hs hf hn hrv hrl ho hre hxl hhd GF hc2n
 by_cases hz : hv1 = 0
 ·subst hz
  go_enter Tryz.func13, Tryz.ntmps13
  go_upto_region 8 with (first
   | (go_at_call 27; (with_reducible refine G.out.mono ?_); rintro e w' ⟨rfl, rfl⟩)
   | (go_at_call 31; (with_reducible refine (GR.out _).mono ?_); rintro e w1 ⟨rfl, hx1⟩; have H1 := Lib.hid (H.out.next hx1); have c4a := H1.out.cell.c4; clear hx1)
   | (go_at_call 32; (with_reducible refine (GHV.out _ H1.out).mono ?_); rintro e w2 ⟨rfl, hx2⟩; have H2 := Lib.hid (H1.out.next hx2); have c4b := H2.out.cell.c4; clear hx2)
   | (go_at_call 33; (with_reducible refine (GF2.out _ H2.out).mono ?_); rintro e w' ⟨rfl, rfl⟩))
  go_upto_region 16 with (first
   | (go_at_call 34; (with_reducible refine (GA.out _ H2.out).mono ?_); rintro e w3 ⟨rfl, h3⟩; have H3 := Lib.hid h3; have c4c := H3.out.cell.c4; clear h3)
   | (go_at_call 35; (with_reducible refine (GS.out _ H3.out).mono ?_); rintro e w4 ⟨rfl, hx4⟩; have H4 := Lib.hid (H3.out.next hx4); have c4d := H4.out.cell.c4; clear hx4)
   | (go_at_call 36; (with_reducible refine (GD.out _ H4.out).mono ?_); rintro e w5 ⟨rfl, h5⟩; have H5 := Lib.hid h5; clear h5)
   | (go_at_call 28; (with_reducible refine (GN.out _).mono ?_); rintro e w6 ⟨rr, mr, rfl, q1, q2, q3, q4, q5⟩; have HT := Lib.hid (And.intro q1 (And.intro q2 q4)); have H6 := Lib.hid (H5.out.next q5); have HX6 := Lib.hid q5; clear q1 q2 q3 q4 q5))
  have c2 := H6.out.cell.c2
  clear c4 c4a c4b c4c c4d G GR GHV GF2 GA GS GD GN H H1 H2 H3 H4
  refine Loud.wp_region_weave 18 w6 (Loud.sps [.val (.pointer (some ⟨rr, 0, none⟩)), .val (.pointer (some ⟨b, 0, none⟩)), .val (.pointer (some ⟨b, 0, none⟩)), .val (.pointer (some ⟨b, 2, none⟩)), .val (.string (bs hd)), .val (.int .u8 (x.toNat : Int)), .val (.int .u64 (x.toNat : Int)), .val (.pointer (some ⟨b, 0, none⟩)), .val (.pointer (some ⟨b, 0, none⟩)), .val (.pointer (some ⟨b, 2, none⟩)), .val (.string (bs hd)), .val (.string (bs t)), .val (.tuple #[.string (bs text), .int .i64 er]), .val (.tuple #[.string (bs text), .int .i64 er]), .val (.string (bs text)), .val (.int .i64 er), .val (.string (bs text)), .val (.int .i64 er)]) (by kernel_rfl) (by kernel_rfl) (by show Ext _ _; repeat (first | exact Ext.refl _ | assumption | (with_reducible refine Ext.drew ?_) | (with_reducible refine Ext.drewN ?_ _) | (with_reducible refine Ext.alloc ?_ _) | (refine Ext.trans ?_ (by assumption)))) (Loud.sps_st _) ?wAx1 ?whAx1 ?whSx1 ?whFx1
  case whAx1 => intro u K hK; simp only [List.take_succ_cons, List.take_zero, Loud.puts]; go_simp; exact hK
  case whSx1 =>
   refine ⟨?wsx1_0, ?wsx1_1, ?wsx1_2, ?wsx1_3, ?wsx1_4, ?wsx1_5, ?wsx1_6, ?wsx1_7, ?wsx1_8, ?wsx1_9, ?wsx1_10, ?wsx1_11, ?wsx1_12, ?wsx1_13, ?wsx1_14, ?wsx1_15, ?wsx1_16, ?wsx1_17, trivial⟩
   all_goals (intro u β wq hq h; repeat (obtain ⟨h1, h⟩ := h; first | (replace h1 := h1 rfl; simp only [go_sem] at h1; try (obtain ⟨h1, h1b⟩ := h1)) | (have hno := (h1 : Region.binds _ _ = true → _); clear hno h1)))
   case wsx1_4 =>
    refine Or.inl ⟨rfl, fun K hK => ?_⟩
    have hqc := hq.cell_of c2
    go_simp
    exact hK _ 0 _ (Ext.refl _) rfl
   case wsx1_10 =>
    refine Or.inl ⟨rfl, fun K hK => ?_⟩
    have hqc := hq.cell_of c2
    go_simp
    exact hK _ 0 _ (Ext.refl _) rfl
   case wsx1_12 =>
    refine Or.inl ⟨rfl, fun K hK => ?_⟩
    go_simp
    refine (GO.out rr mr _ (HT.out.2.2.ext (by assumption))).mono ?_; rintro e w1 ⟨rfl, hx1⟩; exact ⟨_, rfl, hK _ 0 _ hx1 rfl⟩
   all_goals (first | refine Or.inl ⟨rfl, fun K hK => ?_⟩ | refine Or.inl ⟨Loud.wanted_of rfl rfl (congrArg some (by assumption)), fun K hK => ?_⟩); go_simp; exact hK _ 0 _ (Ext.refl _) rfl
  intro u β w7 hq h
  have h0 := h 0 (by omega)
  have h1 := h 1 (by omega)
  have h2 := h 2 (by omega)
  have h3 := h 3 (by omega)
  have h4 := h 4 (by omega)
  have h5 := h 5 (by omega)
  have h6 := h 6 (by omega)
  have h7 := h 7 (by omega)
  have h8 := h 8 (by omega)
  have h9 := h 9 (by omega)
  have h10 := h 10 (by omega)
  have h11 := h 11 (by omega)
  have h12 := h 12 (by omega)
  have h13 := h 13 (by omega)
  have h14 := h 14 (by omega)
  have h15 := h 15 (by omega)
  have h16 := h 16 (by omega)
  have h17 := h 17 (by omega)
  clear h
  simp only [go_sem] at h0 h1 h2 h3 h4 h5 h6 h7 h8 h9 h10 h11 h12 h13 h14 h15 h16 h17
  simp only [List.drop_succ_cons, List.drop_zero]
  rw [h17]
  have e16 := h16
  have H7 := Lib.hid (H6.out.next hq)
  have HX7 := Lib.hid hq
  clear h0 h1 h2 h3 h4 h5 h6 h7 h8 h9 h10 h11 h12 h13 h14 h15 h16 h17 c2 hq
  rw [e16]
  clear e16
  by_cases her : er = 0
  ·subst her
   go_wp2_with (go_at_call 38; (with_reducible refine (GRD.out _).mono ?_); rintro e w8 ⟨rfl, hx8⟩)
   go_returns
   exact ⟨rfl, c2n, H7.out.next hx8⟩
  ·have her1 : (er != 0) = true := by simpa using her
   clear her
   go_wp2_with (go_at_call 38; (with_reducible refine (GRD.out _).mono ?_); rintro e w8 ⟨rfl, hx8⟩)
   go_returns
   exact ⟨rfl, c2n, H7.out.next hx8⟩
 ·have hz1 : ((hv1 : Int) == 0) = false := by simp; omega
  clear hz
  go_enter Tryz.func13, Tryz.ntmps13
  go_upto_region 8 with (first
   | (go_at_call 27; (with_reducible refine G.out.mono ?_); rintro e w' ⟨rfl, rfl⟩)
   | (go_at_call 31; (with_reducible refine (GR.out _).mono ?_); rintro e w1 ⟨rfl, hx1⟩; have H1 := Lib.hid (H.out.next hx1); have c4a := H1.out.cell.c4; clear hx1)
   | (go_at_call 32; (with_reducible refine (GHV.out _ H1.out).mono ?_); rintro e w2 ⟨rfl, hx2⟩; have H2 := Lib.hid (H1.out.next hx2); have c4b := H2.out.cell.c4; clear hx2))
  go_upto_region 16 with (first
   | (go_at_call 34; (with_reducible refine (GA.out _ H2.out).mono ?_); rintro e w3 ⟨rfl, h3⟩; have H3 := Lib.hid h3; have c4c := H3.out.cell.c4; clear h3)
   | (go_at_call 35; (with_reducible refine (GS.out _ H3.out).mono ?_); rintro e w4 ⟨rfl, hx4⟩; have H4 := Lib.hid (H3.out.next hx4); have c4d := H4.out.cell.c4; clear hx4)
   | (go_at_call 36; (with_reducible refine (GD.out _ H4.out).mono ?_); rintro e w5 ⟨rfl, h5⟩; have H5 := Lib.hid h5; clear h5)
   | (go_at_call 28; (with_reducible refine (GN.out _).mono ?_); rintro e w6 ⟨rr, mr, rfl, q1, q2, q3, q4, q5⟩; have HT := Lib.hid (And.intro q1 (And.intro q2 q4)); have H6 := Lib.hid (H5.out.next q5); have HX6 := Lib.hid q5; clear q1 q2 q3 q4 q5))
  have c2 := H6.out.cell.c2
  clear c4 c4a c4b c4c c4d G GR GHV GF2 GA GS GD GN H H1 H2 H3 H4
  refine Loud.wp_region_weave 18 w6 (Loud.sps [.val (.pointer (some ⟨rr, 0, none⟩)), .val (.pointer (some ⟨b, 0, none⟩)), .val (.pointer (some ⟨b, 0, none⟩)), .val (.pointer (some ⟨b, 2, none⟩)), .val (.string (bs hd)), .val (.int .u8 (x.toNat : Int)), .val (.int .u64 (x.toNat : Int)), .val (.pointer (some ⟨b, 0, none⟩)), .val (.pointer (some ⟨b, 0, none⟩)), .val (.pointer (some ⟨b, 2, none⟩)), .val (.string (bs hd)), .val (.string (bs t)), .val (.tuple #[.string (bs text), .int .i64 er]), .val (.tuple #[.string (bs text), .int .i64 er]), .val (.string (bs text)), .val (.int .i64 er), .val (.string (bs text)), .val (.int .i64 er)]) (by kernel_rfl) (by kernel_rfl) (by show Ext _ _; repeat (first | exact Ext.refl _ | assumption | (with_reducible refine Ext.drew ?_) | (with_reducible refine Ext.drewN ?_ _) | (with_reducible refine Ext.alloc ?_ _) | (refine Ext.trans ?_ (by assumption)))) (Loud.sps_st _) ?wAx2 ?whAx2 ?whSx2 ?whFx2
  case whAx2 => intro u K hK; simp only [List.take_succ_cons, List.take_zero, Loud.puts]; go_simp; exact hK
  case whSx2 =>
   refine ⟨?wsx2_0, ?wsx2_1, ?wsx2_2, ?wsx2_3, ?wsx2_4, ?wsx2_5, ?wsx2_6, ?wsx2_7, ?wsx2_8, ?wsx2_9, ?wsx2_10, ?wsx2_11, ?wsx2_12, ?wsx2_13, ?wsx2_14, ?wsx2_15, ?wsx2_16, ?wsx2_17, trivial⟩
   all_goals (intro u β wq hq h; repeat (obtain ⟨h1, h⟩ := h; first | (replace h1 := h1 rfl; simp only [go_sem] at h1; try (obtain ⟨h1, h1b⟩ := h1)) | (have hno := (h1 : Region.binds _ _ = true → _); clear hno h1)))
   case wsx2_4 =>
    refine Or.inl ⟨rfl, fun K hK => ?_⟩
    have hqc := hq.cell_of c2
    go_simp
    exact hK _ 0 _ (Ext.refl _) rfl
   case wsx2_10 =>
    refine Or.inl ⟨rfl, fun K hK => ?_⟩
    have hqc := hq.cell_of c2
    go_simp
    exact hK _ 0 _ (Ext.refl _) rfl
   case wsx2_12 =>
    refine Or.inl ⟨rfl, fun K hK => ?_⟩
    go_simp
    refine (GO.out rr mr _ (HT.out.2.2.ext (by assumption))).mono ?_; rintro e w1 ⟨rfl, hx1⟩; exact ⟨_, rfl, hK _ 0 _ hx1 rfl⟩
   all_goals (first | refine Or.inl ⟨rfl, fun K hK => ?_⟩ | refine Or.inl ⟨Loud.wanted_of rfl rfl (congrArg some (by assumption)), fun K hK => ?_⟩); go_simp; exact hK _ 0 _ (Ext.refl _) rfl
  intro u β w7 hq h
  have h0 := h 0 (by omega)
  have h1 := h 1 (by omega)
  have h2 := h 2 (by omega)
  have h3 := h 3 (by omega)
  have h4 := h 4 (by omega)
  have h5 := h 5 (by omega)
  have h6 := h 6 (by omega)
  have h7 := h 7 (by omega)
  have h8 := h 8 (by omega)
  have h9 := h 9 (by omega)
  have h10 := h 10 (by omega)
  have h11 := h 11 (by omega)
  have h12 := h 12 (by omega)
  have h13 := h 13 (by omega)
  have h14 := h 14 (by omega)
  have h15 := h 15 (by omega)
  have h16 := h 16 (by omega)
  have h17 := h 17 (by omega)
  clear h
  simp only [go_sem] at h0 h1 h2 h3 h4 h5 h6 h7 h8 h9 h10 h11 h12 h13 h14 h15 h16 h17
  simp only [List.drop_succ_cons, List.drop_zero]
  rw [h17]
  have e16 := h16
  have H7 := Lib.hid (H6.out.next hq)
  have HX7 := Lib.hid hq
  clear h0 h1 h2 h3 h4 h5 h6 h7 h8 h9 h10 h11 h12 h13 h14 h15 h16 h17 c2 hq
  rw [e16]
  clear e16
  by_cases her : er = 0
  ·subst her
   go_wp2_with (go_at_call 38; (with_reducible refine (GRD.out _).mono ?_); rintro e w8 ⟨rfl, hx8⟩)
   go_returns
   exact ⟨rfl, c2n, H7.out.next hx8⟩
  ·have her1 : (er != 0) = true := by simpa using her
   clear her
   go_wp2_with (go_at_call 38; (with_reducible refine (GRD.out _).mono ?_); rintro e w8 ⟨rfl, hx8⟩)
   go_returns
   exact ⟨rfl, c2n, H7.out.next hx8⟩
end Go.Proofs.YtclekllaikcglaaGreat
