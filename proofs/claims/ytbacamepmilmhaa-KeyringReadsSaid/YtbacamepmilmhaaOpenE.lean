/- Contracts: layer 14: what Open refuses. -/
import Derived.Test.YtbacamepmilmhaaSeal
namespace Go.Proofs.Ytbacamepmilmhaa
open Go Go.RowKit

theorem epR_cases (s : List UInt8) : epR s = (0, 7) ∨ ∃ ep, epR s = (ep, 0) := by
  unfold epR
  split
  · exact .inl rfl
  · exact .inr ⟨_, rfl⟩
set_option maxRecDepth 100000 in
theorem Open_nil (path s : List UInt8) (ver : Nat) (w : World) :
    Calls Try.prog 22 #[.pointer none, .string (bs path), .int .u64 (ver : Int), .string (bs s)] w fun e w' => e = .returned (.tuple #[.string (bs []), .int .i64 1]) ∧ Ext w w' := by
  go_enter Try.func22, Try.ntmps22
  go_wp2
  go_returns
  exact ⟨rfl, (Ext.refl w).alloc _⟩
set_option maxRecDepth 100000 in
theorem Open_form (r : Nat) (path s : List UInt8) (ver : Nat) (w : World) (hl : s.length ≤ 1099511627776) (hep : epR s = (0, 7)) :
    Calls Try.prog 22 #[.pointer (some ⟨r, 0, none⟩), .string (bs path), .int .u64 (ver : Int), .string (bs s)] w fun e w' => e = .returned (.tuple #[.string (bs []), .int .i64 7]) ∧ Ext w w' := by
  have ge := fun W => Epoch_any s W hl
  rw [hep] at ge
  have GE := Lib.hid ge
  clear ge hep
  go_enter Try.func22, Try.ntmps22
  go_wp2_with (go_at_call 18; refine (GE.out _).mono ?_; rintro e w1 ⟨rfl, hx1⟩)
  go_returns
  exact ⟨rfl, ((Ext.refl w).alloc _).trans hx1⟩
set_option maxRecDepth 100000 in
theorem refOpen_form (d : Nat) (path s : List UInt8) (ver : Nat) (w : World) (hl : s.length ≤ 1099511627776) (hep : epR s = (0, 7)) :
    Calls Try.prog 23 #[.pointer (some ⟨d, 0, none⟩), .string (bs path), .int .u64 (ver : Int), .string (bs s)] w fun e w' => e = .returned (.tuple #[.string (bs []), .int .i64 7]) ∧ Ext w w' := by
  have ge := fun W => refEpoch_any s W hl
  rw [hep] at ge
  have GE := Lib.hid ge
  clear ge hep
  go_enter Try.func23, Try.ntmps23
  go_wp2_with (go_at_call 19; refine (GE.out _).mono ?_; rintro e w1 ⟨rfl, hx1⟩)
  go_returns
  exact ⟨rfl, hx1⟩
set_option maxRecDepth 100000 in
theorem Open_none (r m : Nat) (E : Eps) (n ep : Nat) (path s : List UInt8) (ver : Nat) (w : World) (h : RingAt w r m E n) (hn : 0 < n) (hl : s.length ≤ 1099511627776) (hep : epR s = (ep, 0)) (hs : lookE E ep = none) (hp : path.length ≤ 1048576) :
    Calls Try.prog 22 #[.pointer (some ⟨r, 0, none⟩), .string (bs path), .int .u64 (ver : Int), .string (bs s)] w fun e w' => e = .returned (.tuple #[.string (bs []), .int .i64 140]) ∧ Ext w w' := by
  have ge := fun W => Epoch_any s W hl
  rw [hep] at ge
  have GE := Lib.hid ge
  have GK := Lib.hid (fun W (hx : Ext w W) => ring_Keys_none r m E n ep W (h.ext hx) hn hs)
  have hpl : decide ((1048576 : Int) < (path.length : Int)) = false := by simp; omega
  clear ge hep h hs hp
  go_enter Try.func22, Try.ntmps22
  go_wp2_with (first
    | (go_at_call 18; refine (GE.out _).mono ?_; rintro e w1 ⟨rfl, hx1⟩; have hq := ((Ext.refl w).alloc _).trans hx1)
    | (go_at_call 33; refine (GK.out _ hq).mono ?_; rintro e w' ⟨rfl, rfl⟩))
  go_returns
  exact ⟨rfl, hq⟩
set_option maxRecDepth 100000 in
theorem refOpen_none (B d : Nat) (E : Eps) (ep : Nat) (path s : List UInt8) (ver : Nat) (w : World) (h : DocAt w B d E) (hE : E ≠ []) (hl1 : E.length ≤ 1000) (hl : s.length ≤ 1099511627776) (hep : epR s = (ep, 0)) (hs : lookE E ep = none) (hp : path.length ≤ 1048576) :
    Calls Try.prog 23 #[.pointer (some ⟨d, 0, none⟩), .string (bs path), .int .u64 (ver : Int), .string (bs s)] w fun e w' => e = .returned (.tuple #[.string (bs []), .int .i64 140]) ∧ Ext w w' := by
  have ge := fun W => refEpoch_any s W hl
  rw [hep] at ge
  have GE := Lib.hid ge
  have GK := Lib.hid (fun W (hx : Ext w W) => ref_ring_Keys_none B d E ep W (h.ext hx) hE hl1 hs)
  have hpl : decide ((1048576 : Int) < (path.length : Int)) = false := by simp; omega
  clear ge hep h hs hp hE hl1
  go_enter Try.func23, Try.ntmps23
  go_wp2_with (first
    | (go_at_call 19; refine (GE.out _).mono ?_; rintro e w1 ⟨rfl, hx1⟩)
    | (go_at_call 38; refine (GK.out _ hx1).mono ?_; rintro e w' ⟨rfl, rfl⟩))
  go_returns
  exact ⟨rfl, hx1⟩
end Go.Proofs.Ytbacamepmilmhaa
namespace Go.Proofs.Ytbacamepmilmhaa
open Go Go.RowKit

/-- What bytes open as, by the keys of a ring. -/
def openAny (E : Eps) (path : List UInt8) (ver : Nat) (s : List UInt8) : List UInt8 × Int :=
  if (epR s).2 = 7 then ([], 7) else match lookE E (epR s).1 with
    | none => ([], 140)
    | some key => openR key path ver s
theorem look_key {E : Eps} {ep : Nat} {key : List UInt8} (h : ∀ p ∈ E, p.2.length = 32) (hk : lookE E ep = some key) : key.length = 32 := by
  unfold lookE at hk
  obtain ⟨p, hp, rfl⟩ := Option.map_eq_some_iff.1 hk
  exact h p (List.mem_of_find?_eq_some hp)
theorem Open_any (r m : Nat) (E : Eps) (n : Nat) (path s : List UInt8) (ver : Nat) (w : World) (h : RingAt w r m E n) (hn : 0 < n) (hl : s.length ≤ 1099511627776) (hkl : ∀ p ∈ E, p.2.length = 32) (hv : U64 ver) (hp : path.length ≤ 1048576) :
    Calls Try.prog 22 #[.pointer (some ⟨r, 0, none⟩), .string (bs path), .int .u64 (ver : Int), .string (bs s)] w fun e w' => e = .returned (.tuple #[.string (bs (openAny E path ver s).1), .int .i64 (openAny E path ver s).2]) ∧ Ext w w' := by
  rcases epR_cases s with he | ⟨ep, he⟩
  · rw [show openAny E path ver s = ([], 7) by unfold openAny; rw [he]; rfl]
    exact Open_form r path s ver w hl he
  · cases hk : lookE E ep with
    | none =>
      rw [show openAny E path ver s = ([], 140) by unfold openAny; rw [he]; simp only [hk]; rfl]
      exact Open_none r m E n ep path s ver w h hn hl he hk hp
    | some key =>
      rw [show openAny E path ver s = openR key path ver s by unfold openAny; rw [he]; simp only [hk]; rfl]
      exact Open_core r m E n ep key path s ver w h hn he hk (by have := look_key hkl hk; omega) hv hp
theorem refOpen_any (B d : Nat) (E : Eps) (path s : List UInt8) (ver : Nat) (w : World) (h : DocAt w B d E) (hE : E ≠ []) (hel : E.length ≤ 1000) (hl : s.length ≤ 1099511627776) (hkl : ∀ p ∈ E, p.2.length = 32) (hv : U64 ver) (hp : path.length ≤ 1048576) :
    Calls Try.prog 23 #[.pointer (some ⟨d, 0, none⟩), .string (bs path), .int .u64 (ver : Int), .string (bs s)] w fun e w' => e = .returned (.tuple #[.string (bs (openAny E path ver s).1), .int .i64 (openAny E path ver s).2]) ∧ Ext w w' := by
  rcases epR_cases s with he | ⟨ep, he⟩
  · rw [show openAny E path ver s = ([], 7) by unfold openAny; rw [he]; rfl]
    exact refOpen_form d path s ver w hl he
  · cases hk : lookE E ep with
    | none =>
      rw [show openAny E path ver s = ([], 140) by unfold openAny; rw [he]; simp only [hk]; rfl]
      exact refOpen_none B d E ep path s ver w h hE hel hl he hk hp
    | some key =>
      rw [show openAny E path ver s = openR key path ver s by unfold openAny; rw [he]; simp only [hk]; rfl]
      exact refOpen_core B d E ep key path s ver w h hel he hk (by have := look_key hkl hk; omega) hv hp
end Go.Proofs.Ytbacamepmilmhaa
