/- Layer 13: rings between calls; the statements' heavy and works. -/
import Derived.Test.YtbacamepmilmhaaSortJ
import Derived.Test.YtbacamepmilmhaaRingP
import Derived.Test.YtbacamepmilmhaaWord
import Derived.Deep.CutRange
namespace Go.Proofs.Ytbacamepmilmhaa
open Go Go.RowKit

/-- What holds of a ring's keys. -/
structure RI (E : Eps) (n : Nat) : Prop where
  asc : AscE E
  last : ∃ E0 key, E = E0 ++ [(n, key)]
  len : E.length ≤ 64
  key : ∀ p ∈ E, p.2.length = 32
  pos : 0 < n
theorem RI.ne {E : Eps} {n : Nat} (h : RI E n) : E ≠ [] := by
  obtain ⟨E0, key, rfl⟩ := h.last
  simp
theorem RI.le {E : Eps} {n : Nat} (h : RI E n) : ∀ p ∈ E, p.1 ≤ n := by
  obtain ⟨E0, key, rfl⟩ := h.last
  have := h.asc
  unfold AscE at this
  rw [List.pairwise_append] at this
  intro p hp
  rcases List.mem_append.1 hp with hp | hp
  · exact Nat.le_of_lt (this.2.2 p hp (n, key) (by simp))
  · simp at hp; subst hp; exact Nat.le_refl _
theorem look_mem : ∀ {E : Eps}, AscE E → ∀ p ∈ E, lookE E p.1 = some p.2
  | [], _, _, hp => by cases hp
  | q :: E, h, p, hp => by
    unfold AscE at h
    rw [List.pairwise_cons] at h
    rw [lookE_cons]
    rcases List.mem_cons.1 hp with rfl | hp
    · rw [if_pos rfl]
    · have := h.1 p hp
      rw [if_neg (by omega)]
      exact look_mem h.2 p hp
theorem RI.look {E : Eps} {n : Nat} (h : RI E n) : ∃ s, lookE E n = some s ∧ s.length = 32 := by
  have h2 := h
  obtain ⟨E0, key, rfl⟩ := h.last
  exact ⟨key, look_mem h2.asc (n, key) (by simp), h2.key (n, key) (by simp)⟩
theorem RI.new {E : Eps} {n e : Nat} (h : RI E n) (he : n < e) : lookE E e = none := lookE_not fun p hp => by have := h.le p hp; omega
theorem RI.rot {E : Eps} {n : Nat} {key : List UInt8} (h : RI E n) (hl : E.length < 64) (hk : key.length = 32) : RI (E ++ [(n + 1, key)]) (n + 1) :=
  ⟨h.asc.snoc fun p hp => by have := h.le p hp; omega, ⟨E, key, rfl⟩, by simp; omega, fun p hp => by
    rcases List.mem_append.1 hp with hp | hp
    · exact h.key p hp
    · simp at hp; subst hp; exact hk, by omega⟩
theorem RI.gone {E : Eps} {n e : Nat} (h : RI E n) (he : e ≠ n) : RI (goneE E e) n := by
  refine ⟨h.asc.gone e, ?_, Nat.le_trans (List.length_eraseP_le ..) h.len, gone_key h.key e, h.pos⟩
  obtain ⟨E0, key, rfl⟩ := h.last
  by_cases hx : ∃ p ∈ E0, p.1 = e
  · obtain ⟨p, hp, hpe⟩ := hx
    exact ⟨goneE E0 e, key, by unfold goneE; rw [List.eraseP_append_left (by simp [hpe]) _ hp]⟩
  · refine ⟨E0, key, ?_⟩
    unfold goneE
    rw [List.eraseP_of_forall_not]
    intro p hp
    rcases List.mem_append.1 hp with hp | hp
    · intro hc; exact hx ⟨p, hp, by simpa using hc⟩
    · simp at hp; subst hp; simp; omega
theorem gone_len {E : Eps} {e : Nat} {s : List UInt8} (h : lookE E e = some s) : (goneE E e).length = E.length - 1 := by
  unfold lookE at h
  obtain ⟨p, hp, _⟩ := Option.map_eq_some_iff.1 h
  have h1 := List.find?_some hp
  exact List.length_eraseP_of_mem (List.mem_of_find?_eq_some hp) h1
theorem ri_one (key : List UInt8) (h : key.length = 32) : RI [(1, key)] 1 := ⟨by simp [AscE], ⟨[], key, rfl⟩, by simp, fun p hp => by simp at hp; subst hp; exact h, by omega⟩
/-- The ring at r is of the call's own. -/
structure RX (w0 : World) (r m : Nat) (E : Eps) (n : Nat) (w : World) : Prop where
  ring : RingAt w r m E n
  ext : Ext w0 w
  rnew : w0.heap.size ≤ r
  mnew : w0.heap.size ≤ m
theorem RX.next {w0 w w' : World} {r m : Nat} {E : Eps} {n : Nat} (h : RX w0 r m E n w) (hx : Ext w w') : RX w0 r m E n w' := ⟨h.ring.ext hx, h.ext.trans hx, h.rnew, h.mnew⟩
theorem RX.put {w0 w w' : World} {r m : Nat} {E E' : Eps} {n n' : Nat} (h : RX w0 r m E n w) (hr : RingAt w' r m E' n') (hb : But [r, m] w w') : RX w0 r m E' n' w' :=
  ⟨hr, But.ext h.ext hb (fun x hx => by simp at hx; rcases hx with rfl | rfl; exact h.rnew; exact h.mnew), h.rnew, h.mnew⟩
theorem but_pair {r m : Nat} {w w' : World} (h : But [m] w w') : But [r, m] w w' := h.mono (by simp)
/-! ### The contracts, of a ring of the call's own -/
def NewX (w0 : World) (key : List UInt8) (e : Ending) (w' : World) : Prop := ∃ r m, e = .returned (.tuple #[.pointer (some ⟨r, 0, none⟩), .int .i64 0]) ∧ RX w0 r m [(1, key)] 1 w'
theorem new_x (key : List UInt8) (w0 w : World) (hk : key.length = 32) (hx : Ext w0 w) : Calls Try.prog 31 #[.string (bs key)] w (NewX w0 key) := by
  refine (ring_New key w hk).mono ?_
  rintro e w' ⟨r, m, rfl, h1, h2, _, h3, h4⟩
  exact ⟨r, m, rfl, h3, hx.trans h4, Nat.le_trans hx.size h1, Nat.le_trans hx.size h2⟩
def RotX (w0 : World) (r m : Nat) (E : Eps) (n : Nat) (key : List UInt8) (e : Ending) (w' : World) : Prop := e = .returned (.tuple #[.int .u32 ((n + 1 : Nat) : Int), .int .i64 0]) ∧ RX w0 r m (E ++ [(n + 1, key)]) (n + 1) w'
theorem rotate_x (w0 w : World) (r m : Nat) (E : Eps) (n : Nat) (key : List UInt8) (h : RX w0 r m E n w) (hI : RI E n) (hl : E.length < 64) (hn : n < 4294967295) (hk : key.length = 32) :
    Calls Try.prog 25 #[.pointer (some ⟨r, 0, none⟩), .string (bs key)] w (RotX w0 r m E n key) := by
  refine (ring_Rotate r m E n key w h.ring hI.pos hk hl hn (hI.new (by omega))).mono ?_
  rintro e w' ⟨rfl, h1, h2⟩
  exact ⟨rfl, h.put h1 h2⟩
theorem rotate_full (w0 w : World) (r m : Nat) (E : Eps) (n : Nat) (key : List UInt8) (h : RX w0 r m E n w) (hI : RI E n) (hl : ¬ E.length < 64) (hk : key.length = 32) :
    Calls Try.prog 25 #[.pointer (some ⟨r, 0, none⟩), .string (bs key)] w fun e w' => e = .returned (.tuple #[.int .u32 0, .int .i64 4]) ∧ w = w' :=
  ring_Rotate_full r m E n key w h.ring hI.pos hk (.inl (by omega))
def RetX (w0 : World) (r m : Nat) (E : Eps) (n ep : Nat) (e : Ending) (w' : World) : Prop := e = .returned (.int .i64 0) ∧ RX w0 r m (goneE E ep) n w'
theorem retire_x (w0 w : World) (r m : Nat) (E : Eps) (n ep : Nat) (h : RX w0 r m E n w) (hI : RI E n) (he : ep ≠ n) {s : List UInt8} (hs : lookE E ep = some s) :
    Calls Try.prog 28 #[.pointer (some ⟨r, 0, none⟩), .int .u32 (ep : Int)] w (RetX w0 r m E n ep) := by
  refine (ring_Retire r m E n ep w h.ring hI.pos he hs).mono ?_
  rintro e w' ⟨rfl, h1, h2⟩
  exact ⟨rfl, h.put h1 (but_pair h2)⟩
/-- The epochs, as a slice of one's own. -/
def EpX (w0 : World) (r m : Nat) (E : Eps) (n : Nat) (w : World) (e : Ending) (w' : World) : Prop := ∃ g cap, e = .returned (.slice (some ⟨g, 0, none⟩) E.length cap) ∧ (∀ k, (hk : k < E.length) → w'.cell? ⟨g, k, none⟩ = some (.int .u32 (E[k].1 : Int))) ∧ g < w'.heap.size ∧ RX w0 r m E n w' ∧ Ext w w'
theorem epochs_x (w0 w : World) (r m : Nat) (E : Eps) (n : Nat) (h : RX w0 r m E n w) (hI : RI E n) : Calls Try.prog 32 #[.pointer (some ⟨r, 0, none⟩)] w (EpX w0 r m E n w) := by
  refine (ring_Epochs r m E n w h.ring hI.pos hI.asc hI.ne (by have := hI.len; omega)).mono ?_
  rintro e w' ⟨v, rfl, h1, h2⟩
  rcases h1.look with ⟨_, h0⟩ | ⟨g, cap, cur, rfl, _, hh, _⟩
  · exact absurd (by simpa using h0) hI.ne
  · refine ⟨g, cap, by simp, fun k hk => ?_, blk_lt hh, h.next h2, h2⟩
    have := Row.cellAt h1 k (by simpa using hk)
    rw [this]; simp
def KeyX (w0 : World) (r m : Nat) (E : Eps) (n : Nat) (w : World) (e : Ending) (w' : World) : Prop := ∃ c t, e = .returned (.tuple #[.string (bs c), .string (bs t), .bool true]) ∧ c.length = 16 ∧ t.length = 32 ∧ RX w0 r m E n w' ∧ Ext w w'
theorem keys_x (w0 w : World) (r m : Nat) (E : Eps) (n ep : Nat) (h : RX w0 r m E n w) (hI : RI E n) {s : List UInt8} (hs : lookE E ep = some s) (hl : s.length = 32) :
    Calls Try.prog 33 #[.pointer (some ⟨r, 0, none⟩), .int .u32 (ep : Int)] w (KeyX w0 r m E n w) := by
  refine (ring_Keys r m E n ep w h.ring hI.pos hs (by omega)).mono ?_
  rintro e w' ⟨rfl, hx⟩
  exact ⟨_, _, rfl, derL_length _ _ _ (by omega), derL_length _ _ _ (by omega), h.next hx, hx⟩
theorem keys_no (w0 w : World) (r m : Nat) (E : Eps) (n ep : Nat) (h : RX w0 r m E n w) (hI : RI E n) (hs : lookE E ep = none) :
    Calls Try.prog 33 #[.pointer (some ⟨r, 0, none⟩), .int .u32 (ep : Int)] w fun e w' => e = .returned (.tuple #[.string (bs []), .string (bs []), .bool false]) ∧ w = w' := ring_Keys_none r m E n ep w h.ring hI.pos hs
/-! ### heavy -/
def heavyA (l : List ActL) : Bool := (l.take 100).any (fun a => decide (200 < a.key.length)) || decide (80 < l.length)
theorem heavyA_no {l : List ActL} (h : heavyA l = false) : l.length ≤ 80 ∧ ∀ a ∈ l, a.key.length ≤ 200 := by
  unfold heavyA at h
  simp only [Bool.or_eq_false_iff, decide_eq_false_iff_not, List.any_eq_false] at h
  have hl : l.length ≤ 80 := by omega
  refine ⟨hl, fun a ha => ?_⟩
  have := h.1 a (by rw [List.take_of_length_le (by omega)]; exact ha)
  simpa using this
theorem any_take_succ {l : List ActL} {k : Nat} (hk : k < l.length) (p : ActL → Bool) : (l.take (k + 1)).any p = ((l.take k).any p || p l[k]) := by
  rw [List.take_succ_eq_append_getElem hk, List.any_append]
  simp
set_option maxRecDepth 100000 in
set_option maxHeartbeats 2000000 in
theorem heavy13 (l : List ActL) (ad : Option Addr) (cap : Nat) (w : World) (h : SlA w ad l) (hl : l.length ≤ maxLen) :
    Calls Try.prog 29 #[.slice ad l.length cap] w fun e w' => e = .returned (.bool (heavyA l)) ∧ w = w' := by
  have HL := Lib.hid h
  have HM := Lib.hid hl
  clear h hl
  go_enter Try.func29, Try.ntmps29
  go_wp2
  go_loopg [3] 100 (fun k s3 wr => ∃ i : Nat, s3 = .int .i64 i ∧ i + k = 100 ∧ i ≤ l.length ∧ w = wr ∧ Hid ((l.take i).any (fun a => decide (200 < a.key.length)) = false))
  case atStart => exact ⟨0, rfl, by omega, by omega, rfl, Lib.hid (by simp)⟩
  case round =>
    obtain ⟨i, rfl, hik, hil, rfl, HA⟩ := hrel
    by_cases hlt : i < l.length ∧ i < 100
    · obtain ⟨h1, h2⟩ := hlt
      obtain ⟨b, o, rfl, hb, ha⟩ := HL.out i h1
      have c2 := ha.2.2.1
      obtain ⟨x, hx⟩ : ∃ x, l[i] = x := ⟨_, rfl⟩
      rw [hx] at c2
      have HX : Hid ((l.take (i + 1)).any (fun a => decide (200 < a.key.length)) = decide (200 < x.key.length)) := Lib.hid (by rw [any_take_succ h1, HA.out, hx, Bool.false_or])
      have h1i : (i : Int) < (l.length : Int) := by omega
      have h2i : (i : Int) < 100 := by omega
      clear ha hx
      by_cases hk : 200 < x.key.length
      · have hki : (200 : Int) < (x.key.length : Int) := by omega
        have HR : Hid (heavyA l = true) := Lib.hid (by
          have h3 := HX.out
          rw [decide_eq_true hk] at h3
          unfold heavyA
          rw [Bool.or_eq_true]
          left
          rw [List.any_eq_true] at h3 ⊢
          obtain ⟨y, hy, hp⟩ := h3
          refine ⟨y, ?_, hp⟩
          have e : l.take (i + 1) = (l.take 100).take (i + 1) := by rw [List.take_take, Nat.min_eq_left (by omega)]
          rw [e] at hy
          exact List.mem_of_mem_take hy)
        clear HX HA hk
        go_wp2
        go_returns
        rw [HR.out]
        exact ⟨rfl, rfl⟩
      · have hki : decide ((200 : Int) < (x.key.length : Int)) = false := by simp; omega
        have HN : Hid ((l.take (i + 1)).any (fun a => decide (200 < a.key.length)) = false) := Lib.hid (by rw [HX.out, decide_eq_false hk])
        clear HX HA hk
        go_wp2
        go_roundg (gk - 1)
        case measure => omega
        case rel => exact ⟨i + 1, by go_num, by omega, by omega, by first | rfl | trivial, HN⟩
    · have HR : Hid (heavyA l = decide (80 < l.length)) := Lib.hid (by
        have h3 := HA.out
        unfold heavyA
        rcases Nat.lt_or_ge i 100 with h | h
        · obtain rfl : i = l.length := by omega
          rw [List.take_of_length_le (by omega)] at h3 ⊢
          rw [h3, Bool.false_or]
        · obtain rfl : i = 100 := by omega
          rw [h3, Bool.false_or])
      clear HA
      rcases Nat.lt_or_ge i l.length with h | h
      · obtain rfl : i = 100 := by omega
        have h1 : (100 : Int) < (l.length : Int) := by omega
        go_wp2
        go_returns
        rw [HR.out]
        exact ⟨by simp; omega, rfl⟩
      · have h1 : decide ((i : Int) < (l.length : Int)) = false := by simp; omega
        go_wp2
        go_returns
        rw [HR.out]
        exact ⟨by simp; omega, rfl⟩
/-! ### works -/
set_option maxRecDepth 100000 in
set_option maxHeartbeats 4000000 in
theorem works13 (w : World) : Calls Try.prog 30 #[] w fun e w' => e = .returned (.bool true) ∧ Ext w w' := by
  have h32 : ∀ s : List UInt8, (padTo 32 s).length = 32 := padTo_length 32
  have GA : Hid (∀ W, Calls Try.prog 26 #[.string { data := #[97] }] W fun e w' => e = .returned (.string (bs (padTo 32 [97]))) ∧ Ext W w') := Lib.hid fun W => full13 [97] W (by simp)
  have GB : Hid (∀ W, Calls Try.prog 26 #[.string { data := #[98] }] W fun e w' => e = .returned (.string (bs (padTo 32 [98]))) ∧ Ext W w') := Lib.hid fun W => full13 [98] W (by simp)
  have ha := h32 [97]
  have hb := h32 [98]
  generalize padTo 32 [97] = ka at *
  generalize padTo 32 [98] = kb at *
  have I1 := ri_one ka ha
  have I2 : RI ([(1, ka)] ++ [(2, kb)]) 2 := I1.rot (by simp) hb
  have hg : goneE ([(1, ka)] ++ [(2, kb)]) 1 = [(2, kb)] := rfl
  have I3 : RI [(2, kb)] 2 := ⟨by simp [AscE], ⟨[], kb, rfl⟩, by simp, fun p hp => by simp at hp; subst hp; exact hb, by omega⟩
  have GN := Lib.hid (fun (W : World) (hx : Ext w W) => new_x ka w W ha hx)
  have GR := Lib.hid (fun (r m : Nat) (W : World) (h : RX w r m [(1, ka)] 1 W) => rotate_x w W r m [(1, ka)] 1 kb h I1 (by simp) (by omega) hb)
  have GT2 : Hid (∀ r m W, RX w r m ([(1, ka)] ++ [(2, kb)]) 2 W → Calls Try.prog 28 #[.pointer (some ⟨r, 0, none⟩), .int .u32 2] W fun e w' => e = .returned (.int .i64 2) ∧ W = w') := Lib.hid fun r m W h => ring_Retire_new r m _ 2 W h.ring (by omega)
  have GT1 : Hid (∀ r m W, RX w r m ([(1, ka)] ++ [(2, kb)]) 2 W → Calls Try.prog 28 #[.pointer (some ⟨r, 0, none⟩), .int .u32 1] W (RetX w r m ([(1, ka)] ++ [(2, kb)]) 2 1)) := Lib.hid fun r m W h => retire_x w W r m _ 2 1 h I2 (by omega) (s := ka) rfl
  have GE := Lib.hid (fun (r m : Nat) (W : World) (h : RX w r m [(2, kb)] 2 W) => epochs_x w W r m [(2, kb)] 2 h I3)
  have GK : Hid (∀ r m W, RX w r m [(2, kb)] 2 W → Calls Try.prog 33 #[.pointer (some ⟨r, 0, none⟩), .int .u32 2] W (KeyX w r m [(2, kb)] 2 W)) := Lib.hid fun r m W h => keys_x w W r m _ 2 2 h I3 (s := kb) rfl hb
  have HG := Lib.hid hg
  clear h32 ha hb I1 I2 I3 hg
  have HX := Lib.hid (Ext.refl w)
  go_enter Try.func30, Try.ntmps30
  go_wp2_with (first
    | (go_at_call 26; (with_reducible refine (GA.out _).mono ?_); rintro e w1 ⟨rfl, hx1⟩; have hq := HX.out.trans hx1; clear HX hx1; have HX := Lib.hid hq; clear hq)
    | (go_at_call 31; (with_reducible refine (GN.out _ HX.out).mono ?_); rintro e w1 ⟨r, m, rfl, h1⟩; have HR := Lib.hid h1; clear h1)
    | (go_at_call 26; (with_reducible refine (GB.out _).mono ?_); rintro e w1 ⟨rfl, hx1⟩; have h1 := HR.out.next hx1; clear HR hx1; have HR := Lib.hid h1; clear h1)
    | (go_at_call 25; (with_reducible refine (GR.out r m _ HR.out).mono ?_); rintro e w1 ⟨rfl, h1⟩; clear HR; have HR := Lib.hid h1; clear h1)
    | (go_at_call 28; (with_reducible refine (GT2.out r m _ HR.out).mono ?_); rintro e w' ⟨rfl, rfl⟩)
    | (go_at_call 28; (with_reducible refine (GT1.out r m _ HR.out).mono ?_); rintro e w1 ⟨rfl, h1⟩; clear HR; rw [HG.out] at h1; have HR := Lib.hid h1; clear h1)
    | (go_at_call 32; (with_reducible refine (GE.out r m _ HR.out).mono ?_); rintro e w1 ⟨g, cap, rfl, hc, _, h1, _⟩; have c0 : w1.cell? ⟨g, 0, none⟩ = some (.int .u32 2) := hc 0 (by simp); clear HR hc; have HR := Lib.hid h1; clear h1)
    | (go_at_call 33; (with_reducible refine (GK.out r m _ HR.out).mono ?_); rintro e w2 ⟨c, t, rfl, hc, ht, h1, hx1⟩; have c1 := hx1.cell_of c0; have hci : (c.length : Int) = 16 := (by omega); have hti : (t.length : Int) = 32 := (by omega); clear HR hc ht hx1; have HR := Lib.hid h1; clear h1))
  go_returns
  exact ⟨by simp, HR.out.ext⟩
end Go.Proofs.Ytbacamepmilmhaa
set_option linter.unusedVariables false
namespace Go.Proofs.Ytbacamepmilmhaa
open Go Go.RowKit

theorem asc_at {E : Eps} (h : AscE E) (i j : Nat) (hij : i < j) (hj : j < E.length) : (E[i]'(by omega)).1 < E[j].1 := (List.pairwise_iff_getElem.1 h) i j (by omega) hj hij
theorem last_at {E : Eps} {n : Nat} (h : RI E n) (k : Nat) (hk : k < E.length) (hl : k + 1 = E.length) : E[k].1 = n := by
  obtain ⟨E0, key, rfl⟩ := h.last
  have : k = E0.length := by simp at hl; omega
  subst this
  simp
set_option maxRecDepth 100000 in
set_option maxHeartbeats 16000000 in
theorem law_KeyringOrder (w : World) (l : List ActL) (ad : Option Addr) (cap : Nat) (hl : l.length ≤ maxLen) (h : SlA w ad l) :
    Calls Try.prog 7 #[.slice ad l.length cap] w fun e w' => e = .returned (.bool true) ∧ Ext w w' := by
  have GW := Lib.hid works13
  have GH := Lib.hid (heavy13 l ad cap w h hl)
  cases hh : heavyA l
  case true =>
    rw [hh] at GH
    clear hh h hl
    go_enter Try.func7, Try.ntmps7
    go_wp2_with (first
      | (go_at_call 29; (with_reducible refine GH.out.mono ?_); rintro e w' ⟨rfl, rfl⟩)
      | (go_at_call 30; (with_reducible refine (GW.out _).mono ?_); rintro e w1 ⟨rfl, hx1⟩))
    go_returns
    exact ⟨rfl, hx1⟩
  case false =>
  rw [hh] at GH
  obtain ⟨hl80, hkey⟩ := heavyA_no hh
  have HKEY := Lib.hid hkey
  have HL := Lib.hid h
  have GF : Hid (∀ W, Calls Try.prog 26 #[.string { data := #[102, 105, 114, 115, 116] }] W fun e w' => e = .returned (.string (bs (padTo 32 [102, 105, 114, 115, 116]))) ∧ Ext W w') := Lib.hid fun W => full13 [102, 105, 114, 115, 116] W (by simp)
  have h1 : (padTo 32 [102, 105, 114, 115, 116]).length = 32 := padTo_length 32 _
  generalize padTo 32 [102, 105, 114, 115, 116] = k1 at *
  have GN := Lib.hid (fun (W : World) (hx : Ext w W) => new_x k1 w W h1 hx)
  have I1 := Lib.hid (ri_one k1 h1)
  obtain ⟨len, hlen⟩ : ∃ len, l.length = len := ⟨_, rfl⟩
  rw [hlen] at GH hl80
  have HLEN := Lib.hid hlen
  rw [hlen]
  clear hh h hl hkey h1 hlen
  go_enter Try.func7, Try.ntmps7
  go_wp2_with (first
    | (go_at_call 29; (with_reducible refine GH.out.mono ?_); rintro e w' ⟨rfl, rfl⟩)
    | (go_at_call 26; (with_reducible refine (GF.out _).mono ?_); rintro e w1 ⟨rfl, hx1⟩)
    | (go_at_call 31; (with_reducible refine (GN.out _ hx1).mono ?_); rintro e w2 ⟨r, m, rfl, h1⟩; have HR := Lib.hid h1; clear h1))
  go_loopg [5, 6] len (fun k s5 s6 wr => ∃ (i n : Nat) (E : Eps), s5 = .int .u32 (n : Int) ∧ s6 = .int .i64 (i : Int) ∧ i + k = len ∧ n ≤ i + 1 ∧ Hid (RI E n) ∧ Hid (RX w r m E n wr))
  case atStart => exact ⟨0, 1, _, rfl, rfl, by omega, by omega, I1, HR⟩
  case round =>
    obtain ⟨i, n, E, rfl, rfl, hik, hni, HI, HX⟩ := hrel
    clear HR I1 GF GN GH hx1
    cases gk with
    | zero =>
      obtain rfl : i = len := by omega
      go_wp2_with (go_at_call 30; (with_reducible refine (GW.out _).mono ?_); rintro e w1 ⟨rfl, hx1⟩)
      go_returns
      exact ⟨rfl, HX.out.ext.trans hx1⟩
    | succ k =>
    have hil : i < len := by omega
    obtain ⟨b, o, rfl, hb, hat⟩ := HL.out i (by have := HLEN.out; omega)
    have hat2 := hat.ext HX.out.ext
    have hkl := HKEY.out _ (List.getElem_mem (by have := HLEN.out; omega : i < l.length))
    obtain ⟨⟨go, ep, key, fit⟩, hx⟩ : ∃ x, l[i]'(by have := HLEN.out; omega) = x := ⟨_, rfl⟩
    rw [hx] at hat2 hkl
    obtain ⟨c0, c1, c2, c3⟩ := hat2
    have hkl2 : key.length ≤ 200 := hkl
    clear hat hx hkl hb
    have hn80 : n ≤ 100 := by omega
    have GE := Lib.hid (fun (W : World) (E : Eps) (n : Nat) (hI : RI E n) (h : RX w r m E n W) => epochs_x w W r m E n h hI)
    have hpos := HI.out.pos
    have HNE := Lib.hid HI.out.ne
    have HLE := Lib.hid HI.out.len
    dsimp only at c0 c1 c2 c3
    go_upto_if 43 with fail
    go_cut [5] from 33 to 166 (fun s5 wc => ∃ (n2 : Nat) (E2 : Eps), s5 = .int .u32 (n2 : Int) ∧ n2 ≤ i + 2 ∧ Hid (RI E2 n2) ∧ Hid (RX w r m E2 n2 wc))
    case first =>
      cases go
      · have GF := Lib.hid (full13 key)
        have GK : Hid ((padTo 32 key).length = 32) := Lib.hid (padTo_length 32 key)
        generalize padTo 32 key = key2 at *
        have hk1 : key.length ≤ 140737488351232 := by omega
        by_cases hf : E.length < 64
        · have GR := Lib.hid (fun (W : World) (h : RX w r m E n W) => rotate_x w W r m E n key2 h HI.out hf (by omega) GK.out)
          have HI2 := Lib.hid (HI.out.rot (key := key2) hf GK.out)
          obtain ⟨n2, hn2⟩ : ∃ n2, n + 1 = n2 := ⟨_, rfl⟩
          have hni2 : (n : Int) + 1 = (n2 : Int) := by omega
          have hnw : IntKind.u32.wrap (n2 : Int) = (n2 : Int) := by rw [IntKind.wrap_u32]; omega
          unfold RotX at GR
          rw [hn2] at GR HI2
          clear hf
          go_wp2_with (first
            | (go_at_call 26; (with_reducible refine (GF.out _ hk1).mono ?_); rintro e w3 ⟨rfl, hx1⟩; have h2 := HX.out.next hx1; have HX2 := Lib.hid h2; clear h2 hx1)
            | (go_at_call 25; (with_reducible refine (GR.out _ HX2.out).mono ?_); rintro e w4 ⟨rfl, h1⟩; have HX3 := Lib.hid h1; clear h1))
          go_meet
          case rel => exact ⟨n2, _, rfl, by omega, HI2, HX3⟩
        · have GR := Lib.hid (fun (W : World) (h : RX w r m E n W) => rotate_full w W r m E n key2 h HI.out hf GK.out)
          clear hf
          go_wp2_with (first
            | (go_at_call 26; (with_reducible refine (GF.out _ hk1).mono ?_); rintro e w3 ⟨rfl, hx1⟩; have h2 := HX.out.next hx1; have HX2 := Lib.hid h2; clear h2 hx1)
            | (go_at_call 25; (with_reducible refine (GR.out _ HX2.out).mono ?_); rintro e w' ⟨rfl, rfl⟩))
          go_meet
          case rel => exact ⟨n, E, rfl, by omega, HI, HX2⟩
      · go_upto_region 12 with (go_at_call 32; (with_reducible refine (GE.out _ _ _ HI.out HX.out).mono ?_); rintro e w3 ⟨g, cap3, rfl, _, _, h1, hx3⟩; have HX2 := Lib.hid h1; clear h1)
        have d1 := hx3.cell_of c1
        clear c0 c1 c2 c3 hx3
        by_cases he : ep = n
        · subst he
          have GT := Lib.hid (fun (W : World) (h : RX w r m E ep W) => ring_Retire_new r m E ep W h.ring hpos)
          go_wp2_with (first
            | (go_at_call 28; (with_reducible refine (GT.out _ HX2.out).mono ?_); rintro e w' ⟨rfl, rfl⟩)
            | (go_at_call 32; (with_reducible refine (GE.out _ _ _ HI.out HX2.out).mono ?_); rintro e w5 ⟨g5, cap5, rfl, _, _, h1, _⟩; have HX5 := Lib.hid h1; clear h1))
          go_meet
          case rel => exact ⟨ep, E, rfl, by omega, HI, HX5⟩
        · cases hlk : lookE E ep with
          | none =>
            have GT := Lib.hid (fun (W : World) (h : RX w r m E n W) => ring_Retire_none r m E n ep W h.ring hpos he hlk)
            clear he hlk
            go_wp2_with (first
              | (go_at_call 28; (with_reducible refine (GT.out _ HX2.out).mono ?_); rintro e w' ⟨rfl, rfl⟩)
              | (go_at_call 32; (with_reducible refine (GE.out _ _ _ HI.out HX2.out).mono ?_); rintro e w5 ⟨g5, cap5, rfl, _, _, h1, _⟩; have HX5 := Lib.hid h1; clear h1))
            go_meet
            case rel => exact ⟨n, E, rfl, by omega, HI, HX5⟩
          | some s =>
            have GT := Lib.hid (fun (W : World) (h : RX w r m E n W) => retire_x w W r m E n ep h HI.out he hlk)
            have HI2 := Lib.hid (HI.out.gone he)
            have hgl := gone_len hlk
            have hgi : ((goneE E ep).length : Int) = (E.length : Int) - 1 := by have := List.length_pos_iff.2 HNE.out; omega
            have hE64 : E.length ≤ 64 := HLE.out
            clear he hlk hgl
            go_wp2_with (first
              | (go_at_call 28; (with_reducible refine (GT.out _ HX2.out).mono ?_); rintro e w4 ⟨rfl, h1⟩; have HX4 := Lib.hid h1; clear h1)
              | (go_at_call 32; (with_reducible refine (GE.out _ _ _ HI2.out HX4.out).mono ?_); rintro e w5 ⟨g5, cap5, rfl, _, _, h1, _⟩; have HX5 := Lib.hid h1; clear h1))
            go_meet
            case rel => exact ⟨n, _, rfl, by omega, HI2, HX5⟩
    case rest =>
    clear HX HI hpos HNE HLE c0 c1 c2 c3 hni hn80
    obtain ⟨n2, E2, rfl, hn2, HI, HX⟩ := hcut
    have GNW := Lib.hid (fun (W : World) (h : RX w r m E2 n2 W) => ring_Newest r m E2 n2 W h.ring HI.out.pos)
    have GK := Lib.hid (fun (W : World) (h : RX w r m E2 n2 W) (k : Nat) (hk : k < E2.length) => keys_x w W r m E2 n2 E2[k].1 h HI.out (look_mem HI.out.asc E2[k] (List.getElem_mem hk)) (HI.out.key _ (List.getElem_mem hk)))
    have GKN := Lib.hid (fun (W : World) (h : RX w r m E2 n2 W) => keys_no w W r m E2 n2 (n2 + 1) h HI.out (HI.out.new (by omega)))
    go_upto_region 21 with (go_at_call 32; (with_reducible refine (GE.out _ _ _ HI.out HX.out).mono ?_); rintro e w3 ⟨g, cap3, rfl, hcs, hgl, h1, _⟩; have HX2 := Lib.hid h1; clear h1)
    have HCS := Lib.hid hcs
    have HASC := Lib.hid (fun (i j : Nat) (hij : i < j) (hj : j < E2.length) => asc_at HI.out.asc i j hij hj)
    have HLAST := Lib.hid (fun (k : Nat) (hk : k < E2.length) (hl : k + 1 = E2.length) => last_at HI.out k hk hl)
    have hN0 : 0 < E2.length := List.length_pos_iff.2 HI.out.ne
    have hN64 := HI.out.len
    have HI3 := HI
    clear hcs HX GE
    obtain ⟨N, hN⟩ : ∃ N, E2.length = N := ⟨_, rfl⟩
    obtain ⟨N1, hN1⟩ : ∃ N1, N = N1 + 1 := ⟨N - 1, by omega⟩
    have hNi : (N : Int) - 1 = (N1 : Int) := by omega
    have cl : w3.cell? ⟨g, N1, none⟩ = some (.int .u32 (n2 : Int)) := by
      rw [HCS.out N1 (by omega), HLAST.out N1 (by omega) (by omega)]
    have hNa : (0 : Int) < (N : Int) := by omega
    have hNb : (N : Int) ≤ 64 := by omega
    have hN1N : N1 < N := by omega
    have HN := Lib.hid hN
    rw [hN] at hN0 hN64 ⊢
    obtain ⟨n3, hn3⟩ : ∃ n3, n2 + 1 = n3 := ⟨_, rfl⟩
    have hn3i : (n2 : Int) + 1 = (n3 : Int) := by omega
    have hn3w : IntKind.u32.wrap (n3 : Int) = (n3 : Int) := by rw [IntKind.wrap_u32]; omega
    rw [hn3] at GKN
    have HN3 := Lib.hid hn3
    clear hN hN1 hn3
    go_upto_region 24 with (go_at_call 24; (with_reducible refine (GNW.out _ HX2.out).mono ?_); rintro e w' ⟨rfl, rfl⟩)
    have HX3 : Hid (Ext w3 w3) := Lib.hid (Ext.refl w3)
    go_loopg [12] N (fun q s12 w5 => ∃ t : Nat, s12 = .int .i64 (t : Int) ∧ t + q = N ∧ Hid (RX w r m E2 n2 w5) ∧ Hid (Ext w3 w5))
    case atStart => exact ⟨0, rfl, by omega, HX2, HX3⟩
    case round =>
      obtain ⟨t, rfl, htq, HX5, HE5⟩ := hrel
      clear HX2 HX3 cl
      cases gk with
      | zero =>
        obtain rfl : t = N := by omega
        go_wp2_with (go_at_call 33; (with_reducible refine (GKN.out _ HX5.out).mono ?_); rintro e w' ⟨rfl, rfl⟩)
        go_roundg k
        case measure => omega
        case rel => exact ⟨i + 1, n2, E2, rfl, by go_num, by omega, by omega, HI3, HX5⟩
      | succ q =>
      have htN : t < N := by omega
      have ct := HE5.out.cell_of (HCS.out t (by have := HN.out; omega))
      have GKt := Lib.hid (fun (W : World) (h : RX w r m E2 n2 W) => GK.out W h t (by have := HN.out; omega))
      obtain ⟨ev, hev⟩ : ∃ ev, (E2[t]'(by have := HN.out; omega)).1 = ev := ⟨_, rfl⟩
      rw [hev] at ct GKt
      have htNi : (t : Int) < (N : Int) := by omega
      by_cases ht0 : 0 < t
      · have ht0i : (0 : Int) < (t : Int) := by omega
        obtain ⟨t1, ht1⟩ : ∃ t1, t = t1 + 1 := ⟨t - 1, by omega⟩
        have hti : (t : Int) - 1 = (t1 : Int) := by omega
        have ht1N : t1 < N := by omega
        have cp := HE5.out.cell_of (HCS.out t1 (by have := HN.out; omega))
        have has := HASC.out t1 t (by omega) (by have := HN.out; omega)
        obtain ⟨ep1, hep1⟩ : ∃ ev, (E2[t1]'(by have := HN.out; omega)).1 = ev := ⟨_, rfl⟩
        rw [hev, hep1] at has
        rw [hep1] at cp
        have hasi : ¬ (ev : Int) ≤ (ep1 : Int) := by omega
        clear hev hep1 has ht1
        go_upto_region 27 with (go_at_call 33; (with_reducible refine (GKt.out _ HX5.out).mono ?_); rintro e w6 ⟨cc, tt, rfl, _, _, h1, hx6⟩; have HX6 := Lib.hid h1; have dt := hx6.cell_of ct; have dp := hx6.cell_of cp; have HE6 := Lib.hid (HE5.out.trans hx6); clear h1 hx6)
        clear ct cp
        go_quiet (fail)
        go_wp2_with fail
        go_roundg q
        case measure => omega
        case rel => exact ⟨t + 1, by go_num, by omega, Lib.hid (HX6.out.next ((Ext.refl _).drewN nq)), Lib.hid (HE6.out.drewN nq)⟩
      · have ht0d : decide (0 < t) = false := by simpa using ht0
        clear hev
        go_upto_region 27 with (go_at_call 33; (with_reducible refine (GKt.out _ HX5.out).mono ?_); rintro e w6 ⟨cc, tt, rfl, _, _, h1, hx6⟩; have HX6 := Lib.hid h1; have dt := hx6.cell_of ct; have HE6 := Lib.hid (HE5.out.trans hx6); clear h1 hx6)
        clear ct
        go_quiet (fail)
        go_wp2_with fail
        go_roundg q
        case measure => omega
        case rel => exact ⟨t + 1, by go_num, by omega, Lib.hid (HX6.out.next ((Ext.refl _).drewN nq)), Lib.hid (HE6.out.drewN nq)⟩
end Go.Proofs.Ytbacamepmilmhaa
