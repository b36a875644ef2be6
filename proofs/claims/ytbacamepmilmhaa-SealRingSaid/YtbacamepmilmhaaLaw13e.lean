/- Layer 13: what was written is read; rings that are none. -/
import Derived.Test.YtbacamepmilmhaaLaw13a
namespace Go.Proofs.Ytbacamepmilmhaa
open Go Go.RowKit

theorem getB_putB4k (e : Nat) (he : e < 4294967296) : getB (putB 4 e) = e := by
  simp only [putB, List.range, List.range.loop, List.map_cons, List.map_nil]
  simp only [getB, List.foldl_cons, List.foldl_nil]
  rw [UInt8.toNat_ofNat', UInt8.toNat_ofNat', UInt8.toNat_ofNat', UInt8.toNat_ofNat']
  simp only [Nat.reduceSub, Nat.reduceMul, Nat.reducePow]
  omega
theorem entB_length (p : Nat × List UInt8) (h : p.2.length = 32) : (entB p).length = 36 := by simp [entB, h]
theorem flat_entB_length : ∀ (E : Eps), (∀ p ∈ E, p.2.length = 32) → (E.flatMap entB).length = 36 * E.length
  | [], _ => rfl
  | p :: E, h => by
    rw [List.flatMap_cons, List.length_append, entB_length p (h p (by simp)), flat_entB_length E (fun q hq => h q (by simp [hq])), List.length_cons]
    omega
theorem flat_drop : ∀ (k : Nat) (E : Eps), (∀ p ∈ E, p.2.length = 32) → (E.flatMap entB).drop (36 * k) = (E.drop k).flatMap entB
  | 0, E, _ => rfl
  | k + 1, [], _ => by simp
  | k + 1, p :: E, h => by
    have hl := entB_length p (h p (by simp))
    rw [List.flatMap_cons, show 36 * (k + 1) = (entB p).length + 36 * k by omega, ← List.drop_drop, List.drop_left, flat_drop k E (fun q hq => h q (by simp [hq]))]
    rfl
theorem bytesE_length (E : Eps) (h : ∀ p ∈ E, p.2.length = 32) : (bytesE E).length = 1 + 36 * E.length := by
  rw [bytesE, List.length_append, flat_entB_length E h]; rfl
theorem bytesE_entry (E : Eps) (h : ∀ p ∈ E, p.2.length = 32) (h32 : ∀ p ∈ E, p.1 < 4294967296) (k : Nat) (hk : k < E.length) : entryAt (bytesE E) k = E[k] := by
  have hm : E[k] ∈ E := List.getElem_mem hk
  have hd : (bytesE E).drop (1 + 36 * k) = putB 4 E[k].1 ++ (E[k].2 ++ (E.drop (k + 1)).flatMap entB) := by
    rw [bytesE, ← List.drop_drop]
    show (E.flatMap entB).drop (36 * k) = _
    rw [flat_drop k E h, List.drop_eq_getElem_cons hk, List.flatMap_cons, entB, List.append_assoc]
  have h1 : seg (bytesE E) (1 + 36 * k) 4 = putB 4 E[k].1 := by
    rw [seg, hd]; exact List.take_left' (by simp)
  have h2 : seg (bytesE E) (5 + 36 * k) 32 = E[k].2 := by
    rw [seg, show 5 + 36 * k = (1 + 36 * k) + 4 by omega, ← List.drop_drop, hd, List.drop_left' (by simp)]
    exact List.take_left' (h _ hm)
  rw [entryAt, h1, h2, getB_putB4k _ (h32 _ hm)]
def PosE (E : Eps) : Prop := ∀ p ∈ E, 0 < p.1
theorem pos_one (key : List UInt8) : PosE [(1, key)] := fun p hp => by simp at hp; subst hp; exact Nat.one_pos
theorem PosE.rot {E : Eps} (h : PosE E) (n : Nat) (key : List UInt8) : PosE (E ++ [(n + 1, key)]) := fun p hp => by
  rcases List.mem_append.1 hp with hp | hp
  · exact h p hp
  · simp at hp; subst hp; exact Nat.succ_pos _
theorem PosE.gone {E : Eps} (h : PosE E) (e : Nat) : PosE (goneE E e) := fun p hp => h p (List.mem_of_mem_eraseP hp)
theorem readN_bytes (E : Eps) (n : Nat) (hI : RI E n) (hpos : PosE E) (hn : n < 4294967296) : ∀ k, k ≤ E.length → readN (bytesE E) k = some (E.take k)
  | 0, _ => rfl
  | k + 1, hk => by
    have hkl : k < E.length := by omega
    rw [readN, readN_bytes E n hI hpos hn k (by omega)]
    simp only [Option.bind_some]
    rw [bytesE_entry E hI.key (fun p hp => by have := hI.le p hp; omega) k hkl, if_neg, List.take_succ_eq_append_getElem hkl]
    cases k with
    | zero => simp [lastE]; have := hpos E[0] (List.getElem_mem hkl); omega
    | succ j =>
      rw [List.take_succ_eq_append_getElem (by omega : j < E.length), lastE_snoc]
      have := (List.pairwise_iff_getElem.1 hI.asc) j (j + 1) (by omega) hkl (by omega)
      omega
theorem RI.lastE {E : Eps} {n : Nat} (h : RI E n) : lastE E = n := by
  obtain ⟨E0, key, rfl⟩ := h.last
  rw [lastE_snoc]
theorem readE_bytes (E : Eps) (n : Nat) (hI : RI E n) (hpos : PosE E) (hn : n < 4294967296) : readE (bytesE E) = some E := by
  have hne : 0 < E.length := List.length_pos_iff.2 hI.ne
  have h64 := hI.len
  have h0 : ((bytesE E).getD 0 0).toNat = E.length := by
    show (b8 E.length).toNat = _
    rw [b8_toNat]; omega
  rw [readE, h0, if_pos ⟨hne, h64, bytesE_length E hI.key⟩, readN_bytes E n hI hpos hn E.length (Nat.le_refl _), List.take_length]
set_option maxRecDepth 100000 in
theorem nil_Rotate (key : List UInt8) (w : World) : Calls Try.prog 25 #[.pointer none, .string (bs key)] w fun e w' => e = .returned (.tuple #[.int .u32 0, .int .i64 1]) ∧ w = w' := by
  have G := Lib.hid ring_made_nil
  go_enter Try.func25, Try.ntmps25
  go_wp2_with (go_at_call 56; with_reducible refine (G.out _).mono ?_; rintro e w' ⟨rfl, rfl⟩)
  go_returns
  exact ⟨rfl, rfl⟩
set_option maxRecDepth 100000 in
theorem nil_Retire (ep : Nat) (w : World) : Calls Try.prog 28 #[.pointer none, .int .u32 (ep : Int)] w fun e w' => e = .returned (.int .i64 1) ∧ w = w' := by
  have G := Lib.hid ring_made_nil
  go_enter Try.func28, Try.ntmps28
  go_wp2_with (go_at_call 56; with_reducible refine (G.out _).mono ?_; rintro e w' ⟨rfl, rfl⟩)
  go_returns
  exact ⟨rfl, rfl⟩
set_option maxRecDepth 100000 in
theorem nil_Newest (w : World) : Calls Try.prog 24 #[.pointer none] w fun e w' => e = .returned (.int .u32 0) ∧ w = w' := by
  have G := Lib.hid ring_made_nil
  go_enter Try.func24, Try.ntmps24
  go_wp2_with (go_at_call 56; with_reducible refine (G.out _).mono ?_; rintro e w' ⟨rfl, rfl⟩)
  go_returns
  exact ⟨rfl, rfl⟩
set_option maxRecDepth 100000 in
theorem nil_Keys (ep : Nat) (w : World) : Calls Try.prog 33 #[.pointer none, .int .u32 (ep : Int)] w fun e w' => e = .returned (.tuple #[.string { data := #[] }, .string { data := #[] }, .bool false]) ∧ w = w' := by
  have G := Lib.hid ring_made_nil
  go_enter Try.func33, Try.ntmps33
  go_wp2_with (go_at_call 56; with_reducible refine (G.out _).mono ?_; rintro e w' ⟨rfl, rfl⟩)
  go_returns
  exact ⟨rfl, rfl⟩
set_option maxRecDepth 100000 in
theorem nil_Epochs (w : World) : Calls Try.prog 32 #[.pointer none] w fun e w' => e = .returned (.slice none 0 0) ∧ w = w' := by
  have G := Lib.hid ring_made_nil
  go_enter Try.func32, Try.ntmps32
  go_wp2_with (go_at_call 56; with_reducible refine (G.out _).mono ?_; rintro e w' ⟨rfl, rfl⟩)
  go_returns
  exact ⟨rfl, rfl⟩
set_option maxRecDepth 100000 in
theorem nil_Bytes (w : World) : Calls Try.prog 42 #[.pointer none] w fun e w' => e = .returned (.string { data := #[] }) ∧ w = w' := by
  have G := Lib.hid nil_Epochs
  go_enter Try.func42, Try.ntmps42
  go_wp2_with (go_at_call 32; with_reducible refine (G.out _).mono ?_; rintro e w' ⟨rfl, rfl⟩)
  go_returns
  exact ⟨rfl, rfl⟩
set_option maxRecDepth 100000 in
theorem nil_Copy (w : World) : Calls Try.prog 43 #[.pointer none] w fun e w' => e = .returned (.pointer none) ∧ w = w' := by
  have G := Lib.hid ring_made_nil
  go_enter Try.func43, Try.ntmps43
  go_wp2_with (go_at_call 56; with_reducible refine (G.out _).mono ?_; rintro e w' ⟨rfl, rfl⟩)
  go_returns
  exact ⟨rfl, rfl⟩
end Go.Proofs.Ytbacamepmilmhaa
set_option linter.unusedVariables false
namespace Go.Proofs.Ytbacamepmilmhaa
open Go Go.RowKit

/-- A ring, and two others beside it. -/
structure TR (w0 : World) (r m : Nat) (E : Eps) (n r2 m2 r3 m3 : Nat) (E2 : Eps) (n2 : Nat) (W : World) : Prop where
  one : RX w0 r m E n W
  two : RingAt W r2 m2 E2 n2
  three : RingAt W r3 m3 E2 n2
theorem TR.next {w0 W W' : World} {r m r2 m2 r3 m3 n n2 : Nat} {E E2 : Eps} (h : TR w0 r m E n r2 m2 r3 m3 E2 n2 W) (hx : Ext W W') : TR w0 r m E n r2 m2 r3 m3 E2 n2 W' :=
  ⟨h.one.next hx, h.two.ext hx, h.three.ext hx⟩
theorem RingAt.but {w w' : World} {r m r2 m2 n : Nat} {E : Eps} (h : RingAt w r2 m2 E n) (hb : But [r, m] w w') (h1 : r2 ≠ r ∧ r2 ≠ m ∧ m2 ≠ r ∧ m2 ≠ m) : RingAt w' r2 m2 E n :=
  h.keep (hb.block _ h.lt.1 (by simp; exact ⟨h1.1, h1.2.1⟩)) (hb.block _ h.lt.2 (by simp; exact ⟨h1.2.2.1, h1.2.2.2⟩))
def ReadB (E : Eps) (n : Nat) (w : World) (e : Ending) (w' : World) : Prop := ∃ r m, e = .returned (.tuple #[.pointer (some ⟨r, 0, none⟩), .int .i64 0]) ∧ RingAt w' r m E n ∧ w.heap.size ≤ r ∧ w.heap.size ≤ m ∧ Ext w w'
theorem read_back (E : Eps) (n : Nat) (w : World) (hI : RI E n) (hp : PosE E) (hn : n < 4294967296) : Calls Try.prog 40 #[.string (bs (bytesE E))] w (ReadB E n w) := by
  refine (ring_Read (bytesE E) w (by rw [bytesE_length E hI.key]; have := hI.len; omega)).mono ?_
  rintro e w' (⟨h, _⟩ | ⟨E1, r, m, h, rfl, _, _, h1, h2, h3, h4⟩)
  · rw [readE_bytes E n hI hp hn] at h; cases h
  · rw [readE_bytes E n hI hp hn] at h
    injection h with h
    subst h
    rw [hI.lastE] at h1
    exact ⟨r, m, rfl, h1, h2, h3, h4⟩
theorem bytes_ne {E E' : Eps} (h : ∀ p ∈ E, p.2.length = 32) (h' : ∀ p ∈ E', p.2.length = 32) (hl : E.length ≠ E'.length) : bytesE E ≠ bytesE E' := fun e => by
  have := congrArg List.length e
  rw [bytesE_length E h, bytesE_length E' h'] at this
  omega
def KeyT (T : World → Prop) (e : Ending) (w' : World) : Prop := ∃ c t, e = .returned (.tuple #[.string (bs c), .string (bs t), .bool true]) ∧ c.length = 16 ∧ t.length = 32 ∧ T w'
section
variable {w0 : World} {r m n r2 m2 r3 m3 n2 : Nat} {E E2 : Eps}
abbrev TRp (w0 : World) (r m : Nat) (E : Eps) (n r2 m2 r3 m3 : Nat) (E2 : Eps) (n2 : Nat) : World → Prop := TR w0 r m E n r2 m2 r3 m3 E2 n2
theorem trB1 (hI : RI E n) (hn : n < 4294967295) (W : World) (h : TR w0 r m E n r2 m2 r3 m3 E2 n2 W) : Calls Try.prog 42 #[.pointer (some ⟨r, 0, none⟩)] W fun e w' => e = .returned (.string (bs (bytesE E))) ∧ TR w0 r m E n r2 m2 r3 m3 E2 n2 w' :=
  (ring_Bytes r m E n W h.one.ring hI (by omega)).mono fun _ _ ⟨he, hx⟩ => ⟨he, h.next hx⟩
theorem trB2 (hI : RI E2 n2) (hn : n2 < 4294967295) (W : World) (h : TR w0 r m E n r2 m2 r3 m3 E2 n2 W) : Calls Try.prog 42 #[.pointer (some ⟨r2, 0, none⟩)] W fun e w' => e = .returned (.string (bs (bytesE E2))) ∧ TR w0 r m E n r2 m2 r3 m3 E2 n2 w' :=
  (ring_Bytes r2 m2 E2 n2 W h.two hI (by omega)).mono fun _ _ ⟨he, hx⟩ => ⟨he, h.next hx⟩
theorem trB3 (hI : RI E2 n2) (hn : n2 < 4294967295) (W : World) (h : TR w0 r m E n r2 m2 r3 m3 E2 n2 W) : Calls Try.prog 42 #[.pointer (some ⟨r3, 0, none⟩)] W fun e w' => e = .returned (.string (bs (bytesE E2))) ∧ TR w0 r m E n r2 m2 r3 m3 E2 n2 w' :=
  (ring_Bytes r3 m3 E2 n2 W h.three hI (by omega)).mono fun _ _ ⟨he, hx⟩ => ⟨he, h.next hx⟩
theorem trN1 (hI : RI E n) (W : World) (h : TR w0 r m E n r2 m2 r3 m3 E2 n2 W) : Calls Try.prog 24 #[.pointer (some ⟨r, 0, none⟩)] W fun e w' => e = .returned (.int .u32 (n : Int)) ∧ W = w' := ring_Newest r m E n W h.one.ring hI.pos
theorem trN3 (hI : RI E2 n2) (W : World) (h : TR w0 r m E n r2 m2 r3 m3 E2 n2 W) : Calls Try.prog 24 #[.pointer (some ⟨r3, 0, none⟩)] W fun e w' => e = .returned (.int .u32 (n2 : Int)) ∧ W = w' := ring_Newest r3 m3 E2 n2 W h.three hI.pos
theorem trF (s : List UInt8) (hs : s.length ≤ 140737488351232) (W : World) (h : TR w0 r m E n r2 m2 r3 m3 E2 n2 W) : Calls Try.prog 26 #[.string (bs s)] W fun e w' => e = .returned (.string (bs (padTo 32 s))) ∧ TR w0 r m E n r2 m2 r3 m3 E2 n2 w' :=
  (full13 s W hs).mono fun _ _ ⟨he, hx⟩ => ⟨he, h.next hx⟩
theorem trA3 (hI : RI E2 n2) (s : List UInt8) (hs : s.length ≠ 32) (hs2 : s.length ≤ 140737488351232) (W : World) (h : TR w0 r m E n r2 m2 r3 m3 E2 n2 W) : Calls Try.prog 25 #[.pointer (some ⟨r3, 0, none⟩), .string (bs s)] W fun e w' => e = .returned (.tuple #[.int .u32 0, .int .i64 2]) ∧ W = w' := ring_Rotate_arg r3 m3 E2 n2 s W h.three hI.pos hs hs2
theorem trK1 (hI : RI E n) (W : World) (h : TR w0 r m E n r2 m2 r3 m3 E2 n2 W) : Calls Try.prog 33 #[.pointer (some ⟨r, 0, none⟩), .int .u32 (n : Int)] W (KeyT (TR w0 r m E n r2 m2 r3 m3 E2 n2)) := by
  obtain ⟨s, hs, hsl⟩ := hI.look
  refine (keys_x w0 W r m E n n h.one hI hs hsl).mono ?_
  rintro e w' ⟨c, t, he, hc, ht, _, hx⟩
  exact ⟨c, t, he, hc, ht, h.next hx⟩
theorem trRot (hI : RI E n) (hl : E.length < 64) (hn : n < 4294967295) (key : List UInt8) (hk : key.length = 32) (h2 : r2 ≠ r ∧ r2 ≠ m ∧ m2 ≠ r ∧ m2 ≠ m) (h3 : r3 ≠ r ∧ r3 ≠ m ∧ m3 ≠ r ∧ m3 ≠ m) (W : World) (h : TR w0 r m E n r2 m2 r3 m3 E2 n2 W) :
    Calls Try.prog 25 #[.pointer (some ⟨r, 0, none⟩), .string (bs key)] W fun e w' => e = .returned (.tuple #[.int .u32 ((n + 1 : Nat) : Int), .int .i64 0]) ∧ TR w0 r m (E ++ [(n + 1, key)]) (n + 1) r2 m2 r3 m3 E2 n2 w' := by
  refine (ring_Rotate r m E n key W h.one.ring hI.pos hk hl hn (hI.new (by omega))).mono ?_
  rintro e w' ⟨rfl, h1, hb⟩
  exact ⟨rfl, h.one.put h1 hb, h.two.but hb h2, h.three.but hb h3⟩
theorem trRotFull (hI : RI E n) (hl : ¬ E.length < 64) (key : List UInt8) (hk : key.length = 32) (W : World) (h : TR w0 r m E n r2 m2 r3 m3 E2 n2 W) :
    Calls Try.prog 25 #[.pointer (some ⟨r, 0, none⟩), .string (bs key)] W fun e w' => e = .returned (.tuple #[.int .u32 0, .int .i64 4]) ∧ W = w' := rotate_full w0 W r m E n key h.one hI hl hk
theorem trW (W : World) (h : TR w0 r m E n r2 m2 r3 m3 E2 n2 W) : Calls Try.prog 30 #[] W fun e w' => e = .returned (.bool true) ∧ Ext w0 w' :=
  (works13 W).mono fun _ _ ⟨he, hx⟩ => ⟨he, h.one.ext.trans hx⟩
end
set_option maxRecDepth 100000 in
set_option maxHeartbeats 16000000 in
theorem law_KeyringBack (w : World) (a b : List UInt8) (l : List ActL) (ad : Option Addr) (cap : Nat) (ha : a.length ≤ 140737488351232) (hb : b.length ≤ 140737488351232) (hl : l.length ≤ maxLen) (h : SlA w ad l) :
    Calls Try.prog 10 #[.string (bs a), .string (bs b), .slice ad l.length cap] w fun e w' => e = .returned (.bool true) ∧ Ext w w' := by
  have GW := Lib.hid works13
  have GH := Lib.hid (heavy13 l ad cap w h hl)
  cases hh : heavyA l
  case true =>
    rw [hh] at GH
    clear hh h hl
    go_enter Try.func10, Try.ntmps10
    go_wp2_with (first
      | (go_at_call 29; (with_reducible refine GH.out.mono ?_); rintro e w' ⟨rfl, rfl⟩)
      | (go_at_call 30; (with_reducible refine (GW.out _).mono ?_); rintro e w1 ⟨rfl, hx1⟩))
    go_returns
    exact ⟨rfl, hx1⟩
  case false =>
  rw [hh] at GH
  by_cases h400 : 400 < a.length + b.length
  · have h4i : (400 : Int) < (a.length : Int) + (b.length : Int) := by omega
    clear hh h hl h400
    go_enter Try.func10, Try.ntmps10
    go_wp2_with (first
      | (go_at_call 29; (with_reducible refine GH.out.mono ?_); rintro e w' ⟨rfl, rfl⟩)
      | (go_at_call 30; (with_reducible refine (GW.out _).mono ?_); rintro e w1 ⟨rfl, hx1⟩))
    go_returns
    exact ⟨rfl, hx1⟩
  obtain ⟨hl80, hkey⟩ := heavyA_no hh
  have HKEY := Lib.hid hkey
  have HL := Lib.hid h
  have h4d : decide ((400 : Int) < (a.length : Int) + (b.length : Int)) = false := by simp; omega
  have GFA := Lib.hid (fun W => full13 a W ha)
  have GFB := Lib.hid (fun W => full13 b W hb)
  have h1 : (padTo 32 a).length = 32 := padTo_length 32 _
  have h2 : (padTo 32 b).length = 32 := padTo_length 32 _
  generalize padTo 32 a = ka at *
  generalize padTo 32 b = kb at *
  have GN := Lib.hid (fun (W : World) (hx : Ext w W) => new_x ka w W h1 hx)
  have I1 := Lib.hid (ri_one ka h1)
  have P1 := Lib.hid (pos_one ka)
  have HKB := Lib.hid h2
  obtain ⟨len, hlen⟩ : ∃ len, l.length = len := ⟨_, rfl⟩
  rw [hlen] at GH hl80
  have HLEN := Lib.hid hlen
  rw [hlen]
  clear hh h hl hkey h1 hlen h2 h400
  go_enter Try.func10, Try.ntmps10
  go_wp2_with (first
    | (go_at_call 29; (with_reducible refine GH.out.mono ?_); rintro e w' ⟨rfl, rfl⟩)
    | (go_at_call 26; (with_reducible refine (GFA.out _).mono ?_); rintro e w1 ⟨rfl, hx1⟩)
    | (go_at_call 31; (with_reducible refine (GN.out _ hx1).mono ?_); rintro e w2 ⟨r, m, rfl, h1⟩; have HR := Lib.hid h1; clear h1))
  go_loopg [9] len (fun k s9 wr => ∃ (i n : Nat) (E : Eps), s9 = .int .i64 (i : Int) ∧ i + k = len ∧ n ≤ i + 1 ∧ Hid (RI E n) ∧ Hid (PosE E) ∧ Hid (RX w r m E n wr))
  case atStart => exact ⟨0, 1, _, rfl, by omega, by omega, I1, P1, HR⟩
  case round =>
    obtain ⟨i, n, E, rfl, hik, hni, HI, HP, HX⟩ := hrel
    clear HR I1 P1 GN GH hx1
    cases gk with
    | zero =>
      obtain rfl : i = len := by omega
      have hn32 : n < 4294967295 := by omega
      have GBr := Lib.hid (fun (W : World) (h : RX w r m E n W) => ring_Bytes r m E n W h.ring HI.out (by omega))
      have GRD := Lib.hid (fun (W : World) => read_back E n W HI.out HP.out (by omega))
      have GCP := Lib.hid (fun (W : World) (h : RX w r m E n W) => ring_Copy r m E n W h.ring HI.out.pos)
      have HSE : Hid (∃ S, bytesE E = S) := Lib.hid ⟨_, rfl⟩
      obtain ⟨S, hS⟩ := HSE.out
      clear HSE
      rw [hS] at GBr GRD
      have HS := Lib.hid hS
      clear hS
      go_upto_region 15 with (first
        | (go_at_call 42; (with_reducible refine (GBr.out _ HX.out).mono ?_); rintro e w1 ⟨rfl, hx1⟩; have h1 := HX.out.next hx1; have HX1 := Lib.hid h1; clear h1 hx1)
        | (go_at_call 40; (with_reducible refine (GRD.out _).mono ?_); rintro e w2 ⟨r2, m2, rfl, hR2, hr2, hm2, hx2⟩; have h1 := HX1.out.next hx2; have HX2 := Lib.hid h1; have HC2 := Lib.hid hR2; have HN2 : Hid (r2 ≠ r ∧ r2 ≠ m ∧ m2 ≠ r ∧ m2 ≠ m) := Lib.hid (by have := HX1.out.ring.lt; omega); clear h1 hR2 hr2 hm2 hx2)
        | (go_at_call 43; (with_reducible refine (GCP.out _ HX2.out).mono ?_); rintro e w3 ⟨r3, m3, rfl, hR3, hr3, hm3, hx3⟩; have HT : Hid (TR w r m E n r2 m2 r3 m3 E n w3) := Lib.hid ⟨HX2.out.next hx3, HC2.out.ext hx3, hR3⟩; have HN3 : Hid (r3 ≠ r ∧ r3 ≠ m ∧ m3 ≠ r ∧ m3 ≠ m) := Lib.hid (by have := HX2.out.ring.lt; omega); clear hR3 hr3 hm3 hx3))
      clear HX HX1 HX2 HC2 GBr GRD GCP
      have G2 := Lib.hid (trB2 (w0 := w) (r := r) (m := m) (E := E) (n := n) (r2 := r2) (m2 := m2) (r3 := r3) (m3 := m3) HI.out hn32)
      have G3 := Lib.hid (trB3 (w0 := w) (r := r) (m := m) (E := E) (n := n) (r2 := r2) (m2 := m2) (r3 := r3) (m3 := m3) HI.out hn32)
      rw [HS.out] at G2 G3
      have NR := Lib.hid (fun W => nil_Rotate ka W)
      have NK : Hid (∀ W, Calls Try.prog 33 #[.pointer none, .int .u32 1] W fun e w' => e = .returned (.tuple #[.string { data := #[] }, .string { data := #[] }, .bool false]) ∧ W = w') := Lib.hid (fun W => nil_Keys 1 W)
      have NT : Hid (∀ W, Calls Try.prog 28 #[.pointer none, .int .u32 1] W fun e w' => e = .returned (.int .i64 1) ∧ W = w') := Lib.hid (fun W => nil_Retire 1 W)
      have NN := Lib.hid nil_Newest
      have NE := Lib.hid nil_Epochs
      have NB := Lib.hid nil_Bytes
      have NC := Lib.hid nil_Copy
      have hxc : bs kb ++ { data := #[120] } = bs (kb ++ [120]) := by show bs kb ++ bs [120] = _; rw [bs_append]
      have hkl : ¬ 9223372036854775807 < kb.length + 1 := by have := HKB.out; omega
      have hka : (kb ++ [120]).length ≠ 32 := by have := HKB.out; simp; omega
      have hkb2 : (kb ++ [120]).length ≤ 140737488351232 := by have := HKB.out; simp; omega
      by_cases hf : E.length < 64
      · have GR := Lib.hid (trRot (w0 := w) (r := r) (m := m) (E := E) (n := n) (r2 := r2) (m2 := m2) (r3 := r3) (m3 := m3) (E2 := E) (n2 := n) HI.out hf hn32 kb HKB.out HN2.out HN3.out)
        have HI2 := HI.out.rot (key := kb) hf HKB.out
        have hnx : n + 1 < 4294967295 := by omega
        have G3b := Lib.hid (trB3 (w0 := w) (r := r) (m := m) (E := (E ++ [(n + 1, kb)])) (n := (n + 1)) (r2 := r2) (m2 := m2) (r3 := r3) (m3 := m3) (E2 := E) (n2 := n) HI.out hn32)
        have G1 := Lib.hid (trB1 (w0 := w) (r := r) (m := m) (E := (E ++ [(n + 1, kb)])) (n := (n + 1)) (r2 := r2) (m2 := m2) (r3 := r3) (m3 := m3) (E2 := E) (n2 := n) HI2 hnx)
        have GN3 := Lib.hid (trN3 (w0 := w) (r := r) (m := m) (E := (E ++ [(n + 1, kb)])) (n := (n + 1)) (r2 := r2) (m2 := m2) (r3 := r3) (m3 := m3) (E2 := E) (n2 := n) HI.out)
        have hne := bytes_ne HI2.key HI.out.key (by simp)
        have GN1 := Lib.hid (trN1 (w0 := w) (r := r) (m := m) (E := (E ++ [(n + 1, kb)])) (n := (n + 1)) (r2 := r2) (m2 := m2) (r3 := r3) (m3 := m3) (E2 := E) (n2 := n) HI2)
        have GRA := Lib.hid (trA3 (w0 := w) (r := r) (m := m) (E := (E ++ [(n + 1, kb)])) (n := (n + 1)) (r2 := r2) (m2 := m2) (r3 := r3) (m3 := m3) (E2 := E) (n2 := n) HI.out (kb ++ [120]) hka hkb2)
        have GK := Lib.hid (trK1 (w0 := w) (r := r) (m := m) (E := (E ++ [(n + 1, kb)])) (n := (n + 1)) (r2 := r2) (m2 := m2) (r3 := r3) (m3 := m3) (E2 := E) (n2 := n) HI2)
        have GWT := Lib.hid (trW (w0 := w) (r := r) (m := m) (E := (E ++ [(n + 1, kb)])) (n := (n + 1)) (r2 := r2) (m2 := m2) (r3 := r3) (m3 := m3) (E2 := E) (n2 := n))
        rw [HS.out] at G3b hne
        obtain ⟨S2, hS2⟩ : ∃ x, bytesE (E ++ [(n + 1, kb)]) = x := ⟨_, rfl⟩
        rw [hS2] at G1 hne
        have hnb : (S2 == S) = false := by simpa using hne
        have hnb3 : decide (S2 = S) = false := by simpa using hne
        have hnb2 : bs S2 ≠ bs S := fun e => hne ((bs_inj _ _).1 e)
        obtain ⟨E2, hE2⟩ : ∃ x, E ++ [(n + 1, kb)] = x := ⟨_, rfl⟩
        rw [hE2] at GR G1 G3b GN3 GN1 GRA GK GWT
        obtain ⟨n2, hn2⟩ : ∃ x, n + 1 = x := ⟨_, rfl⟩
        rw [hn2] at GR G1 G3b GN3 GN1 GRA GK GWT
        have hni : (n : Int) + 1 = (n2 : Int) := by omega
        have hnw : IntKind.u32.wrap (n2 : Int) = (n2 : Int) := by rw [IntKind.wrap_u32]; omega
        clear HI2 hnx hE2 hS2 hn2
        clear hf hka hkb2
        go_wp2_with (first
          | (go_at_call 42; (with_reducible refine (G2.out _ HT.out).mono ?_); rintro e w1 ⟨rfl, h1⟩; clear HT; have HT := Lib.hid h1; clear h1)
          | (go_at_call 42; (with_reducible refine (G3.out _ HT.out).mono ?_); rintro e w1 ⟨rfl, h1⟩; clear HT; have HT := Lib.hid h1; clear h1)
          | (go_at_call 42; (with_reducible refine (G3b.out _ HT.out).mono ?_); rintro e w1 ⟨rfl, h1⟩; clear HT; have HT := Lib.hid h1; clear h1)
          | (go_at_call 42; (with_reducible refine (G1.out _ HT.out).mono ?_); rintro e w1 ⟨rfl, h1⟩; clear HT; have HT := Lib.hid h1; clear h1)
          | (go_at_call 24; (with_reducible refine (GN3.out _ HT.out).mono ?_); rintro e w' ⟨rfl, rfl⟩)
          | (go_at_call 26; (with_reducible refine (GFB.out _).mono ?_); rintro e w1 ⟨rfl, hx1⟩; have h1 := HT.out.next hx1; clear HT hx1; have HT := Lib.hid h1; clear h1)
          | (go_at_call 26; (with_reducible refine (GFA.out _).mono ?_); rintro e w1 ⟨rfl, hx1⟩; have h1 := HT.out.next hx1; clear HT hx1; have HT := Lib.hid h1; clear h1)
          | (go_at_call 25; (with_reducible refine (GR.out _ HT.out).mono ?_); rintro e w1 ⟨rfl, h1⟩; clear HT; have HT := Lib.hid h1; clear h1)
          | (go_at_call 25; (with_reducible refine (GRA.out _ HT.out).mono ?_); rintro e w' ⟨rfl, rfl⟩)
          | (go_at_call 25; (with_reducible refine (NR.out _).mono ?_); rintro e w' ⟨rfl, rfl⟩)
          | (go_at_call 24; (with_reducible refine (GN1.out _ HT.out).mono ?_); rintro e w' ⟨rfl, rfl⟩)
          | (go_at_call 33; (with_reducible refine (GK.out _ HT.out).mono ?_); rintro e w1 ⟨c, t, rfl, hc, ht, h1⟩; clear HT; have HT := Lib.hid h1; clear h1; have hci : (c.length : Int) = 16 := (by omega); have hti : (t.length : Int) = 32 := (by omega); clear hc ht)
          | (go_at_call 33; (with_reducible refine (NK.out _).mono ?_); rintro e w' ⟨rfl, rfl⟩)
          | (go_at_call 28; (with_reducible refine (NT.out _).mono ?_); rintro e w' ⟨rfl, rfl⟩)
          | (go_at_call 24; (with_reducible refine (NN.out _).mono ?_); rintro e w' ⟨rfl, rfl⟩)
          | (go_at_call 32; (with_reducible refine (NE.out _).mono ?_); rintro e w' ⟨rfl, rfl⟩)
          | (go_at_call 42; (with_reducible refine (NB.out _).mono ?_); rintro e w' ⟨rfl, rfl⟩)
          | (go_at_call 43; (with_reducible refine (NC.out _).mono ?_); rintro e w' ⟨rfl, rfl⟩)
          | (go_at_call 30; (with_reducible refine (GWT.out _ HT.out).mono ?_); rintro e w1 ⟨rfl, hx1⟩))
        go_returns
        exact ⟨by simp, hx1⟩
      · have HI2 := HI.out
        have GR := Lib.hid (trRotFull (w0 := w) (r := r) (m := m) (E := E) (n := n) (r2 := r2) (m2 := m2) (r3 := r3) (m3 := m3) (E2 := E) (n2 := n) HI.out hf kb HKB.out)
        have GN1 := Lib.hid (trN1 (w0 := w) (r := r) (m := m) (E := E) (n := n) (r2 := r2) (m2 := m2) (r3 := r3) (m3 := m3) (E2 := E) (n2 := n) HI2)
        have GRA := Lib.hid (trA3 (w0 := w) (r := r) (m := m) (E := E) (n := n) (r2 := r2) (m2 := m2) (r3 := r3) (m3 := m3) (E2 := E) (n2 := n) HI.out (kb ++ [120]) hka hkb2)
        have GK := Lib.hid (trK1 (w0 := w) (r := r) (m := m) (E := E) (n := n) (r2 := r2) (m2 := m2) (r3 := r3) (m3 := m3) (E2 := E) (n2 := n) HI2)
        have GWT := Lib.hid (trW (w0 := w) (r := r) (m := m) (E := E) (n := n) (r2 := r2) (m2 := m2) (r3 := r3) (m3 := m3) (E2 := E) (n2 := n))
        clear hf hka hkb2
        go_wp2_with (first
          | (go_at_call 42; (with_reducible refine (G2.out _ HT.out).mono ?_); rintro e w1 ⟨rfl, h1⟩; clear HT; have HT := Lib.hid h1; clear h1)
          | (go_at_call 42; (with_reducible refine (G3.out _ HT.out).mono ?_); rintro e w1 ⟨rfl, h1⟩; clear HT; have HT := Lib.hid h1; clear h1)
          | (go_at_call 26; (with_reducible refine (GFB.out _).mono ?_); rintro e w1 ⟨rfl, hx1⟩; have h1 := HT.out.next hx1; clear HT hx1; have HT := Lib.hid h1; clear h1)
          | (go_at_call 26; (with_reducible refine (GFA.out _).mono ?_); rintro e w1 ⟨rfl, hx1⟩; have h1 := HT.out.next hx1; clear HT hx1; have HT := Lib.hid h1; clear h1)
          | (go_at_call 25; (with_reducible refine (GR.out _ HT.out).mono ?_); rintro e w' ⟨rfl, rfl⟩)
          | (go_at_call 25; (with_reducible refine (GRA.out _ HT.out).mono ?_); rintro e w' ⟨rfl, rfl⟩)
          | (go_at_call 25; (with_reducible refine (NR.out _).mono ?_); rintro e w' ⟨rfl, rfl⟩)
          | (go_at_call 24; (with_reducible refine (GN1.out _ HT.out).mono ?_); rintro e w' ⟨rfl, rfl⟩)
          | (go_at_call 33; (with_reducible refine (GK.out _ HT.out).mono ?_); rintro e w1 ⟨c, t, rfl, hc, ht, h1⟩; clear HT; have HT := Lib.hid h1; clear h1; have hci : (c.length : Int) = 16 := (by omega); have hti : (t.length : Int) = 32 := (by omega); clear hc ht)
          | (go_at_call 33; (with_reducible refine (NK.out _).mono ?_); rintro e w' ⟨rfl, rfl⟩)
          | (go_at_call 28; (with_reducible refine (NT.out _).mono ?_); rintro e w' ⟨rfl, rfl⟩)
          | (go_at_call 24; (with_reducible refine (NN.out _).mono ?_); rintro e w' ⟨rfl, rfl⟩)
          | (go_at_call 32; (with_reducible refine (NE.out _).mono ?_); rintro e w' ⟨rfl, rfl⟩)
          | (go_at_call 42; (with_reducible refine (NB.out _).mono ?_); rintro e w' ⟨rfl, rfl⟩)
          | (go_at_call 43; (with_reducible refine (NC.out _).mono ?_); rintro e w' ⟨rfl, rfl⟩)
          | (go_at_call 30; (with_reducible refine (GWT.out _ HT.out).mono ?_); rintro e w1 ⟨rfl, hx1⟩))
        go_returns
        exact ⟨by simp, hx1⟩
    | succ k =>
    have hil : i < len := by omega
    obtain ⟨b, o, rfl, hb, hat⟩ := HL.out i (by have := HLEN.out; omega)
    have hat2 := hat.ext HX.out.ext
    have hkl := HKEY.out _ (List.getElem_mem (by have := HLEN.out; omega : i < l.length))
    obtain ⟨⟨go, ep, key, fit⟩, hx⟩ : ∃ x, l[i]'(by have := HLEN.out; omega) = x := ⟨_, rfl⟩
    rw [hx] at hat2 hkl
    obtain ⟨c0, c1, c2, c3⟩ := hat2
    have hkl2 : key.length ≤ 200 := hkl
    clear hat hx hkl hb
    have hpos := HI.out.pos
    dsimp only at c0 c1 c2 c3
    cases go
    · have GF := Lib.hid (full13 key)
      have GK : Hid ((padTo 32 key).length = 32) := Lib.hid (padTo_length 32 key)
      generalize padTo 32 key = key2 at *
      have hk1 : key.length ≤ 140737488351232 := by omega
      by_cases hf : E.length < 64
      · have GR := Lib.hid (fun (W : World) (h : RX w r m E n W) => rotate_x w W r m E n key2 h HI.out hf (by omega) GK.out)
        have HI2 := Lib.hid (HI.out.rot (key := key2) hf GK.out)
        have HP2 := Lib.hid (HP.out.rot n key2)
        clear hf
        go_wp2_with (first
          | (go_at_call 26; (with_reducible refine (GF.out _ hk1).mono ?_); rintro e w3 ⟨rfl, hx1⟩; have h2 := HX.out.next hx1; have HX2 := Lib.hid h2; clear h2 hx1)
          | (go_at_call 25; (with_reducible refine (GR.out _ HX2.out).mono ?_); rintro e w4 ⟨rfl, h1⟩; have HX3 := Lib.hid h1; clear h1))
        go_roundg k
        case measure => omega
        case rel => exact ⟨i + 1, n + 1, _, by go_num, by omega, by omega, HI2, HP2, HX3⟩
      · have GR := Lib.hid (fun (W : World) (h : RX w r m E n W) => rotate_full w W r m E n key2 h HI.out hf GK.out)
        clear hf
        go_wp2_with (first
          | (go_at_call 26; (with_reducible refine (GF.out _ hk1).mono ?_); rintro e w3 ⟨rfl, hx1⟩; have h2 := HX.out.next hx1; have HX2 := Lib.hid h2; clear h2 hx1)
          | (go_at_call 25; (with_reducible refine (GR.out _ HX2.out).mono ?_); rintro e w' ⟨rfl, rfl⟩))
        go_roundg k
        case measure => omega
        case rel => exact ⟨i + 1, n, E, by go_num, by omega, by omega, HI, HP, HX2⟩
    · by_cases he : ep = n
      · subst he
        have GT := Lib.hid (fun (W : World) (h : RX w r m E ep W) => ring_Retire_new r m E ep W h.ring hpos)
        go_wp2_with (go_at_call 28; (with_reducible refine (GT.out _ HX.out).mono ?_); rintro e w' ⟨rfl, rfl⟩)
        go_roundg k
        case measure => omega
        case rel => exact ⟨i + 1, ep, E, by go_num, by omega, by omega, HI, HP, HX⟩
      · cases hlk : lookE E ep with
        | none =>
          have GT := Lib.hid (fun (W : World) (h : RX w r m E n W) => ring_Retire_none r m E n ep W h.ring hpos he hlk)
          clear he hlk
          go_wp2_with (go_at_call 28; (with_reducible refine (GT.out _ HX.out).mono ?_); rintro e w' ⟨rfl, rfl⟩)
          go_roundg k
          case measure => omega
          case rel => exact ⟨i + 1, n, E, by go_num, by omega, by omega, HI, HP, HX⟩
        | some s =>
          have GT := Lib.hid (fun (W : World) (h : RX w r m E n W) => retire_x w W r m E n ep h HI.out he hlk)
          have HI2 := Lib.hid (HI.out.gone he)
          have HP2 := Lib.hid (HP.out.gone ep)
          clear he hlk
          go_wp2_with (go_at_call 28; (with_reducible refine (GT.out _ HX.out).mono ?_); rintro e w4 ⟨rfl, h1⟩; have HX4 := Lib.hid h1; clear h1)
          go_roundg k
          case measure => omega
          case rel => exact ⟨i + 1, n, _, by go_num, by omega, by omega, HI2, HP2, HX4⟩
end Go.Proofs.Ytbacamepmilmhaa
